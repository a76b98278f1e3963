/- The base of these proofs, part H: a callee's store within its caller's; calls; the end of a function. -/
import Derived.Test.YtoelkgbeefoplaaBrG
namespace Go.Br
open Go

mutual
def V.ren (m : Nat → Nat) : V → V
  | .ptr l i s => .ptr (m l) i s
  | .row l => .row (m l)
  | .sl l a b c => .sl (m l) a b c
  | .yield l => .yield (m l)
  | .fn f a b => .fn f (V.renL m a) (V.renL m b)
  | .tuple vs => .tuple (V.renL m vs)
  | .agg vs => .agg (V.renL m vs)
  | .d x => .d x
  | .undef => .undef
  | .nils => .nils
  | .ex sz xs => .ex sz xs
  | .ep sz x s => .ep sz x s
def V.renL (m : Nat → Nat) : List V → List V
  | [] => []
  | v :: vs => V.ren m v :: V.renL m vs
end
def O.ren (m : Nat → Nat) : O → O
  | .cells cs => .cells (V.renL m cs)
  | .loop a b c tm x e f => .loop a b c (V.renL m tm) x e f
  | .dead => .dead
  | .row sz xs mv => .row sz xs mv
  | .map es => .map es
  | .defd => .defd
theorem O.ren_dead {m : Nat → Nat} {o : O} : o.ren m = .dead ↔ o = .dead := by cases o <;> simp [O.ren]
theorem O.ren_still {m : Nat → Nat} {o : O} : (o.ren m).still = o.still := by cases o <;> rfl
theorem O.ren_ld {m : Nat → Nat} {o : O} : (o.ren m).ld = o.ld := by cases o <;> rfl
theorem O.alike_refl (o : O) : o.alike o := rfl
theorem O.alike_trans {a b c : O} (h : a.alike b) (h' : b.alike c) : a.alike c := Eq.trans h h'
theorem O.alike_symm {a b : O} (h : a.alike b) : b.alike a := Eq.symm h
theorem O.alike_ren {m : Nat → Nat} (o : O) : o.alike (o.ren m) := by cases o <;> rfl
theorem O.ren_alike {m : Nat → Nat} (o : O) : (o.ren m).alike o := by cases o <;> rfl

/-- A store lies within another one. -/
def Emb (m : Nat → Nat) (ρc : LM) (σc : Store) (ρ : LM) (σ : Store) : Prop :=
  ∀ i oc, σc[i]? = some oc → ρ (m i) = ρc i ∧ ∃ o, σ[m i]? = some o ∧ (o = .dead ↔ oc = .dead) ∧ o.alike oc

section ren
variable {w : World} {I : Nat → Prop} {m : Nat → Nat} {ρc ρ : LM} {σc σ : Store}
theorem Emb.lt (h : Emb m ρc σc ρ σ) {i : Nat} (hi : i < σc.length) : m i < σ.length := by
  obtain ⟨_, o, ho, _⟩ := h i _ (List.getElem?_eq_getElem hi)
  exact (List.getElem?_eq_some_iff.1 ho).1
theorem Emb.live (h : Emb m ρc σc ρ σ) {i : Nat} (hi : i < σc.length) : live σ (m i) ↔ live σc i := by
  obtain ⟨h1, o, ho, hd, _⟩ := h i _ (List.getElem?_eq_getElem hi)
  constructor
  · rintro ⟨o', h2, h3⟩
    rw [ho] at h2; cases h2
    exact ⟨_, List.getElem?_eq_getElem hi, fun e => h3 (hd.2 e)⟩
  · rintro ⟨o', h2, h3⟩
    rw [List.getElem?_eq_getElem hi] at h2; cases h2
    exact ⟨o, ho, fun e => h3 (hd.1 e)⟩
theorem Emb.rho (h : Emb m ρc σc ρ σ) {i : Nat} (hi : i < σc.length) : ρ (m i) = ρc i := (h i _ (List.getElem?_eq_getElem hi)).1
theorem rowV_ren {i off n : Nat} (h : ρ (m i) = ρc i) {x : Value} : rowV ρ (m i) off n x ↔ rowV ρc i off n x := by unfold rowV; rw [h]
mutual
theorem vr_ren (h : Emb m ρc σc ρ σ) : ∀ (v : V) (x : Value), (∀ l ∈ v.locs, l < σc.length) → (vr w I ρ σ (v.ren m) x ↔ vr w I ρc σc v x)
  | .d _, _, _ => by simp [V.ren, vr]
  | .undef, _, _ => by simp [V.ren, vr]
  | .nils, _, _ => by simp [V.ren, vr]
  | .ex _ _, _, _ => by simp [V.ren, vr]
  | .ep _ _ _, _, _ => by simp [V.ren, vr]
  | .ptr l i s, x, hl => by
    have hl := hl l (by simp [V.locs])
    simp only [V.ren, vr, h.live hl, h.rho hl, h.lt hl, hl, true_and]
  | .yield l, x, hl => by
    have hl := hl l (by simp [V.locs])
    simp only [V.ren, vr, h.live hl, h.rho hl, h.lt hl, hl, true_and]
  | .row l, x, hl => by
    have hl := hl l (by simp [V.locs])
    obtain ⟨h1, o, ho, _, h2⟩ := h l _ (List.getElem?_eq_getElem hl)
    simp only [V.ren, vr, h.lt hl, hl, true_and, and_congr_right_iff]
    intro _
    constructor
    · intro hx sz xs mv e
      obtain ⟨sz', xs', mv', e', hlen⟩ := alike_row (sz := sz) (xs := xs) (mv := mv) (by rw [List.getElem?_eq_getElem hl] at e; rw [← Option.some.inj e]; exact h2)
      rw [← hlen]
      exact (rowV_ren h1).1 (hx sz' xs' mv' (by rw [ho, e']))
    · intro hx sz xs mv e
      obtain ⟨sz', xs', mv', e', hlen⟩ := alike_row (sz := sz) (xs := xs) (mv := mv) (by rw [ho] at e; rw [← Option.some.inj e]; exact O.alike_symm h2)
      rw [← hlen]
      exact (rowV_ren h1).2 (hx sz' xs' mv' (by rw [List.getElem?_eq_getElem hl, e']))
  | .sl l a b c, x, hl => by
    have hl := hl l (by simp [V.locs])
    obtain ⟨h1, o, ho, _, h2⟩ := h l _ (List.getElem?_eq_getElem hl)
    simp only [V.ren, vr, h.lt hl, hl, true_and, and_congr_right_iff]
    intro _
    constructor
    · intro hx sz xs mv e
      obtain ⟨sz', xs', mv', e', hlen⟩ := alike_row (sz := sz) (xs := xs) (mv := mv) (by rw [List.getElem?_eq_getElem hl] at e; rw [← Option.some.inj e]; exact h2)
      rw [← hlen]
      have := hx sz' xs' mv' (by rw [ho, e'])
      exact ⟨this.1, (rowV_ren h1).1 this.2.1, this.2.2⟩
    · intro hx sz xs mv e
      obtain ⟨sz', xs', mv', e', hlen⟩ := alike_row (sz := sz) (xs := xs) (mv := mv) (by rw [ho] at e; rw [← Option.some.inj e]; exact O.alike_symm h2)
      rw [← hlen]
      have := hx sz' xs' mv' (by rw [List.getElem?_eq_getElem hl, e'])
      exact ⟨this.1, (rowV_ren h1).2 this.2.1, this.2.2⟩
  | .fn f a b, x, hl => by
    simp only [V.locs, List.mem_append] at hl
    simp only [V.ren, vr]
    constructor
    · rintro ⟨fs, cs, e, g1, g2⟩
      exact ⟨fs, cs, e, (vrL_ren h a fs fun l hm => hl l (.inl hm)).1 g1, (vrL_ren h b cs fun l hm => hl l (.inr hm)).1 g2⟩
    · rintro ⟨fs, cs, e, g1, g2⟩
      exact ⟨fs, cs, e, (vrL_ren h a fs fun l hm => hl l (.inl hm)).2 g1, (vrL_ren h b cs fun l hm => hl l (.inr hm)).2 g2⟩
  | .tuple vs, x, hl => by
    simp only [V.locs] at hl
    simp only [V.ren, vr]
    constructor
    · rintro ⟨xs, e, g1⟩
      exact ⟨xs, e, (vrL_ren h vs xs hl).1 g1⟩
    · rintro ⟨xs, e, g1⟩
      exact ⟨xs, e, (vrL_ren h vs xs hl).2 g1⟩
  | .agg vs, x, hl => by
    simp only [V.locs] at hl
    simp only [V.ren, vr]
    constructor
    · rintro ⟨xs, e, g1, g2⟩
      exact ⟨xs, e, (vrL_ren h vs xs hl).1 g1, g2⟩
    · rintro ⟨xs, e, g1, g2⟩
      exact ⟨xs, e, (vrL_ren h vs xs hl).2 g1, g2⟩
theorem vrL_ren (h : Emb m ρc σc ρ σ) : ∀ (vs : List V) (xs : List Value), (∀ l ∈ V.locsL vs, l < σc.length) → (vrL w I ρ σ (V.renL m vs) xs ↔ vrL w I ρc σc vs xs)
  | [], _, _ => by simp [V.renL, vrL]
  | v :: vs, xs, hl => by
    simp only [V.locsL, List.mem_append] at hl
    simp only [V.renL, vrL]
    constructor
    · rintro ⟨x, xs', e, g1, g2⟩
      exact ⟨x, xs', e, (vr_ren h v x fun l hm => hl l (.inl hm)).1 g1, (vrL_ren h vs xs' fun l hm => hl l (.inr hm)).1 g2⟩
    · rintro ⟨x, xs', e, g1, g2⟩
      exact ⟨x, xs', e, (vr_ren h v x fun l hm => hl l (.inl hm)).2 g1, (vrL_ren h vs xs' fun l hm => hl l (.inr hm)).2 g2⟩
end
/-- What is asked of a thing's own references. -/
def O.bel (n : Nat) (o : O) : Prop := ∀ l ∈ o.locs, l < n
theorem orel_ren (h : Emb m ρc σc ρ σ) {i : Nat} {oc : O} (hi : ρ (m i) = ρc i) (hb : oc.bel σc.length) : orel w I ρ σ (m i) (oc.ren m) ↔ orel w I ρc σc i oc := by
  cases oc with
  | dead => simp [O.ren, orel]
  | cells cs => simp only [O.ren, orel, hi, vrL_ren h cs _ hb]
  | row sz xs mv => simp only [O.ren, orel, hi]
  | map es => simp only [O.ren, orel, hi]
  | defd => simp only [O.ren, orel, hi]
  | loop a b c tm x e f =>
    have htm : ∀ l ∈ V.locsL tm, l < σc.length := fun l hl => hb l (by simpa [O.locs] using hl)
    simp only [O.ren, orel, hi, vrL_ren h tm _ htm]
theorem orel_bel {l : Nat} {o : O} (h : orel w I ρ σ l o) : o.bel σ.length := by
  intro x hx
  cases o with
  | cells cs => simp only [orel] at h; obtain ⟨L, C, T, fz, _, _, _, _, h5, _⟩ := h; exact vrL_locs cs _ h5 x hx
  | loop a b c tm y e f =>
    simp only [orel] at h
    obtain ⟨L, tmps, db, _, _, h3⟩ := h
    exact vrL_locs tm _ h3 x hx
  | _ => simp [O.locs] at hx
end ren

/-- A callee's contract, on a store of its own. -/
def CallsA (P : Program) (g : FuncId) (args : List V) (σ : Store) (Q : AE → Store → Prop) : Prop :=
  ∀ w I ρ (xs : List Value), vrL w I ρ σ args xs → ORel w I ρ σ → Calls P g xs.toArray w (Fin σ.length w I ρ σ Q)

theorem CallsA.mono {P : Program} {g : FuncId} {args : List V} {σ : Store} {Q Q' : AE → Store → Prop} (h : CallsA P g args σ Q) (hq : ∀ r σ', Q r σ' → Q' r σ') : CallsA P g args σ Q' :=
  fun w I ρ xs h1 h2 => (h w I ρ xs h1 h2).mono fun _ _ ⟨I', ρ', σ', r, k1, k2⟩ => ⟨I', ρ', σ', r, hq _ _ k1, k2⟩

theorem CallsA.of {P : Program} {g : FuncId} {fn : Func} {c : Code} {args : List V} {σ : Store} {Q : AE → Store → Prop} (hf : P.funcs[g]? = some fn) (hb : fn.body = some c)
    (h : AW P g none σ.length [.code c] (args ++ List.replicate (fn.ntmps - args.length) .undef) σ [] Q) : CallsA P g args σ Q := by
  intro w I ρ xs h1 h2
  have hl := vrL_len h1
  refine calls_of_runs hf hb (h w I ρ _ none ⟨?_, h2, rfl⟩ rfl (Nat.le_refl _))
  have := vrL_append h1 (vrL_undef (w := w) (I := I) (ρ := ρ) (σ := σ) (fn.ntmps - args.length) Go.undef)
  simpa [hl] using this

/-- A list of locations as a map. -/
def mp (m : List Nat) (N : Nat) (i : Nat) : Nat := match m[i]? with | some l => l | none => N + (i - m.length)

def movedB (m : List Nat) (σc' : Store) (l : Nat) : Bool :=
  match m.idxOf? l with
  | some i => match σc'[i]? with | some (.row _ _ true) => true | _ => false
  | none => false
def flagged (o o' : O) : O := match o, o' with
  | .row _ _ true, .row sz xs _ => .row sz xs true
  | _, o' => o'
/-- The caller's store behind a call. -/
def merge (σ : Store) (m : List Nat) (σc' : Store) : Store :=
  (σ.mapIdx fun l o => match m.idxOf? l with
    | some i => flagged o ((σc'.getD i .dead).ren (mp m σ.length))
    | none => o.kill (movedB m σc')) ++ (σc'.drop m.length).map (·.ren (mp m σ.length))
def nodupB : List Nat → Bool
  | [] => true
  | x :: xs => !(xs.any (Nat.beq x)) && nodupB xs
theorem nodupB_ok : ∀ {m : List Nat}, nodupB m = true → m.Nodup
  | [], _ => List.nodup_nil
  | x :: xs, h => by
    simp only [nodupB, Bool.and_eq_true, Bool.not_eq_true', List.any_eq_false] at h
    refine List.nodup_cons.2 ⟨fun hm => ?_, nodupB_ok h.2⟩
    have := h.1 x hm
    simp at this
/-- Does a store lie within another one, as m says? -/
def within (σ : Store) (m : List Nat) (σc : Store) : Prop :=
  m.length = σc.length ∧ nodupB m = true ∧ m.map (fun l => σ[l]?) = (m.zip σc).map fun p => some (flagged (σ.getD p.1 .dead) (p.2.ren (mp m σ.length)))
theorem within_get {σ σc : Store} {m : List Nat} (h : within σ m σc) {i l : Nat} (hi : m[i]? = some l) : ∃ oc, σc[i]? = some oc ∧ σ[l]? = some (flagged (σ.getD l .dead) (oc.ren (mp m σ.length))) := by
  have hlt : i < σc.length := by rw [← h.1]; exact (List.getElem?_eq_some_iff.1 hi).1
  refine ⟨_, List.getElem?_eq_getElem hlt, ?_⟩
  have := congrArg (fun z => z[i]?) h.2.2
  have hz : (m.zip σc)[i]? = some (l, σc[i]) := by
    rw [List.getElem?_zip_eq_some]
    exact ⟨hi, List.getElem?_eq_getElem hlt⟩
  simp only [List.getElem?_map, hi, hz, Option.map_some, Option.some.injEq] at this
  exact this

theorem flagged_dead {o o' : O} : flagged o o' = .dead ↔ o' = .dead := by
  unfold flagged; split <;> simp
theorem flagged_alike (o o' : O) : (flagged o o').alike o' := by
  unfold flagged
  split <;> rfl
theorem flagged_still {o o' : O} (h : (flagged o o').still = true) : o'.still = true := by
  unfold flagged at h
  split at h
  · simp [O.still] at h
  · exact h
theorem flagged_ld (o o' : O) : (flagged o o').ld = o'.ld := by
  unfold flagged; split <;> rfl
theorem flagged_orel {w : World} {I : Nat → Prop} {ρ : LM} {σ : Store} {l : Nat} {o o' : O} : orel w I ρ σ l (flagged o o') ↔ orel w I ρ σ l o' := by
  unfold flagged; split <;> simp [orel]
theorem kill_dead {p : Nat → Bool} {o : O} : o.kill p = .dead ↔ o = .dead := by cases o <;> simp [O.kill]
theorem kill_alike (p : Nat → Bool) (o : O) : o.alike (o.kill p) := by cases o <;> rfl
theorem kill_still (p : Nat → Bool) (o : O) : (o.kill p).still = o.still := by cases o <;> rfl
theorem kill_ld (p : Nat → Bool) (o : O) : (o.kill p).ld = o.ld := by cases o <;> rfl
theorem orel_kill {w : World} {I : Nat → Prop} {ρ : LM} {σ : Store} {l : Nat} {o : O} (p : Nat → Bool) (h : orel w I ρ σ l o) : orel w I ρ σ l (o.kill p) := by
  cases o with
  | cells cs => simp only [O.kill, orel] at h ⊢; obtain ⟨L, C, T, fz, h1, h2, h3, h4, h5, h6⟩ := h; exact ⟨L, C, T, fz, h1, h2, h3, h4, vrL_kill p cs _ h5, h6⟩
  | loop a b c tm x e f => simp only [O.kill, orel] at h ⊢; obtain ⟨L, tmps, db, h1, h2, h3⟩ := h; exact ⟨L, tmps, db, h1, h2, vrL_kill p tm _ h3⟩
  | _ => exact h
theorem mem_idx {m : List Nat} (hn : m.Nodup) {i l : Nat} (h : m[i]? = some l) : m.idxOf? l = some i := by
  rw [List.idxOf?_eq_some_iff]
  obtain ⟨hi, he⟩ := List.getElem?_eq_some_iff.1 h
  refine ⟨hi, he, fun j hj => ?_⟩
  intro e
  have hjl : j < m.length := by omega
  have := (List.getElem_inj (h₀ := hjl) (h₁ := hi) hn).1 (by rw [he]; simpa using e)
  omega
theorem idx_mem {m : List Nat} {i l : Nat} (h : m.idxOf? l = some i) : m[i]? = some l := by
  rw [List.idxOf?_eq_some_iff] at h
  obtain ⟨hi, he, _⟩ := h
  rw [List.getElem?_eq_getElem hi, he]
end Go.Br
