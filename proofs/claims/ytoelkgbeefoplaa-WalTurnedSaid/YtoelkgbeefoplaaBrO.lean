/- The base of these proofs, part O: rows that are laid to rest, states told with less or by other numbers; bytes as texts. -/
import Derived.Test.YtoelkgbeefoplaaBrN
import Derived.Laws.BytesString
namespace Go.Br
open Go

mutual
def V.frz (l sz : Nat) (xs : List D) : V → V
  | .row k => if Nat.beq l k then .d (.list sz xs) else .row k
  | .sl k off n c => if Nat.beq l k then .d (.list sz ((xs.drop off).take n)) else .sl k off n c
  | .ptr k i s => if Nat.beq l k then .undef else .ptr k i s
  | .yield k => if Nat.beq l k then .undef else .yield k
  | .fn f a b => .fn f (V.frzL l sz xs a) (V.frzL l sz xs b)
  | .tuple vs => .tuple (V.frzL l sz xs vs)
  | .agg vs => .agg (V.frzL l sz xs vs)
  | .d x => .d x
  | .undef => .undef
  | .nils => .nils
  | .ex sz xs => .ex sz xs
  | .ep sz x s => .ep sz x s
def V.frzL (l sz : Nat) (xs : List D) : List V → List V
  | [] => []
  | v :: vs => V.frz l sz xs v :: V.frzL l sz xs vs
end
/-- Structs are laid together where all is data. -/
def O.frz (l sz : Nat) (xs : List D) : O → O
  | .cells cs => .cells (V.frzL l sz xs cs)
  | .loop a b c tm x e f => .loop a b c (V.frzL l sz xs tm) x e f
  | .dead => .dead
  | .row sz xs mv => .row sz xs mv
  | .map es => .map es
  | .defd => .defd

section frz
variable {w : World} {I : Nat → Prop} {ρ : LM} {σ : Store} {P : Program}
def Iadd (I : Nat → Prop) (ρ : LM) (l : Nat) : Nat → Prop := fun b => I b ∨ ∃ L, ρ l = some L ∧ L.b = b
theorem frz_row {l sz off n : Nat} {xs : List D} {mv : Bool} {x : Value} (hO : ORel w I ρ σ) (hl : σ[l]? = some (.row sz xs mv)) (hr : rowV ρ l off n x) (hle : off + n ≤ xs.length) : Dr w (Iadd I ρ l) (.list sz ((xs.drop off).take n)) x := by
  have hn : ((xs.drop off).take n).length = n := by simp; omega
  have hob := hO.objs l _ hl
  simp only [orel] at hob
  simp only [Dr]
  rcases hr with ⟨rfl, ad, rfl⟩ | ⟨L, hL, hle2, rfl⟩
  · exact ⟨ad, 0, by simp, by simp, Nat.zero_le _, .inl (by simp)⟩
  · rcases hob with ⟨h0, _⟩ | ⟨L', C, T, fz, hL', hLs, hh, _, _, hle3, hcap, hE⟩
    · rw [hL] at h0; cases h0
    rw [hL] at hL'; cases hL'
    refine ⟨_, L.cap - off, by rw [hn], by omega, by omega, .inr ⟨L.b, L.o + off * L.sz, rfl, .inr ⟨L, hL, rfl⟩, ?_⟩⟩
    rw [hLs]
    have hI : ∀ b, I b → Iadd I ρ l b ∧ w.heap[b]? = w.heap[b]? := fun b hb => ⟨.inl hb, rfl⟩
    have hE2 := DrE_mono hI sz L.b rfl L.o xs hE
    have := DrE_piece (l := off) (h := off + n) hE2
    rwa [List.drop_take, Nat.add_sub_cancel_left] at this
mutual
theorem vr_frz {l sz : Nat} {xs : List D} {mv : Bool} (hO : ORel w I ρ σ) (hl : σ[l]? = some (.row sz xs mv)) : ∀ (v : V) (x : Value), vr w I ρ σ v x → vr w (Iadd I ρ l) ρ (σ.set l .dead) (v.frz l sz xs) x
  | .row k, x, h => by
    simp only [V.frz]
    split
    · rename_i hk
      have hk : l = k := by simpa using hk
      subst hk
      simp only [vr] at h ⊢
      have := frz_row hO hl (h.2.2 _ _ _ hl) (by omega)
      simpa using this
    · rename_i hk
      have hk : k ≠ l := by rintro rfl; simp at hk
      simp only [vr] at h ⊢
      exact ⟨h.1, by simpa using h.2.1, fun sz' xs' mv' hx => h.2.2 sz' xs' mv' (by rwa [getElem?_set_ne hk] at hx)⟩
  | .sl k off n c, x, h => by
    simp only [V.frz]
    split
    · rename_i hk
      have hk : l = k := by simpa using hk
      subst hk
      simp only [vr] at h ⊢
      exact frz_row hO hl (h.2.2 _ _ _ hl).2.1 (h.2.2 _ _ _ hl).1
    · rename_i hk
      have hk : k ≠ l := by rintro rfl; simp at hk
      simp only [vr] at h ⊢
      exact ⟨h.1, by simpa using h.2.1, fun sz' xs' mv' hx => h.2.2 sz' xs' mv' (by rwa [getElem?_set_ne hk] at hx)⟩
  | .ptr k i s, x, h => by
    simp only [V.frz]
    split
    · simp [vr]
    · rename_i hk
      have hk : k ≠ l := by rintro rfl; simp at hk
      simp only [vr] at h ⊢
      refine ⟨h.1, by simpa using h.2.1, ?_⟩
      rintro ⟨o, h1, h2⟩
      rw [getElem?_set_ne hk] at h1
      exact h.2.2 ⟨o, h1, h2⟩
  | .yield k, x, h => by
    simp only [V.frz]
    split
    · simp [vr]
    · rename_i hk
      have hk : k ≠ l := by rintro rfl; simp at hk
      simp only [vr] at h ⊢
      refine ⟨h.1, by simpa using h.2.1, ?_⟩
      rintro ⟨o, h1, h2⟩
      rw [getElem?_set_ne hk] at h1
      exact h.2.2 ⟨o, h1, h2⟩
  | .fn f a b, x, h => by
    simp only [V.frz, vr] at h ⊢
    obtain ⟨fs, cs, e, h1, h2⟩ := h
    exact ⟨fs, cs, e, vrL_frz hO hl a fs h1, vrL_frz hO hl b cs h2⟩
  | .tuple vs, x, h => by
    simp only [V.frz, vr] at h ⊢
    obtain ⟨ys, e, h1⟩ := h
    exact ⟨ys, e, vrL_frz hO hl vs ys h1⟩
  | .agg vs, x, h => by
    simp only [V.frz, vr] at h ⊢
    obtain ⟨ys, e, h1, h2⟩ := h
    exact ⟨ys, e, vrL_frz hO hl vs ys h1, h2⟩
  | .d y, x, h => by
    simp only [V.frz, vr] at h ⊢
    exact Dr_mono (fun b hb => ⟨.inl hb, rfl⟩) _ _ h
  | .undef, x, h => by simp [V.frz, vr]
  | .nils, x, h => by simpa [V.frz, vr] using h
  | .ex sz ys, x, h => by
    simp only [V.frz, vr] at h ⊢
    obtain ⟨a, e, h1⟩ := h
    exact ⟨a, e, Dr_mono (fun b hb => ⟨.inl hb, rfl⟩) _ _ h1⟩
  | .ep sz y s, x, h => by
    simp only [V.frz, vr] at h ⊢
    obtain ⟨b, q, e, h1, u, h2, h3, h4⟩ := h
    exact ⟨b, q, e, .inl h1, u, Dr_mono (fun b hb => ⟨.inl hb, rfl⟩) _ _ h2, h3, h4⟩
theorem vrL_frz {l sz : Nat} {xs : List D} {mv : Bool} (hO : ORel w I ρ σ) (hl : σ[l]? = some (.row sz xs mv)) : ∀ (vs : List V) (ys : List Value), vrL w I ρ σ vs ys → vrL w (Iadd I ρ l) ρ (σ.set l .dead) (V.frzL l sz xs vs) ys
  | [], ys, h => by simpa [V.frzL, vrL] using h
  | v :: vs, ys, h => by
    simp only [V.frzL, vrL] at h ⊢
    obtain ⟨y, ys', e, h1, h2⟩ := h
    exact ⟨y, ys', e, vr_frz hO hl v y h1, vrL_frz hO hl vs ys' h2⟩
end
mutual
theorem vr_deadset {l : Nat} {o : O} : ∀ (v : V) (x : Value), vr w I ρ σ v x → vr w I ρ (σ.set l .dead) v x
  | .d _, _, h => by simpa [vr] using h
  | .undef, _, _ => by simp [vr]
  | .nils, _, h => by simpa [vr] using h
  | .ex _ _, _, h => by simpa [vr] using h
  | .ep _ _ _, _, h => by simpa [vr] using h
  | .ptr k i s, x, h => by
    simp only [vr] at h ⊢
    refine ⟨h.1, by simpa using h.2.1, fun hv => h.2.2 ?_⟩
    obtain ⟨o, h1, h2⟩ := hv
    rw [List.getElem?_set] at h1
    split at h1
    · split at h1
      · cases h1; exact absurd rfl h2
      · cases h1
    · exact ⟨o, h1, h2⟩
  | .yield k, x, h => by
    simp only [vr] at h ⊢
    refine ⟨h.1, by simpa using h.2.1, fun hv => h.2.2 ?_⟩
    obtain ⟨o, h1, h2⟩ := hv
    rw [List.getElem?_set] at h1
    split at h1
    · split at h1
      · cases h1; exact absurd rfl h2
      · cases h1
    · exact ⟨o, h1, h2⟩
  | .row k, x, h => by
    simp only [vr] at h ⊢
    refine ⟨h.1, by simpa using h.2.1, fun sz xs mv hx => h.2.2 sz xs mv ?_⟩
    rw [List.getElem?_set] at hx
    split at hx
    · split at hx <;> cases hx
    · exact hx
  | .sl k off n c, x, h => by
    simp only [vr] at h ⊢
    refine ⟨h.1, by simpa using h.2.1, fun sz xs mv hx => h.2.2 sz xs mv ?_⟩
    rw [List.getElem?_set] at hx
    split at hx
    · split at hx <;> cases hx
    · exact hx
  | .fn f a b, x, h => by
    simp only [vr] at h ⊢
    obtain ⟨fs, cs, e, h1, h2⟩ := h
    exact ⟨fs, cs, e, vrL_deadset (o := o) a fs h1, vrL_deadset (o := o) b cs h2⟩
  | .tuple vs, x, h => by
    simp only [vr] at h ⊢
    obtain ⟨ys, e, h1⟩ := h
    exact ⟨ys, e, vrL_deadset (o := o) vs ys h1⟩
  | .agg vs, x, h => by
    simp only [vr] at h ⊢
    obtain ⟨ys, e, h1, h2⟩ := h
    exact ⟨ys, e, vrL_deadset (o := o) vs ys h1, h2⟩
theorem vrL_deadset {l : Nat} {o : O} : ∀ (vs : List V) (ys : List Value), vrL w I ρ σ vs ys → vrL w I ρ (σ.set l .dead) vs ys
  | [], _, h => by simpa [vrL] using h
  | v :: vs, ys, h => by
    simp only [vrL] at h ⊢
    obtain ⟨y, ys', e, h1, h2⟩ := h
    exact ⟨y, ys', e, vr_deadset (o := o) v y h1, vrL_deadset (o := o) vs ys' h2⟩
end
theorem orel_frz {l sz : Nat} {xs : List D} {mv : Bool} (hO : ORel w I ρ σ) (hl : σ[l]? = some (.row sz xs mv)) {k : Nat} {o : O} (h : orel w I ρ σ k o) : orel w (Iadd I ρ l) ρ (σ.set l .dead) k (o.frz l sz xs) := by
  have hI : ∀ b, I b → Iadd I ρ l b ∧ w.heap[b]? = w.heap[b]? := fun b hb => ⟨.inl hb, rfl⟩
  cases o with
  | dead => simp [O.frz, orel]
  | cells cs =>
    simp only [O.frz, orel] at h ⊢
    obtain ⟨L, C, T, fz, h1, h2, h3, h4, h5, h6⟩ := h
    exact ⟨L, C, T, fz, h1, h2, h3, h4, vrL_frz hO hl cs _ h5, h6⟩
  | row sz xs mv =>
    simp only [O.frz, orel] at h ⊢
    rcases h with h | ⟨L, C, T, fz, h1, h2, h3, h4, h5, h6, h7, h8⟩
    · exact .inl h
    · exact .inr ⟨L, C, T, fz, h1, h2, h3, h4, h5, h6, h7, DrE_mono hI _ _ rfl _ _ h8⟩
  | map es =>
    simp only [O.frz, orel] at h ⊢
    obtain ⟨L, E, n, h1, h2, h3, h4, h5, h6⟩ := h
    refine ⟨L, E, n, h1, h2, h3, h4, fun j e hj => ?_, h6⟩
    obtain ⟨g1, x, g2, g3, g4⟩ := h5 j e hj
    exact ⟨g1, x, g2, g3, Dr_mono hI _ _ g4⟩
  | loop st pend fn tm params assign body =>
    simp only [O.frz, orel] at h ⊢
    obtain ⟨L, tmps, db, h1, h2, h3⟩ := h
    exact ⟨L, tmps, db, h1, h2, vrL_frz hO hl tm _ h3⟩
  | defd => simpa [O.frz, orel] using h
theorem frz_dead {l sz : Nat} {xs : List D} {o : O} : o.frz l sz xs = .dead ↔ o = .dead := by cases o <;> simp [O.frz]
theorem frz_still {l sz : Nat} {xs : List D} {o : O} : (o.frz l sz xs).still = o.still := by cases o <;> rfl
theorem frz_rl {l sz : Nat} {xs : List D} (o : O) : o.alike (o.frz l sz xs) := by cases o <;> rfl
theorem frz_ld {l sz : Nat} {xs : List D} {o : O} : (o.frz l sz xs).ld = o.ld := by cases o <;> rfl
end frz

section rules
variable {P : Program} {f : FuncId} {ro : Option Nat} {n : Nat} {k : List Item} {tm tm' : List V} {σ σ' : Store} {df : List Nat} {Q : AE → Store → Prop}
/-- What is left when a row is laid to rest. -/
theorem freeze_core {w : World} {I : Nat → Prop} {ρ : LM} {σ : Store} {tm : List V} {a : List Value} {l : Nat} {sz : Nat} {xs : List D} {mv : Bool} (hO : ORel w I ρ σ) (hl : σ[l]? = some (.row sz xs mv)) (hr : vrL w I ρ σ tm a) :
    vrL w (Iadd I ρ l) ρ ((σ.map (O.frz l sz xs)).set l .dead) (V.frzL l sz xs tm) a ∧ ORel w (Iadd I ρ l) ρ ((σ.map (O.frz l sz xs)).set l .dead) ∧ Ext σ.length w I ρ σ w (Iadd I ρ l) ρ ((σ.map (O.frz l sz xs)).set l .dead) ∧ True := by

  have hlt : l < σ.length := (List.getElem?_eq_some_iff.1 hl).1
  have hget : ∀ x o1, ((σ.map (O.frz l sz xs)).set l .dead)[x]? = some o1 → o1 ≠ .dead → x ≠ l ∧ ∃ o2, σ[x]? = some o2 ∧ o2 ≠ .dead ∧ o1 = o2.frz l sz xs := by
    intro x o1 h1 h2
    by_cases hx : x = l
    · subst hx
      rw [List.getElem?_set_self (by simpa using hlt)] at h1
      cases h1; exact absurd rfl h2
    · rw [getElem?_set_ne hx, List.getElem?_map, Option.map_eq_some_iff] at h1
      obtain ⟨o2, h3, rfl⟩ := h1
      exact ⟨hx, o2, h3, fun e => h2 (frz_dead.2 e), rfl⟩
  have hsame : ∀ x, x < σ.length → Same ρ (σ.set l .dead) ρ ((σ.map (O.frz l sz xs)).set l .dead) x := by
    intro x hx
    refine ⟨by simpa using hx, fun o1 h1 h2 => ⟨rfl, ?_⟩⟩
    obtain ⟨hne, o2, h3, h4, rfl⟩ := hget x o1 h1 h2
    exact ⟨o2, by rw [getElem?_set_ne hne]; exact h3, h4, frz_rl o2⟩
  have hII : ∀ b, Iadd I ρ l b → Iadd I ρ l b ∧ w.heap[b]? = w.heap[b]? := fun b hb => ⟨hb, rfl⟩
  have htm := vrL_all hII (fun x hx => hsame x (by simpa using hx)) (vrL_frz hO hl tm _ hr)
  have hlive : ∀ x, live ((σ.map (O.frz l sz xs)).set l .dead) x → x ≠ l ∧ live σ x := by
    rintro x ⟨o1, h1, h2⟩
    obtain ⟨hne, o2, h3, h4, _⟩ := hget x o1 h1 h2
    exact ⟨hne, o2, h3, h4⟩
  have hfoot : ∀ b, foot ρ ((σ.map (O.frz l sz xs)).set l .dead) b → foot ρ σ b := by
    rintro b ⟨x, o1, L, h1, h2, h3, h4⟩
    obtain ⟨_, o2, h5, h6, _⟩ := hget x o1 h1 h2
    exact ⟨x, o2, L, h5, h6, h3, h4⟩
  have hO2 : ORel w (Iadd I ρ l) ρ ((σ.map (O.frz l sz xs)).set l .dead) := by
    refine ⟨fun x o1 h1 => ?_, fun x y X Y hx hy => hO.inj x y X Y (hlive x hx).2 (hlive y hy).2, fun b hb => hO.flt b (hfoot b hb), fun b hb => ?_⟩
    · by_cases hd : o1 = .dead
      · subst hd; simp [orel]
      obtain ⟨hne, o2, h3, h4, rfl⟩ := hget x o1 h1 hd
      have := orel_frz hO hl (hO.objs x o2 h3)
      exact orel_all hII (fun x hx => hsame x (by simpa using hx)) rfl (fun _ _ => rfl) this
    · rcases hb with hb | ⟨L, hL, rfl⟩
      · exact ⟨(hO.imm b hb).1, fun hf => (hO.imm b hb).2 (hfoot b hf)⟩
      · refine ⟨hO.flt _ ⟨l, _, L, hl, by simp, hL, rfl⟩, ?_⟩
        rintro ⟨x, o1, X, h1, h2, h3, h4⟩
        obtain ⟨hne, o2, h5, h6, _⟩ := hget x o1 h1 h2
        exact hne (hO.inj x l X L ⟨o2, h5, h6⟩ ⟨_, hl, by simp⟩ h3 hL h4)
  have hX : Ext σ.length w I ρ σ w (Iadd I ρ l) ρ ((σ.map (O.frz l sz xs)).set l .dead) := by
    refine ⟨Nat.le_refl _, rfl, rfl, rfl, fun _ _ _ => rfl, fun b hb => .inl hb, fun b hb => ?_, fun b hb => .inl (hfoot b hb), by simp, fun x _ hx => (hlive x hx).2, fun x o1 hx h1 h2 => ⟨rfl, ?_⟩, fun x o hx h1 h2 => ?_⟩
    · rcases hb with hb | ⟨L, hL, rfl⟩
      · exact .inl hb
      · exact .inr (.inl ⟨l, _, L, hl, by simp, hL, rfl⟩)
    · obtain ⟨hne, o2, h5, h6, rfl⟩ := hget x o1 h1 (by rintro rfl; simp [O.still] at h2)
      exact ⟨o2, h5, by rwa [frz_still] at h2, frz_rl o2⟩
    · have hne : x ≠ l := by rintro rfl; rw [hl] at h1; cases h1; exact h2 rfl
      exact ⟨o.frz l sz xs, by rw [getElem?_set_ne hne, List.getElem?_map, h1]; rfl, frz_ld⟩
  exact ⟨htm, hO2, hX, trivial⟩
/-- A row is laid to rest: from now on it is data. -/
theorem AW.freeze (l : Nat) {sz : Nat} {xs : List D} {mv : Bool} (hl : σ[l]? = some (.row sz xs mv)) (h : AW P f ro n k (V.frzL l sz xs tm) ((σ.map (O.frz l sz xs)).set l .dead) df Q) : AW P f ro n k tm σ df Q := by
  intro w I ρ a rb hr hb hn
  obtain ⟨htm, hO2, hX, _⟩ := freeze_core hr.ors hl hr.tms
  have hst := hX.stays
  have := h w (Iadd I ρ l) ρ a rb ⟨htm, hO2, dfr_stay hst hr.dfs⟩ (rbOf_stay hst hb) (by simpa using hn)
  exact this.mono fun e w' hf => hf.trans (hX.less hn)

theorem vrL_forget {w : World} {I : Nat → Prop} {ρ : LM} : ∀ {tm : List V} {xs : List Value} (i : Nat), vrL w I ρ σ tm xs → vrL w I ρ σ (tm.set i .undef) xs
  | [], xs, i, h => by simpa using h
  | v :: tm, xs, 0, h => by
    simp only [vrL, List.set_cons_zero] at h ⊢
    obtain ⟨x, xs', e, h1, h2⟩ := h
    exact ⟨x, xs', e, by simp [vr], h2⟩
  | v :: tm, xs, i + 1, h => by
    simp only [vrL, List.set_cons_succ] at h ⊢
    obtain ⟨x, xs', e, h1, h2⟩ := h
    exact ⟨x, xs', e, h1, vrL_forget i h2⟩
/-- Slots that are of no use any more. -/
theorem AW.forget (ks : List Nat) (h : AW P f ro n k (ks.foldl (fun t i => t.set i .undef) tm) σ df Q) : AW P f ro n k tm σ df Q := by
  induction ks generalizing tm with
  | nil => exact h
  | cons i ks ih => exact AW.less (fun w I ρ a ht => vrL_forget i ht) (ih h)
/-- Slots as they are handed on. -/
theorem AW.coerce (ts : List TypeId) (h : AW P f ro n k (coArgs P ts tm) σ df Q) : AW P f ro n k tm σ df Q :=
  AW.less (fun _ _ _ _ ht => coArgs_rel ht) h

/-- Does a store lie within another one, told as it is? -/
def exact (σ : Store) (m : List Nat) (σ' : Store) : Prop :=
  m.length = σ'.length ∧ nodupB m = true ∧ m.map (fun l => σ[l]?) = σ'.map fun o => some (o.ren (mp m σ.length))
theorem exact_get {m : List Nat} (h : exact σ m σ') {i : Nat} {o : O} (hi : σ'[i]? = some o) : m[i]? = some (mp m σ.length i) ∧ σ[mp m σ.length i]? = some (o.ren (mp m σ.length)) := by
  have hlt : i < m.length := by rw [h.1]; exact (List.getElem?_eq_some_iff.1 hi).1
  have hm : m[i]? = some m[i] := List.getElem?_eq_getElem hlt
  have hmp : mp m σ.length i = m[i] := by simp [mp, hm]
  have := congrArg (fun z => z[i]?) h.2.2
  simp only [List.getElem?_map, hm, hi, Option.map_some, Option.some.injEq] at this
  rw [hmp]
  exact ⟨hm, this⟩
theorem dfr_exact {m : List Nat} {ρ : LM} (he : exact σ m σ') (hE : Emb (mp m σ.length) (rhoC m ρ) σ' ρ σ) : ∀ {df' : List Nat} {ds : List Deferred}, (df'.all fun l => Nat.blt l σ'.length) = true → dfr ρ σ (df'.map (mp m σ.length)) ds → dfr (rhoC m ρ) σ' df' ds
  | [], ds, _, h => by simpa [dfr] using h
  | l :: ls, ds, h2, h1 => by
    simp only [List.map_cons, dfr] at h1 ⊢
    obtain ⟨L, ds', g1, g2, g3, g4⟩ := h1
    simp only [List.all_cons, Bool.and_eq_true] at h2
    have hlt : l < σ'.length := by simpa [Nat.blt_eq] using h2.1
    have hx := (exact_get he (List.getElem?_eq_getElem hlt)).2
    rw [g2] at hx
    refine ⟨L, ds', (hE.rho hlt).symm.trans g1, ?_, g3, dfr_exact he hE h2.2 g4⟩
    rw [List.getElem?_eq_getElem hlt]
    cases hq : σ'[l] <;> rw [hq] at hx <;> simp [O.ren] at hx ⊢
/-- The same state by other numbers, and without what is of no use any more. -/
theorem AW.sub (m : List Nat) (tm' : List V) (σ' : Store) (ro' : Option Nat) (df' : List Nat) (he : exact σ m σ') (htm : tm = V.renL (mp m σ.length) tm') (hn' : n ≤ σ'.length ∧ m.take n = List.range n)
    (hbel : (belB σ'.length σ' && (V.locsL tm').all fun l => Nat.blt l σ'.length) = true) (hdf : df = df'.map (mp m σ.length) ∧ (df'.all fun l => Nat.blt l σ'.length) = true) (hro : ro = ro'.map (mp m σ.length) ∧ (ro'.all fun l => Nat.blt l σ'.length) = true)
    (h : AW P f ro' n k tm' σ' df' Q) : AW P f ro n k tm σ df Q := by
  intro w I ρ a rb hr hb hn
  simp only [Bool.and_eq_true] at hbel
  have hO := hr.ors
  have hE : Emb (mp m σ.length) (rhoC m ρ) σ' ρ σ := by
    intro i o hi
    obtain ⟨h1, h2⟩ := exact_get he hi
    exact ⟨by simp [rhoC, h1], _, h2, O.ren_dead, O.ren_alike o⟩
  have hfoot : ∀ b, foot (rhoC m ρ) σ' b → foot ρ σ b := by
    rintro b ⟨i, oc, L, h1, h2, h3, h4⟩
    have hi := (List.getElem?_eq_some_iff.1 h1).1
    obtain ⟨o, h5, h6⟩ := (hE.live hi).2 ⟨oc, h1, h2⟩
    exact ⟨_, o, L, h5, h6, (hE.rho hi).trans h3, h4⟩
  have hO2 : ORel w I (rhoC m ρ) σ' := by
    refine ⟨fun i oc hi => ?_, fun i j L L' hi hj hL hL' e => ?_, fun b h => hO.flt b (hfoot b h), fun b h => ⟨(hO.imm b h).1, fun hf => (hO.imm b h).2 (hfoot b hf)⟩⟩
    · obtain ⟨h1, h2⟩ := exact_get he hi
      exact (orel_ren hE (by simp [rhoC, h1]) (belB_ok hbel.1 hi)).1 (hO.objs _ _ h2)
    · have h1 := live_lt hi
      have h2 := live_lt hj
      have := hO.inj _ _ L L' ((hE.live h1).2 hi) ((hE.live h2).2 hj) ((hE.rho h1).trans hL) ((hE.rho h2).trans hL') e
      have hi' := (exact_get he (List.getElem?_eq_getElem h1)).1
      have hj' := (exact_get he (List.getElem?_eq_getElem h2)).1
      rw [← this] at hj'
      have a1 := mem_idx (nodupB_ok he.2.1) hi'
      have a2 := mem_idx (nodupB_ok he.2.1) hj'
      rw [a1] at a2
      exact Option.some.inj a2
  have hid : ∀ l, l < n → mp m σ.length l = l ∧ rhoC m ρ l = ρ l := by
    intro l hl
    have : (m.take n)[l]? = some l := by rw [hn'.2]; simp [hl]
    rw [List.getElem?_take, if_pos hl] at this
    exact ⟨by simp [mp, this], by simp [rhoC, this]⟩
  have htms : vrL w I (rhoC m ρ) σ' tm' a.tmps.toList := by
    have h1 := hr.tms
    rw [htm] at h1
    exact (vrL_ren hE tm' _ fun l hl => by have := (List.all_eq_true.1 hbel.2) l hl; simpa [Nat.blt_eq] using this).1 h1
  have hds : dfr (rhoC m ρ) σ' df' a.defers := by
    have h1 := hr.dfs
    rw [hdf.1] at h1
    exact dfr_exact he hE hdf.2 h1
  have hrb : rbOf (rhoC m ρ) σ' ro' rb := by
    rw [hro.1] at hb
    cases ro' with
    | none => exact hb
    | some l =>
      obtain ⟨L, o, g1, g2, g3, g4⟩ := hb
      have hlt : l < σ'.length := by simpa [Nat.blt_eq] using hro.2
      have hx := (exact_get he (List.getElem?_eq_getElem hlt)).2
      rw [g2] at hx
      refine ⟨L, σ'[l], (hE.rho hlt).symm.trans g1, List.getElem?_eq_getElem hlt, ?_, g4⟩
      obtain ⟨a1, a2, a3, a4, a5, a6, a7, rfl⟩ := g3
      cases hq : σ'[l] <;> rw [hq] at hx <;> simp [O.ren] at hx
      exact ⟨_, _, _, _, _, _, _, rfl⟩
  have hrun := h w I (rhoC m ρ) a rb ⟨htms, hO2, hds⟩ hrb hn'.1
  refine hrun.mono fun e w' hf => ?_
  obtain ⟨I', ρ', σ2, r, h1, h2, h3, h4⟩ := hf
  refine ⟨I', ρ', σ2, r, h1, h2, h3, ⟨h4.size, h4.os, h4.tape, h4.output, fun b hb hf => h4.old b hb fun h => hf (hfoot b h), h4.immI, fun b hb => ?_, fun b hb => ?_, h4.len, fun l hl hv => ?_, fun l o' hl ho' hst => ?_, fun l o hl ho hld => ?_⟩⟩
  · rcases h4.immN b hb with hq | hq | hq
    · exact .inl hq
    · exact .inr (.inl (hfoot b hq))
    · exact .inr (.inr hq)
  · exact (h4.footN b hb).imp (hfoot b) id
  · have := (hE.live (Nat.lt_of_lt_of_le hl hn'.1)).2 (h4.alive l hl hv)
    rwa [(hid l hl).1] at this
  · obtain ⟨g1, o, g2, g3, g4⟩ := h4.fixed l o' hl ho' hst
    have hx := (exact_get he g2).2
    rw [(hid l hl).1] at hx
    exact ⟨g1.trans (hid l hl).2, _, hx, by rw [O.ren_still]; exact g3, O.alike_trans (O.ren_alike o) g4⟩
  · have hlt : l < σ'.length := Nat.lt_of_lt_of_le hl hn'.1
    have hx := (exact_get he (List.getElem?_eq_getElem hlt)).2
    rw [(hid l hl).1, ho, Option.some.injEq] at hx
    obtain ⟨o', g1, g2⟩ := h4.stay l _ hl (List.getElem?_eq_getElem hlt) (by rw [hx, O.ren_ld] at hld; exact hld)
    exact ⟨o', g1, by rw [g2, hx, O.ren_ld]⟩
end rules

/-- A byte as data. -/
def u8 (b : UInt8) : D := .int .u8 b.toNat
section
variable {P : Program} {tm : List V} {σ : Store}
def isU8s (P : Program) (t : TypeId) : Bool := match P.underlying t with | some (.slice e) => (match P.underlying e with | some (.int .u8) => true | _ => false) | _ => false
theorem isU8s_und {t : TypeId} (h : isU8s P t = true) : ∃ e, P.underlying t = some (.slice e) ∧ P.underlying e = some (.int .u8) := by
  unfold isU8s at h
  split at h
  · split at h
    · exact ⟨_, by assumption, by assumption⟩
    · cases h
  · cases h
theorem foldl_push (bs : List UInt8) : ∀ s : ByteArray, (bs.map fun b => (b.toNat : Int)).foldl (fun r n => r.push (UInt8.ofNat n.toNat)) s = ⟨s.data ++ bs.toArray⟩ := by
  induction bs with
  | nil => intro s; simp
  | cons b bs ih =>
    intro s
    simp only [List.map_cons, List.foldl_cons, Int.toNat_natCast, UInt8.ofNat_toNat]
    rw [ih]
    congr 1
    apply Array.ext'
    simp [ByteArray.push]
theorem cont_slice {w : World} {I : Nat → Prop} {ρ : LM} {v : V} {x : Value} {sz : Nat} {ys : List D} (h : cont σ v = some (sz, ys)) (hns : ∀ z, v ≠ .d (.str z)) (hv : vr w I ρ σ v x) : ∃ ad c, x = .slice ad ys.length c := by
  unfold cont at h
  split at h
  · cases h; exact lenV_rel (σ := σ) (v := .d (.list sz ys)) rfl hv
  · cases h; exact lenV_rel (σ := σ) (v := .ex sz ys) rfl hv
  · split at h
    · rename_i l _ sz' xs mv hσ
      cases h
      exact lenV_rel (σ := σ) (v := .row l) (by simp [lenV, hσ]) hv
    · cases h
  · split at h
    · rename_i l off m c _ sz' xs mv hσ
      cases h
      have hv' := hv
      simp only [vr] at hv
      have := (hv.2.2 _ _ _ hσ).1
      have hm : ((xs.drop off).take m).length = m := by simp; omega
      rw [hm]
      exact lenV_rel (σ := σ) (v := .sl l off m c) (by simp [lenV, hσ]) hv'
    · cases h
  · exact absurd rfl (hns _)
  · cases h
/-- Bytes as a text. -/
theorem bts_ok {s t : TypeId} {x : Operand} {o : Oper} {bs : List UInt8} (ho : o.op = .convert s t x) (hs : isU8s P s = true) (ht : isStrT P t = true) (hx : cont σ (ev tm x) = some (1, bs.map u8) ∧ (∀ z, ev tm x ≠ .d (.str z)) ∨ ev tm x = .nils ∧ bs = []) :
    OpOk P o tm σ (.d (.str ⟨bs.toArray⟩)) tm σ := by
  intro w I ρ a hr hO
  obtain ⟨e, hu, he⟩ := isU8s_und hs
  have hxr := vr_ev hr x
  refine ⟨_, .string ⟨bs.toArray⟩, w, I, ρ, ?_, .inl rfl, by simp [vr, Dr], hr, hO, Ext.refl _ _ _ _⟩
  have hsl : ∃ ad c, a.eval x = .slice ad bs.length c := by
    rcases hx with ⟨hx, hns⟩ | ⟨hx, rfl⟩
    · have := cont_slice hx hns hxr
      simpa using this
    · rw [hx] at hxr
      simp only [vr] at hxr
      exact ⟨none, 0, hxr⟩
  obtain ⟨ad, c, hv⟩ := hsl
  have hconv : (Conv.bytesToString (.slice ad bs.length c)).run P w = .ok (.string ⟨bs.toArray⟩) w := by
    cases ad with
    | none =>
      have hb : bs = [] := by
        rcases hx with ⟨hx, _⟩ | ⟨_, h⟩
        · obtain ⟨news, h1, h2, h3⟩ := cont_rel (P := P) hx hxr hO
          have := h3 w rfl
          rw [hv] at this
          simp [Builtin.firstCells] at this
          have hl := DrN_len h1
          rw [this] at hl
          simp at hl
          exact List.eq_nil_of_length_eq_zero hl.symm
        · exact h
      subst hb
      simp [Conv.bytesToString]
      rfl
    | some ad =>
      have hload : (loadCells ad bs.length).run P w = .ok ((bs.map fun b => (b.toNat : Int)).map (Value.int .u8)).toArray w := by
        rcases hx with ⟨hx, _⟩ | ⟨hx, _⟩
        · obtain ⟨news, h1, h2, h3⟩ := cont_rel (P := P) hx hxr hO
          have h4 := h3 w rfl
          rw [hv] at h4
          simp only [Builtin.firstCells, List.length_map, Nat.mul_one] at h4
          rw [h4]
          have : news = (bs.map fun b => (b.toNat : Int)).map (Value.int .u8) := by
            clear h2 h3 h4 hx hv hxr
            revert h1
            induction bs generalizing news with
            | nil => intro h1; simpa [DrN] using h1
            | cons b bs ih =>
              intro h1
              simp only [List.map_cons, DrN] at h1
              obtain ⟨v, rest, g1, g2, rfl, g4⟩ := h1
              simp only [u8, Dr] at g1
              subst g1
              simp only [List.map_cons, Value.cells, List.cons_append, List.nil_append]
              rw [ih rest g4]
          rw [this]
        · rw [hx] at hxr
          simp only [vr] at hxr
          rw [hv] at hxr
          cases hxr
      rw [run_bytesToString w ad bs.length c _ hload, foldl_push]
      have he : (ByteArray.empty.data ++ bs.toArray) = bs.toArray := by show (#[] : Array UInt8) ++ bs.toArray = _; simp
      rw [he]
  simp only [execOp, ho, hv, Sem.run_bind, run_convert_bytes_string w s t e ad bs.length c hu he (isStrT_und ht), hconv, Result.andThen_ok]
  rfl
end
end Go.Br
