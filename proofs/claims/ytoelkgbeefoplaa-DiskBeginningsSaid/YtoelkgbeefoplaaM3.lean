/- Part 3 of this proof. -/
import Derived.AtR
import Derived.Laws.BytesString
import Derived.Orders
import Derived.RangeFuncIn
import Derived.RangeFuncRecord
import Derived.Test.YtoelkgbeefoplaaM2
namespace Go.Br
open Go
variable {o : Oper} {tm tm' : List V} {P : Program} {σ : Store} {v : V} {w : World} {ops : Array Oper} {I : Nat → Prop} {xs : List D} {c : Code} {ρ : LM} {mv : Bool} {fn : Func} {sz : Nat} {l : Nat} {i : Nat}
mutual
def V.frz (l sz : Nat) (xs : List D) : V → V
  | .row k => if Nat.beq l k then .d (.list sz xs) else .row k
  | .sl k off n c => if Nat.beq l k then .d (.list sz ((xs.drop off).take n)) else .sl k off n c
  | .ptr k i s => if Nat.beq l k then .undef else .ptr k i s
  | .yield k => if Nat.beq l k then .undef else .yield k
  | .map k => if Nat.beq l k then .undef else .map k
  | .fn f a b => .fn f (V.frzL l sz xs a) (V.frzL l sz xs b)
  | .tuple vs => .tuple (V.frzL l sz xs vs)
  | .agg vs => .agg (V.frzL l sz xs vs)
  | .d x => .d x
  | .undef => .undef
  | .nils => .nils
  | .ex sz xs => .ex sz xs
  | .ep sz x s => .ep sz x s
def V.frzL (l sz : Nat) (xs : List D) : List V → List V
  | [] => []
  | v :: vs => V.frz l sz xs v :: V.frzL l sz xs vs
end
def O.frz (l sz : Nat) (xs : List D) : O → O
  | .cells cs => .cells (V.frzL l sz xs cs)
  | .loop a b c tm x e f => .loop a b c (V.frzL l sz xs tm) x e f
  | .dead => .dead
  | .row sz xs mv => .row sz xs mv
  | .map es => .map es
  | .defd => .defd
section frz
variable {w : World} {I : Nat → Prop} {ρ : LM} {σ : Store} {P : Program}
def Iadd (I : Nat → Prop) (ρ : LM) (l : Nat) : Nat → Prop := fun b => I b ∨ ∃ L, ρ l = some L ∧ L.b = b
theorem frz_row {l sz off n : Nat} {x : Value} (hO : ORel w I ρ σ) (hl : σ[l]? = some (.row sz xs mv)) (hr : rowV ρ l off n x) (hle : off + n ≤ xs.length) : Dr w (Iadd I ρ l) (.list sz ((xs.drop off).take n)) x := by
 have hn : ((xs.drop off).take n).length = n := by simp; omega
 have hob := hO.objs l _ hl
 simp only [orel] at hob
 simp only [Dr]
 rcases hr with ⟨rfl, ad, rfl⟩ | ⟨L, hL, hle2, rfl⟩
 · exact ⟨ad, 0, by simp, by simp, Nat.zero_le _, .inl (by simp)⟩
 · rcases hob with ⟨h0, _⟩ | ⟨L', C, T, fz, hL', hLs, hh, _, _, hle3, hcap, hE⟩
   · rw [hL] at h0; cases h0
   rw [hL] at hL'; cases hL'
   refine ⟨_, L.cap - off, by rw [hn], by omega, by omega, .inr ⟨L.b, L.o + off * L.sz, rfl, .inr ⟨L, hL, rfl⟩, ?_⟩⟩
   rw [hLs]
   have hI : ∀ b, I b → Iadd I ρ l b ∧ w.heap[b]? = w.heap[b]? := fun b hb => ⟨.inl hb, rfl⟩
   have hE2 := DrE_mono hI sz L.b rfl L.o xs hE
   have := DrE_piece (l := off) (h := off + n) hE2
   rwa [List.drop_take, Nat.add_sub_cancel_left] at this
mutual
theorem vr_frz {l sz : Nat} {xs : List D} {mv : Bool} (hO : ORel w I ρ σ) (hl : σ[l]? = some (.row sz xs mv)) : ∀ (v : V) (x : Value), vr w I ρ σ v x → vr w (Iadd I ρ l) ρ (σ.set l .dead) (v.frz l sz xs) x
 | .row k, x, h => by
   simp only [V.frz]
   split
   · rename_i hk
     have hk : l = k := by simpa using hk
     subst hk
     simp only [vr] at h ⊢
     have := frz_row hO hl (h.2.2 _ _ _ hl) (by omega)
     simpa using this
   · rename_i hk
     have hk : k ≠ l := by rintro rfl; simp at hk
     simp only [vr] at h ⊢
     exact ⟨h.1, by simpa using h.2.1, fun sz' xs' mv' hx => h.2.2 sz' xs' mv' (by rwa [getElem?_set_ne hk] at hx)⟩
 | .sl k off n c, x, h => by
   simp only [V.frz]
   split
   · rename_i hk
     have hk : l = k := by simpa using hk
     subst hk
     simp only [vr] at h ⊢
     exact frz_row hO hl (h.2.2 _ _ _ hl).2.1 (h.2.2 _ _ _ hl).1
   · rename_i hk
     have hk : k ≠ l := by rintro rfl; simp at hk
     simp only [vr] at h ⊢
     exact ⟨h.1, by simpa using h.2.1, fun sz' xs' mv' hx => h.2.2 sz' xs' mv' (by rwa [getElem?_set_ne hk] at hx)⟩
 | .ptr k i s, x, h => by
   simp only [V.frz]
   split
   · simp [vr]
   · rename_i hk
     have hk : k ≠ l := by rintro rfl; simp at hk
     simp only [vr] at h ⊢
     refine ⟨h.1, by simpa using h.2.1, ?_⟩
     rintro ⟨o, h1, h2⟩
     rw [getElem?_set_ne hk] at h1
     exact h.2.2 ⟨o, h1, h2⟩
 | .yield k, x, h => by
   simp only [V.frz]
   split
   · simp [vr]
   · rename_i hk
     have hk : k ≠ l := by rintro rfl; simp at hk
     simp only [vr] at h ⊢
     refine ⟨h.1, by simpa using h.2.1, ?_⟩
     rintro ⟨o, h1, h2⟩
     rw [getElem?_set_ne hk] at h1
     exact h.2.2 ⟨o, h1, h2⟩
 | .map k, x, h => by
   simp only [V.frz]
   split
   · simp [vr]
   · rename_i hk
     have hk : k ≠ l := by rintro rfl; simp at hk
     simp only [vr] at h ⊢
     refine ⟨h.1, by simpa using h.2.1, ?_⟩
     rintro ⟨o, h1, h2⟩
     rw [getElem?_set_ne hk] at h1
     exact h.2.2 ⟨o, h1, h2⟩
 | .fn f a b, x, h => by
   simp only [V.frz, vr] at h ⊢
   obtain ⟨fs, cs, e, h1, h2⟩ := h
   exact ⟨fs, cs, e, vrL_frz hO hl a fs h1, vrL_frz hO hl b cs h2⟩
 | .tuple vs, x, h => by
   simp only [V.frz, vr] at h ⊢
   obtain ⟨ys, e, h1⟩ := h
   exact ⟨ys, e, vrL_frz hO hl vs ys h1⟩
 | .agg vs, x, h => by
   simp only [V.frz, vr] at h ⊢
   obtain ⟨ys, e, h1, h2⟩ := h
   exact ⟨ys, e, vrL_frz hO hl vs ys h1, h2⟩
 | .d y, x, h => by
   simp only [V.frz, vr] at h ⊢
   exact Dr_mono (fun b hb => ⟨.inl hb, rfl⟩) _ _ h
 | .undef, x, h => by simp [V.frz, vr]
 | .nils, x, h => by simpa [V.frz, vr] using h
 | .ex sz ys, x, h => by
   simp only [V.frz, vr] at h ⊢
   obtain ⟨a, e, h1⟩ := h
   exact ⟨a, e, Dr_mono (fun b hb => ⟨.inl hb, rfl⟩) _ _ h1⟩
 | .ep sz y s, x, h => by
   simp only [V.frz, vr] at h ⊢
   obtain ⟨b, q, e, h1, u, h2, h3, h4⟩ := h
   exact ⟨b, q, e, .inl h1, u, Dr_mono (fun b hb => ⟨.inl hb, rfl⟩) _ _ h2, h3, h4⟩
theorem vrL_frz {l sz : Nat} {xs : List D} {mv : Bool} (hO : ORel w I ρ σ) (hl : σ[l]? = some (.row sz xs mv)) : ∀ (vs : List V) (ys : List Value), vrL w I ρ σ vs ys → vrL w (Iadd I ρ l) ρ (σ.set l .dead) (V.frzL l sz xs vs) ys
 | [], ys, h => by simpa [V.frzL, vrL] using h
 | v :: vs, ys, h => by
   simp only [V.frzL, vrL] at h ⊢
   obtain ⟨y, ys', e, h1, h2⟩ := h
   exact ⟨y, ys', e, vr_frz hO hl v y h1, vrL_frz hO hl vs ys' h2⟩
end
theorem orel_frz (hO : ORel w I ρ σ) (hl : σ[l]? = some (.row sz xs mv)) {k : Nat} {o : O} (h : orel w I ρ σ k o) : orel w (Iadd I ρ l) ρ (σ.set l .dead) k (o.frz l sz xs) := by
 have hI : ∀ b, I b → Iadd I ρ l b ∧ w.heap[b]? = w.heap[b]? := fun b hb => ⟨.inl hb, rfl⟩
 cases o with
 | dead => simp [O.frz, orel]
 | cells cs =>
   simp only [O.frz, orel] at h ⊢
   obtain ⟨L, C, T, fz, h1, h2, h3, h4, h5, h6⟩ := h
   exact ⟨L, C, T, fz, h1, h2, h3, h4, vrL_frz hO hl cs _ h5, h6⟩
 | row sz xs mv =>
   simp only [O.frz, orel] at h ⊢
   rcases h with h | ⟨L, C, T, fz, h1, h2, h3, h4, h5, h6, h7, h8⟩
   · exact .inl h
   · exact .inr ⟨L, C, T, fz, h1, h2, h3, h4, h5, h6, h7, DrE_mono hI _ _ rfl _ _ h8⟩
 | map es =>
   simp only [O.frz, orel] at h ⊢
   obtain ⟨L, E, n, h1, h2, h3, h4, h5, h6⟩ := h
   refine ⟨L, E, n, h1, h2, h3, h4, fun j e hj => ?_, h6⟩
   obtain ⟨g1, x, g2, g3, g4⟩ := h5 j e hj
   exact ⟨g1, x, g2, g3, Dr_mono hI _ _ g4⟩
 | loop st pend fn tm params assign body =>
   simp only [O.frz, orel] at h ⊢
   obtain ⟨L, tmps, db, h1, h2, h3⟩ := h
   exact ⟨L, tmps, db, h1, h2, vrL_frz hO hl tm _ h3⟩
 | defd => simpa [O.frz, orel] using h
theorem frz_dead {o : O} : o.frz l sz xs = .dead ↔ o = .dead := by cases o <;> simp [O.frz]
theorem frz_still {o : O} : (o.frz l sz xs).still = o.still := by cases o <;> rfl
theorem frz_rl (o : O) : o.alike (o.frz l sz xs) := by cases o <;> rfl
theorem frz_ld {o : O} : (o.frz l sz xs).ld = o.ld := by cases o <;> rfl
end frz
section rules
variable {P : Program} {f : FuncId} {ro : Option Nat} {n : Nat} {k : List Item} {tm tm' : List V} {σ σ' : Store} {df : List Nat} {Q : AE → Store → Prop}
theorem freeze_core {a : List Value} (hO : ORel w I ρ σ) (hl : σ[l]? = some (.row sz xs mv)) (hr : vrL w I ρ σ tm a) :
    vrL w (Iadd I ρ l) ρ ((σ.map (O.frz l sz xs)).set l .dead) (V.frzL l sz xs tm) a ∧ ORel w (Iadd I ρ l) ρ ((σ.map (O.frz l sz xs)).set l .dead) ∧ Ext σ.length w I ρ σ w (Iadd I ρ l) ρ ((σ.map (O.frz l sz xs)).set l .dead) ∧ True := by
  have hlt : l < σ.length := (List.getElem?_eq_some_iff.1 hl).1
  have hget : ∀ x o1, ((σ.map (O.frz l sz xs)).set l .dead)[x]? = some o1 → o1 ≠ .dead → x ≠ l ∧ ∃ o2, σ[x]? = some o2 ∧ o2 ≠ .dead ∧ o1 = o2.frz l sz xs := by
    intro x o1 h1 h2
    by_cases hx : x = l
    · subst hx
      rw [List.getElem?_set_self (by simpa using hlt)] at h1
      cases h1; exact absurd rfl h2
    · rw [getElem?_set_ne hx, List.getElem?_map, Option.map_eq_some_iff] at h1
      obtain ⟨o2, h3, rfl⟩ := h1
      exact ⟨hx, o2, h3, fun e => h2 (frz_dead.2 e), rfl⟩
  have hsame : ∀ x, x < σ.length → Same ρ (σ.set l .dead) ρ ((σ.map (O.frz l sz xs)).set l .dead) x := by
    intro x hx
    refine ⟨by simpa using hx, fun o1 h1 h2 => ⟨rfl, ?_⟩⟩
    obtain ⟨hne, o2, h3, h4, rfl⟩ := hget x o1 h1 h2
    exact ⟨o2, by rw [getElem?_set_ne hne]; exact h3, h4, frz_rl o2⟩
  have hII : ∀ b, Iadd I ρ l b → Iadd I ρ l b ∧ w.heap[b]? = w.heap[b]? := fun b hb => ⟨hb, rfl⟩
  have htm := vrL_all hII (fun x hx => hsame x (by simpa using hx)) (vrL_frz hO hl tm _ hr)
  have hlive : ∀ x, live ((σ.map (O.frz l sz xs)).set l .dead) x → x ≠ l ∧ live σ x := by
    rintro x ⟨o1, h1, h2⟩
    obtain ⟨hne, o2, h3, h4, _⟩ := hget x o1 h1 h2
    exact ⟨hne, o2, h3, h4⟩
  have hfoot : ∀ b, foot ρ ((σ.map (O.frz l sz xs)).set l .dead) b → foot ρ σ b := by
    rintro b ⟨x, o1, L, h1, h2, h3, h4⟩
    obtain ⟨_, o2, h5, h6, _⟩ := hget x o1 h1 h2
    exact ⟨x, o2, L, h5, h6, h3, h4⟩
  have hO2 : ORel w (Iadd I ρ l) ρ ((σ.map (O.frz l sz xs)).set l .dead) := by
    refine ⟨fun x o1 h1 => ?_, fun x y X Y hx hy => hO.inj x y X Y (hlive x hx).2 (hlive y hy).2, fun b hb => hO.flt b (hfoot b hb), fun b hb => ?_⟩
    · by_cases hd : o1 = .dead
      · subst hd; simp [orel]
      obtain ⟨hne, o2, h3, h4, rfl⟩ := hget x o1 h1 hd
      have := orel_frz hO hl (hO.objs x o2 h3)
      exact orel_all hII (fun x hx => hsame x (by simpa using hx)) rfl (fun _ _ => rfl) this
    · rcases hb with hb | ⟨L, hL, rfl⟩
      · exact ⟨(hO.imm b hb).1, fun hf => (hO.imm b hb).2 (hfoot b hf)⟩
      · refine ⟨hO.flt _ ⟨l, _, L, hl, by simp, hL, rfl⟩, ?_⟩
        rintro ⟨x, o1, X, h1, h2, h3, h4⟩
        obtain ⟨hne, o2, h5, h6, _⟩ := hget x o1 h1 h2
        exact hne (hO.inj x l X L ⟨o2, h5, h6⟩ ⟨_, hl, by simp⟩ h3 hL h4)
  have hX : Ext σ.length w I ρ σ w (Iadd I ρ l) ρ ((σ.map (O.frz l sz xs)).set l .dead) := by
    refine ⟨Nat.le_refl _, rfl, rfl, rfl, fun _ _ _ => rfl, fun b hb => .inl hb, fun b hb => ?_, fun b hb => .inl (hfoot b hb), by simp, fun x _ hx => (hlive x hx).2, fun x o1 hx h1 h2 => ⟨rfl, ?_⟩, fun x o hx h1 h2 => ?_⟩
    · rcases hb with hb | ⟨L, hL, rfl⟩
      · exact .inl hb
      · exact .inr (.inl ⟨l, _, L, hl, by simp, hL, rfl⟩)
    · obtain ⟨hne, o2, h5, h6, rfl⟩ := hget x o1 h1 (by rintro rfl; simp [O.still] at h2)
      exact ⟨o2, h5, by rwa [frz_still] at h2, frz_rl o2⟩
    · have hne : x ≠ l := by rintro rfl; rw [hl] at h1; cases h1; exact h2 rfl
      exact ⟨o.frz l sz xs, by rw [getElem?_set_ne hne, List.getElem?_map, h1]; rfl, frz_ld⟩
  exact ⟨htm, hO2, hX, trivial⟩
theorem AW.freeze (l : Nat) (hl : σ[l]? = some (.row sz xs mv)) (h : AW P f ro n k (V.frzL l sz xs tm) ((σ.map (O.frz l sz xs)).set l .dead) df Q) : AW P f ro n k tm σ df Q := by
 intro w I ρ a rb hr hb hn
 obtain ⟨htm, hO2, hX, _⟩ := freeze_core hr.ors hl hr.tms
 have hst := hX.stays
 have := h w (Iadd I ρ l) ρ a rb ⟨htm, hO2, dfr_stay hst hr.dfs⟩ (rbOf_stay hst hb) (by simpa using hn)
 exact this.mono fun e w' hf => hf.trans (hX.less hn)
theorem AW.coerce (ts : List TypeId) (h : AW P f ro n k (coArgs P ts tm) σ df Q) : AW P f ro n k tm σ df Q :=
 AW.less (fun _ _ _ _ ht => coArgs_rel ht) h
def exact (σ : Store) (m : List Nat) (σ' : Store) : Prop :=
  m.length = σ'.length ∧ nodupB m = true ∧ m.map (fun l => σ[l]?) = σ'.map fun o => some (o.ren (mp m σ.length))
theorem exact_get {m : List Nat} (h : exact σ m σ') {o : O} (hi : σ'[i]? = some o) : m[i]? = some (mp m σ.length i) ∧ σ[mp m σ.length i]? = some (o.ren (mp m σ.length)) := by
 have hlt : i < m.length := by rw [h.1]; exact (List.getElem?_eq_some_iff.1 hi).1
 have hm : m[i]? = some m[i] := List.getElem?_eq_getElem hlt
 have hmp : mp m σ.length i = m[i] := by simp [mp, hm]
 have := congrArg (fun z => z[i]?) h.2.2
 simp only [List.getElem?_map, hm, hi, Option.map_some, Option.some.injEq] at this
 rw [hmp]
 exact ⟨hm, this⟩
theorem dfr_exact {m : List Nat} (he : exact σ m σ') (hE : Emb (mp m σ.length) (rhoC m ρ) σ' ρ σ) : ∀ {df' : List Nat} {ds : List Deferred}, (df'.all fun l => Nat.blt l σ'.length) = true → dfr ρ σ (df'.map (mp m σ.length)) ds → dfr (rhoC m ρ) σ' df' ds
 | [], ds, _, h => by simpa [dfr] using h
 | l :: ls, ds, h2, h1 => by
   simp only [List.map_cons, dfr] at h1 ⊢
   obtain ⟨L, ds', g1, g2, g3, g4⟩ := h1
   simp only [List.all_cons, Bool.and_eq_true] at h2
   have hlt : l < σ'.length := by simpa [Nat.blt_eq] using h2.1
   have hx := (exact_get he (List.getElem?_eq_getElem hlt)).2
   rw [g2] at hx
   refine ⟨L, ds', (hE.rho hlt).symm.trans g1, ?_, g3, dfr_exact he hE h2.2 g4⟩
   rw [List.getElem?_eq_getElem hlt]
   cases hq : σ'[l] <;> rw [hq] at hx <;> simp [O.ren] at hx ⊢
theorem AW.sub (m : List Nat) (tm' : List V) (σ' : Store) (ro' : Option Nat) (df' : List Nat) (he : exact σ m σ') (htm : tm = V.renL (mp m σ.length) tm') (hn' : n ≤ σ'.length ∧ m.take n = List.range n)
   (hbel : (belB σ'.length σ' && (V.locsL tm').all fun l => Nat.blt l σ'.length) = true) (hdf : df = df'.map (mp m σ.length) ∧ (df'.all fun l => Nat.blt l σ'.length) = true) (hro : ro = ro'.map (mp m σ.length) ∧ (ro'.all fun l => Nat.blt l σ'.length) = true)
   (h : AW P f ro' n k tm' σ' df' Q) : AW P f ro n k tm σ df Q := by
 intro w I ρ a rb hr hb hn
 simp only [Bool.and_eq_true] at hbel
 have hO := hr.ors
 have hE : Emb (mp m σ.length) (rhoC m ρ) σ' ρ σ := by
   intro i o hi
   obtain ⟨h1, h2⟩ := exact_get he hi
   exact ⟨by simp [rhoC, h1], _, h2, O.ren_dead, O.ren_alike o⟩
 have hfoot : ∀ b, foot (rhoC m ρ) σ' b → foot ρ σ b := by
   rintro b ⟨i, oc, L, h1, h2, h3, h4⟩
   have hi := (List.getElem?_eq_some_iff.1 h1).1
   obtain ⟨o, h5, h6⟩ := (hE.live hi).2 ⟨oc, h1, h2⟩
   exact ⟨_, o, L, h5, h6, (hE.rho hi).trans h3, h4⟩
 have hO2 : ORel w I (rhoC m ρ) σ' := by
   refine ⟨fun i oc hi => ?_, fun i j L L' hi hj hL hL' e => ?_, fun b h => hO.flt b (hfoot b h), fun b h => ⟨(hO.imm b h).1, fun hf => (hO.imm b h).2 (hfoot b hf)⟩⟩
   · obtain ⟨h1, h2⟩ := exact_get he hi
     exact (orel_ren hE (by simp [rhoC, h1]) (belB_ok hbel.1 hi)).1 (hO.objs _ _ h2)
   · have h1 := live_lt hi
     have h2 := live_lt hj
     have := hO.inj _ _ L L' ((hE.live h1).2 hi) ((hE.live h2).2 hj) ((hE.rho h1).trans hL) ((hE.rho h2).trans hL') e
     have hi' := (exact_get he (List.getElem?_eq_getElem h1)).1
     have hj' := (exact_get he (List.getElem?_eq_getElem h2)).1
     rw [← this] at hj'
     have a1 := mem_idx (nodupB_ok he.2.1) hi'
     have a2 := mem_idx (nodupB_ok he.2.1) hj'
     rw [a1] at a2
     exact Option.some.inj a2
 have hid : ∀ l, l < n → mp m σ.length l = l ∧ rhoC m ρ l = ρ l := by
   intro l hl
   have : (m.take n)[l]? = some l := by rw [hn'.2]; simp [hl]
   rw [List.getElem?_take, if_pos hl] at this
   exact ⟨by simp [mp, this], by simp [rhoC, this]⟩
 have htms : vrL w I (rhoC m ρ) σ' tm' a.tmps.toList := by
   have h1 := hr.tms
   rw [htm] at h1
   exact (vrL_ren hE tm' _ fun l hl => by have := (List.all_eq_true.1 hbel.2) l hl; simpa [Nat.blt_eq] using this).1 h1
 have hds : dfr (rhoC m ρ) σ' df' a.defers := by
   have h1 := hr.dfs
   rw [hdf.1] at h1
   exact dfr_exact he hE hdf.2 h1
 have hrb : rbOf (rhoC m ρ) σ' ro' rb := by
   rw [hro.1] at hb
   cases ro' with
   | none => exact hb
   | some l =>
     obtain ⟨L, o, g1, g2, g3, g4⟩ := hb
     have hlt : l < σ'.length := by simpa [Nat.blt_eq] using hro.2
     have hx := (exact_get he (List.getElem?_eq_getElem hlt)).2
     rw [g2] at hx
     refine ⟨L, σ'[l], (hE.rho hlt).symm.trans g1, List.getElem?_eq_getElem hlt, ?_, g4⟩
     obtain ⟨a1, a2, a3, a4, a5, a6, a7, rfl⟩ := g3
     cases hq : σ'[l] <;> rw [hq] at hx <;> simp [O.ren] at hx
     exact ⟨_, _, _, _, _, _, _, rfl⟩
 have hrun := h w I (rhoC m ρ) a rb ⟨htms, hO2, hds⟩ hrb hn'.1
 refine hrun.mono fun e w' hf => ?_
 obtain ⟨I', ρ', σ2, r, h1, h2, h3, h4⟩ := hf
 refine ⟨I', ρ', σ2, r, h1, h2, h3, ⟨h4.size, h4.os, h4.tape, h4.output, fun b hb hf => h4.old b hb fun h => hf (hfoot b h), h4.immI, fun b hb => ?_, fun b hb => ?_, h4.len, fun l hl hv => ?_, fun l o' hl ho' hst => ?_, fun l o hl ho hld => ?_⟩⟩
 · rcases h4.immN b hb with hq | hq | hq
   · exact .inl hq
   · exact .inr (.inl (hfoot b hq))
   · exact .inr (.inr hq)
 · exact (h4.footN b hb).imp (hfoot b) id
 · have := (hE.live (Nat.lt_of_lt_of_le hl hn'.1)).2 (h4.alive l hl hv)
   rwa [(hid l hl).1] at this
 · obtain ⟨g1, o, g2, g3, g4⟩ := h4.fixed l o' hl ho' hst
   have hx := (exact_get he g2).2
   rw [(hid l hl).1] at hx
   exact ⟨g1.trans (hid l hl).2, _, hx, by rw [O.ren_still]; exact g3, O.alike_trans (O.ren_alike o) g4⟩
 · have hlt : l < σ'.length := Nat.lt_of_lt_of_le hl hn'.1
   have hx := (exact_get he (List.getElem?_eq_getElem hlt)).2
   rw [(hid l hl).1, ho, Option.some.injEq] at hx
   obtain ⟨o', g1, g2⟩ := h4.stay l _ hl (List.getElem?_eq_getElem hlt) (by rw [hx, O.ren_ld] at hld; exact hld)
   exact ⟨o', g1, by rw [g2, hx, O.ren_ld]⟩
end rules
def u8 (b : UInt8) : D := .int .u8 b.toNat
section
variable {P : Program} {tm : List V} {σ : Store}
def isU8s (P : Program) (t : TypeId) : Bool := match P.underlying t with | some (.slice e) => (match P.underlying e with | some (.int .u8) => true | _ => false) | _ => false
theorem isU8s_und {t : TypeId} (h : isU8s P t = true) : ∃ e, P.underlying t = some (.slice e) ∧ P.underlying e = some (.int .u8) := by
 unfold isU8s at h
 split at h
 · split at h
   · exact ⟨_, by assumption, by assumption⟩
   · cases h
 · cases h
theorem foldl_push (bs : List UInt8) : ∀ s : ByteArray, (bs.map fun b => (b.toNat : Int)).foldl (fun r n => r.push (UInt8.ofNat n.toNat)) s = ⟨s.data ++ bs.toArray⟩ := by
 induction bs with
 | nil => intro s; simp
 | cons b bs ih =>
   intro s
   simp only [List.map_cons, List.foldl_cons, Int.toNat_natCast, UInt8.ofNat_toNat]
   rw [ih]
   congr 1
   apply Array.ext'
   simp [ByteArray.push]
theorem cont_slice {x : Value} {ys : List D} (h : cont σ v = some (sz, ys)) (hns : ∀ z, v ≠ .d (.str z)) (hv : vr w I ρ σ v x) : ∃ ad c, x = .slice ad ys.length c := by
 unfold cont at h
 split at h
 · cases h; exact lenV_rel (σ := σ) (v := .d (.list sz ys)) rfl hv
 · cases h; exact lenV_rel (σ := σ) (v := .ex sz ys) rfl hv
 · split at h
   · rename_i l _ sz' xs mv hσ
     cases h
     exact lenV_rel (σ := σ) (v := .row l) (by simp [lenV, hσ]) hv
   · cases h
 · split at h
   · rename_i l off m c _ sz' xs mv hσ
     cases h
     have hv' := hv
     simp only [vr] at hv
     have := (hv.2.2 _ _ _ hσ).1
     have hm : ((xs.drop off).take m).length = m := by simp; omega
     rw [hm]
     exact lenV_rel (σ := σ) (v := .sl l off m c) (by simp [lenV, hσ]) hv'
   · cases h
 · exact absurd rfl (hns _)
 · cases h
theorem bts_ok {s t : TypeId} {x : Operand} {bs : List UInt8} (ho : o.op = .convert s t x) (hs : isU8s P s = true) (ht : isStrT P t = true) (hx : cont σ (ev tm x) = some (1, bs.map u8) ∧ (∀ z, ev tm x ≠ .d (.str z)) ∨ ev tm x = .nils ∧ bs = []) :
    OpOk P o tm σ (.d (.str ⟨bs.toArray⟩)) tm σ := by
  intro w I ρ a hr hO
  obtain ⟨e, hu, he⟩ := isU8s_und hs
  have hxr := vr_ev hr x
  refine ⟨_, .string ⟨bs.toArray⟩, w, I, ρ, ?_, .inl rfl, by simp [vr, Dr], hr, hO, Ext.refl _ _ _ _⟩
  have hsl : ∃ ad c, a.eval x = .slice ad bs.length c := by
    rcases hx with ⟨hx, hns⟩ | ⟨hx, rfl⟩
    · have := cont_slice hx hns hxr
      simpa using this
    · rw [hx] at hxr
      simp only [vr] at hxr
      exact ⟨none, 0, hxr⟩
  obtain ⟨ad, c, hv⟩ := hsl
  have hconv : (Conv.bytesToString (.slice ad bs.length c)).run P w = .ok (.string ⟨bs.toArray⟩) w := by
    cases ad with
    | none =>
      have hb : bs = [] := by
        rcases hx with ⟨hx, _⟩ | ⟨_, h⟩
        · obtain ⟨news, h1, h2, h3⟩ := cont_rel (P := P) hx hxr hO
          have := h3 w rfl
          rw [hv] at this
          simp [Builtin.firstCells] at this
          have hl := DrN_len h1
          rw [this] at hl
          simp at hl
          exact List.eq_nil_of_length_eq_zero hl.symm
        · exact h
      subst hb
      simp [Conv.bytesToString]
      rfl
    | some ad =>
      have hload : (loadCells ad bs.length).run P w = .ok ((bs.map fun b => (b.toNat : Int)).map (Value.int .u8)).toArray w := by
        rcases hx with ⟨hx, _⟩ | ⟨hx, _⟩
        · obtain ⟨news, h1, h2, h3⟩ := cont_rel (P := P) hx hxr hO
          have h4 := h3 w rfl
          rw [hv] at h4
          simp only [Builtin.firstCells, List.length_map, Nat.mul_one] at h4
          rw [h4]
          have : news = (bs.map fun b => (b.toNat : Int)).map (Value.int .u8) := by
            clear h2 h3 h4 hx hv hxr
            revert h1
            induction bs generalizing news with
            | nil => intro h1; simpa [DrN] using h1
            | cons b bs ih =>
              intro h1
              simp only [List.map_cons, DrN] at h1
              obtain ⟨v, rest, g1, g2, rfl, g4⟩ := h1
              simp only [u8, Dr] at g1
              subst g1
              simp only [List.map_cons, Value.cells, List.cons_append, List.nil_append]
              rw [ih rest g4]
          rw [this]
        · rw [hx] at hxr
          simp only [vr] at hxr
          rw [hv] at hxr
          cases hxr
      rw [run_bytesToString w ad bs.length c _ hload, foldl_push]
      have he : (ByteArray.empty.data ++ bs.toArray) = bs.toArray := by show (#[] : Array UInt8) ++ bs.toArray = _; simp
      rw [he]
  simp only [execOp, ho, hv, Sem.run_bind, run_convert_bytes_string w s t e ad bs.length c hu he (isStrT_und ht), hconv, Result.andThen_ok]
  rfl
end
def ahead (L : List Nat) (i j : Nat) : Prop := L.idxOf i < L.idxOf j
theorem idx_ne {x i : Nat} {L : List Nat} (h : i ≠ x) : (x :: L).idxOf i = L.idxOf i + 1 := by
 have h' : (x == i) = false := by simp; exact fun e => h e.symm
 rw [List.idxOf_cons, h']; rfl
structure Ord (ops : Array Oper) (L : List Nat) : Prop where
  nodup : L.Nodup
  mem : ∀ i, i ∈ L ↔ i < ops.size
  edge : ∀ j ∈ L, ∀ o, ops[j]? = some o → ∀ e ∈ o.after, Region.binds .any e = true → ahead L e.on j
def edgesB (ops : Array Oper) : Bool := (List.range ops.size).all fun i => match ops[i]? with
  | some o => o.after.all fun e => !Region.binds .any e || Nat.blt e.on i
  | none => true
section go
variable {ops : Array Oper}
def unl (ops : Array Oper) (listed : Array Bool) : List Nat := (List.range ops.size).filter fun i => !listed.getD i true
theorem mem_unl {listed : Array Bool} : i ∈ unl ops listed ↔ i < ops.size ∧ listed.getD i true = false := by
 simp only [unl, List.mem_filter, List.mem_range, Bool.not_eq_true']
theorem getD_set {listed : Array Bool} {i j : Nat} (hi : i < listed.size) (d : Bool) : (listed.setIfInBounds i true).getD j d = if j = i then true else listed.getD j d := by
 by_cases hj : j = i
 · subst hj; simp [Array.getD, hi]
 · simp only [hj, if_false]
   simp only [Array.getD_eq_getD_getElem?, Array.getElem?_setIfInBounds_ne (Ne.symm hj)]
theorem go_ord (hE : edgesB ops = true) : ∀ (fuel t : Nat) (listed : Array Bool), listed.size = ops.size → (unl ops listed).length ≤ fuel →
    (Region.linearise.go .any ops fuel t listed []).Nodup ∧ (∀ i, i ∈ Region.linearise.go .any ops fuel t listed [] ↔ i < ops.size ∧ listed.getD i true = false) ∧
    ∀ j ∈ Region.linearise.go .any ops fuel t listed [], ∀ o, ops[j]? = some o → ∀ e ∈ o.after, Region.binds .any e = true → listed.getD e.on false = true ∨ ahead (Region.linearise.go .any ops fuel t listed []) e.on j := by
  have hedge : ∀ i o e, ops[i]? = some o → e ∈ o.after → Region.binds .any e = true → e.on < i := by
    intro i o e ho he hb
    have hi : i < ops.size := (Array.getElem?_eq_some_iff.1 ho).1
    have h1 := List.all_eq_true.1 hE i (List.mem_range.2 hi)
    rw [ho] at h1
    have h2 := (Array.all_eq_true_iff_forall_mem.1 h1) e he
    simpa [hb] using h2
  intro fuel
  induction fuel with
  | zero =>
    intro t listed hsz hlen
    have hnil : unl ops listed = [] := List.eq_nil_of_length_eq_zero (by omega)
    refine ⟨by simp [Region.linearise.go], fun i => ⟨fun h => by simp [Region.linearise.go] at h, fun ⟨h1, h2⟩ => ?_⟩, fun j hj => by simp [Region.linearise.go] at hj⟩
    have : i ∈ unl ops listed := mem_unl.2 ⟨h1, h2⟩
    rw [hnil] at this; cases this
  | succ fuel ih =>
    intro t listed hsz hlen
    have hgo : Region.linearise.go .any ops (fuel + 1) t listed [] = (match (Region.ready .any ops listed)[t % (Region.ready .any ops listed).length]? with
      | some i => Region.linearise.go .any ops fuel (t / (Region.ready .any ops listed).length) (listed.setIfInBounds i true) [i]
      | none => [].reverse) := rfl
    cases hi : (Region.ready .any ops listed)[t % (Region.ready .any ops listed).length]? with
    | none =>
      have hnil : Region.ready .any ops listed = [] := by
        cases hr : Region.ready .any ops listed with
        | nil => rfl
        | cons x xs =>
          rw [hr] at hi
          have hlt : t % (x :: xs).length < (x :: xs).length := Nat.mod_lt _ (by simp)
          simp at hi
          simp at hlt
          omega
      rw [hgo, hi]
      have hall : ∀ i, i < ops.size → listed.getD i true = true := by
        intro i
        induction i using Nat.strongRecOn with
        | _ i ihi =>
          intro hlt
          cases hl : listed.getD i true with
          | true => rfl
          | false =>
            exfalso
            have hmem : i ∈ Region.ready .any ops listed := by
              unfold Region.ready
              simp only [List.mem_filter, List.mem_range, hlt, hl, true_and, Bool.not_false, Bool.true_and]
              rw [Array.getElem?_eq_getElem hlt]
              simp only [Option.map_some, Option.getD_some]
              rw [Array.all_eq_true_iff_forall_mem]
              intro e he
              cases hb : Region.binds .any e with
              | false => rfl
              | true =>
                have hlt2 := hedge i _ e (Array.getElem?_eq_getElem hlt) he hb
                have h3 := ihi e.on hlt2 (by omega)
                have hb2 : e.on < listed.size := by omega
                simp only [Array.getD_eq_getD_getElem?, Array.getElem?_eq_getElem hb2, Option.getD_some] at h3 ⊢
                simp [h3]
            rw [hnil] at hmem; cases hmem
      refine ⟨by simp, fun i => ⟨fun h => by simp at h, fun ⟨h1, h2⟩ => ?_⟩, fun j hj => by simp at hj⟩
      rw [hall i h1] at h2; cases h2
    | some i =>
      rw [hgo, hi]
      simp only []
      rw [linearise_go_acc, List.reverse_singleton, List.singleton_append]
      have hmem := List.mem_of_getElem? hi
      unfold Region.ready at hmem
      simp only [List.mem_filter, List.mem_range, Bool.and_eq_true, Bool.not_eq_true'] at hmem
      obtain ⟨hlt, hl, haft⟩ := hmem
      have hlt' : i < listed.size := by omega
      have hun : (unl ops (listed.setIfInBounds i true)).length ≤ fuel := by
        have : (unl ops (listed.setIfInBounds i true)).length < (unl ops listed).length := by
          have hsub : unl ops (listed.setIfInBounds i true) = (unl ops listed).filter fun x => x != i := by
            unfold unl
            rw [List.filter_filter]
            apply List.filter_congr
            intro x _
            rw [getD_set hlt']
            by_cases hx : x = i <;> simp [hx]
          rw [hsub]
          apply List.length_filter_lt_length_iff_exists.2
          exact ⟨i, mem_unl.2 ⟨hlt, hl⟩, by simp⟩
        omega
      obtain ⟨n1, n2, n3⟩ := ih (t / (Region.ready .any ops listed).length) (listed.setIfInBounds i true) (by simpa using hsz) hun
      refine ⟨List.nodup_cons.2 ⟨fun hx => ?_, n1⟩, fun x => ?_, fun j hj o ho e he hb => ?_⟩
      · have := ((n2 i).1 hx).2
        rw [getD_set hlt'] at this
        simp at this
      · rw [List.mem_cons, n2 x, getD_set hlt']
        by_cases hx : x = i
        · subst hx; simp [hlt, hl]
        · simp [hx]
      · by_cases hji : j = i
        · subst hji
          left
          rw [ho] at haft
          simp only [Option.map_some, Option.getD_some] at haft
          have := (Array.all_eq_true_iff_forall_mem.1 haft) e he
          simpa [hb] using this
        · have hj' : j ∈ Region.linearise.go .any ops fuel (t / (Region.ready .any ops listed).length) (listed.setIfInBounds i true) [] := by
            rcases List.mem_cons.1 hj with h | h
            · exact absurd h hji
            · exact h
          have hjpos : ((i :: Region.linearise.go .any ops fuel (t / (Region.ready .any ops listed).length) (listed.setIfInBounds i true) []).idxOf j) = (Region.linearise.go .any ops fuel (t / (Region.ready .any ops listed).length) (listed.setIfInBounds i true) []).idxOf j + 1 := by
            exact idx_ne hji
          by_cases hei : e.on = i
          · right
            unfold ahead
            rw [hjpos, hei]
            simp
          · rcases n3 j hj' o ho e he hb with h | h
            · left
              rw [getD_set hlt'] at h
              simpa [hei] using h
            · right
              unfold ahead at h ⊢
              rw [hjpos, idx_ne hei]
              omega
theorem ord_of {mixed : Bool} (hm : mixed = true) (hE : edgesB ops = true) (t : Nat) : Ord ops (Region.schedule mixed ops t) := by
 subst hm
 have h := go_ord hE ops.size t (Array.replicate ops.size false) (by simp) (by
   unfold unl
   exact Nat.le_trans (List.length_filter_le ..) (by simp))
 have he : Region.schedule true ops t = Region.linearise.go .any ops ops.size t (Array.replicate ops.size false) [] := by
   simp [Region.schedule, Region.linearise]
 rw [he]
 have hrep : ∀ i, i < ops.size → ∀ d, (Array.replicate ops.size false).getD i d = false := by
   intro i hi d
   simp [Array.getD_eq_getD_getElem?, hi]
 refine ⟨h.1, fun i => ?_, fun j hj o ho e he2 hb => ?_⟩
 · rw [h.2.1 i]
   constructor
   · exact fun x => x.1
   · exact fun x => ⟨x, hrep i x _⟩
 · rcases h.2.2 j hj o ho e he2 hb with h1 | h1
   · exfalso
     by_cases hx : e.on < ops.size
     · rw [hrep _ hx] at h1; cases h1
     · simp [Array.getD_eq_getD_getElem?, hx] at h1
   · exact h1
end go
section runs
variable {S : Type} (St : Nat → S → S → Prop)
def Run : List Nat → S → S → Prop
  | [], s, s' => s' = s
  | i :: L, s, s' => ∃ s1, St i s s1 ∧ Run L s1 s'
variable {St}
theorem Run.push {dep : Nat → Nat → Bool} (hc : ∀ i j, dep i j = false → ∀ s a b, St i s a → St j a b → ∃ a', St j s a' ∧ St i a' b) {x : Nat} : ∀ (A : List Nat) {B : List Nat} {s a s' : S}, (∀ y ∈ A, dep x y = false) →
   St x s a → Run St (A ++ B) a s' → Run St (A ++ x :: B) s s'
 | [], B, s, a, s', _, h, hr => ⟨a, h, hr⟩
 | y :: A, B, s, a, s', hd, h, hr => by
   obtain ⟨s1, h1, h2⟩ := hr
   obtain ⟨a', h3, h4⟩ := hc x y (hd y (by simp)) s a s1 h h1
   exact ⟨a', h3, Run.push hc A (fun z hz => hd z (by simp [hz])) h4 h2⟩
theorem idx_mid {A B : List Nat} {x i : Nat} (hi : i ≠ x) : (A ++ x :: B).idxOf i = if i ∈ A then (A ++ B).idxOf i else (A ++ B).idxOf i + 1 := by
 rw [List.idxOf_append, List.idxOf_append]
 by_cases h : i ∈ A
 · simp [h]
 · simp only [h, if_false]
   rw [idx_ne hi]
   omega
theorem idx_in {A B : List Nat} {i j : Nat} (hi : i ∈ A) (hj : j ∉ A) : (A ++ B).idxOf i < (A ++ B).idxOf j := by
 rw [List.idxOf_append, List.idxOf_append]
 simp only [hi, hj, if_true, if_false]
 have := List.idxOf_lt_length_iff.2 hi
 omega
theorem Run.turn {dep : Nat → Nat → Bool} (hsym : ∀ i j, dep i j = dep j i) (hc : ∀ i j, dep i j = false → ∀ s a b, St i s a → St j a b → ∃ a', St j s a' ∧ St i a' b) : ∀ (L' L : List Nat) {s s' : S}, L.Nodup → L'.Nodup → (∀ i, i ∈ L ↔ i ∈ L') →
    (∀ i j, i ∈ L → j ∈ L → dep i j = true → ahead L i j → ahead L' i j) → Run St L' s s' → Run St L s s'
  | [], L, s, s', _, _, hm, _, h => by
    have : L = [] := List.eq_nil_iff_forall_not_mem.2 fun x hx => by simpa using (hm x).1 hx
    subst this; exact h
  | x :: L', L, s, s', hn, hn', hm, hd, h => by
    obtain ⟨a, h1, h2⟩ := h
    have hx : x ∈ L := (hm x).2 (by simp)
    obtain ⟨A, B, rfl⟩ := List.append_of_mem hx
    have hn2 : (A ++ B).Nodup ∧ x ∉ A ++ B := by
      rw [List.perm_middle.nodup_iff] at hn
      exact ⟨(List.nodup_cons.1 hn).2, (List.nodup_cons.1 hn).1⟩
    have hxA : x ∉ A := fun hx => hn2.2 (by simp [hx])
    have hne : ∀ i, i ∈ A ++ B → i ≠ x := fun i hi e => hn2.2 (e ▸ hi)
    refine Run.push hc A (fun y hy => ?_) h1 (Run.turn hsym hc L' (A ++ B) hn2.1 (List.nodup_cons.1 hn').2 (fun i => ?_) (fun i j hi hj hdep hij => ?_) h2)
    · cases hdep : dep x y with
      | false => rfl
      | true =>
        exfalso
        have h3 := hd y x (by simp [hy]) hx (by rw [hsym]; exact hdep) (idx_in hy hxA)
        unfold ahead at h3
        simp at h3
    · have h3 := hm i
      simp only [List.mem_append, List.mem_cons] at h3 ⊢
      constructor
      · intro h4
        have h5 : i ≠ x := hne i (by simpa using h4)
        have := h3.1 (by rcases h4 with h4 | h4 <;> simp [h4])
        rcases this with h | h
        · exact absurd h h5
        · exact h
      · intro h4
        have h5 : i ≠ x := fun e => (List.nodup_cons.1 hn').1 (e ▸ h4)
        rcases h3.2 (.inr h4) with h | h | h
        · exact .inl h
        · exact absurd h h5
        · exact .inr h
    · have hix := hne i hi
      have hjx := hne j hj
      have h3 : ahead (A ++ x :: B) i j := by
        unfold ahead at hij ⊢
        rw [idx_mid hix, idx_mid hjx]
        by_cases h4 : i ∈ A
        · simp only [h4, if_true]; split <;> omega
        · by_cases h5 : j ∈ A
          · exfalso
            have := idx_in (B := B) h5 h4
            omega
          · simp only [h4, h5, if_false]; omega
      have h4 := hd i j (by rcases List.mem_append.1 hi with h | h <;> simp [h]) (by rcases List.mem_append.1 hj with h | h <;> simp [h]) hdep h3
      unfold ahead at h4 ⊢
      rw [idx_ne hix, idx_ne hjx] at h4
      omega
end runs
theorem ev_put {d : Option Tmp} {x : Operand} (h : ∀ t, d = some t → x ≠ .tmp t) : ev (put tm d v) x = ev tm x := by
 cases d with
 | none => rfl
 | some t =>
   cases x with
   | tmp u =>
     have hne : t ≠ u := fun e => h t rfl (e ▸ rfl)
     simp [ev, put, List.getElem?_set_ne hne]
   | _ => rfl
theorem put_comm {x y : Option Tmp} {v u : V} (h : ∀ d, x = some d → y ≠ some d) : put (put tm x v) y u = put (put tm y u) x v := by
 cases x with
 | none => rfl
 | some d =>
   cases y with
   | none => rfl
   | some e =>
     have hne : d ≠ e := fun he => h d rfl (he ▸ rfl)
     simp only [put]
     exact List.set_comm _ _ hne
theorem wantA_put {d : Option Tmp} (h : ∀ t, d = some t → t ∉ o.looksAt ops) : wantA ops o (put tm d v) = wantA ops o tm := by
  cases d with
  | none => rfl
  | some t =>
    have h1 := h t rfl
    unfold wantA
    cases hg : o.guard with
    | none => rfl
    | some p =>
      obtain ⟨j, want⟩ := p
      simp only []
      cases hd : (ops[j]?).bind (·.dst) with
      | none => rfl
      | some u =>
        have hne : t ≠ u := by
          intro e
          apply h1
          simp [Oper.looksAt, hg, hd, e]
        simp only [put]
        rw [List.getElem?_set_ne hne]
def valsOf (tm : List V) (o : Oper) : List V := o.op.operands.toList.map (ev tm)
theorem valsOf_put {d : Option Tmp} (h : ∀ t, d = some t → t ∉ o.looksAt ops) : valsOf (put tm d v) o = valsOf tm o := by
 unfold valsOf
 apply List.map_congr_left
 intro x hx
 apply ev_put
 intro t ht e
 subst e
 apply h t ht
 simp only [Oper.looksAt, List.mem_append, List.mem_filterMap]
 left
 exact ⟨_, hx, rfl⟩
theorem partsA_congr {t : TypeId} : ∀ {ps : List (Nat × Operand)}, (∀ x ∈ ps, ev tm x.2 = ev tm' x.2) → partsA P tm t ps = partsA P tm' t ps
 | [], _ => rfl
 | (i, x) :: ps, h => by
   simp only [partsA]
   rw [h (i, x) (by simp), partsA_congr (ps := ps) fun y hy => h y (by simp [hy])]
theorem mop_congr (h : valsOf tm o = valsOf tm' o) : mop P tm σ o = mop P tm' σ o := by
 have h' : ∀ x ∈ o.op.operands.toList, ev tm x = ev tm' x := List.map_inj_left.1 h
 clear h
 obtain ⟨dst, op, type, pos, after, guard⟩ := o
 cases op <;> simp only [Op.operands] at h'
 case store t x y => simp [mop, storeA, h' x (by simp), h' y (by simp)]
 case box t x => simp [mop, boxA, h' x (by simp)]
 case alloc t => rfl
 case build t ps => simp only [mop, buildA]; rw [partsA_congr (tm' := tm') (fun x hx => h' x.2 (List.mem_map.2 ⟨x, hx, rfl⟩))]
 case buildSlice t l ps => simp only [mop, buildSliceA]; rw [partsA_congr (tm' := tm') (fun x hx => h' x.2 (List.mem_map.2 ⟨x, hx, rfl⟩))]
 case move x => simp [mop, qop, h' x (by simp)]
 case assign x => simp [mop, qop, h' x (by simp)]
 case pick c x y => simp [mop, qop, h' c (by simp), h' x (by simp), h' y (by simp)]
 case extract x i => simp [mop, qop, h' x (by simp)]
 case nilCheck x => simp [mop, qop, h' x (by simp)]
 case binOp op t x y u => simp [mop, qop, h' x (by simp), h' y (by simp)]
 case unOp op t x => simp [mop, qop, h' x (by simp)]
 case convert s t x => simp [mop, qop, h' x (by simp)]
 case fieldAddr t x f => simp [mop, qop, h' x (by simp)]
 case field t x f => simp [mop, qop, h' x (by simp)]
 case load t x => simp [mop, qop, h' x (by simp)]
 case makeFunc f a b =>
  cases f with
  | func g =>
    simp only [mop, qop]
    rw [List.map_congr_left (g := ev tm') (l := a.toList) fun x hx => h' x (by simp; left; simpa using hx), List.map_congr_left (g := ev tm') (l := b.toList) fun x hx => h' x (by simp; right; simpa using hx)]
  | _ => rfl
 case call c =>
  obtain ⟨callee, args, ts⟩ := c
  cases callee with
  | builtin b =>
    simp only [mop, qop]
    rw [List.map_congr_left (g := ev tm') (l := args.toList) fun x hx => h' x (by simp [Call.operands]; simpa using hx)]
  | _ => rfl
 all_goals rfl
section
variable (P : Program) (f : FuncId) (ro : Option Nat) (n : Nat) (k : List Item) (df : List Nat) (Q : AE → Store → Prop) (ops : Array Oper)
def Sem (o : Oper) (i : Nat) (vs : List V) (σ : Store) (v : V) (σ' : Store) : Prop :=
  ∀ (rest : List Nat) (tm : List V), valsOf tm o = vs → wantA ops o tm = some true → AW P f ro n (.inRegion ops rest :: k) (put tm o.dst v) σ' df Q → AW P f ro n (.inRegion ops (i :: rest) :: k) tm σ df Q
end
section
variable {P : Program} {f : FuncId} {ro : Option Nat} {n : Nat} {k : List Item} {df : List Nat} {Q : AE → Store → Prop} {ops : Array Oper}
theorem AW.order {id : Nat} (hm : P.follows .mixedOrders = true) (hE : edgesB ops = true) (h : ∀ L, Ord ops L → AW P f ro n (.inRegion ops L :: k) tm σ df Q) : AW P f ro n (.code (.region id ops true) :: k) tm σ df Q := by
 intro w I ρ a rb hr hb hn
 have hI : ∀ b, I b → I b ∧ w.drew.heap[b]? = w.heap[b]? := fun b hb => ⟨hb, rfl⟩
 have hS : ∀ l, l < σ.length → Same ρ σ ρ σ l := fun l hl => ⟨hl, fun o' h1 h2 => ⟨rfl, o', h1, h2, rfl⟩⟩
 have hr' : Rel w.drew I ρ σ tm df a := ⟨vrL_all hI hS hr.tms, ⟨fun l o ho => orel_all hI hS rfl (fun _ _ => rfl) (hr.ors.objs l o ho), hr.ors.inj, hr.ors.flt, hr.ors.imm⟩, hr.dfs⟩
 have hx := Ext.refl w I ρ σ
 have hX : Ext n w I ρ σ w.drew I ρ σ := ⟨Nat.le_refl _, rfl, rfl, rfl, fun _ _ _ => rfl, hx.immI, hx.immN, hx.footN, hn, fun l _ => hx.alive l (by omega), fun l o' hl => hx.fixed l o' (by omega), fun l o hl => hx.stay l o (by omega)⟩
 exact .step (fun cs => st_region_draw) ((h _ (ord_of hm hE _) w.drew I ρ a rb hr' hb hn).mono fun e w' hf => hf.trans hX)
end
section
variable {P : Program} {f : FuncId} {ro : Option Nat} {n : Nat} {k : List Item} {df : List Nat} {Q : AE → Store → Prop} {ops : Array Oper}
theorem sem_mop {σ σ' : Store} (hi : ops[i]? = some o) (h : mop P tm σ o = some (v, σ')) : Sem P f ro n k df Q ops o i (valsOf tm o) σ v σ' := by
 intro rest tm' hv hw hn
 have h1 : mop P tm' σ o = some (v, σ') := by rw [mop_congr hv]; exact h
 obtain ⟨h2, h3⟩ := mop_ok h1
 exact .op hi hw h3 h2 hn
theorem mop_of_qop (h : qop P tm σ o.op = some v) : mop P tm σ o = some (v, σ) := by
 obtain ⟨dst, op, type, pos, after, guard⟩ := o
 unfold mop
 simp only [] at h ⊢
 split
 · simp [qop] at h
 · simp [qop] at h
 · simp [qop] at h
 · simp [qop] at h
 · simp [qop] at h
 · simp [h]
theorem Run.append {S : Type} {St : Nat → S → S → Prop} : ∀ {A B : List Nat} {s s1 s2 : S}, Run St A s s1 → Run St B s1 s2 → Run St (A ++ B) s s2
 | [], _, _, _, _, h, h' => by cases h; exact h'
 | _ :: _, _, _, _, _, ⟨a, h1, h2⟩, h' => ⟨a, h1, h2.append h'⟩
theorem Run.one {S : Type} {St : Nat → S → S → Prop} {L : List Nat} {s s1 s2 : S} (h : St i s s1) (h' : Run St L s1 s2) : Run St (i :: L) s s2 := ⟨s1, h, h'⟩
end
def preds (ops : Array Oper) (X : List (Nat × Nat)) (j : Nat) : List Nat :=
  (match ops[j]? with | some o => o.after.toList.filterMap fun e => if Region.binds .any e then some e.on else none | none => []) ++ X.filterMap fun p => if p.2 = j then some p.1 else none
def clos (ops : Array Oper) (X : List (Nat × Nat)) : List Nat → List Nat → List Nat
  | [], B => B
  | j :: L, B => clos ops X L (B.set j ((preds ops X j).foldl (fun m p => m ||| (2 ^ p ||| B.getD p 0)) 0))
theorem preds_ok {X : List (Nat × Nat)} {L : List Nat} (hL : Ord ops L) (hX : ∀ p ∈ X, ahead L p.1 p.2) {j p : Nat} (hj : j ∈ L) (hp : p ∈ preds ops X j) : ahead L p j := by
 unfold preds at hp
 rcases List.mem_append.1 hp with h | h
 · cases ho : ops[j]? with
   | none => simp [ho] at h
   | some o =>
     simp only [ho, List.mem_filterMap] at h
     obtain ⟨e, he, h2⟩ := h
     split at h2
     · rename_i hb; cases h2; exact hL.edge j hj o ho e (by simpa using he) hb
     · cases h2
 · simp only [List.mem_filterMap] at h
   obtain ⟨q, hq, h2⟩ := h
   split at h2
   · rename_i hb; cases h2; subst hb; exact hX q hq
   · cases h2
theorem fold_ok {L : List Nat} {B : List Nat} (hB : ∀ j i, (B.getD j 0).testBit i = true → ahead L i j) {j : Nat} : ∀ (ps : List Nat) (m : Nat), (∀ p ∈ ps, ahead L p j) → (∀ i, m.testBit i = true → ahead L i j) →
   ∀ i, (ps.foldl (fun m p => m ||| (2 ^ p ||| B.getD p 0)) m).testBit i = true → ahead L i j
 | [], m, _, hm, i, h => hm i h
 | p :: ps, m, hp, hm, i, h => by
   refine fold_ok hB ps _ (fun q hq => hp q (by simp [hq])) (fun x hx => ?_) i h
   simp only [Nat.testBit_or, Bool.or_eq_true, Nat.testBit_two_pow, decide_eq_true_eq] at hx
   rcases hx with hx | hx | hx
   · exact hm x hx
   · subst hx; exact hp _ (by simp)
   · exact Nat.lt_trans (hB p x hx) (hp p (by simp))
theorem clos_ok {X : List (Nat × Nat)} {L : List Nat} (hL : Ord ops L) (hX : ∀ p ∈ X, ahead L p.1 p.2) : ∀ (M : List Nat) (B : List Nat), (∀ j ∈ M, j ∈ L) → (∀ j i, (B.getD j 0).testBit i = true → ahead L i j) →
    ∀ j i, ((clos ops X M B).getD j 0).testBit i = true → ahead L i j
  | [], B, _, hB => hB
  | x :: M, B, hM, hB => by
    refine clos_ok hL hX M _ (fun j hj => hM j (by simp [hj])) fun j i h => ?_
    by_cases hjx : j = x
    · subst hjx
      by_cases hlt : j < B.length
      · rw [List.getD_eq_getElem?_getD, List.getElem?_set_self hlt, Option.getD_some] at h
        exact fold_ok hB _ 0 (fun p hp => preds_ok hL hX (hM j (by simp)) hp) (fun i h => by simp at h) i h
      · rw [List.set_eq_of_length_le (by omega)] at h
        exact hB j i h
    · rw [List.getD_eq_getElem?_getD, List.getElem?_set_ne (Ne.symm hjx), ← List.getD_eq_getElem?_getD] at h
      exact hB j i h
def pairsAll (p : Nat → Nat → Bool) : List Nat → Bool
  | [] => true
  | a :: L => (L.all (p a)) && pairsAll p L
theorem pairsAll_ok {p : Nat → Nat → Bool} : ∀ {L : List Nat}, pairsAll p L = true → ∀ a b, a ∈ L → b ∈ L → ahead L a b → p a b = true
 | [], _, _, _, ha, _, _ => by cases ha
 | x :: L, h, a, b, ha, hb, hab => by
   simp only [pairsAll, Bool.and_eq_true] at h
   have hbx : b ≠ x := by
     intro e; subst e
     unfold ahead at hab
     simp at hab
   have hb' : b ∈ L := by rcases List.mem_cons.1 hb with e | e; exact absurd e hbx; exact e
   by_cases hax : a = x
   · subst hax; exact List.all_eq_true.1 h.1 b hb'
   · have ha' : a ∈ L := by rcases List.mem_cons.1 ha with e | e; exact absurd e hax; exact e
     refine pairsAll_ok h.2 a b ha' hb' ?_
     unfold ahead at hab ⊢
     rw [idx_ne hax, idx_ne hbx] at hab
     omega
theorem ahead_or {L : List Nat} (hL : Ord ops L) (i j : Nat) (hi : i < ops.size) (hj : j < ops.size) (hne : i ≠ j) : ahead L i j ∨ ahead L j i := by
 unfold ahead
 have h1 := (hL.mem i).2 hi
 have h2 := (hL.mem j).2 hj
 have h3 : L.idxOf i ≠ L.idxOf j := by
  intro e
  apply hne
  have e1 := List.getElem_idxOf (List.idxOf_lt_length_iff.2 h1)
  have e2 := List.getElem_idxOf (List.idxOf_lt_length_iff.2 h2)
  rw [← e1, ← e2]
  simp only [e]
 omega
section
variable {P : Program} {f : FuncId} {ro : Option Nat} {n : Nat} {k : List Item} {df : List Nat} {Q : AE → Store → Prop} {ops : Array Oper} {tm : List V} {σ : Store}
end
mutual
def D.scal : D → Bool
  | .list _ [] => true
  | .list _ _ => false
  | .agg cs => D.scalL cs
  | _ => true
def D.scalL : List D → Bool
  | [] => true
  | d :: ds => d.scal && D.scalL ds
end
mutual
def V.scal : V → Bool
  | V.d x => x.scal
  | .ex _ [] => true
  | .ex _ _ => false
  | .ep _ _ _ => false
  | .fn _ a b => V.scalL a && V.scalL b
  | .tuple vs => V.scalL vs
  | .agg vs => V.scalL vs
  | _ => true
def V.scalL : List V → Bool
  | [] => true
  | v :: vs => v.scal && V.scalL vs
end
def O.scal : O → Bool
  | .cells cs => V.scalL cs
  | .row _ xs _ => D.scalL xs
  | .map es => es.all fun e => e.2.scal
  | .loop _ _ _ tm _ _ _ => V.scalL tm
  | _ => true
section
variable {w : World} {I I' : Nat → Prop} {ρ : LM} {σ : Store}
mutual
theorem Dr_scal : ∀ (d : D) (x : Value), d.scal = true → Dr w I d x → Dr w I' d x
 | .int _ _, x, _, h => by simpa [Dr] using h
 | .bool _, x, _, h => by simpa [Dr] using h
 | .str _, x, _, h => by simpa [Dr] using h
 | .raw _, x, _, h => by simpa [Dr] using h
 | .list _ [], x, _, h => by simpa [Dr] using h
 | .list _ (_ :: _), x, hs, _ => by simp [D.scal] at hs
 | .agg cs, x, hs, h => by
   simp only [Dr, D.scal] at *
   obtain ⟨vs, h1, h2⟩ := h
   exact ⟨vs, h1, DrL_scal cs vs hs h2⟩
theorem DrL_scal : ∀ (ds : List D) (xs : List Value), D.scalL ds = true → DrL w I ds xs → DrL w I' ds xs
 | [], xs, _, h => by simpa [DrL] using h
 | d :: ds, xs, hs, h => by
   simp only [DrL, D.scalL, Bool.and_eq_true] at *
   obtain ⟨v, vs', h1, h2, h3, h4⟩ := h
   exact ⟨v, vs', h1, h2, Dr_scal d v hs.1 h3, DrL_scal ds vs' hs.2 h4⟩
end
theorem DrE_scal {sz b : Nat} : ∀ {o : Nat} {ds : List D}, D.scalL ds = true → DrE w I sz b o ds → DrE w I' sz b o ds
 | _, [], _, _ => by simp [DrE]
 | o, d :: ds, hs, h => by
   simp only [DrE, D.scalL, Bool.and_eq_true] at *
   obtain ⟨⟨v, h1, h2⟩, h3⟩ := h
   exact ⟨⟨v, Dr_scal d v hs.1 h1, h2⟩, DrE_scal hs.2 h3⟩
mutual
theorem vr_scal : ∀ (v : V) (x : Value), v.scal = true → vr w I ρ σ v x → vr w I' ρ σ v x
 | .d d, x, hs, h => by simp only [vr, V.scal] at *; exact Dr_scal d x hs h
 | .undef, x, _, h => by simp [vr]
 | .nils, x, _, h => by simpa [vr] using h
 | .ex _ [], x, _, h => by simpa [vr, Dr] using h
 | .ex _ (_ :: _), x, hs, _ => by simp [V.scal] at hs
 | .ep _ _ _, x, hs, _ => by simp [V.scal] at hs
 | .ptr _ _ _, x, _, h => by simpa [vr] using h
 | .row _, x, _, h => by simpa [vr] using h
 | .sl _ _ _ _, x, _, h => by simpa [vr] using h
 | .yield _, x, _, h => by simpa [vr] using h
 | .map _, x, _, h => by simpa [vr] using h
 | .fn f a b, x, hs, h => by
   simp only [vr, V.scal, Bool.and_eq_true] at *
   obtain ⟨fs, cs, h1, h2, h3⟩ := h
   exact ⟨fs, cs, h1, vrL_scal a fs hs.1 h2, vrL_scal b cs hs.2 h3⟩
 | .tuple vs, x, hs, h => by
   simp only [vr, V.scal] at *
   obtain ⟨xs, h1, h2⟩ := h
   exact ⟨xs, h1, vrL_scal vs xs hs h2⟩
 | .agg vs, x, hs, h => by
   simp only [vr, V.scal] at *
   obtain ⟨xs, h1, h2, h3⟩ := h
   exact ⟨xs, h1, vrL_scal vs xs hs h2, h3⟩
theorem vrL_scal : ∀ (vs : List V) (xs : List Value), V.scalL vs = true → vrL w I ρ σ vs xs → vrL w I' ρ σ vs xs
 | [], xs, _, h => by simpa [vrL] using h
 | v :: vs, xs, hs, h => by
   simp only [vrL, V.scalL, Bool.and_eq_true] at *
   obtain ⟨x, xs', h1, h2, h3⟩ := h
   exact ⟨x, xs', h1, vr_scal v x hs.1 h2, vrL_scal vs xs' hs.2 h3⟩
end
theorem orel_scal {o : O} (hs : o.scal = true) (h : orel w I ρ σ l o) : orel w I' ρ σ l o := by
 cases o with
 | dead => simp [orel]
 | defd => simpa [orel] using h
 | cells cs =>
   simp only [orel] at *
   obtain ⟨L, C, T, fz, h1, h2, h3, h4, h5, h6⟩ := h
   exact ⟨L, C, T, fz, h1, h2, h3, h4, vrL_scal _ _ hs h5, h6⟩
 | row sz xs mv =>
   simp only [orel] at *
   rcases h with h | ⟨L, C, T, fz, h1, h2, h3, h4, h5, h6, h7, h8⟩
   · exact .inl h
   · exact .inr ⟨L, C, T, fz, h1, h2, h3, h4, h5, h6, h7, DrE_scal hs h8⟩
 | map es =>
   simp only [orel] at *
   obtain ⟨L, E, n, h1, h2, h3, h4, h5, h6⟩ := h
   refine ⟨L, E, n, h1, h2, h3, h4, fun j e hj => ?_, h6⟩
   obtain ⟨k1, x, k2, k3, k4⟩ := h5 j e hj
   exact ⟨k1, x, k2, k3, Dr_scal _ _ (List.all_eq_true.1 hs x (List.mem_of_getElem? k2)) k4⟩
 | loop st pend fn tm params assign body =>
   simp only [orel] at *
   obtain ⟨L, tmps, db, h1, h2, h3⟩ := h
   exact ⟨L, tmps, db, h1, h2, vrL_scal _ _ hs h3⟩
end
def viewV (σ : Store) : V → Option D
  | .d d => some d
  | .ex sz xs => some (.list sz xs)
  | .row l => match σ[l]? with | some (.row sz xs _) => some (.list sz xs) | _ => none
  | .sl l off n _ => match σ[l]? with | some (.row sz xs _) => some (.list sz ((xs.take (off + n)).drop off)) | _ => none
  | _ => none
def viewL (σ : Store) : List V → Option (List V)
  | [] => some []
  | v :: vs => match viewV σ v with
    | some d => (viewL σ vs).map (.d d :: ·)
    | none => none
section
variable {w : World} {I : Nat → Prop} {ρ : LM} {σ : Store}
def lent (I : Nat → Prop) (ρ : LM) (σ : Store) (b : Nat) : Prop := I b ∨ foot ρ σ b
theorem view_ok {A : V} {d : D} {x : Value} (hO : ORel w I ρ σ) (h : viewV σ A = some d) (hv : vr w I ρ σ A x) : Dr w (lent I ρ σ) d x := by
  have hI : ∀ b, I b → lent I ρ σ b ∧ w.heap[b]? = w.heap[b]? := fun b hb => ⟨.inl hb, rfl⟩
  unfold viewV at h
  split at h
  · cases h; simp only [vr] at hv; exact Dr_mono hI _ _ hv
  · cases h; simp only [vr] at hv; obtain ⟨a, _, hv⟩ := hv; exact Dr_mono hI _ _ hv
  · rename_i l
    split at h
    · rename_i sz xs mv hl
      cases h
      simp only [vr] at hv
      have h3 := hv.2.2 sz xs mv hl
      simp only [Dr]
      rcases h3 with ⟨h4, a, rfl⟩ | ⟨L, hL, h5, rfl⟩
      · refine ⟨a, 0, by rw [h4], by omega, by simp [maxLen], .inl (List.eq_nil_of_length_eq_zero h4)⟩
      · have ho := hO.objs l _ hl
        simp only [orel] at ho
        rcases ho with ⟨h6, h7⟩ | ⟨L', C, T, fz, h1, h2, h3, h4, h6, h7, h8, h9⟩
        · rw [hL] at h6; cases h6
        · rw [hL] at h1; cases h1
          refine ⟨_, L.cap - 0, rfl, by omega, by omega, .inr ⟨L.b, L.o + 0 * L.sz, rfl, .inr ⟨l, _, L, hl, by simp, hL, rfl⟩, ?_⟩⟩
          have : L.o + 0 * L.sz = L.o := by omega
          rw [this]
          exact DrE_mono hI sz L.b rfl _ _ h9
    · cases h
  · rename_i l off len _
    split at h
    · rename_i sz xs mv hl
      cases h
      simp only [vr] at hv
      obtain ⟨h0, h3, _⟩ := hv.2.2 sz xs mv hl
      have hlen : ((xs.take (off + len)).drop off).length = len := by simp; omega
      simp only [Dr]
      rw [hlen]
      rcases h3 with ⟨h4, a, rfl⟩ | ⟨L, hL, h5, rfl⟩
      · refine ⟨a, 0, by rw [h4], by omega, by simp [maxLen], .inl (List.eq_nil_of_length_eq_zero (by rw [hlen]; exact h4))⟩
      · have ho := hO.objs l _ hl
        simp only [orel] at ho
        rcases ho with ⟨h6, h7⟩ | ⟨L', C, T, fz, h1, h2, h3, h4, h6, h7, h8, h9⟩
        · rw [hL] at h6; cases h6
        · rw [hL] at h1; cases h1
          refine ⟨_, L.cap - off, rfl, by omega, by omega, .inr ⟨L.b, L.o + off * L.sz, rfl, .inr ⟨l, _, L, hl, by simp, hL, rfl⟩, ?_⟩⟩
          rw [h2]
          exact DrE_mono hI sz L.b rfl _ _ (DrE_piece h9)
    · cases h
  · cases h
theorem viewL_ok (hO : ORel w I ρ σ) : ∀ {vs ds : List V} {xs : List Value}, viewL σ vs = some ds → vrL w I ρ σ vs xs → vrL w (lent I ρ σ) ρ [] ds xs
 | [], ds, xs, h, hv => by simp only [viewL, Option.some.injEq] at h; subst h; simpa [vrL] using hv
 | v :: vs, ds, xs, h, hv => by
   simp only [viewL] at h
   split at h
   · rename_i d hd
     simp only [Option.map_eq_some_iff] at h
     obtain ⟨es, h1, rfl⟩ := h
     simp only [vrL] at hv ⊢
     obtain ⟨x, xs', h2, h3, h4⟩ := hv
     exact ⟨x, xs', h2, by simp only [vr]; exact view_ok hO hd h3, viewL_ok hO h1 h4⟩
   · cases h
theorem lent_orel (hO : ORel w I ρ σ) : ORel w (lent I ρ σ) ρ [] where
 objs l o h := by simp at h
 inj l l' L L' h := by obtain ⟨o, h, _⟩ := h; simp at h
 flt b h := by obtain ⟨l, o, L, h, _⟩ := h; simp at h
 imm b h := ⟨h.elim (fun h => (hO.imm b h).1) (hO.flt b), fun h => by obtain ⟨l, o, L, h, _⟩ := h; simp at h⟩
end
theorem lend {w w' : World} {Q0 : AE → Store → Prop} {e : Ending} (hO : ORel w I ρ σ) (hs : ∀ r σ0, Q0 r σ0 → (∃ v, r = .ret v ∧ v.scal = true) ∧ (σ0.all O.scal && belB σ0.length σ0) = true)
    (h : Fin 0 w (lent I ρ σ) ρ [] Q0 e w') : ∃ v σ0 ρ2 x, Q0 (.ret v) σ0 ∧ e = .returned x ∧ vr w' I ρ2 (σ ++ σ0.map (·.ren (σ.length + ·))) (v.ren (σ.length + ·)) x ∧ ORel w' I ρ2 (σ ++ σ0.map (·.ren (σ.length + ·))) ∧
      Ext σ.length w I ρ σ w' I ρ2 (σ ++ σ0.map (·.ren (σ.length + ·))) ∧ (∀ l, l < σ.length → Same ρ σ ρ2 (σ ++ σ0.map (·.ren (σ.length + ·))) l) ∧ ∀ b, I b → I b ∧ w'.heap[b]? = w.heap[b]? := by
  obtain ⟨I', ρ', σ0, r, hq, hr, hO', hE⟩ := h
  obtain ⟨⟨v, rfl, hsv⟩, hso⟩ := hs r σ0 hq
  simp only [Bool.and_eq_true] at hso
  have hbel := fun (i : Nat) (o : O) (hi : σ0[i]? = some o) => belB_ok hso.2 hi
  obtain ⟨x, hxe, hxv⟩ := hr
  have nof : ∀ b, ¬ foot ρ [] b := fun b ⟨l, o, L, h, _⟩ => by simp at h
  have hold : ∀ b, b < w.heap.size → w'.heap[b]? = w.heap[b]? := fun b hb => hE.old b hb (nof b)
  have hnew : ∀ b, foot ρ' σ0 b → w.heap.size ≤ b := fun b hb => (hE.footN b hb).elim (fun h => absurd h (nof b)) id
  -- the new store
  let ρ2 : LM := fun l => if l < σ.length then ρ l else ρ' (l - σ.length)
  let σ2 : Store := σ ++ σ0.map (·.ren (σ.length + ·))
  have g1 : ∀ l, l < σ.length → σ2[l]? = σ[l]? := fun l hl => List.getElem?_append_left hl
  have g2 : ∀ l, ρ2 (σ.length + l) = ρ' l := fun l => by
    show (if σ.length + l < σ.length then _ else _) = _
    rw [if_neg (by omega)]
    congr 1; omega
  have g3 : ∀ l, l < σ.length → ρ2 l = ρ l := fun l hl => by simp [ρ2, hl]
  have g4 : ∀ l, σ2[σ.length + l]? = (σ0[l]?).map (·.ren (σ.length + ·)) := fun l => by
    show (σ ++ _)[σ.length + l]? = _
    rw [List.getElem?_append_right (by omega)]
    simp
  have hlen : σ.length ≤ σ2.length := by simp [σ2]
  have hS : ∀ l, l < σ.length → Same ρ σ ρ2 σ2 l := fun l hl => ⟨by omega, fun o' h1 h2 => ⟨g3 l hl, o', by rw [← g1 l hl]; exact h1, h2, rfl⟩⟩
  have hI : ∀ b, I b → I b ∧ w'.heap[b]? = w.heap[b]? := fun b hb => ⟨hb, hold b (hO.imm b hb).1⟩
  have hEm : Emb (σ.length + ·) ρ' σ0 ρ2 σ2 := fun i oc hi => ⟨g2 i, oc.ren (σ.length + ·), by rw [g4, hi]; rfl, O.ren_dead, O.ren_alike oc⟩
  have split : ∀ l, l < σ.length ∨ ∃ i, l = σ.length + i := fun l => by
    by_cases h : l < σ.length
    · exact .inl h
    · exact .inr ⟨l - σ.length, by omega⟩
  have hfoot : ∀ b, foot ρ2 σ2 b → foot ρ σ b ∨ foot ρ' σ0 b := by
    rintro b ⟨l, o, L, h1, h2, h3, h4⟩
    rcases split l with hl | ⟨i, rfl⟩
    · exact .inl ⟨l, o, L, by rw [← g1 l hl]; exact h1, h2, by rw [← g3 l hl]; exact h3, h4⟩
    · rw [g4] at h1
      simp only [Option.map_eq_some_iff] at h1
      obtain ⟨oc, h5, rfl⟩ := h1
      exact .inr ⟨i, oc, L, h5, fun e => h2 (O.ren_dead.2 e), by rw [← g2 i]; exact h3, h4⟩
  have hO2 : ORel w' I ρ2 σ2 := by
    refine ⟨fun l o hl => ?_, fun l l' L L' hv hv' hL hL' hb => ?_, fun b hb => ?_, fun b hb => ?_⟩
    · rcases split l with hlt | ⟨i, rfl⟩
      · have hl' : σ[l]? = some o := by rw [← g1 l hlt]; exact hl
        by_cases hd : o = .dead
        · subst hd; simp [orel]
        · exact orel_all hI hS (g3 l hlt) (fun L hL => hold _ (hO.flt _ ⟨l, o, L, hl', hd, hL, rfl⟩)) (hO.objs l o hl')
      · rw [g4] at hl
        simp only [Option.map_eq_some_iff] at hl
        obtain ⟨oc, h5, rfl⟩ := hl
        have h6 := orel_scal (I' := I) (List.all_eq_true.1 hso.1 oc (List.mem_of_getElem? h5)) (hO'.objs i oc h5)
        exact (orel_ren hEm (g2 i) (hbel i oc h5)).2 h6
    · have blk : ∀ l L, live σ2 l → ρ2 l = some L → (l < σ.length ∧ live σ l ∧ ρ l = some L ∧ L.b < w.heap.size) ∨ ∃ i, l = σ.length + i ∧ live σ0 i ∧ ρ' i = some L ∧ w.heap.size ≤ L.b := by
        rintro l L ⟨o, h1, h2⟩ hL
        rcases split l with hlt | ⟨i, rfl⟩
        · have h1' : σ[l]? = some o := by rw [← g1 l hlt]; exact h1
          have hL' : ρ l = some L := by rw [← g3 l hlt]; exact hL
          exact .inl ⟨hlt, ⟨o, h1', h2⟩, hL', hO.flt _ ⟨l, o, L, h1', h2, hL', rfl⟩⟩
        · rw [g4] at h1
          simp only [Option.map_eq_some_iff] at h1
          obtain ⟨oc, h5, rfl⟩ := h1
          have hd : oc ≠ .dead := fun e => h2 (O.ren_dead.2 e)
          have hL' : ρ' i = some L := by rw [← g2 i]; exact hL
          exact .inr ⟨i, rfl, ⟨oc, h5, hd⟩, hL', hnew _ ⟨i, oc, L, h5, hd, hL', rfl⟩⟩
      rcases blk l L hv hL with ⟨k1, k2, k3, k4⟩ | ⟨i, rfl, k2, k3, k4⟩ <;> rcases blk l' L' hv' hL' with ⟨m1, m2, m3, m4⟩ | ⟨i', rfl, m2, m3, m4⟩
      · exact hO.inj l l' L L' k2 m2 k3 m3 hb
      · omega
      · omega
      · rw [hO'.inj i i' L L' k2 m2 k3 m3 hb]
    · rcases hfoot b hb with h | h
      · exact Nat.lt_of_lt_of_le (hO.flt b h) hE.size
      · exact hO'.flt b h
    · refine ⟨Nat.lt_of_lt_of_le (hO.imm b hb).1 hE.size, fun h => ?_⟩
      rcases hfoot b h with h | h
      · exact (hO.imm b hb).2 h
      · have := hnew b h; have := (hO.imm b hb).1; omega
  have hvx : vr w' I ρ2 σ2 (v.ren (σ.length + ·)) x := (vr_ren hEm v x (vr_locs v x hxv)).2 (vr_scal v x hsv hxv)
  refine ⟨v, σ0, ρ2, x, hq, hxe, hvx, hO2, ⟨hE.size, hE.os, hE.tape, hE.output, fun b hb _ => hold b hb, fun b hb => hb, fun b hb => .inl hb, fun b hb => ?_, hlen, fun l hl ⟨o, h1, h2⟩ => ?_, fun l o' hl h1 h2 => ?_, fun l o hl h1 h2 => ?_⟩, hS, hI⟩
  · rcases hfoot b hb with h | h
    · exact .inl h
    · exact .inr (hnew b h)
  · exact ⟨o, by rw [← g1 l hl]; exact h1, h2⟩
  · exact ⟨g3 l hl, o', by rw [← g1 l hl]; exact h1, h2, rfl⟩
  · exact ⟨o, by rw [g1 l hl]; exact h1, rfl⟩
section
variable {P : Program} {f : FuncId} {ro : Option Nat} {n : Nat} {k : List Item} {df : List Nat} {Q : AE → Store → Prop} {ops : Array Oper} {tm : List V} {σ : Store}
theorem vals_call {x : Operand} {args : Array Operand} {ts : Array TypeId} (ho : o.op = .call { callee := .value x, args, argTypes := ts }) (h : valsOf tm' o = valsOf tm o) :
  ev tm' x = ev tm x ∧ args.toList.map (ev tm') = args.toList.map (ev tm) := by
 unfold valsOf at h
 rw [ho] at h
 simp only [Op.operands, Call.operands, Array.toList_append, List.map_append, List.map_cons, List.map_nil] at h
 simpa using h
theorem sem_look {x : Operand} {args : Array Operand} {ts : Array TypeId} {g : FuncId} {first cap ds : List V} {σ0 : Store}
   (hF : Fnc P g fn c) (hc : CallsA P g ds [] fun r σ' => r = .ret v ∧ σ' = σ0) (hi : ops[i]? = some o) (ho : o.op = .call { callee := .value x, args, argTypes := ts }) (hx : ev tm x = .fn (.func g) first cap)
   (hargs : viewL σ (coArgs P fn.params.toList (first ++ args.toList.map (ev tm) ++ cap)) = some ds) (hs : (v.scal && (σ0.all O.scal && belB σ0.length σ0)) = true) :
   Sem P f ro n k df Q ops o i (valsOf tm o) σ (v.ren (σ.length + ·)) (σ ++ σ0.map (·.ren (σ.length + ·))) := by
 intro rest tm' hv hw hk w I ρ a rb hr hb hn
 obtain ⟨e1, e2⟩ := vals_call ho hv
 rw [← e1] at hx
 rw [← e2] at hargs
 simp only [Bool.and_eq_true] at hs
 have hxv := vr_ev hr.tms x
 rw [hx] at hxv
 simp only [vr] at hxv
 obtain ⟨fs, cs, hxe, hfs, hcs⟩ := hxv
 have hev : vrL w I ρ σ (first ++ args.toList.map (ev tm') ++ cap) (fs ++ args.toList.map a.eval ++ cs) := vrL_append (vrL_append hfs (ev_rel (fun y => vr_ev hr.tms y) _)) hcs
 have hcalls := hc w (lent I ρ σ) ρ _ (viewL_ok hr.ors hargs (coArgs_rel hev)) (lent_orel hr.ors)
 refine RunsTo.call hi (wantA_ok hw hr.tms) (by simp [ho, Op.isDefer]) (exec_call ho hxe hF w) (S := fun y w'' => ∃ ρ2, vr w'' I ρ2 (σ ++ σ0.map (·.ren (σ.length + ·))) (v.ren (σ.length + ·)) y ∧ ORel w'' I ρ2 (σ ++ σ0.map (·.ren (σ.length + ·))) ∧
    Ext σ.length w I ρ σ w'' I ρ2 (σ ++ σ0.map (·.ren (σ.length + ·))) ∧ (∀ l, l < σ.length → Same ρ σ ρ2 (σ ++ σ0.map (·.ren (σ.length + ·))) l) ∧ ∀ b, I b → I b ∧ w''.heap[b]? = w.heap[b]?) (hcalls.mono ?_) ?_
 · intro e w'' hf
   obtain ⟨v', σ0', ρ2, y, ⟨h1, h1'⟩, h2, h3, h4, h5, h6, h7⟩ := lend hr.ors (fun r s hrs => ⟨⟨v, hrs.1, hs.1⟩, by rw [hrs.2]; simp only [Bool.and_eq_true]; exact hs.2⟩) hf
   cases h1
   subst h1'
   exact ⟨y, h2, ρ2, h3, h4, h5, h6, h7⟩
 · rintro y w'' ⟨ρ2, h3, h4, h5, h6, h7⟩
   have hst := h5.stays
   have := hk w'' I ρ2 (a.put o.dst y) rb ⟨vrL_put (vrL_all h7 h6 hr.tms) o.dst h3, h4, by rw [put_defers]; exact dfr_stay hst hr.dfs⟩ (rbOf_stay hst hb) (Nat.le_trans hn h5.len)
   exact this.mono fun e w3 hfin => hfin.trans (h5.less hn)
mutual
theorem V.kill_id {p : Nat → Bool} (hp : ∀ l, p l = false) : ∀ v : V, v.kill p = v
 | .d _ => rfl
 | .undef => rfl
 | .nils => rfl
 | .ex _ _ => rfl
 | .ep _ _ _ => rfl
 | .ptr l _ _ => by simp [V.kill, hp]
 | .row l => by simp [V.kill, hp]
 | .sl l _ _ _ => by simp [V.kill, hp]
 | .yield l => by simp [V.kill, hp]
 | .map l => by simp [V.kill, hp]
 | .fn f a b => by simp [V.kill, V.killL_id hp a, V.killL_id hp b]
 | .tuple vs => by simp [V.kill, V.killL_id hp vs]
 | .agg vs => by simp [V.kill, V.killL_id hp vs]
theorem V.killL_id {p : Nat → Bool} (hp : ∀ l, p l = false) : ∀ vs : List V, V.killL p vs = vs
 | [] => rfl
 | v :: vs => by simp [V.killL, V.kill_id hp v, V.killL_id hp vs]
end
theorem O.kill_id {p : Nat → Bool} (hp : ∀ l, p l = false) (o : O) : o.kill p = o := by
 cases o <;> simp [O.kill, V.killL_id hp]
mutual
theorem V.ren_none {m : Nat → Nat} : ∀ v : V, v.locs = [] → v.ren m = v
 | .d _, _ => rfl
 | .undef, _ => rfl
 | .nils, _ => rfl
 | .ex _ _, _ => rfl
 | .ep _ _ _, _ => rfl
 | .ptr l _ _, h => by simp [V.locs] at h
 | .row l, h => by simp [V.locs] at h
 | .sl l _ _ _, h => by simp [V.locs] at h
 | .yield l, h => by simp [V.locs] at h
 | .map l, h => by simp [V.locs] at h
 | .fn f a b, h => by simp only [V.locs, List.append_eq_nil_iff] at h; simp [V.ren, V.renL_none a h.1, V.renL_none b h.2]
 | .tuple vs, h => by simp only [V.locs] at h; simp [V.ren, V.renL_none vs h]
 | .agg vs, h => by simp only [V.locs] at h; simp [V.ren, V.renL_none vs h]
theorem V.renL_none {m : Nat → Nat} : ∀ vs : List V, V.locsL vs = [] → V.renL m vs = vs
 | [], _ => rfl
 | v :: vs, h => by simp only [V.locsL, List.append_eq_nil_iff] at h; simp [V.renL, V.ren_none v h.1, V.renL_none vs h.2]
end
theorem movedB_nil (σ0 : Store) (l : Nat) : movedB [] σ0 l = false := rfl
theorem merge_nil (σ σ0 : Store) : merge σ [] σ0 = σ ++ σ0.map (·.ren (σ.length + ·)) := by
 unfold merge
 have h1 : mp [] σ.length = (σ.length + ·) := by funext i; simp [mp]
 rw [h1]
 congr 1
 apply List.ext_getElem?
 intro l
 simp only [List.getElem?_mapIdx]
 cases σ[l]? with
 | none => rfl
 | some o => simp [O.kill_id (movedB_nil σ0)]
theorem sem_data {x : Operand} {args : Array Operand} {ts : Array TypeId} {g : FuncId} {first cap ds : List V} {σ0 : Store}
  (hF : Fnc P g fn c) (hc : CallsA P g ds [] fun r σ' => r = .ret v ∧ σ' = σ0) (hi : ops[i]? = some o) (ho : o.op = .call { callee := .value x, args, argTypes := ts }) (hx : ev tm x = .fn (.func g) first cap)
  (hargs : coArgs P fn.params.toList (first ++ args.toList.map (ev tm) ++ cap) = ds) (hl : (V.locsL ds).isEmpty = true) (σ : Store) :
  Sem P f ro n k df Q ops o i (valsOf tm o) σ (v.ren (σ.length + ·)) (σ ++ σ0.map (·.ren (σ.length + ·))) := by
 intro rest tm' hv hw hk
 have hl' : V.locsL ds = [] := by simpa using hl
 obtain ⟨e1, e2⟩ := vals_call ho hv
 rw [← e1] at hx
 rw [← e2] at hargs
 refine AW.call (m := []) ds [] hF hc hi hw ho hx (by rw [hargs, V.renL_none ds hl']) (by simp [belB, hl']) ⟨rfl, rfl, rfl⟩ ?_
 rintro r σ' ⟨rfl, rfl⟩
 refine ⟨v, rfl, ?_⟩
 have h1 : mp [] σ.length = (σ.length + ·) := by funext i; simp [mp]
 rw [V.killL_id (movedB_nil _), merge_nil, h1]
 exact hk
theorem AW.sem {rest : List Nat} {σ' : Store} (h : Sem P f ro n k df Q ops o i (valsOf tm o) σ v σ') (hw : wantA ops o tm = some true) (hn : AW P f ro n (.inRegion ops rest :: k) (put tm o.dst v) σ' df Q) :
 AW P f ro n (.inRegion ops (i :: rest) :: k) tm σ df Q := h rest tm rfl hw hn
end
section steps
variable {P : Program} {f : FuncId} {rb : Option Nat} {a : Act} {k : List Item} {cs : List Frame} {w w' : World}
theorem st_beginRound (hr : (Instr.beginRound l).run P w = .ok () w') : step P (lone (frm f (some l) a (.beginRound :: k)) cs w) = .next (lone (frm f (some l) a k) cs w') :=
 stepR_beginRound (b := frm f (some l) a []) rfl hr
theorem st_endRangeFunc {jump : Option Code} (h : (Instr.endLoop l).run P w = .ok jump w') : step P (lone (frm f rb a (.endRangeFunc l :: k)) cs w) = .next (lone (frm f rb a ((jump.map Item.code).toList ++ k)) cs w') :=
 stepR_endRangeFunc (b := frm f rb a []) h
theorem st_rangeFunc {g : Operand} {ps : Array Tmp} {assign body : Code} {mark : List Deferred} {w₁ w₁' w₂ : World} {d : Deferred} {h : FuncId} {args : Array Value}
  (he : (Instr.enterLoop f a.tmps ps assign body rb).run P w = .ok (l, mark) w₁)
  (hres : (resolve a.eval (rangeCall g l) 0).run P w₁ = .ok d w₁') (hinv : (invoke d.target d.args).run P w₁' = .ok (.enter h args) w₂) :
  step P (lone (frm f rb a (.code (.rangeFunc g ps assign body) :: k)) cs w) = .next (lone (Frame.enter P h args .normal) (frm f rb { a with defers := mark ++ a.defers } (.inRangeFunc l :: k) :: cs) w₂) :=
 stepR_rangeFunc (b := frm f rb a []) he hres hinv
theorem RunsTo.rangeFunc {g : Operand} {ps : Array Tmp} {assign body : Code} {mark : List Deferred} {w₁ w₁' w₂ : World} {d : Deferred} {h : FuncId} {args : Array Value} {R : Ending → World → Prop}
  (he : (Instr.enterLoop f a.tmps ps assign body rb).run P w = .ok (l, mark) w₁)
  (hres : (resolve a.eval (rangeCall g l) 0).run P w₁ = .ok d w₁') (hinv : (invoke d.target d.args).run P w₁' = .ok (.enter h args) w₂) {S : World → Prop}
  (hc : Calls P h args w₂ fun e w'' => ∃ v, e = .returned v ∧ S w'')
  (hk : ∀ w'', S w'' → RunsTo P f rb (.endRangeFunc l :: k) { a with defers := mark ++ a.defers } w'' R) : RunsTo P f rb (.code (.rangeFunc g ps assign body) :: k) a w R := by
 intro cs
 obtain ⟨e, w1, fr, hR, hcomes, _, hleave⟩ := hc (frm f rb { a with defers := mark ++ a.defers } (.inRangeFunc l :: k) :: cs)
 obtain ⟨v, rfl, hS⟩ := hR
 obtain ⟨e2, w2, w3, fr2, h1, h2, h3⟩ := hk w1 hS cs
 exact ⟨e2, w2, w3, fr2, h1, .head (st_rangeFunc he hres hinv) (hcomes.trans (.head (step_leave_returned hleave) h2)), h3⟩
end steps
def mvB (σ : Store) (l : Nat) : Bool := match σ[l]? with | some (.row _ _ true) => true | _ => false
section
variable {w w' : World} {I I' : Nat → Prop} {ρ ρ' : LM} {σ σ' : Store}
theorem behind {xs : List Value} (hO : ORel w I ρ σ) (hE : Ext σ.length w I ρ σ w' I' ρ' σ') (h : vrL w I ρ σ tm xs) : vrL w' I' ρ' σ' (V.killL (mvB σ') tm) xs := by
 have hI : ∀ b, I b → I' b ∧ w'.heap[b]? = w.heap[b]? := fun b hb => ⟨hE.immI b hb, hE.old b (hO.imm b hb).1 (hO.imm b hb).2⟩
 have hk := vrL_kill (w := w) (I := I) (ρ := ρ) (σ := σ) (mvB σ') tm xs h
 refine vrL_up hI _ xs (fun l hl => ?_) hk
 have hlt := vrL_locs _ xs hk l hl
 refine ⟨Nat.lt_of_lt_of_le hlt hE.len, fun o' h1 h2 => ?_⟩
 have hst : o'.still = true := by
  have hm := (locsL_kill (mvB σ') tm l hl).2
  unfold mvB at hm
  rw [h1] at hm
  cases o' with
  | dead => exact absurd rfl h2
  | row sz xs mv => cases mv <;> simp_all [O.still]
  | _ => rfl
 obtain ⟨h3, o, h4, h5, h6⟩ := hE.fixed l o' hlt h1 hst
 exact ⟨h3, o, h4, fun e => by subst e; simp [O.still] at h5, h6⟩
end
section
variable {P : Program} {f : FuncId} {ro : Option Nat} {n : Nat} {k : List Item} {df : List Nat} {Q : AE → Store → Prop} {ops : Array Oper} {tm : List V} {σ : Store}
theorem putObj_other {r b : Nat} {o : Obj} (h : b ≠ r) : (w.putObj r o).heap[b]? = w.heap[b]? := by
 simp [World.putObj, Ne.symm h]
theorem putObj_self {r : Nat} {o : Obj} (h : r < w.heap.size) : (w.putObj r o).heap[r]? = some o := by
 simp [World.putObj, h]
theorem loop_upd {st st' : LoopState} {pend pend' : Option Code} {fn : FuncId} {tml : List V} {ps : Array Tmp} {as bd : Code} (hO : ORel w I ρ σ) (hl : σ[l]? = some (.loop st pend fn tml ps as bd)) :
   ∃ L r, ρ l = some L ∧ w.heap[L.b]? = some (.loop r) ∧ r.state = st ∧ r.pending = pend ∧ ORel (w.putObj L.b (.loop { r with state := st', pending := pend' })) I ρ (σ.set l (.loop st' pend' fn tml ps as bd)) ∧
     Ext σ.length w I ρ σ (w.putObj L.b (.loop { r with state := st', pending := pend' })) I ρ (σ.set l (.loop st' pend' fn tml ps as bd)) ∧
     (∀ b, I b → I b ∧ (w.putObj L.b (.loop { r with state := st', pending := pend' })).heap[b]? = w.heap[b]?) ∧ ∀ x, x < σ.length → Same ρ σ ρ (σ.set l (.loop st' pend' fn tml ps as bd)) x := by
 have ho := hO.objs l _ hl
 simp only [orel] at ho
 obtain ⟨L, tmps, db, hL, hh, ht⟩ := ho
 have hlt : l < σ.length := (List.getElem?_eq_some_iff.1 hl).1
 have hb : L.b < w.heap.size := (Array.getElem?_eq_some_iff.1 hh).1
 have hS : ∀ x, x < σ.length → Same ρ σ ρ (σ.set l (.loop st' pend' fn tml ps as bd)) x := by
   intro x hx
   refine ⟨by simp; exact hx, fun o' h1 h2 => ?_⟩
   by_cases hxl : x = l
   · subst hxl
     rw [List.getElem?_set_self hlt] at h1
     cases h1
     exact ⟨rfl, _, hl, by simp, rfl⟩
   · rw [List.getElem?_set_ne (Ne.symm hxl)] at h1
     exact ⟨rfl, o', h1, h2, rfl⟩
 have hI : ∀ b, I b → I b ∧ (w.putObj L.b (.loop { state := st', pending := pend', fn := fn, tmps := tmps, params := ps, assign := as, body := bd, defers := db })).heap[b]? = w.heap[b]? := fun b hb => ⟨hb, putObj_other fun e => (hO.imm b hb).2 ⟨l, _, L, hl, by simp, hL, e.symm⟩⟩
 refine ⟨L, _, hL, hh, rfl, rfl, ?_, ?_, hI, hS⟩
 · refine hO.upd hl (by simp) hL rfl (fun b hb => putObj_other hb) (by simp) ?_
   simp only [orel]
   exact ⟨L, tmps, db, hL, putObj_self hb, vrL_all hI hS ht⟩
 · exact Ext.upd hl (by simp) hL (fun _ => rfl) rfl rfl (fun b hb => putObj_other hb) (by simp) rfl rfl rfl
theorem AW.beginRound {pend : Option Code} {fn : FuncId} {tml : List V} {ps : Array Tmp} {as bd : Code} (hl : σ[l]? = some (.loop .ready pend fn tml ps as bd))
  (h : AW P f (some l) n k tm (σ.set l (.loop .busy pend fn tml ps as bd)) df Q) : AW P f (some l) n (.beginRound :: k) tm σ df Q := by
 intro w I ρ a rb hr hb hn
 obtain ⟨L, r, hL, hh, hs, hp, hO, hE, hI, hS⟩ := loop_upd (st' := .busy) (pend' := pend) hr.ors hl
 have hst := hE.stays
 obtain ⟨L', o, hL', _, _, rfl⟩ := hb
 rw [hL] at hL'; cases hL'
 have hrun : (Instr.beginRound L.b).run P w = .ok () (w.putObj L.b (.loop { r with state := .busy, pending := pend })) := by
  rw [run_beginRound hh hs, ← hp]
 exact .step (fun cs => st_beginRound hrun) ((h _ I ρ a (some L.b) ⟨vrL_all hI hS hr.tms, hO, dfr_stay hst hr.dfs⟩ ⟨L, _, hL, List.getElem?_set_self (List.getElem?_eq_some_iff.1 hl).1, ⟨_, _, _, _, _, _, _, rfl⟩, rfl⟩ (by simp; exact hn)).mono fun e w' hf => hf.trans (hE.less hn))
theorem round_end {todo : List Item} {st : LoopState} {pend : Option Code} {fn : FuncId} {tml : List V} {ps : Array Tmp} {as bd : Code} (jump : Option Code) (hl : σ[l]? = some (.loop st pend fn tml ps as bd))
  (hs : ∀ {a : Act} {lb : Nat} {w w' : World} {c : Frame} {cs : List Frame} {v : Value}, (Instr.endRound lb jump).run P w = .ok v w' → step P (lone (frm f (some lb) a todo) (c :: cs) w) = .next (lone (c.finish v) cs w'))
  (hq : Q (.ret (.d (.bool jump.isNone))) (σ.set l (.loop (if jump.isNone then .ready else .done) jump fn tml ps as bd))) : AW P f (some l) n todo tm σ df Q := by
 intro w I ρ a rb hr hb hn cs
 obtain ⟨L, r, hL, hh, _, _, hO, hE, _, _⟩ := loop_upd (st' := if jump.isNone then .ready else .done) (pend' := jump) hr.ors hl
 obtain ⟨L', o, hL', _, _, rfl⟩ := hb
 rw [hL] at hL'; cases hL'
 refine ⟨.returned (.bool jump.isNone), w, _, frm f (some L.b) a todo, ⟨I, ρ, _, _, hq, ⟨_, rfl, by simp [vr, Dr]⟩, hO, hE.less hn⟩, .refl _ _, fun c cs' => ⟨_, hs (run_endRound jump hh), rfl⟩⟩
theorem AW.roundEnd {st : LoopState} {pend : Option Code} {fn : FuncId} {tml : List V} {ps : Array Tmp} {as bd : Code} (hl : σ[l]? = some (.loop st pend fn tml ps as bd))
  (hq : Q (.ret (.d (.bool true))) (σ.set l (.loop .ready none fn tml ps as bd))) : AW P f (some l) n [] tm σ df Q :=
 round_end none hl (fun {a lb _ _ _ _ _} h => stepR_round_end (b := frm f (some lb) a []) rfl rfl h) hq
def roundTm (tm : List V) : List Tmp → List V → List V
  | p :: ps, v :: vs => roundTm (tm.set p v) ps vs
  | _, _ => tm
theorem roundTm_rel : ∀ {ps : List Tmp} {vs tm : List V} {xs : List Value} {a : Array Value}, vrL w I ρ σ tm a.toList → vrL w I ρ σ vs xs → vs.length = ps.length →
   vrL w I ρ σ (roundTm tm ps vs) ((ps.zip xs).foldl (fun tmps (t, x) => tmps.setIfInBounds t x) a).toList
 | [], vs, tm, xs, a, h, _, _ => by cases vs <;> simpa [roundTm] using h
 | p :: ps, [], tm, xs, a, h, _, hl => by simp at hl
 | p :: ps, v :: vs, tm, xs, a, h, hv, hl => by
   simp only [vrL] at hv
   obtain ⟨x, xs', rfl, h1, h2⟩ := hv
   simp only [roundTm, List.zip_cons_cons, List.foldl_cons]
   refine roundTm_rel ?_ h2 (by simpa using hl)
   rw [Array.toList_setIfInBounds]
   exact vrL_set h p h1
theorem AW.yield {rest : List Nat} {x : Operand} {args : Array Operand} {ts : Array TypeId} {st : LoopState} {pend : Option Code} {fn : FuncId} {tml : List V} {ps : Array Tmp} {as bd : Code} {Qr : AE → Store → Prop}
   (hi : ops[i]? = some o) (hw : wantA ops o tm = some true) (ho : o.op = .call { callee := .value x, args, argTypes := ts }) (hx : ev tm x = .yield l) (hl : σ[l]? = some (.loop st pend fn tml ps as bd)) (hps : args.size = ps.size)
   (hr : AW P fn (some l) σ.length [.code as, .beginRound, .code bd] (roundTm tml ps.toList (args.toList.map (ev tm))) σ [] Qr)
   (hk : ∀ r σ', Qr r σ' → ∃ v, r = .ret v ∧ AW P f ro n (.inRegion ops rest :: k) (put (V.killL (mvB σ') tm) o.dst v) σ' df Q) : AW P f ro n (.inRegion ops (i :: rest) :: k) tm σ df Q := by
 intro w I ρ a rb hrel hb hn
 have hxv := vr_ev hrel.tms x
 rw [hx] at hxv
 simp only [vr] at hxv
 have hobj := hrel.ors.objs l _ hl
 simp only [orel] at hobj
 obtain ⟨L, tmps, db, hL, hh, ht⟩ := hobj
 obtain ⟨L', hL', hxe⟩ := hxv.2.2 ⟨_, hl, by simp⟩
 rw [hL] at hL'; cases hL'
 have hfold : ∀ (A : Array (Tmp × Value)) (z : Array Value), A.foldl (fun tmps (t, x) => tmps.setIfInBounds t x) z = A.toList.foldl (fun tmps (t, x) => tmps.setIfInBounds t x) z := fun A z => by rw [← Array.foldl_toList]
 have hzip : (ps.zip (#[] ++ args.map a.eval)).toList = ps.toList.zip (args.toList.map a.eval) := by simp
 have hexec : (execOp a.eval o).run P w = .ok (.round L.b fn ((ps.toList.zip (args.toList.map a.eval)).foldl (fun tmps (t, x) => tmps.setIfInBounds t x) tmps) as bd) w := by
   have h1 := run_yield (P := P) hh (args := #[] ++ args.map a.eval) (by simp [hps])
   simp only [execOp, ho, resolve, hxe, Deferred.ofValue, Sem.run_bind, Sem.run_pure, Result.andThen_ok, invoke]
   rw [h1, hfold, hzip]
 have hargs : vrL w I ρ σ (args.toList.map (ev tm)) (args.toList.map a.eval) := ev_rel (fun y => vr_ev hrel.tms y) _
 have hround := hr w I ρ ⟨((ps.toList.zip (args.toList.map a.eval)).foldl (fun tmps (t, x) => tmps.setIfInBounds t x) tmps), []⟩ (some L.b) ⟨roundTm_rel ht hargs (by simp [hps]), hrel.ors, rfl⟩ ⟨L, _, hL, hl, ⟨_, _, _, _, _, _, _, rfl⟩, rfl⟩ (Nat.le_refl _)
 refine RunsTo.round hi (wantA_ok hw hrel.tms) (by simp [ho, Op.isDefer]) hexec (S := fun y w'' => ∃ I' ρ' σ' v, Qr (.ret v) σ' ∧ vr w'' I' ρ' σ' v y ∧ ORel w'' I' ρ' σ' ∧ Ext σ.length w I ρ σ w'' I' ρ' σ') (hround.mono ?_) ?_
 · rintro e w'' ⟨I', ρ', σ', r, h1, h2, h3, h4⟩
   obtain ⟨v, rfl, _⟩ := hk r σ' h1
   obtain ⟨y, rfl, h5⟩ := h2
   exact ⟨y, rfl, I', ρ', σ', v, h1, h5, h3, h4⟩
 · rintro y w'' ⟨I', ρ', σ', va, h1, h2, h3, h4⟩
   obtain ⟨v, hv, hnext⟩ := hk _ σ' h1
   cases hv
   have hst := h4.stays
   have := hnext w'' I' ρ' (a.put o.dst y) rb ⟨vrL_put (behind hrel.ors h4 hrel.tms) o.dst h2, h3, by rw [put_defers]; exact dfr_stay hst hrel.dfs⟩ (rbOf_stay hst hb) (Nat.le_trans hn h4.len)
   exact this.mono fun e w3 hfin => hfin.trans (h4.less hn)
end
theorem run_range {a : Act} {g : Operand} {h : FuncId} {fs cs : List Value} (hx : a.eval g = .func (.func h) fs.toArray cs.toArray) (hF : Fnc P h fn c) :
   ∃ d, (resolve a.eval (rangeCall g l) 0).run P w = .ok d w ∧ (invoke d.target d.args).run P w = .ok (.enter h (fs ++ [Value.func (.yield l) #[] #[]] ++ cs).toArray) w := by
 refine ⟨{ target := .fn (.func h) cs.toArray, args := fs.toArray ++ #[.func (.yield l) #[] #[]] }, ?_, ?_⟩
 · simp only [resolve, hx, Deferred.ofValue, Sem.run_pure]
   congr 1
   simp [Act.eval]
 · simp only [invoke, callFunc, Sem.run_bind, run_program, Result.andThen_ok, hF.get]
   rw [if_neg (by simp [hF.name])]
   simp only [hF.body, Option.isNone_some, Bool.false_eq_true, if_false, Sem.run_pure]
   congr 2
   apply Array.ext'
   simp
section
variable {P : Program} {f : FuncId} {n : Nat} {k : List Item} {df : List Nat} {Q : AE → Store → Prop} {tm : List V} {σ : Store}
theorem AW.endRange {ro : Option Nat} {st : LoopState} {pend : Option Code} {fn : FuncId} {tml : List V} {ps : Array Tmp} {as bd : Code} (hl : σ[l]? = some (.loop st pend fn tml ps as bd)) (hs : st ≠ .busy)
  (h : AW P f ro n ((pend.map Item.code).toList ++ k) tm (σ.set l (.loop .exhausted pend fn tml ps as bd)) df Q) : ∀ w I ρ a rb, Rel w I ρ σ tm df a → rbOf ρ σ ro rb → n ≤ σ.length → ∀ L, ρ l = some L → RunsTo P f rb (.endRangeFunc L.b :: k) a w (Fin n w I ρ σ Q) := by
 intro w I ρ a rb hr hb hn L' hL'
 obtain ⟨L, r, hL, hh, hs', hp, hO, hE, hI, hS⟩ := loop_upd (st' := .exhausted) (pend' := pend) hr.ors hl
 have hLL : L' = L := by rw [hL] at hL'; exact (Option.some.inj hL').symm
 rw [hLL]
 have hst := hE.stays
 have hrun : (Instr.endLoop L.b).run P w = .ok pend (w.putObj L.b (.loop { r with state := .exhausted, pending := pend })) := by
  rw [run_endLoop hh (by rw [hs']; exact hs), ← hp]
 exact .step (fun cs => st_endRangeFunc hrun) ((h _ I ρ a rb ⟨vrL_all hI hS hr.tms, hO, dfr_stay hst hr.dfs⟩ (rbOf_stay hst hb) (by simp; exact hn)).mono fun e w' hf => hf.trans (hE.less hn))
theorem AW.rangeFunc {g : Operand} {ps : Array Tmp} {as bd : Code} {h : FuncId} {first cap : List V} (m : List Nat) (cargs : List V) (σc : Store) {Qc : AE → Store → Prop}
   (hF : Fnc P h fn c) (hc : CallsA P h cargs σc Qc) (hx : ev tm g = .fn (.func h) first cap)
   (hargs : coArgs P fn.params.toList (first ++ [.yield (σ.length + 1)] ++ cap) = V.renL (mp m (σ.length + 2)) cargs) (hbel : (belB σc.length σc && (V.locsL cargs).all fun l => Nat.blt l σc.length) = true)
   (hwi : within (σ ++ [.defd, .loop .ready none f tm ps as bd]) m σc)
   (hk : ∀ r σc', Qc r σc' → ∃ v st pend tml ps' as' bd' fn', r = .ret v ∧ st ≠ .busy ∧ (merge (σ ++ [.defd, .loop .ready none f tm ps as bd]) m σc')[σ.length + 1]? = some (.loop st pend fn' tml ps' as' bd') ∧
     AW P f none n ((pend.map Item.code).toList ++ k) (V.killL (movedB m σc') tm) ((merge (σ ++ [.defd, .loop .ready none f tm ps as bd]) m σc').set (σ.length + 1) (.loop .exhausted pend fn' tml ps' as' bd')) (σ.length :: df) Q) :
   AW P f none n (.code (.rangeFunc g ps as bd) :: k) tm σ df Q := by
 intro w I ρ a rb hr hb hn
 cases hb
 simp only [Bool.and_eq_true] at hbel
 -- the two blocks
 let L1 : Loc := ⟨w.heap.size, 0, 0, 0⟩
 let w1 := w.alloc (.deferred (some []))
 let ρ1 : LM := fun x => if x = σ.length then some L1 else ρ x
 have hO1 : ORel w1 I ρ1 (σ ++ [.defd]) := hr.ors.new L1 .defd rfl (fun b hb => heap_alloc_old _ _ _ hb) (by simp [w1]) (by
   simp only [orel]
   exact ⟨L1, by simp, heap_alloc_new _ _⟩)
 have hE1 : Ext σ.length w I ρ σ w1 I ρ1 (σ ++ [.defd]) := Ext.new L1 .defd rfl (fun b hb => heap_alloc_old _ _ _ hb) (by simp [w1]) rfl rfl rfl
 have hI1 : ∀ b, I b → I b ∧ w1.heap[b]? = w.heap[b]? := fun b hb => ⟨hb, heap_alloc_old _ _ _ (hr.ors.imm b hb).1⟩
 have ht1 : vrL w1 I ρ1 (σ ++ [.defd]) tm a.tmps.toList := vrL_all hI1 (same_new L1 _) hr.tms
 let L2 : Loc := ⟨w1.heap.size, 0, 0, 0⟩
 let R : Loop := { state := .ready, pending := none, fn := f, tmps := a.tmps, params := ps, assign := as, body := bd, defers := w.heap.size }
 let w2 := w1.alloc (.loop R)
 let ρ2 : LM := fun x => if x = (σ ++ [O.defd]).length then some L2 else ρ1 x
 have hI2 : ∀ b, I b → I b ∧ w2.heap[b]? = w1.heap[b]? := fun b hb => ⟨hb, heap_alloc_old _ _ _ (hO1.imm b hb).1⟩
 have ht2 : vrL w2 I ρ2 ((σ ++ [.defd]) ++ [.loop .ready none f tm ps as bd]) tm a.tmps.toList := vrL_all hI2 (same_new L2 _) ht1
 have hO2 : ORel w2 I ρ2 ((σ ++ [.defd]) ++ [.loop .ready none f tm ps as bd]) := hO1.new L2 _ rfl (fun b hb => heap_alloc_old _ _ _ hb) (by simp [w2]) (by
   simp only [orel]
   exact ⟨L2, a.tmps, w.heap.size, by simp, heap_alloc_new _ _, ht2⟩)
 have hE2 : Ext (σ ++ [O.defd]).length w1 I ρ1 (σ ++ [.defd]) w2 I ρ2 ((σ ++ [.defd]) ++ [.loop .ready none f tm ps as bd]) := Ext.new L2 _ rfl (fun b hb => heap_alloc_old _ _ _ hb) (by simp [w2]) rfl rfl rfl
 have hE12 := hE1.trans (hE2.less (by simp))
 have hassoc : (σ ++ [O.defd]) ++ [O.loop .ready none f tm ps as bd] = σ ++ [.defd, .loop .ready none f tm ps as bd] := by simp
 rw [hassoc] at ht2 hO2 hE12
 have hlen : (σ ++ [O.defd, .loop .ready none f tm ps as bd]).length = σ.length + 2 := by simp
 have hdefd : dfr ρ2 (σ ++ [.defd, .loop .ready none f tm ps as bd]) (σ.length :: df) ([{ target := .collected w.heap.size, args := #[] }] ++ a.defers) := by
   refine ⟨L1, a.defers, by simp [ρ2, ρ1], by simp, rfl, dfr_stay hE12.stays hr.dfs⟩
 have hl2 : (σ ++ [O.defd, .loop .ready none f tm ps as bd])[σ.length + 1]? = some (.loop .ready none f tm ps as bd) := by
   rw [List.getElem?_append_right (by omega)]; simp
 -- the call
 rw [← hlen] at hargs
 have hE := emb_enter (ρ := ρ2) hwi
 have hOc := orel_enter hO2 hwi hbel.1
 have hxv := vr_ev hr.tms g
 rw [hx] at hxv
 simp only [vr] at hxv
 obtain ⟨fs, cs, hxe, hfs, hcs⟩ := hxv
 have hS12 : ∀ x, x < σ.length → Same ρ σ ρ2 (σ ++ [.defd, .loop .ready none f tm ps as bd]) x := by
   intro x hx
   refine ⟨by simp; omega, fun o' h1 h2 => ⟨?_, o', ?_, h2, rfl⟩⟩
   · show (if x = (σ ++ [O.defd]).length then _ else if x = σ.length then _ else ρ x) = ρ x
     rw [if_neg (by simp; omega), if_neg (by omega)]
   · rwa [List.getElem?_append_left hx] at h1
 have hI12 : ∀ b, I b → I b ∧ w2.heap[b]? = w.heap[b]? := fun b hb => ⟨hb, (hI2 b hb).2.trans (hI1 b hb).2⟩
 have hyv : vr w2 I ρ2 (σ ++ [.defd, .loop .ready none f tm ps as bd]) (.yield (σ.length + 1)) (.func (.yield w1.heap.size) #[] #[]) := by
   simp only [vr]
   exact ⟨rfl, by simp, fun _ => ⟨L2, by simp [ρ2], rfl⟩⟩
 have hev : vrL w2 I ρ2 (σ ++ [.defd, .loop .ready none f tm ps as bd]) (first ++ [.yield (σ.length + 1)] ++ cap) (fs ++ [.func (.yield w1.heap.size) #[] #[]] ++ cs) :=
   vrL_append (vrL_append (vrL_all hI12 hS12 hfs) (by simp only [vrL]; exact ⟨_, [], rfl, hyv, rfl⟩)) (vrL_all hI12 hS12 hcs)
 have hev2 := coArgs_rel (P := P) (ts := fn.params.toList) hev
 rw [hargs] at hev2
 have hca : ∀ l ∈ V.locsL cargs, l < σc.length := fun l hl => by
   have := (List.all_eq_true.1 hbel.2) l hl
   simpa [Nat.blt_eq] using this
 have hcr := (vrL_ren hE cargs _ hca).1 hev2
 have hcalls := hc w2 I (rhoC m ρ2) _ hcr hOc
 have hent : (Instr.enterLoop f a.tmps ps as bd none).run P w = .ok (w1.heap.size, [{ target := .collected w.heap.size, args := #[] }]) w2 := by
   rw [run_enterLoop_outer]
   simp [w2, w1, R]
 obtain ⟨d, hd1, hd2⟩ := run_range (P := P) (w := w2) (l := w1.heap.size) hxe hF
 refine RunsTo.rangeFunc hent hd1 hd2 (S := fun w'' => ∃ I' ρc' σc' va, Qc (.ret va) σc' ∧ ORel w'' I' ρc' σc' ∧ Ext σc.length w2 I (rhoC m ρ2) σc w'' I' ρc' σc') (hcalls.mono ?_) ?_
 · rintro e w'' ⟨I', ρc', σc', r, h1, h2, h3, h4⟩
   obtain ⟨v, _, _, _, _, _, _, _, rfl, _⟩ := hk r σc' h1
   obtain ⟨y, rfl, h5⟩ := h2
   exact ⟨y, rfl, I', ρc', σc', v, h1, h3, h4⟩
 · rintro w'' ⟨I', ρc', σc', va, h1, h3, h4⟩
   obtain ⟨v, st, pend, tml, ps', as', bd', fn', _, hst, hlp, hnext⟩ := hk _ σc' h1
   obtain ⟨g1, g2, g3, g4⟩ := leave hO2 hwi h4 h3
   have hstay := g3.stays
   have hrel : Rel w'' I' (rhoB m (σ ++ [O.defd, .loop .ready none f tm ps as bd]).length ρ2 ρc') (merge (σ ++ [.defd, .loop .ready none f tm ps as bd]) m σc') (V.killL (movedB m σc') tm) (σ.length :: df) { a with defers := [{ target := .collected w.heap.size, args := #[] }] ++ a.defers } :=
     ⟨g4 tm _ ht2, g2, dfr_stay hstay hdefd⟩
   have hL2 : (rhoB m (σ ++ [O.defd, .loop .ready none f tm ps as bd]).length ρ2 ρc') (σ.length + 1) = some L2 := by
     have := (hstay (σ.length + 1) _ hl2 (by simp [O.ld])).1
     rw [this]
     simp [ρ2]
   have hn2 : n ≤ (merge (σ ++ [.defd, .loop .ready none f tm ps as bd]) m σc').length := Nat.le_trans hn (Nat.le_trans (by simp) g3.len)
   have := AW.endRange (ro := none) hlp hst hnext w'' I' _ _ none hrel rfl hn2 L2 hL2
   exact this.mono fun e w3 hfin => (hfin.trans (g3.less (by simp; omega))).trans (hE12.less hn)
end
end Go.Br
