/- Texts of this proof, part 0: BrA, BrB, BrC, BrD, BrE, BrF, BrG, BrH, BrI, BrJ, BrK, BrL, BrM. -/
import Derived.Calls
import Derived.Great.BuildSlice
import Derived.KernelRfl
import Derived.Laws.Append
import Derived.Laws.AppendOwn
import Derived.Laws.CopyRow
import Derived.Laws.Rows
import Derived.Laws.Sem
import Derived.Laws.Small
import Derived.Laws.World
set_option linter.unusedSimpArgs false
set_option linter.unusedVariables false
set_option linter.constructorNameAsVariable false
namespace Go.Br
open Go
inductive D where
  | int (k : IntKind) (n : Int)
  | bool (b : Bool)
  | str (s : ByteArray)
  | list (sz : Nat) (xs : List D)
  | agg (cs : List D)
  | raw (v : Value)
inductive V where
  | d (d : D)
  | undef
  | nils
  | ex (sz : Nat) (xs : List D)
  | ptr (l i s : Nat)
  | row (l : Nat)
  | sl (l off len : Nat) (c : Option Nat)
  | fn (f : Fn) (first cap : List V)
  | yield (l : Nat)
  | map (l : Nat)
  | tuple (vs : List V)
  | agg (vs : List V)
  | ep (sz : Nat) (x : D) (s : Nat)
inductive O where
  | dead
  | cells (cs : List V)
  | row (sz : Nat) (xs : List D) (mv : Bool)
  | map (es : List (Value × D))
  | loop (st : LoopState) (pend : Option Code) (fn : FuncId) (tm : List V) (params : Array Tmp) (assign body : Code)
  | defd
structure Loc where
  b : Nat
  o : Nat
  sz : Nat
  cap : Nat
abbrev LM := Nat → Option Loc
abbrev Store := List O
def one (v : Value) : Prop := v.oneCell' = true
section
variable (w : World) (I : Nat → Prop)
mutual
def Dr : D → Value → Prop
  | .int k n, v => v = .int k n
  | .bool b, v => v = .bool b
  | .str s, v => v = .string s
  | .raw x, v => v = x ∧ one x
  | .agg cs, v => ∃ vs : List Value, v = .agg vs.toArray ∧ DrL cs vs
  | .list sz xs, v => ∃ a cap, v = .slice a xs.length cap ∧ xs.length ≤ cap ∧ cap ≤ maxLen ∧ (xs = [] ∨ ∃ b o, a = some ⟨b, o, none⟩ ∧ I b ∧ DrE sz b o xs)
def DrL : List D → List Value → Prop
  | [], vs => vs = []
  | d :: ds, vs => ∃ v vs', vs = v :: vs' ∧ one v ∧ Dr d v ∧ DrL ds vs'
def DrE (sz b : Nat) : Nat → List D → Prop
  | _, [] => True
  | o, d :: ds => (∃ v, Dr d v ∧ v.cells.size = sz ∧ ∀ j, j < sz → w.cell? ⟨b, o + j, none⟩ = v.cells[j]?) ∧ DrE sz b (o + sz) ds
end
end
section
variable (w : World) (I : Nat → Prop) (ρ : LM) (σ : Store)
def live (σ : Store) (l : Nat) : Prop := ∃ o, σ[l]? = some o ∧ o ≠ .dead
def thaw (fz : Nat × Nat) (n : Nat) : Prop := fz.1 ≤ fz.2 ∧ ∀ j, j ≤ n → ¬ (fz.1 ≤ j ∧ j < fz.2)
def thawR (fz : Nat × Nat) (C : Array Value) : Prop := thaw fz C.size ∧ ∀ x ∈ C.toList, one x
def rowV (ρ : LM) (l off len : Nat) (v : Value) : Prop :=
  (len = 0 ∧ ∃ a, v = .slice a 0 0) ∨ ∃ L, ρ l = some L ∧ off + len ≤ L.cap ∧ v = .slice (some ⟨L.b, L.o + off * L.sz, none⟩) len (L.cap - off)
def slV (ρ : LM) (l off len : Nat) (c : Option Nat) (v : Value) : Prop := rowV ρ l off len v ∧ ∀ k, c = some k → ∃ a n, v = .slice a n k
mutual
def vr : V → Value → Prop
  | .d d, v => Dr w I d v
  | .undef, _ => True
  | .nils, v => v = .slice none 0 0
  | .ex sz xs, v => ∃ a, v = .slice a xs.length xs.length ∧ Dr w I (.list sz xs) v
  | .ptr l i s, v => one v ∧ l < σ.length ∧ (live σ l → ∃ L, ρ l = some L ∧ v = .pointer (some ⟨L.b, L.o + i * L.sz + s, none⟩))
  | .row l, v => one v ∧ l < σ.length ∧ ∀ sz xs mv, σ[l]? = some (.row sz xs mv) → rowV ρ l 0 xs.length v
  | .sl l off len c, v => one v ∧ l < σ.length ∧ ∀ sz xs mv, σ[l]? = some (.row sz xs mv) → off + len ≤ xs.length ∧ slV ρ l off len c v
  | .fn f first cap, v => ∃ fs cs : List Value, v = .func f fs.toArray cs.toArray ∧ vrL first fs ∧ vrL cap cs
  | .yield l, v => one v ∧ l < σ.length ∧ (live σ l → ∃ L, ρ l = some L ∧ v = .func (.yield L.b) #[] #[])
  | .map l, v => one v ∧ l < σ.length ∧ (live σ l → ∃ L, ρ l = some L ∧ v = .map (some L.b))
  | .tuple vs, v => ∃ xs : List Value, v = .tuple xs.toArray ∧ vrL vs xs
  | .agg vs, v => ∃ xs : List Value, v = .agg xs.toArray ∧ vrL vs xs ∧ ∀ x ∈ xs, one x
  | .ep sz x s, v => ∃ b o, v = .pointer (some ⟨b, o + s, none⟩) ∧ I b ∧ ∃ u, Dr w I x u ∧ u.cells.size = sz ∧ ∀ j, j < sz → w.cell? ⟨b, o + j, none⟩ = u.cells[j]?
def vrL : List V → List Value → Prop
  | [], vs => vs = []
  | x :: xs, vs => ∃ v vs', vs = v :: vs' ∧ vr x v ∧ vrL xs vs'
end
def orel (l : Nat) : O → Prop
  | .dead => True
  | .cells cs => ∃ L C T fz, ρ l = some L ∧ L.o = 0 ∧ w.heap[L.b]? = some (.cells C T fz) ∧ thaw fz C.size ∧ vrL w I ρ σ cs C.toList ∧ ∀ x ∈ C.toList, one x
  | .row sz xs _ => (ρ l = none ∧ xs = []) ∨ ∃ L C T fz, ρ l = some L ∧ L.sz = sz ∧ w.heap[L.b]? = some (.cells C T fz) ∧ thawR fz C ∧ C.size = L.o + L.cap * sz ∧ xs.length ≤ L.cap ∧ L.cap ≤ maxLen ∧ DrE w I sz L.b L.o xs
  | .map es => ∃ L E n, ρ l = some L ∧ L.o = 0 ∧ w.heap[L.b]? = some (.map E n) ∧ E.size = es.length ∧ (∀ (j : Nat) (e : MapEntry), E[j]? = some e → e.born < n ∧ ∃ x : Value × D, es[j]? = some x ∧ e.key = x.1 ∧ Dr w I x.2 e.val) ∧ (∀ (i j : Nat) (e e' : MapEntry), E[i]? = some e → E[j]? = some e' → e.born = e'.born → i = j)
  | .loop st pend fn tm params assign body => ∃ L tmps db, ρ l = some L ∧ w.heap[L.b]? = some (.loop { state := st, pending := pend, fn, tmps, params, assign, body, defers := db }) ∧ vrL w I ρ σ tm tmps.toList
  | .defd => ∃ L, ρ l = some L ∧ w.heap[L.b]? = some (.deferred (some []))
def O.still : O → Bool
  | .dead => false
  | .row _ _ mv => !mv
  | _ => true
def O.ld : O → Nat
  | .defd => 1
  | .loop .. => 2
  | _ => 0
def O.rl : O → Option Nat
  | .row _ xs _ => some xs.length
  | _ => none
def O.alike (o o' : O) : Prop := o.rl = o'.rl
theorem alike_row {o : O} {sz : Nat} {xs : List D} {mv : Bool} (h : o.alike (.row sz xs mv)) : ∃ sz' xs' mv', o = .row sz' xs' mv' ∧ xs'.length = xs.length := by
  cases o with
  | row sz' xs' mv' => exact ⟨sz', xs', mv', rfl, by simpa [O.alike, O.rl] using h⟩
  | _ => simp [O.alike, O.rl] at h
def foot (ρ : LM) (σ : Store) (b : Nat) : Prop := ∃ l o L, σ[l]? = some o ∧ o ≠ .dead ∧ ρ l = some L ∧ L.b = b
structure ORel : Prop where
  objs : ∀ l o, σ[l]? = some o → orel w I ρ σ l o
  inj : ∀ l l' L L', live σ l → live σ l' → ρ l = some L → ρ l' = some L' → L.b = L'.b → l = l'
  flt : ∀ b, foot ρ σ b → b < w.heap.size
  imm : ∀ b, I b → b < w.heap.size ∧ ¬ foot ρ σ b
end
structure Ext (n : Nat) (w : World) (I : Nat → Prop) (ρ : LM) (σ : Store) (w' : World) (I' : Nat → Prop) (ρ' : LM) (σ' : Store) : Prop where
  size : w.heap.size ≤ w'.heap.size
  os : w'.os = w.os
  tape : w'.tape = w.tape
  output : w'.output = w.output
  old : ∀ b, b < w.heap.size → ¬ foot ρ σ b → w'.heap[b]? = w.heap[b]?
  immI : ∀ b, I b → I' b
  immN : ∀ b, I' b → I b ∨ foot ρ σ b ∨ w.heap.size ≤ b
  footN : ∀ b, foot ρ' σ' b → foot ρ σ b ∨ w.heap.size ≤ b
  len : n ≤ σ'.length
  alive : ∀ l, l < n → live σ' l → live σ l
  fixed : ∀ l o', l < n → σ'[l]? = some o' → o'.still = true → ρ' l = ρ l ∧ ∃ o, σ[l]? = some o ∧ o.still = true ∧ o.alike o'
  stay : ∀ l o, l < n → σ[l]? = some o → o.ld ≠ 0 → ∃ o', σ'[l]? = some o' ∧ o'.ld = o.ld
theorem Ext.refl (w : World) (I : Nat → Prop) (ρ : LM) (σ : Store) : Ext σ.length w I ρ σ w I ρ σ :=
  ⟨Nat.le_refl _, rfl, rfl, rfl, fun _ _ _ => rfl, fun _ h => h, fun _ h => .inl h, fun _ h => .inl h, Nat.le_refl _, fun _ _ h => h, fun _ o _ h hf => ⟨rfl, o, h, hf, rfl⟩, fun _ o _ h _ => ⟨o, h, rfl⟩⟩
theorem Ext.less {n m : Nat} {w w' : World} {I I' : Nat → Prop} {ρ ρ' : LM} {σ σ' : Store} (h : Ext n w I ρ σ w' I' ρ' σ') (hm : m ≤ n) : Ext m w I ρ σ w' I' ρ' σ' :=
  ⟨h.size, h.os, h.tape, h.output, h.old, h.immI, h.immN, h.footN, Nat.le_trans hm h.len, fun l hl => h.alive l (by omega), fun l o hl => h.fixed l o (by omega), fun l o hl => h.stay l o (by omega)⟩
theorem Ext.trans {n : Nat} {w w1 w2 : World} {I I1 I2 : Nat → Prop} {ρ ρ1 ρ2 : LM} {σ σ1 σ2 : Store} (h : Ext n w I ρ σ w1 I1 ρ1 σ1) (h' : Ext n w1 I1 ρ1 σ1 w2 I2 ρ2 σ2) : Ext n w I ρ σ w2 I2 ρ2 σ2 where
  size := Nat.le_trans h.size h'.size
  os := h'.os.trans h.os
  tape := h'.tape.trans h.tape
  output := h'.output.trans h.output
  old b hb hf := by
    have hf1 : ¬ foot ρ1 σ1 b := fun hx => (h.footN b hx).elim hf fun hs => by omega
    rw [h'.old b (Nat.lt_of_lt_of_le hb h.size) hf1, h.old b hb hf]
  immI b hb := h'.immI b (h.immI b hb)
  immN b hb := by
    rcases h'.immN b hb with hx | hx | hx
    · exact h.immN b hx
    · exact .inr (h.footN b hx)
    · exact .inr (.inr (Nat.le_trans h.size hx))
  footN b hb := by
    rcases h'.footN b hb with hx | hx
    · exact h.footN b hx
    · exact .inr (Nat.le_trans h.size hx)
  len := h'.len
  alive l hl hv := h.alive l hl (h'.alive l hl hv)
  fixed l o' hn hl hf := by
    obtain ⟨h1, o1, ho1, hf1, ha1⟩ := h'.fixed l o' hn hl hf
    obtain ⟨h2, o2, ho2, hf2, ha2⟩ := h.fixed l o1 hn ho1 hf1
    exact ⟨h1.trans h2, o2, ho2, hf2, Eq.trans ha2 ha1⟩
  stay l o hn hl ho := by
    obtain ⟨o1, h1, h2⟩ := h.stay l o hn hl ho
    obtain ⟨o2, h3, h4⟩ := h'.stay l o1 hn h1 (by rw [h2]; exact ho)
    exact ⟨o2, h3, h4.trans h2⟩
section mono
variable {w w' : World} {I I' : Nat → Prop}
mutual
theorem Dr_mono (h : ∀ b, I b → I' b ∧ w'.heap[b]? = w.heap[b]?) : ∀ d v, Dr w I d v → Dr w' I' d v
  | .int _ _, _, hd => by simpa [Dr] using hd
  | .bool _, _, hd => by simpa [Dr] using hd
  | .str _, _, hd => by simpa [Dr] using hd
  | .raw _, _, hd => by simpa [Dr] using hd
  | .agg cs, v, hd => by
    simp only [Dr] at hd ⊢
    obtain ⟨vs, hv, hl⟩ := hd
    exact ⟨vs, hv, DrL_mono h cs vs hl⟩
  | .list sz xs, v, hd => by
    simp only [Dr] at hd ⊢
    obtain ⟨a, cap, hv, h1, h2, h3⟩ := hd
    refine ⟨a, cap, hv, h1, h2, h3.imp id ?_⟩
    rintro ⟨b, o, ha, hI, hE⟩
    exact ⟨b, o, ha, (h b hI).1, DrE_mono h sz b (h b hI).2 o xs hE⟩
theorem DrL_mono (h : ∀ b, I b → I' b ∧ w'.heap[b]? = w.heap[b]?) : ∀ ds vs, DrL w I ds vs → DrL w' I' ds vs
  | [], _, hd => by simpa [DrL] using hd
  | d :: ds, vs, hd => by
    simp only [DrL] at hd ⊢
    obtain ⟨v, vs', hv, h1, h2, h3⟩ := hd
    exact ⟨v, vs', hv, h1, Dr_mono h d v h2, DrL_mono h ds vs' h3⟩
theorem DrE_mono (h : ∀ b, I b → I' b ∧ w'.heap[b]? = w.heap[b]?) (sz b : Nat) (hb : w'.heap[b]? = w.heap[b]?) : ∀ o ds, DrE w I sz b o ds → DrE w' I' sz b o ds
  | _, [], _ => by simp [DrE]
  | o, d :: ds, hd => by
    simp only [DrE] at hd ⊢
    obtain ⟨⟨v, h1, h2, h3⟩, h4⟩ := hd
    refine ⟨⟨v, Dr_mono h d v h1, h2, fun j hj => ?_⟩, DrE_mono h sz b hb (o + sz) ds h4⟩
    rw [← h3 j hj]
    simp [World.cell?, hb]
end
end mono
mutual
def V.locs : V → List Nat
  | .ptr l _ _ | .row l | .sl l _ _ _ | .yield l | .map l => [l]
  | .fn _ a b => V.locsL a ++ V.locsL b
  | .tuple vs | .agg vs => V.locsL vs
  | _ => []
def V.locsL : List V → List Nat
  | [] => []
  | v :: vs => V.locs v ++ V.locsL vs
end
def O.locs : O → List Nat
  | .cells cs => V.locsL cs
  | .loop _ _ _ tm _ _ _ => V.locsL tm
  | _ => []
mutual
def V.kill (p : Nat → Bool) : V → V
  | .ptr l i s => if p l then .undef else .ptr l i s
  | .row l => if p l then .undef else .row l
  | .sl l a b c => if p l then .undef else .sl l a b c
  | .yield l => if p l then .undef else .yield l
  | .map l => if p l then .undef else .map l
  | .fn f a b => .fn f (V.killL p a) (V.killL p b)
  | .tuple vs => .tuple (V.killL p vs)
  | .agg vs => .agg (V.killL p vs)
  | .d x => .d x
  | .undef => .undef
  | .nils => .nils
  | .ex sz xs => .ex sz xs
  | .ep sz x s => .ep sz x s
def V.killL (p : Nat → Bool) : List V → List V
  | [] => []
  | v :: vs => V.kill p v :: V.killL p vs
end
def O.kill (p : Nat → Bool) : O → O
  | .cells cs => .cells (V.killL p cs)
  | .loop a b c tm x e f => .loop a b c (V.killL p tm) x e f
  | .dead => .dead
  | .row sz xs mv => .row sz xs mv
  | .map es => .map es
  | .defd => .defd
def Same (ρ : LM) (σ : Store) (ρ' : LM) (σ' : Store) (l : Nat) : Prop :=
  l < σ'.length ∧ ∀ o', σ'[l]? = some o' → o' ≠ .dead → ρ' l = ρ l ∧ ∃ o, σ[l]? = some o ∧ o ≠ .dead ∧ o.alike o'
section up
variable {w w' : World} {I I' : Nat → Prop} {ρ ρ' : LM} {σ σ' : Store}
theorem rowV_up {l off len : Nat} (h : ρ' l = ρ l) {v : Value} (hr : rowV ρ l off len v) : rowV ρ' l off len v := by
  unfold rowV at *
  rw [h]; exact hr
mutual
theorem vr_up (hI : ∀ b, I b → I' b ∧ w'.heap[b]? = w.heap[b]?) : ∀ (v : V) (x : Value), (∀ l ∈ v.locs, Same ρ σ ρ' σ' l) → vr w I ρ σ v x → vr w' I' ρ' σ' v x
  | .d d, x, _, h => by
    simp only [vr] at h ⊢
    exact Dr_mono hI d x h
  | .undef, _, _, _ => by simp [vr]
  | .nils, _, _, h => by simpa [vr] using h
  | .ex sz xs, x, _, h => by
    simp only [vr] at h ⊢
    obtain ⟨a, ha, hd⟩ := h
    exact ⟨a, ha, Dr_mono hI _ _ hd⟩
  | .ptr l i s, x, hs, h => by
    simp only [vr] at h ⊢
    have hs := hs l (by simp [V.locs])
    refine ⟨h.1, hs.1, ?_⟩
    rintro ⟨o', ho', hn'⟩
    obtain ⟨h1, o, h2, h3, _⟩ := hs.2 o' ho' hn'
    rw [h1]
    exact h.2.2 ⟨o, h2, h3⟩
  | .row l, x, hs, h => by
    simp only [vr] at h ⊢
    have hs := hs l (by simp [V.locs])
    refine ⟨h.1, hs.1, fun sz' xs' mv' hx => ?_⟩
    obtain ⟨h1, o, h2, h3, h4⟩ := hs.2 _ hx (by simp)
    obtain ⟨sz, xs, mv, rfl, he⟩ := alike_row h4
    rw [← he]
    exact rowV_up h1 (h.2.2 sz xs mv h2)
  | .sl l off len c, x, hs, h => by
    simp only [vr] at h ⊢
    have hs := hs l (by simp [V.locs])
    refine ⟨h.1, hs.1, fun sz' xs' mv' hx => ?_⟩
    obtain ⟨h1, o, h2, h3, h4⟩ := hs.2 _ hx (by simp)
    obtain ⟨sz, xs, mv, rfl, he⟩ := alike_row h4
    rw [← he]
    exact ⟨(h.2.2 sz xs mv h2).1, rowV_up h1 (h.2.2 sz xs mv h2).2.1, (h.2.2 sz xs mv h2).2.2⟩
  | .fn f a b, x, hs, h => by
    simp only [vr] at h ⊢
    obtain ⟨fs, cs, hx, h1, h2⟩ := h
    exact ⟨fs, cs, hx, vrL_up hI a fs (fun l hl => hs l (by simp [V.locs, hl])) h1, vrL_up hI b cs (fun l hl => hs l (by simp [V.locs, hl])) h2⟩
  | .yield l, x, hs, h => by
    simp only [vr] at h ⊢
    have hs := hs l (by simp [V.locs])
    refine ⟨h.1, hs.1, ?_⟩
    rintro ⟨o', ho', hn'⟩
    obtain ⟨h1, o, h2, h3, _⟩ := hs.2 o' ho' hn'
    rw [h1]
    exact h.2.2 ⟨o, h2, h3⟩
  | .map l, x, hs, h => by
    simp only [vr] at h ⊢
    have hs := hs l (by simp [V.locs])
    refine ⟨h.1, hs.1, ?_⟩
    rintro ⟨o', ho', hn'⟩
    obtain ⟨h1, o, h2, h3, _⟩ := hs.2 o' ho' hn'
    rw [h1]
    exact h.2.2 ⟨o, h2, h3⟩
  | .tuple vs, x, hs, h => by
    simp only [vr] at h ⊢
    obtain ⟨xs, hx, h1⟩ := h
    exact ⟨xs, hx, vrL_up hI vs xs (fun l hl => hs l (by simpa [V.locs] using hl)) h1⟩
  | .agg vs, x, hs, h => by
    simp only [vr] at h ⊢
    obtain ⟨xs, hx, h1, h2⟩ := h
    exact ⟨xs, hx, vrL_up hI vs xs (fun l hl => hs l (by simpa [V.locs] using hl)) h1, h2⟩
  | .ep sz y s, x, _, h => by
    simp only [vr] at h ⊢
    obtain ⟨b, o, hx, hb, u, h1, h2, h3⟩ := h
    refine ⟨b, o, hx, (hI b hb).1, u, Dr_mono hI y u h1, h2, fun j hj => ?_⟩
    rw [← h3 j hj]
    simp [World.cell?, (hI b hb).2]
theorem vrL_up (hI : ∀ b, I b → I' b ∧ w'.heap[b]? = w.heap[b]?) : ∀ (vs : List V) (xs : List Value), (∀ l ∈ V.locsL vs, Same ρ σ ρ' σ' l) → vrL w I ρ σ vs xs → vrL w' I' ρ' σ' vs xs
  | [], _, _, h => by simpa [vrL] using h
  | v :: vs, xs, hs, h => by
    simp only [vrL] at h ⊢
    obtain ⟨x, xs', hx, h1, h2⟩ := h
    exact ⟨x, xs', hx, vr_up hI v x (fun l hl => hs l (by simp [V.locsL, hl])) h1, vrL_up hI vs xs' (fun l hl => hs l (by simp [V.locsL, hl])) h2⟩
end
mutual
theorem vr_kill (p : Nat → Bool) : ∀ (v : V) (x : Value), vr w I ρ σ v x → vr w I ρ σ (v.kill p) x
  | .d d, x, h => by simpa [V.kill] using h
  | .undef, _, _ => by simp [vr, V.kill]
  | .nils, _, h => by simpa [V.kill] using h
  | .ex sz xs, x, h => by simpa [V.kill] using h
  | .ep sz y s, x, h => by simpa [V.kill] using h
  | .ptr l i s, x, h => by
    simp only [V.kill]
    split
    · simp [vr]
    · exact h
  | .row l, x, h => by
    simp only [V.kill]
    split
    · simp [vr]
    · exact h
  | .sl l off len c, x, h => by
    simp only [V.kill]
    split
    · simp [vr]
    · exact h
  | .fn f a b, x, h => by
    simp only [vr, V.kill] at h ⊢
    obtain ⟨fs, cs, hx, h1, h2⟩ := h
    exact ⟨fs, cs, hx, vrL_kill p a fs h1, vrL_kill p b cs h2⟩
  | .yield l, x, h => by
    simp only [V.kill]
    split
    · simp [vr]
    · exact h
  | .map l, x, h => by
    simp only [V.kill]
    split
    · simp [vr]
    · exact h
  | .tuple vs, x, h => by
    simp only [vr, V.kill] at h ⊢
    obtain ⟨xs, hx, h1⟩ := h
    exact ⟨xs, hx, vrL_kill p vs xs h1⟩
  | .agg vs, x, h => by
    simp only [vr, V.kill] at h ⊢
    obtain ⟨xs, hx, h1, h2⟩ := h
    exact ⟨xs, hx, vrL_kill p vs xs h1, h2⟩
theorem vrL_kill (p : Nat → Bool) : ∀ (vs : List V) (xs : List Value), vrL w I ρ σ vs xs → vrL w I ρ σ (V.killL p vs) xs
  | [], _, h => by simpa [vrL, V.killL] using h
  | v :: vs, xs, h => by
    simp only [vrL, V.killL] at h ⊢
    obtain ⟨x, xs', hx, h1, h2⟩ := h
    exact ⟨x, xs', hx, vr_kill p v x h1, vrL_kill p vs xs' h2⟩
end
end up
mutual
theorem locs_kill (p : Nat → Bool) : ∀ (v : V) (l : Nat), l ∈ (v.kill p).locs → l ∈ v.locs ∧ p l = false
  | .d d, l, h => by simp [V.kill, V.locs] at h
  | .undef, l, h => by simp [V.kill, V.locs] at h
  | .nils, l, h => by simp [V.kill, V.locs] at h
  | .ex sz xs, l, h => by simp [V.kill, V.locs] at h
  | .ep sz y s, l, h => by simp [V.kill, V.locs] at h
  | .ptr k i s, l, h => by
    simp only [V.kill] at h
    split at h <;> simp_all [V.locs]
  | .row k, l, h => by
    simp only [V.kill] at h
    split at h <;> simp_all [V.locs]
  | .sl k _ _ _, l, h => by
    simp only [V.kill] at h
    split at h <;> simp_all [V.locs]
  | .yield k, l, h => by
    simp only [V.kill] at h
    split at h <;> simp_all [V.locs]
  | .map k, l, h => by
    simp only [V.kill] at h
    split at h <;> simp_all [V.locs]
  | .fn f a b, l, h => by
    simp only [V.kill, V.locs, List.mem_append] at h ⊢
    rcases h with h | h
    · exact ⟨.inl (locsL_kill p a l h).1, (locsL_kill p a l h).2⟩
    · exact ⟨.inr (locsL_kill p b l h).1, (locsL_kill p b l h).2⟩
  | .tuple vs, l, h => by
    simp only [V.kill, V.locs] at h ⊢
    exact locsL_kill p vs l h
  | .agg vs, l, h => by
    simp only [V.kill, V.locs] at h ⊢
    exact locsL_kill p vs l h
theorem locsL_kill (p : Nat → Bool) : ∀ (vs : List V) (l : Nat), l ∈ V.locsL (V.killL p vs) → l ∈ V.locsL vs ∧ p l = false
  | [], l, h => by simp [V.killL, V.locsL] at h
  | v :: vs, l, h => by
    simp only [V.killL, V.locsL, List.mem_append] at h ⊢
    rcases h with h | h
    · exact ⟨.inl (locs_kill p v l h).1, (locs_kill p v l h).2⟩
    · exact ⟨.inr (locsL_kill p vs l h).1, (locsL_kill p vs l h).2⟩
end
end Go.Br
namespace Go.Br
open Go
def frm (f : FuncId) (rb : Option Nat) (a : Act) (todo : List Item) : Frame :=
  { fn := f, tmps := a.tmps, todo, defers := a.defers, mode := .run, kind := .normal, roundOf := rb }
section steps
variable {P : Program} {f : FuncId} {rb : Option Nat} {a : Act} {k : List Item} {cs : List Frame} {w : World}
theorem st_skip : step P (lone (frm f rb a (.code .skip :: k)) cs w) = .next (lone (frm f rb a k) cs w) :=
  step_lone_go (by simp [stepG, stepG.exec, frm])
theorem st_label {l : Nat} : step P (lone (frm f rb a (.code (.label l) :: k)) cs w) = .next (lone (frm f rb a k) cs w) :=
  step_lone_go (by simp [stepG, stepG.exec, frm])
theorem st_inBlock {id : Nat} : step P (lone (frm f rb a (.inBlock id :: k)) cs w) = .next (lone (frm f rb a k) cs w) :=
  step_lone_go (by simp [stepG, stepG.exec, frm])
theorem st_inScope {c : Code} : step P (lone (frm f rb a (.inScope c :: k)) cs w) = .next (lone (frm f rb a k) cs w) :=
  step_lone_go (by simp [stepG, stepG.exec, frm])
theorem st_seq {x y : Code} : step P (lone (frm f rb a (.code (.seq x y) :: k)) cs w) = .next (lone (frm f rb a (.code x :: .code y :: k)) cs w) :=
  step_lone_go (by simp [stepG, stepG.exec, frm])
theorem Frm.eval (todo : List Item) : (frm f rb a todo).eval = a.eval := by
  funext x; cases x <;> rfl
theorem st_cond {c : Operand} {x y : Code} {t : Bool} (h : a.eval c = .bool t) :
    step P (lone (frm f rb a (.code (.cond c x y) :: k)) cs w) = .next (lone (frm f rb a (.code (if t then x else y) :: k)) cs w) :=
  step_lone_go (by
    have := congrFun (Frm.eval (f := f) (rb := rb) (a := a) (.code (.cond c x y) :: k)) c
    simp only [frm] at this
    simp [stepG, stepG.exec, frm, this, h])
theorem st_block {id : Nat} {c : Code} : step P (lone (frm f rb a (.code (.block id c) :: k)) cs w) = .next (lone (frm f rb a (.code c :: .inBlock id :: k)) cs w) :=
  step_lone_go (by simp [stepG, stepG.exec, frm])
theorem st_scope {c : Code} : step P (lone (frm f rb a (.code (.scope c) :: k)) cs w) = .next (lone (frm f rb a (.code c :: .inScope c :: k)) cs w) :=
  step_lone_go (by simp [stepG, stepG.exec, frm])
theorem st_loop {c : Code} : step P (lone (frm f rb a (.code (.loop c) :: k)) cs w) = .next (lone (frm f rb a (.code c :: .inLoop c :: k)) cs w) :=
  step_lone_go (by simp [stepG, stepG.exec, frm])
theorem st_inLoop {c : Code} : step P (lone (frm f rb a (.inLoop c :: k)) cs w) = .next (lone (frm f rb a (.code c :: .inLoop c :: k)) cs w) :=
  step_lone_go (by simp [stepG, stepG.exec, frm])
theorem st_exit {id : Nat} {k' : List Item} (h : exitTo id k = some k') : step P (lone (frm f rb a (.code (.exit id) :: k)) cs w) = .next (lone (frm f rb a k') cs w) :=
  step_lone_go (by simp [stepG, stepG.exec, frm, h])
theorem st_goto {l : Nat} {k' : List Item} (h : gotoIn l k = some k') : step P (lone (frm f rb a (.code (.goto l) :: k)) cs w) = .next (lone (frm f rb a k') cs w) :=
  step_lone_go (by simp [stepG, stepG.exec, frm, h])
theorem st_ret : step P (lone (frm f none a (.code .ret :: k)) cs w) = .next (lone { frm f none a (.code .ret :: k) with mode := .returning } cs w) :=
  step_lone_go (by simp [stepG, stepG.exec, frm])
theorem st_end : step P (lone (frm f none a []) cs w) = .next (lone { frm f none a [] with mode := .returning } cs w) :=
  step_lone_go (by simp [stepG, stepG.exec, frm])
theorem st_region {id : Nat} {ops : Array Oper} :
    step P (lone (frm f rb a (.code (.region id ops false) :: k)) cs w) = .next (lone (frm f rb a (.inRegion ops (List.range ops.size) :: k)) cs w) :=
  step_lone_go (by simp [stepG, stepG.exec, frm])
theorem st_region_draw {id : Nat} {ops : Array Oper} :
    step P (lone (frm f rb a (.code (.region id ops true) :: k)) cs w) =
      .next (lone (frm f rb a (.inRegion ops (Region.schedule (P.follows .mixedOrders) ops (w.tape w.drawn (.order f id))) :: k)) cs w.drew) :=
  step_lone_go (by simp [stepG, stepG.exec, frm, choose, Sem.run, Question.forced, Question.cut])
theorem st_region_end {ops : Array Oper} : step P (lone (frm f rb a (.inRegion ops [] :: k)) cs w) = .next (lone (frm f rb a k) cs w) :=
  step_lone_go (by simp [stepG, stepG.exec, frm])
theorem Frm.finish (ops : Array Oper) (i : Nat) (rest : List Nat) (v : Value) :
    (frm f rb a (.inRegion ops (i :: rest) :: k)).finish v = frm f rb (a.put ((ops[i]?).bind (·.dst)) v) (.inRegion ops rest :: k) := by
  cases h : (ops[i]?).bind (·.dst) <;> simp [Frame.finish, frm, Act.put, h]
theorem st_op_skip {ops : Array Oper} {i : Nat} {rest : List Nat} (h : ((ops[i]?).map (Region.wanted · (yielded ops a.tmps))).getD false = false) :
    step P (lone (frm f rb a (.inRegion ops (i :: rest) :: k)) cs w) = .next (lone (frm f rb (a.put ((ops[i]?).bind (·.dst)) undef) (.inRegion ops rest :: k)) cs w) := by
  rw [← Frm.finish]
  exact step_lone_go (by
    have h' := h
    simp only [frm] at *
    simp [stepG, stepG.exec, h'])
def Op.isDefer : Op → Bool
  | .defer _ => true
  | _ => false
theorem stepG_oper {ops : Array Oper} {i : Nat} {rest : List Nat} {o : Oper} (ho : ops[i]? = some o) (hw : Region.wanted o (yielded ops a.tmps) = true) (hd : Op.isDefer o.op = false) :
    stepG P true { frame := frm f rb a (.inRegion ops (i :: rest) :: k), callers := cs, status := .running, dying := none } w =
      stepG.apply P true (frm f rb a (.inRegion ops (i :: rest) :: k)) cs none (execOp a.eval o) w := by
  have he := Frm.eval (f := f) (rb := rb) (a := a) (.inRegion ops (i :: rest) :: k)
  simp only [frm] at he
  cases rb with
  | none => simp [stepG, stepG.exec, stepG.oper, Frame.oper?, frm, ho, hw, he]
  | some l => cases hop : o.op <;> simp_all [stepG, stepG.exec, stepG.oper, Frame.oper?, frm, Op.isDefer]
theorem st_op_value {ops : Array Oper} {i : Nat} {rest : List Nat} {o : Oper} (ho : ops[i]? = some o) (hw : Region.wanted o (yielded ops a.tmps) = true) (hd : Op.isDefer o.op = false) {v : Value} {w' : World}
    (hr : (execOp a.eval o).run P w = .ok (.value v) w') :
    step P (lone (frm f rb a (.inRegion ops (i :: rest) :: k)) cs w) = .next (lone (frm f rb (a.put o.dst v) (.inRegion ops rest :: k)) cs w') := by
  refine step_lone_go ?_
  have hfin := Frm.finish (f := f) (rb := rb) (a := a) (k := k) ops i rest v
  rw [ho] at hfin
  rw [stepG_oper ho hw hd]
  simp only [Option.bind_some] at hfin
  rw [← hfin]
  simp [stepG.apply, hr]
theorem st_op_unit {ops : Array Oper} {i : Nat} {rest : List Nat} {o : Oper} (ho : ops[i]? = some o) (hw : Region.wanted o (yielded ops a.tmps) = true) (hd : Op.isDefer o.op = false) {w' : World}
    (hr : (execOp a.eval o).run P w = .ok .skip w') :
    step P (lone (frm f rb a (.inRegion ops (i :: rest) :: k)) cs w) = .next (lone (frm f rb (a.put o.dst undef) (.inRegion ops rest :: k)) cs w') := by
  refine step_lone_go ?_
  have hfin := Frm.finish (f := f) (rb := rb) (a := a) (k := k) ops i rest undef
  rw [ho] at hfin
  rw [stepG_oper ho hw hd]
  simp only [Option.bind_some] at hfin
  rw [← hfin]
  simp [stepG.apply, hr]
theorem st_op_enter {ops : Array Oper} {i : Nat} {rest : List Nat} {o : Oper} (ho : ops[i]? = some o) (hw : Region.wanted o (yielded ops a.tmps) = true) (hd : Op.isDefer o.op = false) {g : FuncId} {args : Array Value} {w' : World}
    (hr : (execOp a.eval o).run P w = .ok (.enter g args) w') :
    step P (lone (frm f rb a (.inRegion ops (i :: rest) :: k)) cs w) = .next (lone (Frame.enter P g args .normal) (frm f rb a (.inRegion ops (i :: rest) :: k) :: cs) w') := by
  refine step_lone_go ?_
  rw [stepG_oper ho hw hd]
  simp [stepG.apply, hr, frm]
theorem st_op_round {ops : Array Oper} {i : Nat} {rest : List Nat} {o : Oper} (ho : ops[i]? = some o) (hw : Region.wanted o (yielded ops a.tmps) = true) (hd : Op.isDefer o.op = false) {l g : Nat} {tmps : Array Value} {asg body : Code} {w' : World}
    (hr : (execOp a.eval o).run P w = .ok (.round l g tmps asg body) w') :
    step P (lone (frm f rb a (.inRegion ops (i :: rest) :: k)) cs w) = .next (lone (frm g (some l) ⟨tmps, []⟩ [.code asg, .beginRound, .code body]) (frm f rb a (.inRegion ops (i :: rest) :: k) :: cs) w') := by
  refine step_lone_go ?_
  rw [stepG_oper ho hw hd]
  simp [stepG.apply, hr, frm, Frame.round]
end steps
def Lv (P : Program) (rb : Option Nat) (f : FuncId) (fr : Frame) (w : World) (e : Ending) (w' : World) : Prop :=
  match rb with
  | none => w' = w ∧ fr.fn = f ∧ fr.leaving P w e ∧ e ≠ .outgrown
  | some _ => ∀ c cs, ∃ c', step P (lone fr (c :: cs) w) = .next (lone c' cs w') ∧ (match e with | .returned v => c' = c.finish v | .panicked ch => c' = c.raise ch | .outgrown => False)
def RunsTo (P : Program) (f : FuncId) (rb : Option Nat) (todo : List Item) (a : Act) (w : World) (R : Ending → World → Prop) : Prop :=
  ∀ cs, ∃ e w1 w' fr, R e w' ∧ Steps P (lone (frm f rb a todo) cs w) (lone fr cs w1) ∧ Lv P rb f fr w1 e w'
section runs
variable {P : Program} {f : FuncId} {rb : Option Nat} {a a' : Act} {k k' : List Item} {w w' : World} {R R' : Ending → World → Prop}
theorem RunsTo.step (h : ∀ cs, step P (lone (frm f rb a k) cs w) = .next (lone (frm f rb a' k') cs w')) (hr : RunsTo P f rb k' a' w' R) : RunsTo P f rb k a w R := by
  intro cs
  obtain ⟨e, w1, w2, fr, h1, h2, h3⟩ := hr cs
  exact ⟨e, w1, w2, fr, h1, .head (h cs) h2, h3⟩
theorem RunsTo.mono (hr : RunsTo P f rb k a w R) (h : ∀ e w', R e w' → R' e w') : RunsTo P f rb k a w R' := by
  intro cs
  obtain ⟨e, w1, w2, fr, h1, h2, h3⟩ := hr cs
  exact ⟨e, w1, w2, fr, h _ _ h1, h2, h3⟩
theorem RunsTo.call {ops : Array Oper} {i : Nat} {rest : List Nat} {o : Oper} (ho : ops[i]? = some o) (hw : Region.wanted o (yielded ops a.tmps) = true) (hd : Op.isDefer o.op = false) {g : FuncId} {args : Array Value}
    (hr : (execOp a.eval o).run P w = .ok (.enter g args) w') {S : Value → World → Prop}
    (hc : Calls P g args w' fun e w'' => ∃ v, e = .returned v ∧ S v w'')
    (hk : ∀ v w'', S v w'' → RunsTo P f rb (.inRegion ops rest :: k) (a.put o.dst v) w'' R) : RunsTo P f rb (.inRegion ops (i :: rest) :: k) a w R := by
  intro cs
  obtain ⟨e, w1, fr, hR, hcomes, _, hleave⟩ := hc (frm f rb a (.inRegion ops (i :: rest) :: k) :: cs)
  obtain ⟨v, rfl, hS⟩ := hR
  obtain ⟨e2, w2, w3, fr2, h1, h2, h3⟩ := hk v w1 hS cs
  refine ⟨e2, w2, w3, fr2, h1, .head (st_op_enter ho hw hd hr) (hcomes.trans (.head ?_ h2)), h3⟩
  have hfin := Frm.finish (f := f) (rb := rb) (a := a) (k := k) ops i rest v
  rw [ho] at hfin
  simp only [Option.bind_some] at hfin
  rw [← hfin]
  exact step_leave_returned hleave
theorem RunsTo.round {ops : Array Oper} {i : Nat} {rest : List Nat} {o : Oper} (ho : ops[i]? = some o) (hw : Region.wanted o (yielded ops a.tmps) = true) (hd : Op.isDefer o.op = false) {l g : Nat} {tmps : Array Value} {asg body : Code}
    (hr : (execOp a.eval o).run P w = .ok (.round l g tmps asg body) w') {S : Value → World → Prop}
    (hc : RunsTo P g (some l) [.code asg, .beginRound, .code body] ⟨tmps, []⟩ w' fun e w'' => ∃ v, e = .returned v ∧ S v w'')
    (hk : ∀ v w'', S v w'' → RunsTo P f rb (.inRegion ops rest :: k) (a.put o.dst v) w'' R) : RunsTo P f rb (.inRegion ops (i :: rest) :: k) a w R := by
  intro cs
  obtain ⟨e, w1, w2, fr, hR, hst, hlv⟩ := hc (frm f rb a (.inRegion ops (i :: rest) :: k) :: cs)
  obtain ⟨v, rfl, hS⟩ := hR
  obtain ⟨e2, w3, w4, fr2, h1, h2, h3⟩ := hk v w2 hS cs
  obtain ⟨c', hc1, rfl⟩ := hlv (frm f rb a (.inRegion ops (i :: rest) :: k)) cs
  have hfin := Frm.finish (f := f) (rb := rb) (a := a) (k := k) ops i rest v
  rw [ho] at hfin
  simp only [Option.bind_some] at hfin
  rw [hfin] at hc1
  exact ⟨e2, w3, w4, fr2, h1, .head (st_op_round ho hw hd hr) (hst.trans (.head hc1 h2)), h3⟩
end runs
theorem calls_of_runs {P : Program} {g : FuncId} {fn : Func} {c : Code} {args : Array Value} {w : World} {R : Ending → World → Prop} (hf : P.funcs[g]? = some fn) (hb : fn.body = some c)
    (h : RunsTo P g none [.code c] ⟨args ++ Array.replicate (fn.ntmps - args.size) undef, []⟩ w R) : Calls P g args w R := by
  intro cs
  obtain ⟨e, w1, w2, fr, h1, h2, h3⟩ := h cs
  obtain ⟨rfl, h4, h5, h6⟩ := h3
  refine ⟨e, _, fr, h1, ?_, h4, h5⟩
  have henter : Frame.enter P g args .normal = frm g none ⟨args ++ Array.replicate (fn.ntmps - args.size) undef, []⟩ [.code c] := by
    simp [Frame.enter, frm, hf, hb]
  rw [henter]
  cases e with
  | returned v => exact h2
  | panicked ch => exact h2
  | outgrown => exact absurd rfl h6
inductive AE where
  | ret (v : V)
  | pan (v : V)
def erel (w : World) (I : Nat → Prop) (ρ : LM) (σ : Store) : AE → Ending → Prop
  | .ret v, e => ∃ x, e = .returned x ∧ vr w I ρ σ v x
  | .pan v, e => ∃ x, e = .panicked [{ v := x, recovered := false }] ∧ vr w I ρ σ v x
def Fin (n : Nat) (w : World) (I : Nat → Prop) (ρ : LM) (σ : Store) (Q : AE → Store → Prop) (e : Ending) (w' : World) : Prop :=
  ∃ I' ρ' σ' r, Q r σ' ∧ erel w' I' ρ' σ' r e ∧ ORel w' I' ρ' σ' ∧ Ext n w I ρ σ w' I' ρ' σ'
theorem Fin.trans {n : Nat} {w w1 w' : World} {I I1 : Nat → Prop} {ρ ρ1 : LM} {σ σ1 : Store} {Q : AE → Store → Prop} {e : Ending} (hx : Ext n w I ρ σ w1 I1 ρ1 σ1) (h : Fin n w1 I1 ρ1 σ1 Q e w') : Fin n w I ρ σ Q e w' := by
  obtain ⟨I', ρ', σ', r, h1, h2, h3, h4⟩ := h
  exact ⟨I', ρ', σ', r, h1, h2, h3, hx.trans h4⟩
def dfr (ρ : LM) (σ : Store) : List Nat → List Deferred → Prop
  | [], ds => ds = []
  | l :: ls, ds => ∃ L ds', ρ l = some L ∧ σ[l]? = some .defd ∧ ds = { target := .collected L.b, args := #[] } :: ds' ∧ dfr ρ σ ls ds'
def rbOf (ρ : LM) (σ : Store) : Option Nat → Option Nat → Prop
  | none, rb => rb = none
  | some l, rb => ∃ L o, ρ l = some L ∧ σ[l]? = some o ∧ (∃ a b c d e f g, o = .loop a b c d e f g) ∧ rb = some L.b
structure Rel (w : World) (I : Nat → Prop) (ρ : LM) (σ : Store) (tm : List V) (df : List Nat) (a : Act) : Prop where
  tms : vrL w I ρ σ tm a.tmps.toList
  ors : ORel w I ρ σ
  dfs : dfr ρ σ df a.defers
def AW (P : Program) (f : FuncId) (ro : Option Nat) (n : Nat) (todo : List Item) (tm : List V) (σ : Store) (df : List Nat) (Q : AE → Store → Prop) : Prop :=
  ∀ w I ρ a rb, Rel w I ρ σ tm df a → rbOf ρ σ ro rb → n ≤ σ.length → RunsTo P f rb todo a w (Fin n w I ρ σ Q)
section control
variable {P : Program} {f : FuncId} {ro : Option Nat} {n : Nat} {k : List Item} {tm : List V} {σ : Store} {df : List Nat} {Q : AE → Store → Prop}
theorem AW.same {k' : List Item} (hs : ∀ rb a cs w, step P (lone (frm f rb a k') cs w) = .next (lone (frm f rb a k) cs w)) (h : AW P f ro n k tm σ df Q) : AW P f ro n k' tm σ df Q :=
  fun w I ρ a rb hr hb hn => .step (hs rb a · w) (h w I ρ a rb hr hb hn)
theorem AW.skip (h : AW P f ro n k tm σ df Q) : AW P f ro n (.code .skip :: k) tm σ df Q := h.same fun _ _ _ _ => st_skip
theorem AW.label {l : Nat} (h : AW P f ro n k tm σ df Q) : AW P f ro n (.code (.label l) :: k) tm σ df Q := h.same fun _ _ _ _ => st_label
theorem AW.inBlock {id : Nat} (h : AW P f ro n k tm σ df Q) : AW P f ro n (.inBlock id :: k) tm σ df Q := h.same fun _ _ _ _ => st_inBlock
theorem AW.inScope {c : Code} (h : AW P f ro n k tm σ df Q) : AW P f ro n (.inScope c :: k) tm σ df Q := h.same fun _ _ _ _ => st_inScope
theorem AW.seq {x y : Code} (h : AW P f ro n (.code x :: .code y :: k) tm σ df Q) : AW P f ro n (.code (.seq x y) :: k) tm σ df Q := h.same fun _ _ _ _ => st_seq
theorem AW.block {id : Nat} {c : Code} (h : AW P f ro n (.code c :: .inBlock id :: k) tm σ df Q) : AW P f ro n (.code (.block id c) :: k) tm σ df Q := h.same fun _ _ _ _ => st_block
theorem AW.scope {c : Code} (h : AW P f ro n (.code c :: .inScope c :: k) tm σ df Q) : AW P f ro n (.code (.scope c) :: k) tm σ df Q := h.same fun _ _ _ _ => st_scope
theorem AW.loop {c : Code} (h : AW P f ro n (.code c :: .inLoop c :: k) tm σ df Q) : AW P f ro n (.code (.loop c) :: k) tm σ df Q := h.same fun _ _ _ _ => st_loop
theorem AW.inLoop {c : Code} (h : AW P f ro n (.code c :: .inLoop c :: k) tm σ df Q) : AW P f ro n (.inLoop c :: k) tm σ df Q := h.same fun _ _ _ _ => st_inLoop
theorem AW.exit {id : Nat} {k' : List Item} (he : exitTo id k = some k') (h : AW P f ro n k' tm σ df Q) : AW P f ro n (.code (.exit id) :: k) tm σ df Q := h.same fun _ _ _ _ => st_exit he
theorem AW.goto {l : Nat} {k' : List Item} (he : gotoIn l k = some k') (h : AW P f ro n k' tm σ df Q) : AW P f ro n (.code (.goto l) :: k) tm σ df Q := h.same fun _ _ _ _ => st_goto he
theorem AW.region {id : Nat} {ops : Array Oper} (h : AW P f ro n (.inRegion ops (List.range ops.size) :: k) tm σ df Q) : AW P f ro n (.code (.region id ops false) :: k) tm σ df Q := h.same fun _ _ _ _ => st_region
theorem AW.regionEnd {ops : Array Oper} (h : AW P f ro n k tm σ df Q) : AW P f ro n (.inRegion ops [] :: k) tm σ df Q := h.same fun _ _ _ _ => st_region_end
theorem AW.mono {Q' : AE → Store → Prop} (h : AW P f ro n k tm σ df Q) (hq : ∀ r σ', Q r σ' → Q' r σ') : AW P f ro n k tm σ df Q' :=
  fun w I ρ a rb hr hb hn => (h w I ρ a rb hr hb hn).mono fun _ _ ⟨I', ρ', σ', r, h1, h2⟩ => ⟨I', ρ', σ', r, hq _ _ h1, h2⟩
end control
def cst : Value → V
  | .int k n => .d (.int k n)
  | .bool b => .d (.bool b)
  | .string s => .d (.str s)
  | .slice none 0 0 => .nils
  | .pointer none => .d (.raw (.pointer none))
  | .nilIface => .d (.raw .nilIface)
  | .nilFunc => .d (.raw .nilFunc)
  | .map none => .d (.raw (.map none))
  | _ => .undef
def ev (tm : List V) : Operand → V
  | .tmp t => tm.getD t .undef
  | .const v => cst v
  | .global _ => .undef
  | .func f => .fn (.func f) [] []
section evs
variable {w : World} {I : Nat → Prop} {ρ : LM} {σ : Store}
theorem vrL_get : ∀ {tm : List V} {xs : List Value}, vrL w I ρ σ tm xs → ∀ i (d : Value), vr w I ρ σ (tm.getD i .undef) (xs.getD i d)
  | [], xs, h, i, d => by simp [vr]
  | v :: tm, xs, h, i, d => by
    simp only [vrL] at h
    obtain ⟨x, xs', rfl, h1, h2⟩ := h
    cases i with
    | zero => simpa using h1
    | succ i => simpa using vrL_get h2 i d
theorem vrL_len : ∀ {tm : List V} {xs : List Value}, vrL w I ρ σ tm xs → xs.length = tm.length
  | [], xs, h => by simp only [vrL] at h; simp [h]
  | v :: tm, xs, h => by
    simp only [vrL] at h
    obtain ⟨x, xs', rfl, h1, h2⟩ := h
    simp [vrL_len h2]
theorem vrL_set : ∀ {tm : List V} {xs : List Value}, vrL w I ρ σ tm xs → ∀ i {v : V} {x : Value}, vr w I ρ σ v x → vrL w I ρ σ (tm.set i v) (xs.set i x)
  | [], xs, h, i, v, x, _ => by simp only [vrL] at h; subst h; simp [vrL]
  | u :: tm, xs, h, i, v, x, hv => by
    simp only [vrL] at h
    obtain ⟨y, xs', rfl, h1, h2⟩ := h
    cases i with
    | zero => simp only [List.set_cons_zero, vrL]; exact ⟨x, xs', rfl, hv, h2⟩
    | succ i => simp only [List.set_cons_succ, vrL]; exact ⟨y, _, rfl, h1, vrL_set h2 i hv⟩
theorem vrL_append : ∀ {t1 t2 : List V} {x1 x2 : List Value}, vrL w I ρ σ t1 x1 → vrL w I ρ σ t2 x2 → vrL w I ρ σ (t1 ++ t2) (x1 ++ x2)
  | [], t2, x1, x2, h1, h2 => by simp only [vrL] at h1; subst h1; simpa using h2
  | u :: t1, t2, x1, x2, h1, h2 => by
    simp only [vrL] at h1
    obtain ⟨y, xs', rfl, h3, h4⟩ := h1
    simp only [List.cons_append, vrL]
    exact ⟨y, xs' ++ x2, rfl, h3, vrL_append h4 h2⟩
theorem vrL_undef (m : Nat) (x : Value) : vrL w I ρ σ (List.replicate m .undef) (List.replicate m x) := by
  induction m with
  | zero => simp [vrL]
  | succ m ih => simp only [List.replicate_succ, vrL]; exact ⟨x, _, rfl, by simp [vr], ih⟩
theorem vr_cst (v : Value) : vr w I ρ σ (cst v) v := by
  unfold cst
  split <;> simp [vr, Dr, one, Value.oneCell']
theorem vr_ev {tm : List V} {a : Act} (h : vrL w I ρ σ tm a.tmps.toList) (x : Operand) : vr w I ρ σ (ev tm x) (a.eval x) := by
  cases x with
  | tmp t =>
    have := vrL_get h t undef
    simpa [ev, Act.eval] using this
  | const v => exact vr_cst v
  | global g => simp [ev, vr]
  | func g => simp [ev, vr, Act.eval, vrL]
end evs
def put (tm : List V) (d : Option Tmp) (v : V) : List V := match d with | some t => tm.set t v | none => tm
theorem vrL_put {w : World} {I : Nat → Prop} {ρ : LM} {σ : Store} {tm : List V} {a : Act} (h : vrL w I ρ σ tm a.tmps.toList) (d : Option Tmp) {v : V} {x : Value} (hv : vr w I ρ σ v x) :
    vrL w I ρ σ (put tm d v) (a.put d x).tmps.toList := by
  cases d with
  | none => simpa [put, Act.put] using h
  | some t => simpa [put, Act.put] using vrL_set h t hv
theorem put_defers (a : Act) (d : Option Tmp) (x : Value) : (a.put d x).defers = a.defers := by cases d <;> rfl
section conds
variable {P : Program} {f : FuncId} {ro : Option Nat} {n : Nat} {k : List Item} {tm : List V} {σ : Store} {df : List Nat} {Q : AE → Store → Prop}
theorem AW.cond {c : Operand} {x y : Code} {b : Bool} (hc : ev tm c = .d (.bool b)) (h1 : b = true → AW P f ro n (.code x :: k) tm σ df Q) (h2 : b = false → AW P f ro n (.code y :: k) tm σ df Q) :
    AW P f ro n (.code (.cond c x y) :: k) tm σ df Q := by
  intro w I ρ a rb hr hb hn
  have hv := vr_ev hr.tms c
  rw [hc] at hv
  simp only [vr, Dr] at hv
  refine .step (fun cs => st_cond hv) ?_
  cases b with
  | true => exact h1 rfl w I ρ a rb hr hb hn
  | false => exact h2 rfl w I ρ a rb hr hb hn
end conds
end Go.Br
namespace Go.Br
open Go
def cellsV : V → Option (List V)
  | .d (.agg cs) => some (cs.map .d)
  | .agg vs => some vs
  | .undef | .tuple _ => none
  | v => some [v]
def datas : List V → Option (List D)
  | [] => some []
  | .d x :: vs => (datas vs).map (x :: ·)
  | _ => none
def datasX : List V → Option (List D)
  | [] => some []
  | .d x :: vs => (datasX vs).map (x :: ·)
  | .ex sz xs :: vs => (datasX vs).map (.list sz xs :: ·)
  | _ => none
def mkAgg (vs : List V) : V := match datas vs with | some ds => .d (.agg ds) | none => .agg vs
section rel
variable {w : World} {I : Nat → Prop} {ρ : LM} {σ : Store}
theorem DrL_vrL : ∀ (cs : List D) (xs : List Value), DrL w I cs xs → vrL w I ρ σ (cs.map .d) xs ∧ ∀ x ∈ xs, one x
  | [], xs, h => by simp only [DrL] at h; subst h; simp [vrL]
  | c :: cs, xs, h => by
    simp only [DrL] at h
    obtain ⟨v, vs', rfl, h1, h2, h3⟩ := h
    obtain ⟨h4, h5⟩ := DrL_vrL cs vs' h3
    refine ⟨?_, ?_⟩
    · simp only [List.map_cons, vrL, vr]; exact ⟨v, vs', rfl, h2, h4⟩
    · intro x hx
      rcases List.mem_cons.1 hx with rfl | hx
      · exact h1
      · exact h5 x hx
theorem vrL_DrL : ∀ {vs : List V} {ds : List D} {xs : List Value}, datas vs = some ds → vrL w I ρ σ vs xs → (∀ x ∈ xs, one x) → DrL w I ds xs
  | [], ds, xs, h, hr, _ => by
    simp only [datas, Option.some.injEq] at h; subst h
    simp only [vrL] at hr; subst hr; simp [DrL]
  | v :: vs, ds, xs, h, hr, ho => by
    simp only [vrL] at hr
    obtain ⟨x, xs', rfl, h1, h2⟩ := hr
    cases v <;> simp only [datas, Option.map_eq_some_iff, reduceCtorEq] at h
    obtain ⟨ds', h3, rfl⟩ := h
    simp only [DrL]
    exact ⟨x, xs', rfl, ho x (by simp), by simpa [vr] using h1, vrL_DrL h3 h2 fun y hy => ho y (by simp [hy])⟩
theorem vrL_DrLX : ∀ {vs : List V} {ds : List D} {xs : List Value}, datasX vs = some ds → vrL w I ρ σ vs xs → (∀ x ∈ xs, one x) → DrL w I ds xs
  | [], ds, xs, h, hr, _ => by
    simp only [datasX, Option.some.injEq] at h; subst h
    simp only [vrL] at hr; subst hr; simp [DrL]
  | v :: vs, ds, xs, h, hr, ho => by
    simp only [vrL] at hr
    obtain ⟨x, xs', rfl, h1, h2⟩ := hr
    cases v <;> simp only [datasX, Option.map_eq_some_iff, reduceCtorEq] at h
    · obtain ⟨ds', h3, rfl⟩ := h
      simp only [DrL]
      exact ⟨x, xs', rfl, ho x (by simp), by simpa [vr] using h1, vrL_DrLX h3 h2 fun y hy => ho y (by simp [hy])⟩
    · obtain ⟨ds', h3, rfl⟩ := h
      simp only [DrL]
      refine ⟨x, xs', rfl, ho x (by simp), ?_, vrL_DrLX h3 h2 fun y hy => ho y (by simp [hy])⟩
      simp only [vr] at h1
      obtain ⟨_, _, h1⟩ := h1
      exact h1
theorem cells_rel {v : V} {x : Value} {vs : List V} (h : cellsV v = some vs) (hv : vr w I ρ σ v x) : vrL w I ρ σ vs x.cells.toList ∧ ∀ c ∈ x.cells.toList, one c := by
  cases v with
  | d y =>
    cases y with
    | agg cs =>
      simp only [cellsV, Option.some.injEq] at h; subst h
      simp only [vr, Dr] at hv
      obtain ⟨xs, rfl, h1⟩ := hv
      simpa [Value.cells] using DrL_vrL cs xs h1
    | int k n => simp only [cellsV, Option.some.injEq] at h; subst h; simp only [vr, Dr] at hv; subst hv; simp [vrL, vr, Dr, Value.cells, one, Value.oneCell']
    | bool b => simp only [cellsV, Option.some.injEq] at h; subst h; simp only [vr, Dr] at hv; subst hv; simp [vrL, vr, Dr, Value.cells, one, Value.oneCell']
    | str s => simp only [cellsV, Option.some.injEq] at h; subst h; simp only [vr, Dr] at hv; subst hv; simp [vrL, vr, Dr, Value.cells, one, Value.oneCell']
    | raw y =>
      simp only [cellsV, Option.some.injEq] at h; subst h
      simp only [vr, Dr] at hv
      obtain ⟨rfl, hv⟩ := hv
      cases x <;> simp_all [vrL, vr, Dr, Value.cells, one, Value.oneCell']
    | list sz xs =>
      simp only [cellsV, Option.some.injEq] at h; subst h
      have hv' := hv
      simp only [vr, Dr] at hv
      obtain ⟨a, cap, rfl, _⟩ := hv
      simp [vrL, Value.cells, one, Value.oneCell', hv']
  | agg vs' =>
    simp only [cellsV, Option.some.injEq] at h; subst h
    simp only [vr] at hv
    obtain ⟨xs, rfl, h1, h2⟩ := hv
    simpa [Value.cells] using ⟨h1, h2⟩
  | undef => simp [cellsV] at h
  | tuple _ => simp [cellsV] at h
  | nils => simp only [cellsV, Option.some.injEq] at h; subst h; simp only [vr] at hv; subst hv; simp [vrL, vr, Value.cells, one, Value.oneCell']
  | ex sz xs =>
    simp only [cellsV, Option.some.injEq] at h; subst h
    have hv' := hv
    simp only [vr] at hv
    obtain ⟨a, rfl, _⟩ := hv
    simp [vrL, Value.cells, one, Value.oneCell', hv']
  | ptr l i s => simp only [cellsV, Option.some.injEq] at h; subst h; have hv' := hv; simp only [vr] at hv; cases x <;> simp_all [vrL, Value.cells, one, Value.oneCell']
  | row l => simp only [cellsV, Option.some.injEq] at h; subst h; have hv' := hv; simp only [vr] at hv; cases x <;> simp_all [vrL, Value.cells, one, Value.oneCell']
  | sl l a b => simp only [cellsV, Option.some.injEq] at h; subst h; have hv' := hv; simp only [vr] at hv; cases x <;> simp_all [vrL, Value.cells, one, Value.oneCell']
  | yield l => simp only [cellsV, Option.some.injEq] at h; subst h; have hv' := hv; simp only [vr] at hv; cases x <;> simp_all [vrL, Value.cells, one, Value.oneCell']
  | map l => simp only [cellsV, Option.some.injEq] at h; subst h; have hv' := hv; simp only [vr] at hv; cases x <;> simp_all [vrL, Value.cells, one, Value.oneCell']
  | fn f a b =>
    simp only [cellsV, Option.some.injEq] at h; subst h
    have hv' := hv
    simp only [vr] at hv
    obtain ⟨fs, cs, rfl, _⟩ := hv
    simp [vrL, Value.cells, one, Value.oneCell', hv']
  | ep sz y s =>
    simp only [cellsV, Option.some.injEq] at h; subst h
    have hv' := hv
    simp only [vr] at hv
    obtain ⟨b, o, rfl, _⟩ := hv
    simp [vrL, Value.cells, one, Value.oneCell', hv']
theorem mkAgg_rel {vs : List V} {xs : List Value} (h : vrL w I ρ σ vs xs) (ho : ∀ x ∈ xs, one x) : vr w I ρ σ (mkAgg vs) (.agg xs.toArray) := by
  unfold mkAgg
  split
  · rename_i ds hd
    simp only [vr, Dr]
    exact ⟨xs, rfl, vrL_DrL hd h ho⟩
  · simp only [vr]
    exact ⟨xs, rfl, h, ho⟩
theorem vrL_drop : ∀ {tm : List V} {xs : List Value}, vrL w I ρ σ tm xs → ∀ n, vrL w I ρ σ (tm.drop n) (xs.drop n)
  | [], xs, h, n => by simp only [vrL] at h; subst h; simp [vrL]
  | v :: tm, xs, h, n => by
    have h' := h
    simp only [vrL] at h
    obtain ⟨x, xs', rfl, h1, h2⟩ := h
    cases n with
    | zero => simpa using h'
    | succ n => simpa using vrL_drop h2 n
theorem vrL_take : ∀ {tm : List V} {xs : List Value}, vrL w I ρ σ tm xs → ∀ n, vrL w I ρ σ (tm.take n) (xs.take n)
  | [], xs, h, n => by simp only [vrL] at h; subst h; simp [vrL]
  | v :: tm, xs, h, n => by
    simp only [vrL] at h
    obtain ⟨x, xs', rfl, h1, h2⟩ := h
    cases n with
    | zero => simp [vrL]
    | succ n => simp only [List.take_succ_cons, vrL]; exact ⟨x, _, rfl, h1, vrL_take h2 n⟩
theorem vrL_get? : ∀ {tm : List V} {xs : List Value}, vrL w I ρ σ tm xs → ∀ {i : Nat} {v : V}, tm[i]? = some v → ∃ x, xs[i]? = some x ∧ vr w I ρ σ v x
  | [], xs, h, i, v, hi => by simp at hi
  | u :: tm, xs, h, i, v, hi => by
    simp only [vrL] at h
    obtain ⟨x, xs', rfl, h1, h2⟩ := h
    cases i with
    | zero => simp only [List.getElem?_cons_zero, Option.some.injEq] at hi; subst hi; exact ⟨x, by simp, h1⟩
    | succ i => simp only [List.getElem?_cons_succ] at hi ⊢; exact vrL_get? h2 hi
end rel
def aggOf (P : Program) (t : TypeId) : Option (Option Nat) :=
  match P.underlying t with
  | some (.struct _) | some (.array _ _) => (P.info? t).map fun i => some i.size
  | some _ => some none
  | none => none
def partV (P : Program) (t : TypeId) (cs : List V) (off : Nat) : Option V :=
  match aggOf P t with
  | some (some n) => if off + n ≤ cs.length then some (mkAgg ((cs.drop off).take n)) else none
  | some none => cs[off]?
  | none => none
theorem isAgg_run {P : Program} {t : TypeId} {b : Option Nat} (h : aggOf P t = some b) (w : World) : (isAgg t).run P w = .ok b.isSome w := by
  unfold aggOf at h
  cases hu : P.underlying t with
  | none => simp [hu] at h
  | some d =>
    simp only [hu] at h
    unfold isAgg
    rw [Sem.run_bind, run_underlying hu w]
    cases d <;> simp_all <;> (try (subst h; simp)) <;> (obtain ⟨i, _, rfl⟩ := h; simp)
theorem aggOf_size {P : Program} {t : TypeId} {n : Nat} (h : aggOf P t = some (some n)) : ∃ i, P.info? t = some i ∧ i.size = n := by
  unfold aggOf at h
  split at h <;> simp_all
section ops
variable {P : Program} {w : World} {I : Nat → Prop} {ρ : LM} {σ : Store}
theorem part_rel {t : TypeId} {cs : List V} {xs : Array Value} {off : Nat} {v : V} (h : partV P t cs off = some v) (hr : vrL w I ρ σ cs xs.toList) (ho : ∀ x ∈ xs.toList, one x) :
    ∃ x, (part t xs off).run P w = .ok x w ∧ vr w I ρ σ v x := by
  unfold partV at h
  cases ha : aggOf P t with
  | none => simp [ha] at h
  | some b =>
    cases b with
    | some n =>
      simp only [ha, Option.ite_none_right_eq_some, Option.some.injEq] at h
      obtain ⟨_, h⟩ := h
      obtain ⟨i, hi, hn⟩ := aggOf_size ha
      refine ⟨.agg (xs.extract off (off + n)), ?_, ?_⟩
      · simp [part, isAgg_run ha, sizeOf, typeInfo, hi, hn]
      · subst h
        have hl := vrL_take (vrL_drop hr off) n
        have : xs.extract off (off + n) = ((xs.toList.drop off).take n).toArray := by
          apply Array.ext'
          simp [Array.toList_extract, List.extract_eq_take_drop]
        rw [this]
        exact mkAgg_rel hl fun x hx => ho x (List.mem_of_mem_drop (List.mem_of_mem_take hx))
    | none =>
      simp only [ha] at h
      obtain ⟨x, hx, hv⟩ := vrL_get? hr h
      refine ⟨x, ?_, hv⟩
      have hx' : xs[off]? = some x := by simpa using hx
      simp [part, isAgg_run ha, hx']
def intBin (op : BinOp) (k : IntKind) (a b : Int) : Option D :=
  match op with
  | .add => some (.int k (k.wrap (a + b)))
  | .sub => some (.int k (k.wrap (a - b)))
  | .mul => some (.int k (k.wrap (a * b)))
  | .quo => if b = 0 then none else some (.int k (k.wrap (a.tdiv b)))
  | .rem => if b = 0 then none else some (.int k (a.tmod b))
  | .and => some (.int k (k.wrap (BitVec.ofInt k.bits a &&& BitVec.ofInt k.bits b).toNat))
  | .or => some (.int k (k.wrap (BitVec.ofInt k.bits a ||| BitVec.ofInt k.bits b).toNat))
  | .xor => some (.int k (k.wrap (BitVec.ofInt k.bits a ^^^ BitVec.ofInt k.bits b).toNat))
  | .andNot => some (.int k (k.wrap (BitVec.ofInt k.bits a &&& ~~~(BitVec.ofInt k.bits b)).toNat))
  | .eql => some (.bool (a == b))
  | .neq => some (.bool (a != b))
  | .lss => some (.bool (decide (a < b)))
  | .leq => some (.bool (decide (a ≤ b)))
  | .gtr => some (.bool (decide (a > b)))
  | .geq => some (.bool (decide (a ≥ b)))
  | _ => none
theorem intBin_ok {op : BinOp} {k : IntKind} {a b : Int} {r : D} (h : intBin op k a b = some r) (t : TypeId) : ∃ x, (binOp op t (.int k a) (.int k b)).run P w = .ok x w ∧ Dr w I r x := by
  cases op
  case quo => simp only [intBin, Option.ite_none_left_eq_some, Option.some.injEq] at h; obtain ⟨hb, rfl⟩ := h; simp [binOp, Op.intDiv, Dr, hb]
  case rem => simp only [intBin, Option.ite_none_left_eq_some, Option.some.injEq] at h; obtain ⟨hb, rfl⟩ := h; simp [binOp, Op.intDiv, Dr, hb]
  all_goals simp only [intBin, reduceCtorEq, Option.some.injEq] at h
  all_goals
    subst h
    simp [binOp, Op.intArith, Op.intBits, Op.intCmp, Dr]
def intShift (op : BinOp) (k : IntKind) (a b : Int) : Option D :=
  match op with
  | .shl => if b < 0 then none else some (.int k (k.wrap (a * 2 ^ min b.toNat k.bits)))
  | .shr => if b < 0 then none else some (.int k (a.fdiv (2 ^ min b.toNat k.bits)))
  | _ => none
theorem intShift_ok {op : BinOp} {k k' : IntKind} {a b : Int} {r : D} (h : intShift op k a b = some r) (t : TypeId) : ∃ x, (binOp op t (.int k a) (.int k' b)).run P w = .ok x w ∧ Dr w I r x := by
  cases op <;> simp only [intShift, reduceCtorEq, Option.ite_none_left_eq_some, Option.some.injEq] at h <;> obtain ⟨hb, rfl⟩ := h <;>
    simp [binOp, Op.shift, hb, Dr]
def strBin (op : BinOp) (a b : ByteArray) : Option D :=
  match op with
  | .eql => some (.bool (a.toList == b.toList))
  | .neq => some (.bool (!(a.toList == b.toList)))
  | .lss => some (.bool (Op.bytesLess a.toList b.toList))
  | .leq => some (.bool (Op.bytesLess a.toList b.toList || (a.toList == b.toList)))
  | .gtr => some (.bool (!(Op.bytesLess a.toList b.toList || (a.toList == b.toList))))
  | .geq => some (.bool (!(Op.bytesLess a.toList b.toList)))
  | _ => none
theorem strBin_ok {op : BinOp} {a b : ByteArray} {r : D} (h : strBin op a b = some r) (t : TypeId) : ∃ x, (binOp op t (.string a) (.string b)).run P w = .ok x w ∧ Dr w I r x := by
  cases op <;> simp only [strBin, reduceCtorEq, Option.some.injEq] at h <;> subst h <;> simp [binOp, Op.stringOp, Dr]
def binV (P : Program) (op : BinOp) (t : TypeId) (x y : V) : Option V :=
  match x, y with
  | .d (.int k a), .d (.int k' b) => if k = k' then (match intBin op k a b with | some r => some (.d r) | none => (intShift op k a b).map .d) else (intShift op k a b).map .d
  | .d (.str a), .d (.str b) => (strBin op a b).map .d
  | .d (.bool a), .d (.bool b) => match op, P.underlying t with
    | .eql, some .bool => some (.d (.bool (a == b)))
    | .neq, some .bool => some (.d (.bool (!(a == b))))
    | _, _ => none
  | _, _ => none
theorem binV_ok {op : BinOp} {t ty : TypeId} {x y : Operand} {e : Operand → Value} {o : Oper} {vx vy v : V} (ho : o.op = .binOp op t x y ty) (h : binV P op t vx vy = some v)
    (hx : vr w I ρ σ vx (e x)) (hy : vr w I ρ σ vy (e y)) : ∃ z, (execOp e o).run P w = .ok (.value z) w ∧ vr w I ρ σ v z := by
  have key : ∀ a b, e x = a → e y = b → (∀ z, a ≠ .nilIface ∧ a ≠ .agg z) → (∃ z, (binOp op t a b).run P w = .ok z w ∧ vr w I ρ σ v z) → ∃ z, (execOp e o).run P w = .ok (.value z) w ∧ vr w I ρ σ v z := by
    intro a b ha hb hn ⟨z, h1, h2⟩
    refine ⟨z, ?_, h2⟩
    have hg : (eqGuard op t x y a b).run P w = .ok () w := by
      unfold eqGuard
      have hn1 := fun z => (hn z).1
      have hn2 := fun z => (hn z).2
      cases a <;> simp_all <;> split <;> simp_all
    simp [execOp, ho, ha, hb, hg, h1]
  unfold binV at h
  split at h
  · simp only [vr, Dr] at hx hy
    refine key _ _ hx hy (by simp) ?_
    split at h
    · rename_i hk; subst hk
      split at h
      · rename_i r hr
        obtain ⟨z, h1, h2⟩ := intBin_ok (P := P) (w := w) (I := I) hr t
        cases h
        exact ⟨z, h1, by simpa [vr] using h2⟩
      · simp only [Option.map_eq_some_iff] at h
        obtain ⟨r, hr, rfl⟩ := h
        obtain ⟨z, h1, h2⟩ := intShift_ok (P := P) (w := w) (I := I) hr t
        exact ⟨z, h1, by simpa [vr] using h2⟩
    · simp only [Option.map_eq_some_iff] at h
      obtain ⟨r, hr, rfl⟩ := h
      obtain ⟨z, h1, h2⟩ := intShift_ok (P := P) (w := w) (I := I) hr t
      exact ⟨z, h1, by simpa [vr] using h2⟩
  · simp only [vr, Dr] at hx hy
    refine key _ _ hx hy (by simp) ?_
    simp only [Option.map_eq_some_iff] at h
    obtain ⟨r, hr, rfl⟩ := h
    obtain ⟨z, h1, h2⟩ := strBin_ok (P := P) (w := w) (I := I) hr t
    exact ⟨z, h1, by simpa [vr] using h2⟩
  · simp only [vr, Dr] at hx hy
    refine key _ _ hx hy (by simp) ?_
    split at h
    · rename_i hu
      cases h
      exact ⟨_, run_eql_bool w t _ _ hu, by simp [vr, Dr]⟩
    · rename_i hu
      cases h
      exact ⟨_, run_neq_bool w t _ _ hu, by simp [vr, Dr]⟩
    · cases h
  · cases h
end ops
end Go.Br
namespace Go.Br
open Go
def liveB (σ : Store) (l : Nat) : Bool := match σ[l]? with | some .dead => false | some _ => true | none => false
theorem live_of {σ : Store} {l : Nat} (h : liveB σ l = true) : live σ l := by
  unfold liveB at h
  cases hs : σ[l]? with
  | none => simp [hs] at h
  | some o => cases o <;> simp_all [live]
def nilOf (σ : Store) : V → Option Bool
  | .d (.raw (.pointer none)) => some true
  | .ptr l _ _ => if liveB σ l then some false else none
  | .ep _ _ _ => some false
  | _ => none
section ops
variable {P : Program} {w : World} {I : Nat → Prop} {ρ : LM} {σ : Store}
theorem nilOf_rel {v : V} {x : Value} {b : Bool} (h : nilOf σ v = some b) (hv : vr w I ρ σ v x) : (b = true ∧ x = .pointer none) ∨ (b = false ∧ ∃ a, x = .pointer (some a)) := by
  unfold nilOf at h
  split at h
  · cases h; simp only [vr, Dr] at hv; exact .inl ⟨rfl, hv.1⟩
  · split at h
    · rename_i hl
      cases h
      simp only [vr] at hv
      obtain ⟨L, _, hx⟩ := hv.2.2 (live_of hl)
      exact .inr ⟨rfl, _, hx⟩
    · cases h
  · cases h
    simp only [vr] at hv
    obtain ⟨b, o, hx, _⟩ := hv
    exact .inr ⟨rfl, _, hx⟩
  · cases h
def isPtrT (P : Program) (t : TypeId) : Bool := match P.underlying t with | some (.pointer _) => true | _ => false
def eqRes (op : BinOp) (r : Bool) : Option V := match op with | .eql => some (.d (.bool r)) | .neq => some (.d (.bool (!r))) | _ => none
def ptrBin (P : Program) (σ : Store) (op : BinOp) (t : TypeId) (x y : V) : Option V :=
  if isPtrT P t then
    match nilOf σ x, nilOf σ y with
    | some true, some b => eqRes op b
    | some false, some true => eqRes op false
    | _, _ => none
  else none
theorem run_eq_ptr1 (d : Nat) {t el : TypeId} (hu : P.underlying t = some (.pointer el)) (b : Option Addr) : (Op.equalIn (d + 1) t (.pointer none) (.pointer b)).run P w = .ok b.isNone w := by
  simp [Op.equalIn, run_underlying hu]
theorem run_eq_ptr2 (d : Nat) {t el : TypeId} (hu : P.underlying t = some (.pointer el)) (a : Addr) : (Op.equalIn (d + 1) t (.pointer (some a)) (.pointer none)).run P w = .ok false w := by
  simp [Op.equalIn, run_underlying hu]
theorem run_bin_ptr {t el : TypeId} (hu : P.underlying t = some (.pointer el)) (a b : Option Addr) (r : Bool) (h : a = none ∧ r = b.isNone ∨ a ≠ none ∧ b = none ∧ r = false) :
    (binOp .eql t (.pointer a) (.pointer b)).run P w = .ok (.bool r) w ∧ (binOp .neq t (.pointer a) (.pointer b)).run P w = .ok (.bool (!r)) w := by
  have key : (Op.equal t (.pointer a) (.pointer b)).run P w = .ok r w := by
    show (Op.equalIn (9999 + 1) t (.pointer a) (.pointer b)).run P w = _
    rcases h with ⟨rfl, rfl⟩ | ⟨h1, rfl, rfl⟩
    · exact run_eq_ptr1 9999 hu b
    · cases a with
      | none => exact absurd rfl h1
      | some a => exact run_eq_ptr2 9999 hu a
  constructor <;> simp [binOp, key]
theorem ptrBin_ok {op : BinOp} {t ty : TypeId} {x y : Operand} {e : Operand → Value} {o : Oper} {vx vy v : V} (ho : o.op = .binOp op t x y ty) (h : ptrBin P σ op t vx vy = some v)
    (hx : vr w I ρ σ vx (e x)) (hy : vr w I ρ σ vy (e y)) : ∃ z, (execOp e o).run P w = .ok (.value z) w ∧ vr w I ρ σ v z := by
  unfold ptrBin at h
  split at h
  · rename_i hp
    have hu : ∃ el, P.underlying t = some (.pointer el) := by
      unfold isPtrT at hp
      split at hp
      · rename_i el hu; exact ⟨el, hu⟩
      · cases hp
    obtain ⟨el, hu⟩ := hu
    have key : ∀ (a b : Option Addr) (r : Bool), e x = .pointer a → e y = .pointer b → (a = none ∧ r = b.isNone ∨ a ≠ none ∧ b = none ∧ r = false) →
        eqRes op r = some v → ∃ z, (execOp e o).run P w = .ok (.value z) w ∧ vr w I ρ σ v z := by
      intro a b r ha hb hr hv
      obtain ⟨h1, h2⟩ := run_bin_ptr (w := w) hu a b r hr
      cases op <;> simp only [eqRes, reduceCtorEq, Option.some.injEq] at hv <;> subst hv
      · exact ⟨.bool r, by simp [execOp, ho, eqGuard, ha, hb, h1], by simp [vr, Dr]⟩
      · exact ⟨.bool (!r), by simp [execOp, ho, eqGuard, ha, hb, h2], by simp [vr, Dr]⟩
    split at h
    · rename_i b h1 h2
      rcases nilOf_rel h1 hx with ⟨_, hx'⟩ | ⟨hc, _⟩
      · rcases nilOf_rel h2 hy with ⟨hb, hy'⟩ | ⟨hb, a, hy'⟩ <;> subst hb
        · exact key none none true hx' hy' (.inl ⟨rfl, rfl⟩) h
        · exact key none (some a) false hx' hy' (.inl ⟨rfl, rfl⟩) h
      · cases hc
    · rename_i h1 h2
      rcases nilOf_rel h1 hx with ⟨hc, _⟩ | ⟨_, a, hx'⟩
      · cases hc
      · rcases nilOf_rel h2 hy with ⟨_, hy'⟩ | ⟨hb, _⟩
        · exact key (some a) none false hx' hy' (.inr ⟨by simp, rfl, rfl⟩) h
        · cases hb
    · cases h
  · cases h
def unV (op : UnOp) : V → Option V
  | .d (.int k n) => match op with
    | .neg => some (.d (.int k (k.wrap (0 - n))))
    | .xor => some (.d (.int k (k.wrap (BitVec.ofInt k.bits (if k.signed then -1 else k.max) ^^^ BitVec.ofInt k.bits n).toNat)))
    | _ => none
  | .d (.bool b) => match op with | .not => some (.d (.bool (!b))) | _ => none
  | _ => none
theorem unV_ok {op : UnOp} {t : TypeId} {x : Operand} {e : Operand → Value} {o : Oper} {vx v : V} (ho : o.op = .unOp op t x) (h : unV op vx = some v) (hx : vr w I ρ σ vx (e x)) :
    ∃ z, (execOp e o).run P w = .ok (.value z) w ∧ vr w I ρ σ v z := by
  unfold unV at h
  split at h
  · simp only [vr, Dr] at hx
    cases op <;> simp only [reduceCtorEq, Option.some.injEq] at h <;> subst h <;> simp [execOp, ho, hx, Op.unary, Op.intArith, Op.intBits, vr, Dr]
  · simp only [vr, Dr] at hx
    cases op <;> simp only [reduceCtorEq, Option.some.injEq] at h <;> subst h <;> simp [execOp, ho, hx, Op.unary, vr, Dr]
  · cases h
def intT (P : Program) (t : TypeId) : Option IntKind := match P.underlying t with | some (.int k) => some k | _ => none
theorem intT_und {t : TypeId} {k : IntKind} (h : intT P t = some k) : P.underlying t = some (.int k) := by
  unfold intT at h
  split at h
  · cases h; assumption
  · cases h
def convV (P : Program) (s t : TypeId) : V → Option V
  | .d (.int _ n) => match intT P s, intT P t with | some _, some k => some (.d (.int k (k.wrap n))) | _, _ => none
  | _ => none
theorem convV_ok {s t : TypeId} {x : Operand} {e : Operand → Value} {o : Oper} {vx v : V} (ho : o.op = .convert s t x) (h : convV P s t vx = some v) (hx : vr w I ρ σ vx (e x)) :
    ∃ z, (execOp e o).run P w = .ok (.value z) w ∧ vr w I ρ σ v z := by
  unfold convV at h
  split at h
  · simp only [vr, Dr] at hx
    split at h
    · rename_i k1 k2 h1 h2
      cases h
      simp [execOp, ho, hx, convert, run_underlying (intT_und h1), run_underlying (intT_und h2), Conv.intToInt, vr, Dr]
    · cases h
  · cases h
def pickV : V → V → V → Option V
  | .d (.bool true), a, _ => some a
  | .d (.bool false), _, b => some b
  | _, _, _ => none
theorem pickV_ok {c x y : Operand} {e : Operand → Value} {o : Oper} {vc vx vy v : V} (ho : o.op = .pick c x y) (h : pickV vc vx vy = some v) (hc : vr w I ρ σ vc (e c)) (hx : vr w I ρ σ vx (e x)) (hy : vr w I ρ σ vy (e y)) :
    ∃ z, (execOp e o).run P w = .ok (.value z) w ∧ vr w I ρ σ v z := by
  unfold pickV at h
  split at h
  · cases h; simp only [vr, Dr] at hc; exact ⟨_, by simp [execOp, ho, hc, asBool], hx⟩
  · cases h; simp only [vr, Dr] at hc; exact ⟨_, by simp [execOp, ho, hc, asBool], hy⟩
  · cases h
def extV (i : Nat) : V → Option V
  | .tuple vs => vs[i]?
  | _ => none
theorem extV_ok {i : Nat} {x : Operand} {e : Operand → Value} {o : Oper} {vx v : V} (ho : o.op = .extract x i) (h : extV i vx = some v) (hx : vr w I ρ σ vx (e x)) :
    ∃ z, (execOp e o).run P w = .ok (.value z) w ∧ vr w I ρ σ v z := by
  unfold extV at h
  split at h
  · simp only [vr] at hx
    obtain ⟨xs, he, hl⟩ := hx
    obtain ⟨z, h1, h2⟩ := vrL_get? hl h
    exact ⟨z, by simp [execOp, ho, he, Instr.extract, h1], h2⟩
  · cases h
def nilV (σ : Store) : V → Option V
  | .ptr l i s => if liveB σ l then some (.ptr l i s) else none
  | .ep sz x s => some (.ep sz x s)
  | .fn (.func f) a b => some (.fn (.func f) a b)
  | .yield l => if liveB σ l then some (.yield l) else none
  | _ => none
theorem nilV_ok {x : Operand} {e : Operand → Value} {o : Oper} {vx v : V} (ho : o.op = .nilCheck x) (h : nilV σ vx = some v) (hx : vr w I ρ σ vx (e x)) :
    ∃ z, (execOp e o).run P w = .ok (.value z) w ∧ vr w I ρ σ v z := by
  unfold nilV at h
  split at h
  · split at h
    · rename_i hl
      cases h
      have hx' := hx
      simp only [vr] at hx
      obtain ⟨L, _, he⟩ := hx.2.2 (live_of hl)
      exact ⟨e x, by simp [execOp, ho, he], hx'⟩
    · cases h
  · cases h
    have hx' := hx
    simp only [vr] at hx
    obtain ⟨b, q, he, _⟩ := hx
    exact ⟨e x, by simp [execOp, ho, he], hx'⟩
  · cases h
    have hx' := hx
    simp only [vr] at hx
    obtain ⟨fs, cs, he, _⟩ := hx
    exact ⟨e x, by simp [execOp, ho, he], hx'⟩
  · split at h
    · rename_i hl
      cases h
      have hx' := hx
      simp only [vr] at hx
      obtain ⟨L, _, he⟩ := hx.2.2 (live_of hl)
      exact ⟨e x, by simp [execOp, ho, he], hx'⟩
    · cases h
  · cases h
def fieldOf (P : Program) (t : TypeId) (f : Nat) : Option (Nat × TypeId) :=
  match P.underlying t with
  | some (.struct fs) => match fs[f]? with
    | some g => match P.info? g.type with
      | some i => if i.size = 0 then none else some (g.offset, g.type)
      | none => none
    | none => none
  | _ => none
theorem fieldOf_spec {t : TypeId} {f : Nat} {p : Nat × TypeId} (h : fieldOf P t f = some p) : ∃ fs g i, P.underlying t = some (.struct fs) ∧ fs[f]? = some g ∧ P.info? g.type = some i ∧ i.size ≠ 0 ∧ p = (g.offset, g.type) := by
  unfold fieldOf at h
  split at h
  · split at h
    · split at h
      · split at h
        · cases h
        · cases h; exact ⟨_, _, _, by assumption, by assumption, by assumption, by assumption, rfl⟩
      · cases h
    · cases h
  · cases h
theorem addr_add (b o n : Nat) : (⟨b, o, none⟩ : Addr).add n = ⟨b, o + n, none⟩ := by
  unfold Addr.add; split <;> simp_all
def faV (P : Program) (t : TypeId) (f : Nat) : V → Option V
  | .ptr l i s => (fieldOf P t f).map fun p => .ptr l i (s + p.1)
  | .ep sz x s => (fieldOf P t f).map fun p => .ep sz x (s + p.1)
  | _ => none
theorem faV_ok {t : TypeId} {f : Nat} {x : Operand} {e : Operand → Value} {o : Oper} {vx v : V} (ho : o.op = .fieldAddr t x f) (h : faV P t f vx = some v) (hn : nilOf σ vx = some false) (hx : vr w I ρ σ vx (e x)) :
    ∃ z, (execOp e o).run P w = .ok (.value z) w ∧ vr w I ρ σ v z := by
  unfold faV at h
  split at h
  · simp only [Option.map_eq_some_iff] at h
    obtain ⟨p, hp, rfl⟩ := h
    obtain ⟨fs, g, i, h1, h2, h3, h4, rfl⟩ := fieldOf_spec hp
    rename_i l i0 s
    have hl : liveB σ l = true := by
      simp only [nilOf] at hn; split at hn <;> simp_all
    simp only [vr] at hx
    obtain ⟨L, hL, he⟩ := hx.2.2 (live_of hl)
    refine ⟨.pointer (some ⟨L.b, L.o + i0 * L.sz + s + g.offset, none⟩), ?_, ?_⟩
    · simp [execOp, ho, he, Instr.fieldAt, run_underlying h1, h2, Instr.sureAddr, fieldPlace, sizeOf, typeInfo, h3, h4, addr_add]
    · simp only [vr]
      exact ⟨rfl, hx.2.1, fun _ => ⟨L, hL, by simp [Nat.add_assoc]⟩⟩
  · simp only [Option.map_eq_some_iff] at h
    obtain ⟨p, hp, rfl⟩ := h
    obtain ⟨fs, g, i, h1, h2, h3, h4, rfl⟩ := fieldOf_spec hp
    rename_i sz y s
    simp only [vr] at hx
    obtain ⟨b, q, he, hI, u, h5, h6, h7⟩ := hx
    refine ⟨.pointer (some ⟨b, q + s + g.offset, none⟩), ?_, ?_⟩
    · simp [execOp, ho, he, Instr.fieldAt, run_underlying h1, h2, Instr.sureAddr, fieldPlace, sizeOf, typeInfo, h3, h4, addr_add]
    · simp only [vr]
      exact ⟨b, q, by simp [Nat.add_assoc], hI, u, h5, h6, h7⟩
  · cases h
def fieldV (P : Program) (t : TypeId) (f : Nat) (v : V) : Option V :=
  match v with
  | .d (.agg cs) => (fieldOf P t f).bind fun p => partV P p.2 (cs.map .d) p.1
  | .agg cs => (fieldOf P t f).bind fun p => partV P p.2 cs p.1
  | _ => none
theorem fieldV_ok {t : TypeId} {f : Nat} {x : Operand} {e : Operand → Value} {o : Oper} {vx v : V} (ho : o.op = .field t x f) (h : fieldV P t f vx = some v) (hx : vr w I ρ σ vx (e x)) :
    ∃ z, (execOp e o).run P w = .ok (.value z) w ∧ vr w I ρ σ v z := by
  have key : ∀ (cs : List V) (xs : List Value), e x = .agg xs.toArray → vrL w I ρ σ cs xs → (∀ y ∈ xs, one y) → ((fieldOf P t f).bind fun p => partV P p.2 cs p.1) = some v → ∃ z, (execOp e o).run P w = .ok (.value z) w ∧ vr w I ρ σ v z := by
    intro cs xs he hl ho' h
    simp only [Option.bind_eq_some_iff] at h
    obtain ⟨p, hp, h⟩ := h
    obtain ⟨fs, g, i, h1, h2, h3, h4, rfl⟩ := fieldOf_spec hp
    obtain ⟨z, h5, h6⟩ := part_rel (w := w) (xs := xs.toArray) h (by simpa using hl) (by simpa using ho')
    exact ⟨z, by simp [execOp, ho, he, Instr.field, run_underlying h1, h2, asAgg, h5], h6⟩
  unfold fieldV at h
  split at h
  · simp only [vr, Dr] at hx
    obtain ⟨xs, he, hl⟩ := hx
    obtain ⟨h1, h2⟩ := DrL_vrL (ρ := ρ) (σ := σ) _ _ hl
    exact key _ xs he h1 h2 h
  · simp only [vr] at hx
    obtain ⟨xs, he, hl, h2⟩ := hx
    exact key _ xs he hl h2 h
  · cases h
theorem loadVar_cells {t : TypeId} {cs : List V} {b q s : Nat} {C : List Value} {v : V} (h : partV P t cs s = some v) (hr : vrL w I ρ σ cs C) (ho : ∀ x ∈ C, one x)
    (hc : ∀ j x, C[j]? = some x → w.cell? ⟨b, q + j, none⟩ = some x) : ∃ x, (loadVar t ⟨b, q + s, none⟩).run P w = .ok x w ∧ vr w I ρ σ v x := by
  unfold partV at h
  cases ha : aggOf P t with
  | none => simp [ha] at h
  | some bb =>
    cases bb with
    | some n =>
      simp only [ha, Option.ite_none_right_eq_some, Option.some.injEq] at h
      obtain ⟨hlen, h⟩ := h
      rw [← vrL_len hr] at hlen
      obtain ⟨i, hi, hn⟩ := aggOf_size ha
      have hl : (loadCells ⟨b, q + s, none⟩ ((C.drop s).take n).length).run P w = .ok ((C.drop s).take n).toArray w :=
        run_loadCells_list (P := P) w ⟨b, q + s, none⟩ _ (fun j y hj => by
          rw [addr_add]
          have hj' : C[s + j]? = some y := by
            rw [List.getElem?_take] at hj
            split at hj
            · simpa using hj
            · cases hj
          have := hc (s + j) y hj'
          rw [← this]
          congr 2
          omega)
      have hlt : ((C.drop s).take n).length = n := by simp; omega
      rw [hlt] at hl
      refine ⟨.agg ((C.drop s).take n).toArray, ?_, ?_⟩
      · simp [loadVar, isAgg_run ha, sizeOf, typeInfo, hi, hn, hl]
      · subst h
        exact mkAgg_rel (vrL_take (vrL_drop hr s) n) fun x hx => ho x (List.mem_of_mem_drop (List.mem_of_mem_take hx))
    | none =>
      simp only [ha] at h
      obtain ⟨x, hx, hv⟩ := vrL_get? hr h
      exact ⟨x, by simp [loadVar, isAgg_run ha, hc s x hx], hv⟩
theorem Dr_cells {x : D} {u : Value} (h : Dr w I x u) : ∃ vs, cellsV (.d x) = some vs ∧ vrL w I ρ σ vs u.cells.toList ∧ ∀ c ∈ u.cells.toList, one c := by
  have hc : ∃ vs, cellsV (.d x) = some vs := by cases x <;> exact ⟨_, rfl⟩
  obtain ⟨vs, hc⟩ := hc
  obtain ⟨h1, h2⟩ := cells_rel (ρ := ρ) (σ := σ) hc (by simpa [vr] using h)
  exact ⟨vs, hc, h1, h2⟩
def loadE (P : Program) (t : TypeId) (x : D) (s : Nat) : Option V := (cellsV (.d x)).bind fun cs => partV P t cs s
theorem loadE_ok {t : TypeId} {x : D} {u : Value} {b q s sz : Nat} {v : V} (h : loadE P t x s = some v) (hu : Dr w I x u) (hsz : u.cells.size = sz) (hc : ∀ j, j < sz → w.cell? ⟨b, q + j, none⟩ = u.cells[j]?) :
    ∃ z, (loadVar t ⟨b, q + s, none⟩).run P w = .ok z w ∧ vr w I ρ σ v z := by
  obtain ⟨vs, h1, h2, h3⟩ := Dr_cells (ρ := ρ) (σ := σ) hu
  unfold loadE at h
  rw [h1] at h
  simp only [Option.bind_some] at h
  refine loadVar_cells h h2 h3 fun j y hj => ?_
  have hlt : j < sz := by
    have := (List.getElem?_eq_some_iff.1 hj).1
    simp at this; omega
  rw [hc j hlt]
  simpa using hj
def loadV (P : Program) (σ : Store) (t : TypeId) : V → Option V
  | .ptr l 0 s => match σ[l]? with
    | some (.cells cs) => partV P t cs s
    | _ => none
  | .ep _ x s => loadE P t x s
  | _ => none
theorem loadV_ok {t : TypeId} {x : Operand} {e : Operand → Value} {o : Oper} {vx v : V} (ho : o.op = .load t x) (h : loadV P σ t vx = some v) (hx : vr w I ρ σ vx (e x)) (hO : ORel w I ρ σ) :
    ∃ z, (execOp e o).run P w = .ok (.value z) w ∧ vr w I ρ σ v z := by
  unfold loadV at h
  split at h
  · rename_i l s
    split at h
    · rename_i cs hs
      simp only [vr] at hx
      obtain ⟨L, hL, he⟩ := hx.2.2 ⟨_, hs, by simp⟩
      obtain ⟨L', C, T, fz, hL', h0, hh, _, hr, hone⟩ := hO.objs l _ hs
      rw [hL] at hL'; cases hL'
      obtain ⟨z, h1, h2⟩ := loadVar_cells (w := w) (b := L.b) (q := 0) h hr hone (fun j y hj => by simp [World.cell?, hh]; simpa using hj)
      refine ⟨z, ?_, h2⟩
      simp only [h0, Nat.zero_mul, Nat.add_zero, Nat.zero_add] at he h1
      simp [execOp, ho, he, Instr.loadAt, Instr.sureAddr, h1]
    · cases h
  · rename_i sz y s
    simp only [vr] at hx
    obtain ⟨b, q, he, _, u, h1, h2, h3⟩ := hx
    obtain ⟨z, h4, h5⟩ := loadE_ok (ρ := ρ) (σ := σ) h h1 h2 h3
    exact ⟨z, by simp [execOp, ho, he, Instr.loadAt, Instr.sureAddr, h4], h5⟩
  · cases h
def lenV (σ : Store) : V → Option Nat
  | .d (.list _ xs) => some xs.length
  | .nils => some 0
  | .ex _ xs => some xs.length
  | .row l => match σ[l]? with | some (.row _ xs _) => some xs.length | _ => none
  | .sl l _ n _ => match σ[l]? with | some (.row _ _ _) => some n | _ => none
  | _ => none
theorem rowV_slice {l off n : Nat} {x : Value} (h : rowV ρ l off n x) : ∃ a c, x = .slice a n c := by
  rcases h with ⟨rfl, a, rfl⟩ | ⟨L, _, _, rfl⟩
  · exact ⟨a, 0, rfl⟩
  · exact ⟨_, _, rfl⟩
theorem lenV_rel {v : V} {x : Value} {n : Nat} (h : lenV σ v = some n) (hv : vr w I ρ σ v x) : ∃ a c, x = .slice a n c := by
  unfold lenV at h
  split at h
  · cases h; simp only [vr, Dr] at hv; obtain ⟨a, c, rfl, _⟩ := hv; exact ⟨a, c, rfl⟩
  · cases h; simp only [vr] at hv; subst hv; exact ⟨none, 0, rfl⟩
  · cases h; simp only [vr] at hv; obtain ⟨a, rfl, _⟩ := hv; exact ⟨a, _, rfl⟩
  · split at h
    · rename_i hs
      cases h
      simp only [vr] at hv
      exact rowV_slice (hv.2.2 _ _ _ hs)
    · cases h
  · split at h
    · rename_i hs
      cases h
      simp only [vr] at hv
      exact rowV_slice (hv.2.2 _ _ _ hs).2.1
    · cases h
  · cases h
def isSliceT (P : Program) (t : TypeId) : Bool := match P.underlying t with | some (.slice _) => true | _ => false
def isStrT (P : Program) (t : TypeId) : Bool := match P.underlying t with | some .string => true | _ => false
theorem isSliceT_und {t : TypeId} (h : isSliceT P t = true) : ∃ e, P.underlying t = some (.slice e) := by
  unfold isSliceT at h; split at h
  · exact ⟨_, by assumption⟩
  · cases h
theorem isStrT_und {t : TypeId} (h : isStrT P t = true) : P.underlying t = some .string := by
  unfold isStrT at h; split at h
  · assumption
  · cases h
theorem map1 {α β : Type} {f : α → β} {xs : List α} {y : β} (h : xs.map f = [y]) : ∃ x, xs = [x] ∧ f x = y := by
  cases xs with
  | nil => simp at h
  | cons a t => cases t with
    | nil => simp at h; exact ⟨a, rfl, h⟩
    | cons b t => simp at h
theorem map2 {α β : Type} {f : α → β} {xs : List α} {y z : β} (h : xs.map f = [y, z]) : ∃ a b, xs = [a, b] ∧ f a = y ∧ f b = z := by
  cases xs with
  | nil => simp at h
  | cons a t => cases t with
    | nil => simp at h
    | cons b t => cases t with
      | nil => simp at h; exact ⟨a, b, rfl, h.1, h.2⟩
      | cons c t => simp at h
def bltV (P : Program) (σ : Store) (b : Builtin) (ts : List TypeId) (vs : List V) : Option V :=
  match b, ts, vs with
  | .len, [t], [.d (.str s)] => if isStrT P t then some (.d (.int .i64 s.size)) else none
  | .len, [t], [v] => if isSliceT P t then (lenV σ v).map fun (n : Nat) => V.d (.int .i64 (n : Int)) else none
  | .max, _, [.d (.int k a), .d (.int _ b)] => some (.d (.int k (if b > a then b else a)))
  | .min, _, [.d (.int k a), .d (.int _ b)] => some (.d (.int k (if b < a then b else a)))
  | _, _, _ => none
theorem bltV_ok {b : Builtin} {xs : List Operand} {ts : List TypeId} {e : Operand → Value} {o : Oper} {v : V} {tm : List V} (ho : o.op = .call { callee := .builtin b, args := xs.toArray, argTypes := ts.toArray })
    (h : bltV P σ b ts (xs.map (ev tm)) = some v) (hx : ∀ x, vr w I ρ σ (ev tm x) (e x)) :
    ∃ z, (execOp e o).run P w = .ok (.value z) w ∧ vr w I ρ σ v z := by
  unfold bltV at h
  split at h
  · rename_i t s hm
    obtain ⟨x, rfl, hm'⟩ := map1 hm
    · have := hx x
      rw [hm'] at this
      simp only [vr, Dr] at this
      simp only [Option.ite_none_right_eq_some, Option.some.injEq] at h
      obtain ⟨ht, rfl⟩ := h
      exact ⟨.int .i64 s.size, by simp [execOp, ho, resolve, invoke, builtin, Builtin.len_, this, run_underlying (isStrT_und ht), goInt], by simp [vr, Dr]⟩
  · rename_i t y _ hm
    obtain ⟨x, rfl, hm'⟩ := map1 hm
    · have hv := hx x
      rw [hm'] at hv
      simp only [Option.ite_none_right_eq_some, Option.map_eq_some_iff] at h
      obtain ⟨ht, n, hn, rfl⟩ := h
      obtain ⟨el, ht⟩ := isSliceT_und ht
      obtain ⟨a, c, hxe⟩ := lenV_rel hn hv
      exact ⟨.int .i64 n, by simp [execOp, ho, resolve, invoke, builtin, Builtin.len_, hxe, run_underlying ht, goInt], by simp [vr, Dr]⟩
  · rename_i k a k' b' hm
    obtain ⟨x, y, rfl, hm1, hm2⟩ := map2 hm
    · have h1 := hx x
      have h2 := hx y
      rw [hm1] at h1; rw [hm2] at h2
      simp only [vr, Dr] at h1 h2
      cases h
      refine ⟨.int k (if b' > a then b' else a), ?_, by simp only [vr, Dr]⟩
      have := fun z : Array TypeId => run_max_int2 (P := P) w z o.type k k' a b'
      simp only [execOp, ho, resolve, invoke, builtin, Sem.run_bind, Sem.run_pure, Result.andThen_ok, List.map_toArray, List.map_cons, List.map_nil, h1, h2, this]
  · rename_i k a k' b' hm
    obtain ⟨x, y, rfl, hm1, hm2⟩ := map2 hm
    · have h1 := hx x
      have h2 := hx y
      rw [hm1] at h1; rw [hm2] at h2
      simp only [vr, Dr] at h1 h2
      cases h
      refine ⟨.int k (if b' < a then b' else a), ?_, by simp only [vr, Dr]⟩
      have := fun z : Array TypeId => run_min_int2 (P := P) w z o.type k k' a b'
      simp only [execOp, ho, resolve, invoke, builtin, Sem.run_bind, Sem.run_pure, Result.andThen_ok, List.map_toArray, List.map_cons, List.map_nil, h1, h2, this]
  · cases h
theorem ev_rel {tm : List V} {e : Operand → Value} (hx : ∀ x, vr w I ρ σ (ev tm x) (e x)) : ∀ xs : List Operand, vrL w I ρ σ (xs.map (ev tm)) (xs.map e)
  | [] => by simp [vrL]
  | x :: xs => by simp only [List.map_cons, vrL]; exact ⟨_, _, rfl, hx x, ev_rel hx xs⟩
def qop (P : Program) (tm : List V) (σ : Store) (o : Op) : Option V :=
  match o with
  | .move x | .assign x => some (ev tm x)
  | .pick c x y => pickV (ev tm c) (ev tm x) (ev tm y)
  | .extract x i => extV i (ev tm x)
  | .nilCheck x => nilV σ (ev tm x)
  | .binOp op t x y _ => match binV P op t (ev tm x) (ev tm y) with | some v => some v | none => ptrBin P σ op t (ev tm x) (ev tm y)
  | .unOp op _ x => unV op (ev tm x)
  | .convert s t x => convV P s t (ev tm x)
  | .fieldAddr t x f => if nilOf σ (ev tm x) = some false then faV P t f (ev tm x) else none
  | .field t x f => fieldV P t f (ev tm x)
  | .load t x => loadV P σ t (ev tm x)
  | .makeFunc (.func f) a b => some (.fn (.func f) (a.toList.map (ev tm)) (b.toList.map (ev tm)))
  | .call { callee := .builtin b, args, argTypes } => bltV P σ b argTypes.toList (args.toList.map (ev tm))
  | _ => none
theorem qop_ok {o : Oper} {e : Operand → Value} {tm : List V} {v : V} (h : qop P tm σ o.op = some v) (hx : ∀ x, vr w I ρ σ (ev tm x) (e x)) (hO : ORel w I ρ σ) :
    ∃ z, (execOp e o).run P w = .ok (.value z) w ∧ vr w I ρ σ v z := by
  unfold qop at h
  split at h
  · rename_i x ho; cases h; exact ⟨e x, by simp [execOp, ho], hx x⟩
  · rename_i x ho; cases h; exact ⟨e x, by simp [execOp, ho], hx x⟩
  · rename_i ho; exact pickV_ok ho h (hx _) (hx _) (hx _)
  · rename_i ho; exact extV_ok ho h (hx _)
  · rename_i ho; exact nilV_ok ho h (hx _)
  · rename_i ho
    split at h
    · rename_i hb; cases h; exact binV_ok ho hb (hx _) (hx _)
    · exact ptrBin_ok ho h (hx _) (hx _)
  · rename_i ho; exact unV_ok ho h (hx _)
  · rename_i ho; exact convV_ok ho h (hx _)
  · rename_i ho
    simp only [Option.ite_none_right_eq_some] at h
    exact faV_ok ho h.2 h.1 (hx _)
  · rename_i ho; exact fieldV_ok ho h (hx _)
  · rename_i ho; exact loadV_ok ho h (hx _) hO
  · rename_i f a b ho
    cases h
    refine ⟨.func (.func f) (a.map e) (b.map e), by simp [execOp, ho, Instr.makeFunc], ?_⟩
    simp only [vr]
    have ha : ∀ q : Array Operand, q.map e = (q.toList.map e).toArray := fun q => by apply Array.ext'; simp
    exact ⟨a.toList.map e, b.toList.map e, by rw [← ha, ← ha], ev_rel hx _, ev_rel hx _⟩
  · rename_i b args ts ho
    exact bltV_ok (xs := args.toList) (ts := ts.toList) (by simpa using ho) h hx
  · cases h
end ops
end Go.Br
namespace Go.Br
open Go
section up
variable {w w' : World} {I I' : Nat → Prop} {ρ ρ' : LM} {σ σ' : Store}
mutual
theorem vr_locs : ∀ (v : V) (x : Value), vr w I ρ σ v x → ∀ l ∈ v.locs, l < σ.length
  | .d _, _, _, l, hl => by simp [V.locs] at hl
  | .undef, _, _, l, hl => by simp [V.locs] at hl
  | .nils, _, _, l, hl => by simp [V.locs] at hl
  | .ex _ _, _, _, l, hl => by simp [V.locs] at hl
  | .ep _ _ _, _, _, l, hl => by simp [V.locs] at hl
  | .ptr k i s, x, h, l, hl => by simp only [V.locs, List.mem_singleton] at hl; subst hl; simp only [vr] at h; exact h.2.1
  | .row k, x, h, l, hl => by simp only [V.locs, List.mem_singleton] at hl; subst hl; simp only [vr] at h; exact h.2.1
  | .sl k _ _ _, x, h, l, hl => by simp only [V.locs, List.mem_singleton] at hl; subst hl; simp only [vr] at h; exact h.2.1
  | .yield k, x, h, l, hl => by simp only [V.locs, List.mem_singleton] at hl; subst hl; simp only [vr] at h; exact h.2.1
  | .map k, x, h, l, hl => by simp only [V.locs, List.mem_singleton] at hl; subst hl; simp only [vr] at h; exact h.2.1
  | .fn f a b, x, h, l, hl => by
    simp only [V.locs, List.mem_append] at hl
    simp only [vr] at h
    obtain ⟨fs, cs, _, h1, h2⟩ := h
    rcases hl with hl | hl
    · exact vrL_locs a fs h1 l hl
    · exact vrL_locs b cs h2 l hl
  | .tuple vs, x, h, l, hl => by
    simp only [V.locs] at hl
    simp only [vr] at h
    obtain ⟨xs, _, h1⟩ := h
    exact vrL_locs vs xs h1 l hl
  | .agg vs, x, h, l, hl => by
    simp only [V.locs] at hl
    simp only [vr] at h
    obtain ⟨xs, _, h1, _⟩ := h
    exact vrL_locs vs xs h1 l hl
theorem vrL_locs : ∀ (vs : List V) (xs : List Value), vrL w I ρ σ vs xs → ∀ l ∈ V.locsL vs, l < σ.length
  | [], _, _, l, hl => by simp [V.locsL] at hl
  | v :: vs, xs, h, l, hl => by
    simp only [V.locsL, List.mem_append] at hl
    simp only [vrL] at h
    obtain ⟨x, xs', _, h1, h2⟩ := h
    rcases hl with hl | hl
    · exact vr_locs v x h1 l hl
    · exact vrL_locs vs xs' h2 l hl
end
theorem vr_all (hI : ∀ b, I b → I' b ∧ w'.heap[b]? = w.heap[b]?) (hs : ∀ l, l < σ.length → Same ρ σ ρ' σ' l) {v : V} {x : Value} (h : vr w I ρ σ v x) : vr w' I' ρ' σ' v x :=
  vr_up hI v x (fun l hl => hs l (vr_locs v x h l hl)) h
theorem vrL_all (hI : ∀ b, I b → I' b ∧ w'.heap[b]? = w.heap[b]?) (hs : ∀ l, l < σ.length → Same ρ σ ρ' σ' l) {v : List V} {x : List Value} (h : vrL w I ρ σ v x) : vrL w' I' ρ' σ' v x :=
  vrL_up hI v x (fun l hl => hs l (vrL_locs v x h l hl)) h
theorem orel_all (hI : ∀ b, I b → I' b ∧ w'.heap[b]? = w.heap[b]?) (hs : ∀ l, l < σ.length → Same ρ σ ρ' σ' l) {l : Nat} {o : O} (hρ : ρ' l = ρ l) (hh : ∀ L, ρ l = some L → w'.heap[L.b]? = w.heap[L.b]?) (h : orel w I ρ σ l o) :
    orel w' I' ρ' σ' l o := by
  cases o with
  | dead => simp [orel]
  | cells cs =>
    simp only [orel] at h ⊢
    obtain ⟨L, C, T, fz, h1, h2, h3, h4, h5, h6⟩ := h
    exact ⟨L, C, T, fz, hρ.trans h1, h2, (hh L h1).trans h3, h4, vrL_all hI hs h5, h6⟩
  | row sz xs mv =>
    simp only [orel] at h ⊢
    rcases h with ⟨h1, h2⟩ | ⟨L, C, T, fz, h1, h2, h3, h4, h5, h6, h7, h8⟩
    · exact .inl ⟨hρ.trans h1, h2⟩
    · exact .inr ⟨L, C, T, fz, hρ.trans h1, h2, (hh L h1).trans h3, h4, h5, h6, h7, DrE_mono hI sz L.b (hh L h1) L.o xs h8⟩
  | map es =>
    simp only [orel] at h ⊢
    obtain ⟨L, E, n, h1, h2, h3, h4, h5, h6⟩ := h
    refine ⟨L, E, n, hρ.trans h1, h2, (hh L h1).trans h3, h4, fun j e hj => ?_, h6⟩
    obtain ⟨g1, x, g2, g3, g4⟩ := h5 j e hj
    exact ⟨g1, x, g2, g3, Dr_mono hI _ _ g4⟩
  | loop st pend fn tm params assign body =>
    simp only [orel] at h ⊢
    obtain ⟨L, tmps, db, h1, h2, h3⟩ := h
    exact ⟨L, tmps, db, hρ.trans h1, (hh L h1).trans h2, vrL_all hI hs h3⟩
  | defd =>
    simp only [orel] at h ⊢
    obtain ⟨L, h1, h2⟩ := h
    exact ⟨L, hρ.trans h1, (hh L h1).trans h2⟩
end up
theorem live_lt {σ : Store} {l : Nat} (h : live σ l) : l < σ.length := by
  obtain ⟨o, ho, _⟩ := h
  exact (List.getElem?_eq_some_iff.1 ho).1
def Stay (ρ : LM) (σ : Store) (ρ' : LM) (σ' : Store) : Prop :=
  ∀ l o, σ[l]? = some o → o.ld ≠ 0 → ρ' l = ρ l ∧ ∃ o', σ'[l]? = some o' ∧ o'.ld = o.ld
theorem ld_one {o : O} (h : o.ld = 1) : o = .defd := by cases o <;> simp_all [O.ld]
theorem ld_two {o : O} (h : o.ld = 2) : ∃ a b c d e f g, o = .loop a b c d e f g := by
  cases o <;> simp_all [O.ld]
theorem ld_still {o : O} (h : o.ld ≠ 0) : o.still = true := by cases o <;> simp_all [O.ld, O.still]
theorem Ext.stays {w w' : World} {I I' : Nat → Prop} {ρ ρ' : LM} {σ σ' : Store} (h : Ext σ.length w I ρ σ w' I' ρ' σ') : Stay ρ σ ρ' σ' := by
  intro l o hl ho
  have hlt : l < σ.length := (List.getElem?_eq_some_iff.1 hl).1
  obtain ⟨o', h1, h2⟩ := h.stay l o hlt hl ho
  exact ⟨(h.fixed l o' hlt h1 (ld_still (by rw [h2]; exact ho))).1, o', h1, h2⟩
theorem dfr_stay {ρ ρ' : LM} {σ σ' : Store} (hs : Stay ρ σ ρ' σ') : ∀ {df : List Nat} {ds : List Deferred}, dfr ρ σ df ds → dfr ρ' σ' df ds
  | [], ds, h => by simpa [dfr] using h
  | l :: ls, ds, h => by
    simp only [dfr] at h ⊢
    obtain ⟨L, ds', h1, h2, h3, h4⟩ := h
    obtain ⟨g1, o', g2, g3⟩ := hs l _ h2 (by simp [O.ld])
    have := ld_one (o := o') (by rw [g3]; rfl)
    subst this
    exact ⟨L, ds', g1.trans h1, g2, h3, dfr_stay hs h4⟩
theorem rbOf_stay {ρ ρ' : LM} {σ σ' : Store} (hs : Stay ρ σ ρ' σ') {ro rb : Option Nat} (h : rbOf ρ σ ro rb) : rbOf ρ' σ' ro rb := by
  cases ro with
  | none => exact h
  | some l =>
    obtain ⟨L, o, h1, h2, h3, h4⟩ := h
    obtain ⟨a1, a2, a3, a4, a5, a6, a7, rfl⟩ := h3
    obtain ⟨g1, o', g2, g3⟩ := hs l _ h2 (by simp [O.ld])
    exact ⟨L, o', g1.trans h1, g2, ld_two (by rw [g3]; rfl), h4⟩
def OpOk (P : Program) (o : Oper) (tm : List V) (σ : Store) (v : V) (tm' : List V) (σ' : Store) : Prop :=
  ∀ (w : World) (I : Nat → Prop) (ρ : LM) (a : Act), vrL w I ρ σ tm a.tmps.toList → ORel w I ρ σ →
    ∃ nx x w' I' ρ', (execOp a.eval o).run P w = .ok nx w' ∧ (nx = .value x ∨ nx = .skip ∧ x = undef) ∧ vr w' I' ρ' σ' v x ∧ vrL w' I' ρ' σ' tm' a.tmps.toList ∧ ORel w' I' ρ' σ' ∧
      Ext σ.length w I ρ σ w' I' ρ' σ'
def wantA (ops : Array Oper) (o : Oper) (tm : List V) : Option Bool :=
  match o.guard with
  | none => some true
  | some (j, want) => match (ops[j]?).bind (·.dst) with
    | some d => match tm[d]? with
      | some (.d (.bool b)) => some (b == want)
      | some (.tuple []) => some false
      | _ => none
    | none => none
theorem wantA_ok {ops : Array Oper} {o : Oper} {tm : List V} {b : Bool} (h : wantA ops o tm = some b) {w : World} {I : Nat → Prop} {ρ : LM} {σ : Store} {a : Act} (hr : vrL w I ρ σ tm a.tmps.toList) :
    Region.wanted o (yielded ops a.tmps) = b := by
  unfold wantA at h
  unfold Region.wanted
  cases hg : o.guard with
  | none => simp [hg] at h; simp [h]
  | some p =>
    obtain ⟨j, want⟩ := p
    simp only [hg] at h ⊢
    split at h
    · rename_i d hd
      split at h
      · rename_i c hc
        cases h
        obtain ⟨x, hx, hv⟩ := vrL_get? hr hc
        simp only [vr, Dr] at hv
        subst hv
        have hx' : a.tmps[d]? = some (.bool c) := by simpa using hx
        simp only [yielded, hd, Option.bind_some, hx']
        cases c <;> cases want <;> rfl
      · rename_i hc
        cases h
        obtain ⟨x, hx, hv⟩ := vrL_get? hr hc
        simp only [vr, vrL] at hv
        obtain ⟨xs, rfl, rfl⟩ := hv
        have hx' : a.tmps[d]? = some (.tuple #[]) := by simpa using hx
        simp only [yielded, hd, Option.bind_some, hx']
        rfl
      · cases h
    · cases h
section rules
variable {P : Program} {f : FuncId} {ro : Option Nat} {n : Nat} {k : List Item} {tm tm' : List V} {σ σ' : Store} {df : List Nat} {Q : AE → Store → Prop}
theorem AW.op {ops : Array Oper} {i : Nat} {rest : List Nat} {o : Oper} {v : V} (hi : ops[i]? = some o) (hw : wantA ops o tm = some true) (hd : Op.isDefer o.op = false) (hok : OpOk P o tm σ v tm' σ')
    (h : AW P f ro n (.inRegion ops rest :: k) (put tm' o.dst v) σ' df Q) : AW P f ro n (.inRegion ops (i :: rest) :: k) tm σ df Q := by
  intro w I ρ a rb hr hb hn
  obtain ⟨nx, x, w', I', ρ', h1, h2, h3, h4, h5, h6⟩ := hok w I ρ a hr.tms hr.ors
  have h7 := h6.stays
  have hwa := wantA_ok hw hr.tms
  have hlen : n ≤ σ'.length := Nat.le_trans hn h6.len
  have hnext := h w' I' ρ' (a.put o.dst x) rb ⟨vrL_put h4 o.dst h3, h5, by rw [put_defers]; exact dfr_stay h7 hr.dfs⟩ (rbOf_stay h7 hb) hlen
  have hnext := hnext.mono fun e w'' hf => hf.trans (h6.less hn)
  rcases h2 with rfl | ⟨rfl, rfl⟩
  · exact .step (fun cs => st_op_value hi hwa hd h1) hnext
  · exact .step (fun cs => st_op_unit hi hwa hd h1) hnext
theorem AW.opSkip {ops : Array Oper} {i : Nat} {rest : List Nat} {o : Oper} (hi : ops[i]? = some o) (hw : wantA ops o tm = some false)
    (h : AW P f ro n (.inRegion ops rest :: k) (put tm o.dst (.tuple [])) σ df Q) : AW P f ro n (.inRegion ops (i :: rest) :: k) tm σ df Q := by
  intro w I ρ a rb hr hb hn
  have hwa := wantA_ok hw hr.tms
  have hs : ∀ cs, step P (lone (frm f rb a (.inRegion ops (i :: rest) :: k)) cs w) = .next (lone (frm f rb (a.put o.dst undef) (.inRegion ops rest :: k)) cs w) := by
    intro cs
    have := st_op_skip (P := P) (f := f) (rb := rb) (a := a) (k := k) (cs := cs) (w := w) (ops := ops) (i := i) (rest := rest) (by simp [hi, hwa])
    simpa [hi] using this
  exact .step hs (h w I ρ _ rb ⟨vrL_put hr.tms o.dst (by simp [vr, vrL, undef]), hr.ors, by rw [put_defers]; exact hr.dfs⟩ hb hn)
theorem AW.less (hl : ∀ w I ρ (a : List Value), vrL w I ρ σ tm a → vrL w I ρ σ tm' a) (h : AW P f ro n k tm' σ df Q) : AW P f ro n k tm σ df Q :=
  fun w I ρ a rb hr hb hn => h w I ρ a rb ⟨hl w I ρ _ hr.tms, hr.ors, hr.dfs⟩ hb hn
end rules
theorem qop_isDefer {P : Program} {tm : List V} {σ : Store} {o : Op} {v : V} (h : qop P tm σ o = some v) : Op.isDefer o = false := by
  cases o <;> simp_all [qop, Op.isDefer]
theorem qop_opOk {P : Program} {tm : List V} {σ : Store} {o : Oper} {v : V} (h : qop P tm σ o.op = some v) : OpOk P o tm σ v tm σ := by
  intro w I ρ a hr hO
  obtain ⟨z, h1, h2⟩ := qop_ok (w := w) (I := I) (ρ := ρ) h (fun x => vr_ev hr x) hO
  exact ⟨_, z, w, I, ρ, h1, .inl rfl, h2, hr, hO, Ext.refl w I ρ σ⟩
def elemSz (P : Program) (t : TypeId) : Option Nat := match P.underlying t with | some (.slice e) => (P.info? e).map (·.size) | _ => none
def co (P : Program) (t : TypeId) : V → V
  | .nils => match elemSz P t with | some sz => .d (.list sz []) | none => .nils
  | .ex sz xs => .d (.list sz xs)
  | v => v
section
variable {w w' : World} {I I' : Nat → Prop} {ρ ρ' : LM} {σ σ' : Store}
theorem co_rel {P : Program} {t : TypeId} {v : V} {x : Value} (h : vr w I ρ σ v x) : vr w I ρ σ (co P t v) x := by
  unfold co
  split
  · simp only [vr] at h
    subst h
    split
    · simp only [vr, Dr]; exact ⟨none, 0, rfl, Nat.le_refl _, Nat.zero_le _, by simp⟩
    · simp [vr]
  · simp only [vr] at h ⊢
    obtain ⟨a, rfl, h⟩ := h
    exact h
  · exact h
def coX (P : Program) (t : TypeId) : V → V
  | .nils => match elemSz P t with | some sz => .ex sz [] | none => .nils
  | v => co P t v
theorem coX_rel {P : Program} {t : TypeId} {v : V} {x : Value} (h : vr w I ρ σ v x) : vr w I ρ σ (coX P t v) x := by
  unfold coX
  split
  · simp only [vr] at h
    subst h
    split
    · simp only [vr, Dr]; exact ⟨none, rfl, none, 0, rfl, Nat.le_refl _, Nat.zero_le _, by simp⟩
    · simp [vr]
  · exact co_rel h
def coA (P : Program) (t : TypeId) : V → V
  | .agg vs => match datasX vs with | some ds => .d (.agg ds) | none => .agg vs
  | v => co P t v
theorem coA_rel {P : Program} {t : TypeId} {v : V} {x : Value} (h : vr w I ρ σ v x) : vr w I ρ σ (coA P t v) x := by
  unfold coA
  split
  · split
    · rename_i ds hds
      simp only [vr] at h ⊢
      obtain ⟨xs, rfl, h1, h2⟩ := h
      simp only [Dr]
      exact ⟨xs, rfl, vrL_DrLX hds h1 h2⟩
    · exact h
  · exact co_rel h
theorem getElem?_set_ne {σ : Store} {l x : Nat} (h : x ≠ l) (o : O) : (σ.set l o)[x]? = σ[x]? := by
  rw [List.getElem?_set]; simp [Ne.symm h]
theorem same_set {l : Nat} {o o' : O} (hl : σ[l]? = some o) (hn : o ≠ .dead) (hk : o.alike o') : ∀ x, x < σ.length → Same ρ σ ρ (σ.set l o') x := by
  intro x hx
  refine ⟨by simpa using hx, fun o1 h1 h2 => ⟨rfl, ?_⟩⟩
  by_cases hxl : x = l
  · subst hxl
    rw [List.getElem?_set_self (by exact hx)] at h1
    cases h1
    exact ⟨o, hl, hn, hk⟩
  · rw [getElem?_set_ne hxl] at h1
    exact ⟨o1, h1, h2, rfl⟩
theorem live_set {l : Nat} {o : O} {x : Nat} (hl : live σ l) (h : live (σ.set l o) x) : live σ x := by
  obtain ⟨o1, h1, h2⟩ := h
  by_cases hx : x = l
  · subst hx; exact hl
  · rw [getElem?_set_ne hx] at h1; exact ⟨o1, h1, h2⟩
theorem foot_set {l : Nat} {o : O} {b : Nat} (hl : live σ l) (h : foot ρ (σ.set l o) b) : foot ρ σ b := by
  obtain ⟨x, o1, L, h1, h2, h3, h4⟩ := h
  obtain ⟨o2, h5, h6⟩ := live_set hl ⟨o1, h1, h2⟩
  exact ⟨x, o2, L, h5, h6, h3, h4⟩
theorem ORel.upd {l : Nat} {L : Loc} {o o' : O} (h : ORel w I ρ σ) (hl : σ[l]? = some o) (ho : o ≠ .dead) (hL : ρ l = some L) (hk : o.alike o')
    (hheap : ∀ b, b ≠ L.b → w'.heap[b]? = w.heap[b]?) (hsize : w'.heap.size = w.heap.size) (hnew : orel w' I ρ (σ.set l o') l o') : ORel w' I ρ (σ.set l o') where
  objs x o1 hx := by
    have hI : ∀ b, I b → I b ∧ w'.heap[b]? = w.heap[b]? := fun b hb => ⟨hb, hheap b fun e => (h.imm b hb).2 ⟨l, o, L, hl, ho, hL, e.symm⟩⟩
    have hlt : l < σ.length := (List.getElem?_eq_some_iff.1 hl).1
    by_cases hxl : x = l
    · subst hxl
      rw [List.getElem?_set_self hlt] at hx
      cases hx
      exact hnew
    · rw [getElem?_set_ne hxl] at hx
      by_cases hd : o1 = .dead
      · subst hd; simp [orel]
      refine orel_all hI (same_set hl ho hk) rfl (fun K hK => hheap _ fun e => hxl ?_) (h.objs x o1 hx)
      exact h.inj x l K L ⟨o1, hx, hd⟩ ⟨o, hl, ho⟩ hK hL e
  inj x y X Y hx hy hX hY e := h.inj x y X Y (live_set ⟨o, hl, ho⟩ hx) (live_set ⟨o, hl, ho⟩ hy) hX hY e
  flt b hb := by rw [hsize]; exact h.flt b (foot_set ⟨o, hl, ho⟩ hb)
  imm b hb := ⟨by rw [hsize]; exact (h.imm b hb).1, fun hf => (h.imm b hb).2 (foot_set ⟨o, hl, ho⟩ hf)⟩
theorem Ext.upd {l : Nat} {L : Loc} {o o' : O} (hl : σ[l]? = some o) (ho : o ≠ .dead) (hL : ρ l = some L) (hf : o'.still = true → o.still = true) (hk : o.alike o') (hld : o'.ld = o.ld)
    (hheap : ∀ b, b ≠ L.b → w'.heap[b]? = w.heap[b]?) (hsize : w'.heap.size = w.heap.size) (hos : w'.os = w.os) (htape : w'.tape = w.tape) (hout : w'.output = w.output) : Ext σ.length w I ρ σ w' I ρ (σ.set l o') where
  size := by omega
  os := hos
  tape := htape
  output := hout
  old b _ hb := hheap b fun e => hb ⟨l, o, L, hl, ho, hL, e.symm⟩
  immI _ h := h
  immN _ h := .inl h
  footN b h := .inl (foot_set ⟨o, hl, ho⟩ h)
  len := by simp
  alive x _ h := live_set ⟨o, hl, ho⟩ h
  fixed x o1 hx h1 h2 := by
    refine ⟨rfl, ?_⟩
    by_cases hxl : x = l
    · subst hxl
      rw [List.getElem?_set_self hx] at h1
      cases h1
      exact ⟨o, hl, hf h2, hk⟩
    · rw [getElem?_set_ne hxl] at h1
      exact ⟨o1, h1, h2, rfl⟩
  stay x o1 hx h1 _ := by
    by_cases hxl : x = l
    · subst hxl
      rw [hl] at h1; cases h1
      exact ⟨o', List.getElem?_set_self hx, hld⟩
    · exact ⟨o1, by rw [getElem?_set_ne hxl]; exact h1, rfl⟩
theorem ORel.new (h : ORel w I ρ σ) (L : Loc) (o : O) (hL : L.b = w.heap.size) (hheap : ∀ b, b < w.heap.size → w'.heap[b]? = w.heap[b]?) (hsize : w'.heap.size = w.heap.size + 1)
    (hnew : orel w' I (fun x => if x = σ.length then some L else ρ x) (σ ++ [o]) σ.length o) : ORel w' I (fun x => if x = σ.length then some L else ρ x) (σ ++ [o]) := by
  have hI : ∀ b, I b → I b ∧ w'.heap[b]? = w.heap[b]? := fun b hb => ⟨hb, hheap b (h.imm b hb).1⟩
  have hS : ∀ x, x < σ.length → Same ρ σ (fun x => if x = σ.length then some L else ρ x) (σ ++ [o]) x := by
    intro x hx
    refine ⟨by simp; omega, fun o' h1 h2 => ⟨by simp [Nat.ne_of_lt hx], o', ?_, h2, rfl⟩⟩
    rwa [List.getElem?_append_left hx] at h1
  have hold : ∀ x o1, (σ ++ [o])[x]? = some o1 → x ≠ σ.length → σ[x]? = some o1 := by
    intro x o1 hx hne
    rw [List.getElem?_append] at hx
    split at hx
    · exact hx
    · have := (List.getElem?_eq_some_iff.1 hx).1
      simp at this; omega
  have hfoot : ∀ b, foot (fun x => if x = σ.length then some L else ρ x) (σ ++ [o]) b → foot ρ σ b ∨ b = w.heap.size := by
    rintro b ⟨x, o1, K, h1, h2, h3, h4⟩
    by_cases hx : x = σ.length
    · simp only [hx, if_true, Option.some.injEq] at h3
      subst h3
      exact .inr (h4.symm.trans hL)
    · simp only [hx, if_false] at h3
      exact .inl ⟨x, o1, K, hold x o1 h1 hx, h2, h3, h4⟩
  have hlive : ∀ x, live (σ ++ [o]) x → x ≠ σ.length → live σ x := fun x ⟨o1, h1, h2⟩ hne => ⟨o1, hold x o1 h1 hne, h2⟩
  refine ⟨fun x o1 hx => ?_, ?_, ?_, ?_⟩
  · by_cases hxe : x = σ.length
    · subst hxe
      simp at hx
      subst hx
      exact hnew
    · by_cases hd : o1 = .dead
      · subst hd; simp [orel]
      refine orel_all hI hS (by simp [hxe]) (fun K hK => hheap _ ?_) (h.objs x o1 (hold x o1 hx hxe))
      exact h.flt _ ⟨x, o1, K, hold x o1 hx hxe, hd, hK, rfl⟩
  · intro x y X Y hx hy hX hY e
    by_cases hxe : x = σ.length
    · by_cases hye : y = σ.length
      · rw [hxe, hye]
      · simp only [hxe, if_true, Option.some.injEq] at hX
        simp only [hye, if_false] at hY
        subst hX
        obtain ⟨o2, h1, h2⟩ := hlive y hy hye
        have := h.flt Y.b ⟨y, o2, Y, h1, h2, hY, rfl⟩
        omega
    · by_cases hye : y = σ.length
      · simp only [hye, if_true, Option.some.injEq] at hY
        simp only [hxe, if_false] at hX
        subst hY
        obtain ⟨o2, h1, h2⟩ := hlive x hx hxe
        have := h.flt X.b ⟨x, o2, X, h1, h2, hX, rfl⟩
        omega
      · simp only [hxe, hye, if_false] at hX hY
        exact h.inj x y X Y (hlive x hx hxe) (hlive y hy hye) hX hY e
  · intro b hb
    rcases hfoot b hb with hb | hb
    · have := h.flt b hb; omega
    · omega
  · intro b hb
    refine ⟨by have := (h.imm b hb).1; omega, fun hf => ?_⟩
    rcases hfoot b hf with hf | hf
    · exact (h.imm b hb).2 hf
    · have := (h.imm b hb).1; omega
theorem Ext.new (L : Loc) (o : O) (hL : L.b = w.heap.size) (hheap : ∀ b, b < w.heap.size → w'.heap[b]? = w.heap[b]?) (hsize : w'.heap.size = w.heap.size + 1) (hos : w'.os = w.os) (htape : w'.tape = w.tape) (hout : w'.output = w.output) :
    Ext σ.length w I ρ σ w' I (fun x => if x = σ.length then some L else ρ x) (σ ++ [o]) where
  size := by omega
  os := hos
  tape := htape
  output := hout
  old b hb _ := hheap b hb
  immI _ h := h
  immN _ h := .inl h
  footN b := by
    rintro ⟨x, o1, K, h1, h2, h3, h4⟩
    by_cases hx : x = σ.length
    · simp only [hx, if_true, Option.some.injEq] at h3
      subst h3
      exact .inr (by omega)
    · simp only [hx, if_false] at h3
      refine .inl ⟨x, o1, K, ?_, h2, h3, h4⟩
      have hlt := (List.getElem?_eq_some_iff.1 h1).1
      simp at hlt
      rwa [List.getElem?_append_left (by omega)] at h1
  len := by simp
  alive x hx h := by
    obtain ⟨o1, h1, h2⟩ := h
    rw [List.getElem?_append_left hx] at h1
    exact ⟨o1, h1, h2⟩
  fixed x o1 hx h1 h2 := ⟨by simp [Nat.ne_of_lt hx], o1, by rw [List.getElem?_append_left hx] at h1; exact h1, h2, rfl⟩
  stay x o1 hx h1 _ := ⟨o1, by rw [List.getElem?_append_left hx]; exact h1, rfl⟩
theorem same_new (L : Loc) (o : O) : ∀ x, x < σ.length → Same ρ σ (fun x => if x = σ.length then some L else ρ x) (σ ++ [o]) x := by
  intro x hx
  refine ⟨by simp; omega, fun o' h1 h2 => ⟨by simp [Nat.ne_of_lt hx], o', ?_, h2, rfl⟩⟩
  rwa [List.getElem?_append_left hx] at h1
end
end Go.Br
namespace Go.Br
open Go
section
variable {P : Program} {w w' : World} {I I' : Nat → Prop} {ρ ρ' : LM} {σ σ' : Store}
theorem run_storeCells_th (g o : Nat) (t : TypeId) (fz : Nat × Nat) : ∀ (vs : List Value) (i : Nat) (cur : Array Value) (w : World), w.heap[g]? = some (.cells cur t fz) → thaw fz cur.size → o + i + vs.length ≤ cur.size → (∀ v ∈ vs, v.oneCell' = true) →
    (storeCells ⟨g, o, none⟩ vs i).run P w = .ok () (w.setRow g (cur.toList.take (o + i) ++ vs ++ cur.toList.drop (o + i + vs.length)).toArray)
  | [], i, cur, w, hg, _, _, _ => by
    simp only [storeCells, List.append_nil, List.length_nil, Nat.add_zero, List.take_append_drop, Array.toArray_toList]
    rw [setRow_self w g cur t fz hg]
    rfl
  | v :: rest, i, cur, w, hg, hth, hl, h1 => by
    have hi : o + i < cur.size := by simp at hl; omega
    have hcell : w.cell? ⟨g, o + i, none⟩ = some cur[o + i] := by simp [World.cell?, hg, hi]
    have hfro : w.frozen? ⟨g, o + i, none⟩ = false := by
      have := hth.2 (o + i) (Nat.le_of_lt hi)
      simp only [World.frozen?, hg, Bool.and_eq_false_iff, decide_eq_false_iff_not]
      omega
    have hst : (store ((⟨g, o, none⟩ : Addr).add i) v).run P w = .ok () (w.setRow g (cur.setIfInBounds (o + i) v)) := by
      rw [addr_add, run_store P w _ v _ (h1 v (by simp)), hcell]
      simp [hfro, setCell_eq_setRow w g (o + i) cur t fz v hg]
    have ih := run_storeCells_th g o t fz rest (i + 1) (cur.setIfInBounds (o + i) v) (w.setRow g (cur.setIfInBounds (o + i) v)) (setRow_heap w g cur _ t _ hg) (by simpa using hth) (by simp at hl ⊢; omega) (fun x hx => h1 x (by simp [hx]))
    simp only [storeCells, Sem.run_bind, hst, Result.andThen_ok, ih, setRow_setRow]
    congr 3
    have e := list_seg_step cur.toList (o + i) v rest (by simp at hl ⊢; omega)
    simpa [Array.toList_setIfInBounds, Nat.add_assoc] using e
theorem run_storeVar_th {t T : TypeId} {g s : Nat} {fz : Nat × Nat} {cur : Array Value} {x : Value} (hg : w.heap[g]? = some (.cells cur T fz)) (hth : thaw fz cur.size) (hsz : (P.info? t).map (·.size) = some x.cells.size)
    (hfit : s + x.cells.size ≤ cur.size) (h1 : ∀ v ∈ x.cells.toList, one v) :
    (storeVar t ⟨g, s, none⟩ x).run P w = .ok () (w.setRow g (cur.toList.take s ++ x.cells.toList ++ cur.toList.drop (s + x.cells.size)).toArray) := by
  cases hq : P.info? t with
  | none => simp [hq] at hsz
  | some i =>
    have hs : i.size = x.cells.size := by simpa [hq] using hsz
    have := run_storeCells_th (P := P) g s T fz x.cells.toList 0 cur w hg hth (by simpa using hfit) h1
    simp only [Nat.add_zero, Array.length_toList] at this
    simp [storeVar, sizeOf, typeInfo, hq, hs, this]
def splice {α : Type} (l : List α) (s : Nat) (xs : List α) : List α := l.take s ++ xs ++ l.drop (s + xs.length)
def storeA (P : Program) (tm : List V) (σ : Store) (t : TypeId) (x y : Operand) : Option Store :=
  match ev tm x, cellsV (coX P t (ev tm y)) with
  | .ptr l 0 s, some vs => match σ[l]? with
    | some (.cells cs) => if s + vs.length ≤ cs.length ∧ (P.info? t).map (·.size) = some vs.length then some (σ.set l (.cells (splice cs s vs))) else none
    | _ => none
  | _, _ => none
theorem storeA_ok {tm : List V} {t : TypeId} {x y : Operand} {o : Oper} (ho : o.op = .store t x y) (h : storeA P tm σ t x y = some σ') : OpOk P o tm σ .undef tm σ' := by
  intro w I ρ a hr hO
  unfold storeA at h
  split at h
  · rename_i l s vs hx hy
    split at h
    · rename_i cs hs
      simp only [Option.ite_none_right_eq_some, Option.some.injEq] at h
      obtain ⟨⟨hfit, hsz⟩, rfl⟩ := h
      have hxr := vr_ev hr x
      have hyr := coX_rel (P := P) (t := t) (vr_ev hr y)
      obtain ⟨hc, h1⟩ := cells_rel hy hyr
      rw [hx] at hxr
      simp only [vr] at hxr
      obtain ⟨L, hL, he⟩ := hxr.2.2 ⟨_, hs, by simp⟩
      have hob := hO.objs l _ hs
      simp only [orel] at hob
      obtain ⟨L', C, T, fz, hL', h0, hh, hth, hcr, hone⟩ := hob
      rw [hL] at hL'; cases hL'
      have hlen := vrL_len hc
      have hlen2 := vrL_len hcr
      simp only [Array.length_toList] at hlen hlen2
      simp only [h0, Nat.zero_mul, Nat.add_zero, Nat.zero_add] at he
      have hrun := run_storeVar_th (P := P) (t := t) (s := s) (x := a.eval y) hh hth (by rw [hlen]; exact hsz) (by omega) h1
      have hrun' : (execOp a.eval o).run P w = .ok .skip (w.setRow L.b (C.toList.take s ++ (a.eval y).cells.toList ++ C.toList.drop (s + (a.eval y).cells.size)).toArray) := by
        simp only [execOp, ho, he, Instr.storeAt, Instr.sureAddr, Sem.run_bind, Sem.run_pure, Result.andThen_ok, hrun]
      refine ⟨.skip, undef, _, I, ρ, hrun', .inr ⟨rfl, rfl⟩, by simp [vr], ?_, ?_, ?_⟩
      · refine vrL_all (fun b hb => ⟨hb, setRow_other _ _ _ _ fun e => (hO.imm b hb).2 ⟨l, _, L, hs, by simp, hL, e.symm⟩⟩) (same_set hs (by simp) (by simp [O.alike, O.rl])) hr
      · refine hO.upd hs (by simp) hL (by simp [O.alike, O.rl]) (fun b hb => setRow_other _ _ _ _ hb) (by simp) ?_
        simp only [orel]
        refine ⟨L, _, T, fz, hL, h0, setRow_heap _ _ _ _ _ _ hh, ?_, ?_, ?_⟩
        · have : ∀ n, n = C.size → thaw fz n := fun n e => e ▸ hth
          exact this _ (by simp; omega)
        · have hv : vrL (w.setRow L.b (C.toList.take s ++ (a.eval y).cells.toList ++ C.toList.drop (s + (a.eval y).cells.size)).toArray) I ρ (σ.set l (.cells (splice cs s vs))) (splice cs s vs) (C.toList.take s ++ (a.eval y).cells.toList ++ C.toList.drop (s + (a.eval y).cells.size)) := by
            refine vrL_all (w := w) (I := I) (ρ := ρ) (σ := σ) (fun b hb => ⟨hb, setRow_other _ _ _ _ fun e => (hO.imm b hb).2 ⟨l, _, L, hs, by simp, hL, e.symm⟩⟩) (same_set hs (by simp) (by simp [O.alike, O.rl])) ?_
            unfold splice
            rw [hlen]
            exact vrL_append (vrL_append (vrL_take hcr s) hc) (vrL_drop hcr _)
          simpa using hv
        · intro z hz
          simp only [List.mem_append] at hz
          rcases hz with (hz | hz) | hz
          · exact hone z (List.mem_of_mem_take hz)
          · exact h1 z hz
          · exact hone z (List.mem_of_mem_drop hz)
      · exact Ext.upd hs (by simp) hL (fun _ => rfl) (by simp [O.alike, O.rl]) rfl (fun b hb => setRow_other _ _ _ _ hb) (by simp) rfl rfl rfl
    · cases h
  · cases h
theorem one_splice {C : Array Value} {vs : List Value} {i j : Nat} (h : ∀ x ∈ C.toList, one x) (h' : ∀ x ∈ vs, one x) : ∀ x ∈ (C.toList.take i ++ vs ++ C.toList.drop j).toArray.toList, one x := by
  intro x hx
  simp only [List.append_assoc, List.mem_append] at hx
  rcases hx with hx | hx | hx
  · exact h x (List.mem_of_mem_take hx)
  · exact h' x hx
  · exact h x (List.mem_of_mem_drop hx)
theorem thaw_zero (n : Nat) : thaw (0, 0) n := ⟨Nat.le_refl _, fun j _ h => by omega⟩
theorem newCells_ok {o : Oper} {tm : List V} {t : TypeId} {vs : List V} {cs : Array Value} {a : Act} (hr : vrL w I ρ σ tm a.tmps.toList) (hO : ORel w I ρ σ) (hv : vrL w I ρ σ vs cs.toList) (h1 : ∀ x ∈ cs.toList, one x)
    (hrun : (execOp a.eval o).run P w = .ok (.value (.pointer (some ⟨w.heap.size, 0, none⟩))) (w.alloc (.cells cs t))) :
    ∃ nx x w' I' ρ', (execOp a.eval o).run P w = .ok nx w' ∧ (nx = .value x ∨ nx = .skip ∧ x = undef) ∧ vr w' I' ρ' (σ ++ [.cells vs]) (.ptr σ.length 0 0) x ∧ vrL w' I' ρ' (σ ++ [.cells vs]) tm a.tmps.toList ∧ ORel w' I' ρ' (σ ++ [.cells vs]) ∧
      Ext σ.length w I ρ σ w' I' ρ' (σ ++ [.cells vs]) := by
  have hI : ∀ b, I b → I b ∧ (w.alloc (.cells cs t)).heap[b]? = w.heap[b]? := fun b hb => ⟨hb, heap_alloc_old _ _ _ (hO.imm b hb).1⟩
  refine ⟨_, _, _, I, (fun x => if x = σ.length then some ⟨w.heap.size, 0, 0, 0⟩ else ρ x), hrun, .inl rfl, ?_, vrL_all hI (same_new _ _) hr, ?_, ?_⟩
  · simp only [vr]
    refine ⟨rfl, by simp, fun _ => ⟨⟨w.heap.size, 0, 0, 0⟩, by simp, by simp⟩⟩
  · refine hO.new _ _ rfl (fun b hb => heap_alloc_old _ _ _ hb) (by simp) ?_
    simp only [orel]
    exact ⟨⟨w.heap.size, 0, 0, 0⟩, cs, t, (0, 0), by simp, rfl, heap_alloc_new _ _, thaw_zero _, vrL_all hI (same_new _ _) hv, h1⟩
  · exact Ext.new _ _ rfl (fun b hb => heap_alloc_old _ _ _ hb) (by simp) rfl rfl rfl
def boxA (P : Program) (tm : List V) (σ : Store) (t : TypeId) (x : Operand) : Option (V × Store) :=
  (cellsV (coX P t (ev tm x))).map fun vs => (.ptr σ.length 0 0, σ ++ [.cells vs])
theorem boxA_ok {tm : List V} {t : TypeId} {x : Operand} {o : Oper} {v : V} (ho : o.op = .box t x) (h : boxA P tm σ t x = some (v, σ')) : OpOk P o tm σ v tm σ' := by
  intro w I ρ a hr hO
  simp only [boxA, Option.map_eq_some_iff, Prod.mk.injEq] at h
  obtain ⟨vs, hc, rfl, rfl⟩ := h
  obtain ⟨h1, h2⟩ := cells_rel hc (coX_rel (P := P) (t := t) (vr_ev hr x))
  exact newCells_ok (t := t) hr hO h1 h2 (by simp [execOp, ho, Instr.box, newVar, newRow])
def cellTys (P : Program) : Nat → TypeId → List TypeId
  | 0, _ => []
  | d + 1, t => match P.underlying t with
    | some (.struct fs) => fs.toList.flatMap fun f => cellTys P d f.type
    | some (.array n e) => (List.replicate n (cellTys P d e)).flatten
    | _ => [t]
def zip2 (P : Program) : List TypeId → List Value → Option (List V)
  | [], [] => some []
  | t :: ts, x :: xs => if x.oneCell' then (zip2 P ts xs).map (coX P t (cst x) :: ·) else none
  | _, _ => none
theorem zip2_rel : ∀ {ts : List TypeId} {xs : List Value} {vs : List V}, zip2 P ts xs = some vs → vrL w I ρ σ vs xs ∧ ∀ x ∈ xs, one x
  | [], [], vs, h => by simp only [zip2, Option.some.injEq] at h; subst h; simp [vrL]
  | t :: ts, x :: xs, vs, h => by
    simp only [zip2, Option.ite_none_right_eq_some, Option.map_eq_some_iff] at h
    obtain ⟨h1, vs', h2, rfl⟩ := h
    obtain ⟨h3, h4⟩ := zip2_rel h2
    refine ⟨?_, ?_⟩
    · simp only [vrL]; exact ⟨x, xs, rfl, coX_rel (vr_cst x), h3⟩
    · intro y hy
      rcases List.mem_cons.1 hy with rfl | hy
      · exact h1
      · exact h4 y hy
  | [], _ :: _, _, h => by simp [zip2] at h
  | _ :: _, [], _, h => by simp [zip2] at h
def zeroA (P : Program) (t : TypeId) : Option (List V) :=
  match (P.info? t).bind (·.zero) with
  | some z => zip2 P (cellTys P 20 t) z.cells.toList
  | none => none
theorem zeroA_rel {t : TypeId} {vs : List V} (h : zeroA P t = some vs) : ∃ i z, P.info? t = some i ∧ i.zero = some z ∧ vrL w I ρ σ vs z.cells.toList ∧ ∀ x ∈ z.cells.toList, one x := by
  unfold zeroA at h
  split at h
  · rename_i z hz
    simp only [Option.bind_eq_some_iff] at hz
    obtain ⟨i, h1, h2⟩ := hz
    exact ⟨i, z, h1, h2, zip2_rel h⟩
  · cases h
def allocA (P : Program) (σ : Store) (t : TypeId) : Option (V × Store) := (zeroA P t).map fun vs => (.ptr σ.length 0 0, σ ++ [.cells vs])
theorem allocA_ok {tm : List V} {t : TypeId} {o : Oper} {v : V} (ho : o.op = .alloc t) (h : allocA P σ t = some (v, σ')) : OpOk P o tm σ v tm σ' := by
  intro w I ρ a hr hO
  simp only [allocA, Option.map_eq_some_iff, Prod.mk.injEq] at h
  obtain ⟨vs, hc, rfl, rfl⟩ := h
  obtain ⟨i, z, h1, h2, h3, h4⟩ := zeroA_rel (w := w) (I := I) (ρ := ρ) (σ := σ) hc
  exact newCells_ok (t := t) hr hO h3 h4 (by simp [execOp, ho, Instr.alloc, zeroValue, typeInfo, h1, h2, newVar, newRow])
def fillA (place : Nat → Option (Nat × Nat)) (cells : List V) : List (Nat × List V) → Option (List V)
  | [] => some cells
  | (i, vs) :: rest => match place i with
    | none => none
    | some (off, size) => if vs.length ≠ size || off + vs.length > cells.length then none else fillA place (splice cells off vs) rest
theorem foldl_set (xs : List Value) : ∀ (cs : Array Value) (off : Nat), off + xs.length ≤ cs.size →
    ((xs.toArray.zipIdx.foldl (fun cs (c, j) => cs.setIfInBounds (off + j) c) cs)).toList = splice cs.toList off xs := by
  intro cs off h
  have key : ∀ (xs : List Value) (k : Nat) (cs : Array Value), off + k + xs.length ≤ cs.size →
      ((xs.zipIdx k).foldl (fun (cs : Array Value) (p : Value × Nat) => cs.setIfInBounds (off + p.2) p.1) cs).toList = splice cs.toList (off + k) xs := by
    intro xs
    induction xs with
    | nil => intro k cs _; simp [splice]
    | cons x xs ih =>
      intro k cs hk
      simp only [List.zipIdx_cons, List.foldl_cons]
      simp only [List.length_cons] at hk
      rw [ih (k + 1) (cs.setIfInBounds (off + k) x) (by simp; omega)]
      have e := list_seg_step cs.toList (off + k) x xs (by simp; omega)
      unfold splice
      simpa [Array.toList_setIfInBounds, Nat.add_assoc] using e
  have := key xs 0 cs (by simpa using h)
  rw [Nat.add_zero] at this
  rw [← this]
  simp
def pr2 (w : World) (I : Nat → Prop) (ρ : LM) (σ : Store) : List (Nat × List V) → List (Nat × Value) → Prop
  | [], qs => qs = []
  | p :: ps, qs => ∃ q qs', qs = q :: qs' ∧ p.1 = q.1 ∧ vrL w I ρ σ p.2 q.2.cells.toList ∧ (∀ x ∈ q.2.cells.toList, one x) ∧ pr2 w I ρ σ ps qs'
theorem fill_rel {place : Nat → Option (Nat × Nat)} : ∀ {ps : List (Nat × List V)} {qs : List (Nat × Value)} {cells vs : List V} {cs : Array Value}, fillA place cells ps = some vs →
    pr2 w I ρ σ ps qs → vrL w I ρ σ cells cs.toList → (∀ x ∈ cs.toList, one x) →
    ∃ ds, Instr.fill place cs qs = some ds ∧ vrL w I ρ σ vs ds.toList ∧ ∀ x ∈ ds.toList, one x
  | [], qs, cells, vs, cs, h, hf, hc, h1 => by
    simp only [pr2] at hf
    subst hf
    simp only [fillA, Option.some.injEq] at h
    subst h
    exact ⟨cs, rfl, hc, h1⟩
  | (i, us) :: ps, qs, cells, vs, cs, h, hf, hc, h1 => by
    simp only [pr2] at hf
    obtain ⟨⟨j, x⟩, qs, rfl, he, hu, h2, hf⟩ := hf
    · simp only at he hu h2
      subst he
      simp only [fillA] at h
      cases hp : place i with
      | none => simp [hp] at h
      | some p =>
        obtain ⟨off, size⟩ := p
        simp only [hp] at h
        split at h
        · cases h
        · rename_i hcond
          have hlen := vrL_len hu
          have hlen2 := vrL_len hc
          simp only [Array.length_toList] at hlen hlen2
          simp at hcond
          have hfold := foldl_set x.cells.toList cs off (by simp; omega)
          simp only [Array.toArray_toList] at hfold
          have := fill_rel (cs := x.cells.zipIdx.foldl (fun cs (c, j) => cs.setIfInBounds (off + j) c) cs) h hf
            (by rw [hfold]; unfold splice; simp only [Array.length_toList]; rw [hlen]; exact vrL_append (vrL_append (vrL_take hc off) hu) (vrL_drop hc _))
            (by
              rw [hfold]
              intro z hz
              unfold splice at hz
              simp only [List.mem_append] at hz
              rcases hz with (hz | hz) | hz
              · exact h1 z (List.mem_of_mem_take hz)
              · exact h2 z hz
              · exact h1 z (List.mem_of_mem_drop hz))
          obtain ⟨ds, g1, g2, g3⟩ := this
          refine ⟨ds, ?_, g2, g3⟩
          simp only [Instr.fill, hp]
          rw [if_neg (by simp; omega)]
          exact g1
end
end Go.Br
namespace Go.Br
open Go
section
variable {P : Program} {w w' : World} {I I' : Nat → Prop} {ρ ρ' : LM} {σ σ' : Store}
def partTy (P : Program) (t : TypeId) (i : Nat) : TypeId :=
  match P.underlying t with
  | some (.struct fs) => match fs[i]? with | some f => f.type | none => 0
  | some (.array _ e) | some (.slice e) => e
  | _ => 0
def partsA (P : Program) (tm : List V) (t : TypeId) : List (Nat × Operand) → Option (List (Nat × List V))
  | [] => some []
  | (i, x) :: ps => match cellsV (co P (partTy P t i) (ev tm x)) with
    | some vs => (partsA P tm t ps).map ((i, vs) :: ·)
    | none => none
theorem partsA_rel {tm : List V} {t : TypeId} {e : Operand → Value} (hx : ∀ x, vr w I ρ σ (ev tm x) (e x)) : ∀ {ps : List (Nat × Operand)} {qs : List (Nat × List V)}, partsA P tm t ps = some qs → pr2 w I ρ σ qs (ps.map fun p => (p.1, e p.2))
  | [], qs, h => by simp only [partsA, Option.some.injEq] at h; subst h; simp [pr2]
  | (i, x) :: ps, qs, h => by
    simp only [partsA] at h
    split at h
    · rename_i vs hc
      simp only [Option.map_eq_some_iff] at h
      obtain ⟨qs', h1, rfl⟩ := h
      obtain ⟨h2, h3⟩ := cells_rel hc (co_rel (hx x))
      simp only [List.map_cons, pr2]
      exact ⟨_, _, rfl, rfl, h2, h3, partsA_rel hx h1⟩
    · cases h
def buildA (P : Program) (tm : List V) (t : TypeId) (parts : List (Nat × Operand)) : Option V :=
  match zeroA P t, partsA P tm t parts with
  | some zs, some ps => match P.underlying t with
    | some (.struct fs) => match fs.toList.mapM (fun f => (P.info? f.type).map fun i => (f.offset, i.size)) with
      | some places => (fillA (places.toArray[·]?) zs ps).map mkAgg
      | none => none
    | some (.array _ e) => match P.info? e with
      | some ie => (fillA (fun i => some (i * ie.size, ie.size)) zs ps).map mkAgg
      | none => none
    | _ => none
  | _, _ => none
theorem buildA_ok {tm : List V} {t : TypeId} {parts : Array (Nat × Operand)} {o : Oper} {v : V} (ho : o.op = .build t parts) (h : buildA P tm t parts.toList = some v) : OpOk P o tm σ v tm σ := by
  intro w I ρ a hr hO
  unfold buildA at h
  split at h
  · rename_i zs ps hz hp
    obtain ⟨i, z, h1, h2, h3, h4⟩ := zeroA_rel (w := w) (I := I) (ρ := ρ) (σ := σ) hz
    have hpr := partsA_rel (w := w) (I := I) (ρ := ρ) (σ := σ) (e := a.eval) (fun x => vr_ev hr x) hp
    have hmap : (parts.map fun (i, x) => (i, a.eval x)).toList = parts.toList.map fun p => (p.1, a.eval p.2) := by simp
    have fin : ∀ place vs, fillA place zs ps = some vs → mkAgg vs = v → (∀ ds, Instr.fill place z.cells (parts.toList.map fun p => (p.1, a.eval p.2)) = some ds → P.built t (parts.toList.map fun p => (p.1, a.eval p.2)) = some ds) →
        ∃ nx x w' I' ρ', (execOp a.eval o).run P w = .ok nx w' ∧ (nx = .value x ∨ nx = .skip ∧ x = undef) ∧ vr w' I' ρ' σ v x ∧ vrL w' I' ρ' σ tm a.tmps.toList ∧ ORel w' I' ρ' σ ∧ Ext σ.length w I ρ σ w' I' ρ' σ := by
      intro place vs hf hv hb
      obtain ⟨ds, g1, g2, g3⟩ := fill_rel hf hpr h3 h4
      have hrun := run_build (P := P) w t (parts.map fun (i, x) => (i, a.eval x)) ds (by rw [hmap]; exact hb ds g1)
      refine ⟨_, .agg ds, w, I, ρ, by simp only [execOp, ho, Sem.run_bind, hrun, Result.andThen_ok]; rfl, .inl rfl, ?_, hr, hO, Ext.refl _ _ _ _⟩
      rw [← hv]
      have := mkAgg_rel g2 g3
      simpa using this
    split at h
    · rename_i fs hu
      split at h
      · rename_i places hpl
        simp only [Option.map_eq_some_iff] at h
        obtain ⟨vs, hf, hv⟩ := h
        exact fin _ vs hf hv (fun ds hd => by simp only [Program.built, h1, hu, h2, hpl]; exact hd)
      · cases h
    · rename_i e hu
      split at h
      · rename_i ie hie
        simp only [Option.map_eq_some_iff] at h
        obtain ⟨vs, hf, hv⟩ := h
        exact fin _ vs hf hv (fun ds hd => by simp only [Program.built, h1, hu, h2, hie]; exact hd)
      · cases h
    · cases h
  · cases h
def chunk : Nat → Option Nat → List V → Option (List D)
  | 0, _, [] => some []
  | 0, _, _ :: _ => none
  | n + 1, none, vs => match vs with
    | .d x :: vs => (chunk n none vs).map (x :: ·)
    | .ex sz xs :: vs => (chunk n none vs).map (.list sz xs :: ·)
    | _ => none
  | n + 1, some sz, vs => if sz ≤ vs.length then match datasX (vs.take sz) with
      | some ds => (chunk n (some sz) (vs.drop sz)).map (.agg ds :: ·)
      | none => none
    else none
def szOf : Option Nat → Nat
  | none => 1
  | some n => n
theorem chunk_rel {b : Nat} : ∀ {n : Nat} {ag : Option Nat} {vs : List V} {ds : List D} {xs : List Value} {o : Nat}, chunk n ag vs = some ds → vrL w I ρ σ vs xs → (∀ x ∈ xs, one x) → (∀ j, j < xs.length → w.cell? ⟨b, o + j, none⟩ = xs[j]?) →
    DrE w I (szOf ag) b o ds ∧ ds.length = n ∧ xs.length = n * szOf ag
  | 0, ag, vs, ds, xs, o, h, hr, _, _ => by
    cases vs with
    | nil => simp only [chunk, Option.some.injEq] at h; subst h; simp only [vrL] at hr; subst hr; simp [DrE]
    | cons v vs => simp [chunk] at h
  | n + 1, none, vs, ds, xs, o, h, hr, h1, hc => by
    simp only [chunk] at h
    split at h
    · rename_i x vs'
      simp only [Option.map_eq_some_iff] at h
      obtain ⟨ds', h2, rfl⟩ := h
      simp only [vrL, vr] at hr
      obtain ⟨y, xs', rfl, h3, h4⟩ := hr
      obtain ⟨g1, g2, g3⟩ := chunk_rel (b := b) (o := o + 1) h2 h4 (fun z hz => h1 z (by simp [hz])) (fun j hj => by
        have := hc (j + 1) (by simp; omega)
        rw [show o + 1 + j = o + (j + 1) by omega, this]; simp)
      have hone := h1 y (by simp)
      have hy : y.cells = #[y] := by cases y <;> simp_all [Value.cells, one, Value.oneCell']
      refine ⟨?_, by simp [g2], by simp only [List.length_cons, g3, szOf]; omega⟩
      simp only [DrE, szOf]
      refine ⟨⟨y, h3, by simp [hy], fun j hj => ?_⟩, g1⟩
      have : j = 0 := by omega
      subst this
      have := hc 0 (by simp)
      simpa [hy] using this
    · rename_i sz0 xs0 vs'
      simp only [Option.map_eq_some_iff] at h
      obtain ⟨ds', h2, rfl⟩ := h
      simp only [vrL, vr] at hr
      obtain ⟨y, xs', rfl, ⟨_, _, h3⟩, h4⟩ := hr
      obtain ⟨g1, g2, g3⟩ := chunk_rel (b := b) (o := o + 1) h2 h4 (fun z hz => h1 z (by simp [hz])) (fun j hj => by
        have := hc (j + 1) (by simp; omega)
        rw [show o + 1 + j = o + (j + 1) by omega, this]; simp)
      have hone := h1 y (by simp)
      have hy : y.cells = #[y] := by cases y <;> simp_all [Value.cells, one, Value.oneCell']
      refine ⟨?_, by simp [g2], by simp only [List.length_cons, g3, szOf]; omega⟩
      simp only [DrE, szOf]
      refine ⟨⟨y, h3, by simp [hy], fun j hj => ?_⟩, g1⟩
      have : j = 0 := by omega
      subst this
      have := hc 0 (by simp)
      simpa [hy] using this
    · cases h
  | n + 1, some sz, vs, ds, xs, o, h, hr, h1, hc => by
    simp only [chunk, Option.ite_none_right_eq_some] at h
    obtain ⟨hle, h⟩ := h
    split at h
    · rename_i es hes
      simp only [Option.map_eq_some_iff] at h
      obtain ⟨ds', h2, rfl⟩ := h
      have hlen := vrL_len hr
      obtain ⟨g1, g2, g3⟩ := chunk_rel (b := b) (o := o + sz) h2 (vrL_drop hr sz) (fun z hz => h1 z (List.mem_of_mem_drop hz)) (fun j hj => by
        simp at hj
        have := hc (sz + j) (by omega)
        rw [show o + sz + j = o + (sz + j) by omega, this]
        simp)
      simp only [List.length_drop, szOf] at g3
      refine ⟨?_, by simp [g2], by simp only [szOf, Nat.add_mul, Nat.one_mul]; omega⟩
      simp only [DrE, szOf]
      refine ⟨⟨.agg (xs.take sz).toArray, ?_, by simp [Value.cells]; omega, fun j hj => ?_⟩, g1⟩
      · simp only [Dr]
        exact ⟨_, rfl, vrL_DrLX hes (vrL_take hr sz) fun z hz => h1 z (List.mem_of_mem_take hz)⟩
      · rw [hc j (by omega)]
        simp [Value.cells, hj]
    · cases h
theorem range_mod (z : List Value) (hz : 0 < z.length) : ∀ n, (List.range (n * z.length)).map (fun i => z.getD (i % z.length) default) = (List.replicate n z).flatten
  | 0 => by simp
  | n + 1 => by
    rw [Nat.add_mul, Nat.one_mul, List.range_add, List.map_append, range_mod z hz n, List.replicate_succ', List.flatten_append]
    congr 1
    simp only [List.map_map, List.flatten_cons, List.flatten_nil, List.append_nil]
    apply List.ext_getElem
    · simp
    · intro i h1 h2
      simp at h1
      simp [Nat.mod_eq_of_lt h1, h1]
def buildSliceA (P : Program) (tm : List V) (σ : Store) (t : TypeId) (len : Nat) (parts : List (Nat × Operand)) : Option (V × Store) :=
  match P.underlying t with
  | some (.slice e) => match zeroA P e, partsA P tm t parts, aggOf P e with
    | some zs, some ps, some ag => if zs.length = szOf ag ∧ 0 < len ∧ 0 < szOf ag ∧ len * szOf ag ≤ 16777216 ∧ (P.info? e).map (·.size) = some (szOf ag) then
        match fillA (fun i => some (i * szOf ag, szOf ag)) (List.replicate len zs).flatten ps with
        | some vs => (chunk len ag vs).map fun ds => (.row σ.length, σ ++ [.row (szOf ag) ds false])
        | none => none
      else none
    | _, _, _ => none
  | _ => none
theorem vrL_flat {zs : List V} {xs : List Value} (h : vrL w I ρ σ zs xs) : ∀ n, vrL w I ρ σ (List.replicate n zs).flatten (List.replicate n xs).flatten
  | 0 => by simp [vrL]
  | n + 1 => by simp only [List.replicate_succ, List.flatten_cons]; exact vrL_append h (vrL_flat h n)
theorem newRow_ok {o : Oper} {tm : List V} {t : TypeId} {ds : List D} {cs : Array Value} {a : Act} {sz cap : Nat} (hr : vrL w I ρ σ tm a.tmps.toList) (hO : ORel w I ρ σ) (hcs : cs.size = cap * sz) (hle : ds.length ≤ cap) (hcap : cap ≤ maxLen) (hone : ∀ x ∈ cs.toList, one x)
    (hd : DrE (w'.alloc (.cells cs t)) I sz w'.heap.size 0 ds) (hheap : w'.heap = w.heap) (hos : w'.os = w.os) (htape : w'.tape = w.tape) (hout : w'.output = w.output)
    (hrun : (execOp a.eval o).run P w = .ok (.value (.slice (some ⟨w.heap.size, 0, none⟩) ds.length cap)) (w'.alloc (.cells cs t))) :
    ∃ nx x w' I' ρ', (execOp a.eval o).run P w = .ok nx w' ∧ (nx = .value x ∨ nx = .skip ∧ x = undef) ∧ vr w' I' ρ' (σ ++ [.row sz ds false]) (.row σ.length) x ∧ vrL w' I' ρ' (σ ++ [.row sz ds false]) tm a.tmps.toList ∧ ORel w' I' ρ' (σ ++ [.row sz ds false]) ∧
      Ext σ.length w I ρ σ w' I' ρ' (σ ++ [.row sz ds false]) := by
  have hold : ∀ b, b < w.heap.size → (w'.alloc (.cells cs t)).heap[b]? = w.heap[b]? := fun b hb => by rw [heap_alloc_old _ _ _ (by rw [hheap]; exact hb), hheap]
  have hnew : (w'.alloc (.cells cs t)).heap[w.heap.size]? = some (.cells cs t) := by have := heap_alloc_new w' (.cells cs t); rwa [hheap] at this
  have hsz : (w'.alloc (.cells cs t)).heap.size = w.heap.size + 1 := by simp [hheap]
  have hI : ∀ b, I b → I b ∧ (w'.alloc (.cells cs t)).heap[b]? = w.heap[b]? := fun b hb => ⟨hb, hold b (hO.imm b hb).1⟩
  rw [hheap] at hd
  refine ⟨_, _, _, I, (fun x => if x = σ.length then some ⟨w.heap.size, 0, sz, cap⟩ else ρ x), hrun, .inl rfl, ?_, vrL_all hI (same_new _ _) hr, ?_, ?_⟩
  · simp only [vr]
    refine ⟨rfl, by simp, fun sz' xs' mv' hx => ?_⟩
    simp at hx
    obtain ⟨rfl, rfl, rfl⟩ := hx
    exact .inr ⟨⟨w.heap.size, 0, sz, cap⟩, by simp, by simpa using hle, by simp⟩
  · refine hO.new _ _ rfl hold hsz ?_
    simp only [orel]
    exact .inr ⟨⟨w.heap.size, 0, sz, cap⟩, cs, t, (0, 0), by simp, rfl, hnew, ⟨thaw_zero _, hone⟩, by simp [hcs], hle, hcap, hd⟩
  · exact Ext.new _ _ rfl hold hsz hos htape hout
theorem buildSliceA_ok {tm : List V} {t : TypeId} {len : Nat} {parts : Array (Nat × Operand)} {o : Oper} {v : V} (ho : o.op = .buildSlice t len parts) (h : buildSliceA P tm σ t len parts.toList = some (v, σ')) : OpOk P o tm σ v tm σ' := by
  intro w I ρ a hr hO
  unfold buildSliceA at h
  split at h
  · rename_i e hu
    split at h
    · rename_i zs ps ag hz hp hag
      simp only [Option.ite_none_right_eq_some] at h
      obtain ⟨⟨hzl, hl0, hs0, hbig, hisz⟩, h⟩ := h
      split at h
      · rename_i vs hf
        simp only [Option.map_eq_some_iff, Prod.mk.injEq] at h
        obtain ⟨ds, hch, rfl, rfl⟩ := h
        obtain ⟨ie, z, h1, h2, h3, h4⟩ := zeroA_rel (w := w) (I := I) (ρ := ρ) (σ := σ) hz
        have hpr := partsA_rel (w := w) (I := I) (ρ := ρ) (σ := σ) (e := a.eval) (fun x => vr_ev hr x) hp
        have hzlen := vrL_len h3
        simp only [Array.length_toList] at hzlen
        have hie : ie.size = szOf ag := by simpa [h1] using hisz
        have hinit : ((Array.range (len * ie.size)).map (z.cells[· % z.cells.size]!)).toList = (List.replicate len z.cells.toList).flatten := by
          rw [← range_mod z.cells.toList (by simp; omega) len]
          simp only [Array.toList_map, Array.toList_range, Array.length_toList]
          rw [hie, hzlen, hzl]
          apply List.map_congr_left
          intro i _
          simp [getElem!_def, List.getD]
          cases z.cells[i % szOf ag]? <;> rfl
        obtain ⟨cs, g1, g2, g3⟩ := fill_rel (cs := (Array.range (len * ie.size)).map (z.cells[· % z.cells.size]!)) hf hpr (by rw [hinit]; exact vrL_flat h3 len) (by
          rw [hinit]
          intro x hx
          simp only [List.mem_flatten, List.mem_replicate] at hx
          obtain ⟨l, ⟨_, rfl⟩, hx⟩ := hx
          exact h4 x hx)
        have hmap : (parts.map fun (i, x) => (i, a.eval x)).toList = parts.toList.map fun p => (p.1, a.eval p.2) := by simp
        have hrun := run_buildSlice (P := P) w t e len (parts.map fun (i, x) => (i, a.eval x)) cs ie z hu h1 h2 (by rw [hie]; simp only [gt_iff_lt, Nat.not_lt]; exact hbig) (by rw [hie]; exact Nat.ne_of_gt (Nat.mul_pos hl0 hs0)) (by rw [hmap, hie]; rw [hie] at g1; exact g1)
        have hI : ∀ b, I b → I b ∧ (w.alloc (.cells cs e)).heap[b]? = w.heap[b]? := fun b hb => ⟨hb, heap_alloc_old _ _ _ (hO.imm b hb).1⟩
        obtain ⟨k1, k2, k3⟩ := chunk_rel (w := w.alloc (.cells cs e)) (b := w.heap.size) (o := 0) hch (vrL_up hI vs _ (σ' := σ) (ρ' := ρ) (fun l hl => ⟨vrL_locs vs _ g2 l hl, fun o' h1 h2 => ⟨rfl, o', h1, h2, rfl⟩⟩) g2) g3 (fun j hj => by simp)
        refine newRow_ok (w' := w) (cap := len) (sz := szOf ag) (t := e) (cs := cs) hr hO (by simpa using k3) (by omega) (by have : len ≤ len * szOf ag := Nat.le_mul_of_pos_right _ hs0; simp only [maxLen]; omega) g3 k1 rfl rfl rfl rfl ?_
        simp only [execOp, ho, Sem.run_bind, hrun, Result.andThen_ok, k2]
        rfl
      · cases h
    · cases h
  · cases h
end
def mop (P : Program) (tm : List V) (σ : Store) (o : Oper) : Option (V × Store) :=
  match o.op with
  | .store t x y => (storeA P tm σ t x y).map fun σ' => (.undef, σ')
  | .box t x => boxA P tm σ t x
  | .alloc t => allocA P σ t
  | .build t parts => (buildA P tm t parts.toList).map fun v => (v, σ)
  | .buildSlice t len parts => buildSliceA P tm σ t len parts.toList
  | op => (qop P tm σ op).map fun v => (v, σ)
theorem mop_ok {P : Program} {tm : List V} {σ σ' : Store} {o : Oper} {v : V} (h : mop P tm σ o = some (v, σ')) : OpOk P o tm σ v tm σ' ∧ Op.isDefer o.op = false := by
  unfold mop at h
  split at h
  · rename_i ho
    simp only [Option.map_eq_some_iff, Prod.mk.injEq] at h
    obtain ⟨s, h1, rfl, rfl⟩ := h
    exact ⟨storeA_ok ho h1, by simp [ho, Op.isDefer]⟩
  · rename_i ho; exact ⟨boxA_ok ho h, by simp [ho, Op.isDefer]⟩
  · rename_i ho; exact ⟨allocA_ok ho h, by simp [ho, Op.isDefer]⟩
  · rename_i ho
    simp only [Option.map_eq_some_iff, Prod.mk.injEq] at h
    obtain ⟨s, h1, rfl, rfl⟩ := h
    exact ⟨buildA_ok ho h1, by simp [ho, Op.isDefer]⟩
  · rename_i ho; exact ⟨buildSliceA_ok ho h, by simp [ho, Op.isDefer]⟩
  · rename_i op _ _ _ _ _
    simp only [Option.map_eq_some_iff, Prod.mk.injEq] at h
    obtain ⟨s, h1, rfl, rfl⟩ := h
    exact ⟨qop_opOk h1, qop_isDefer h1⟩
def mstep (P : Program) (todo : List Item) (tm : List V) (σ : Store) : Option (List Item × List V × Store) :=
  match todo with
  | .code .skip :: k => some (k, tm, σ)
  | .code (.label _) :: k => some (k, tm, σ)
  | .inBlock _ :: k => some (k, tm, σ)
  | .inScope _ :: k => some (k, tm, σ)
  | .code (.seq a b) :: k => some (.code a :: .code b :: k, tm, σ)
  | .code (.block id c) :: k => some (.code c :: .inBlock id :: k, tm, σ)
  | .code (.scope c) :: k => some (.code c :: .inScope c :: k, tm, σ)
  | .code (.loop c) :: k => some (.code c :: .inLoop c :: k, tm, σ)
  | .inLoop c :: k => some (.code c :: .inLoop c :: k, tm, σ)
  | .code (.exit id) :: k => (exitTo id k).map fun k' => (k', tm, σ)
  | .code (.goto l) :: k => (gotoIn l k).map fun k' => (k', tm, σ)
  | .code (.cond c x y) :: k => match ev tm c with
    | .d (.bool true) => some (.code x :: k, tm, σ)
    | .d (.bool false) => some (.code y :: k, tm, σ)
    | _ => none
  | .code (.region _ ops false) :: k => some (.inRegion ops (List.range ops.size) :: k, tm, σ)
  | .inRegion _ [] :: k => some (k, tm, σ)
  | .inRegion ops (i :: r) :: k => match ops[i]? with
    | none => none
    | some o => match wantA ops o tm with
      | some true => (mop P tm σ o).map fun p => (.inRegion ops r :: k, put tm o.dst p.1, p.2)
      | some false => some (.inRegion ops r :: k, put tm o.dst (.tuple []), σ)
      | none => none
  | _ => none
theorem mstep_ok {P : Program} {f : FuncId} {ro : Option Nat} {n : Nat} {todo todo' : List Item} {tm tm' : List V} {σ σ' : Store} {df : List Nat} {Q : AE → Store → Prop} (h : mstep P todo tm σ = some (todo', tm', σ'))
    (hn : AW P f ro n todo' tm' σ' df Q) : AW P f ro n todo tm σ df Q := by
  unfold mstep at h
  split at h
  · cases h; exact .skip hn
  · cases h; exact .label hn
  · cases h; exact .inBlock hn
  · cases h; exact .inScope hn
  · cases h; exact .seq hn
  · cases h; exact .block hn
  · cases h; exact .scope hn
  · cases h; exact .loop hn
  · cases h; exact .inLoop hn
  · simp only [Option.map_eq_some_iff, Prod.mk.injEq] at h
    obtain ⟨k', h1, rfl, rfl, rfl⟩ := h
    exact .exit h1 hn
  · simp only [Option.map_eq_some_iff, Prod.mk.injEq] at h
    obtain ⟨k', h1, rfl, rfl, rfl⟩ := h
    exact .goto h1 hn
  · split at h
    · rename_i hc; cases h; exact .cond hc (fun _ => hn) (fun e => by cases e)
    · rename_i hc; cases h; exact .cond hc (fun e => by cases e) (fun _ => hn)
    · cases h
  · cases h; exact .region hn
  · cases h; exact .regionEnd hn
  · split at h
    · cases h
    · rename_i o hi
      split at h
      · rename_i hw
        simp only [Option.map_eq_some_iff, Prod.mk.injEq] at h
        obtain ⟨p, h1, rfl, rfl, rfl⟩ := h
        obtain ⟨g1, g2⟩ := mop_ok h1
        exact .op hi hw g2 g1 hn
      · rename_i hw
        cases h
        exact .opSkip hi hw hn
      · cases h
  · cases h
def msteps (P : Program) : Nat → List Item → List V → Store → Option (List Item × List V × Store)
  | 0, todo, tm, σ => some (todo, tm, σ)
  | n + 1, todo, tm, σ => match mstep P todo tm σ with
    | some (todo', tm', σ') => msteps P n todo' tm' σ'
    | none => none
theorem AW.steps {P : Program} {f : FuncId} {ro : Option Nat} {n : Nat} (m : Nat) : ∀ {todo todo' : List Item} {tm tm' : List V} {σ σ' : Store} {df : List Nat} {Q : AE → Store → Prop}, msteps P m todo tm σ = some (todo', tm', σ') →
    AW P f ro n todo' tm' σ' df Q → AW P f ro n todo tm σ df Q := by
  induction m with
  | zero => intro todo todo' tm tm' σ σ' df Q h hn; cases h; exact hn
  | succ m ih =>
    intro todo todo' tm tm' σ σ' df Q h hn
    simp only [msteps] at h
    split at h
    · rename_i t1 t2 t3 h1
      exact mstep_ok h1 (ih h hn)
    · cases h
end Go.Br
namespace Go.Br
open Go
mutual
def V.ren (m : Nat → Nat) : V → V
  | .ptr l i s => .ptr (m l) i s
  | .row l => .row (m l)
  | .sl l a b c => .sl (m l) a b c
  | .yield l => .yield (m l)
  | .map l => .map (m l)
  | .fn f a b => .fn f (V.renL m a) (V.renL m b)
  | .tuple vs => .tuple (V.renL m vs)
  | .agg vs => .agg (V.renL m vs)
  | .d x => .d x
  | .undef => .undef
  | .nils => .nils
  | .ex sz xs => .ex sz xs
  | .ep sz x s => .ep sz x s
def V.renL (m : Nat → Nat) : List V → List V
  | [] => []
  | v :: vs => V.ren m v :: V.renL m vs
end
def O.ren (m : Nat → Nat) : O → O
  | .cells cs => .cells (V.renL m cs)
  | .loop a b c tm x e f => .loop a b c (V.renL m tm) x e f
  | .dead => .dead
  | .row sz xs mv => .row sz xs mv
  | .map es => .map es
  | .defd => .defd
theorem O.ren_dead {m : Nat → Nat} {o : O} : o.ren m = .dead ↔ o = .dead := by cases o <;> simp [O.ren]
theorem O.ren_still {m : Nat → Nat} {o : O} : (o.ren m).still = o.still := by cases o <;> rfl
theorem O.ren_ld {m : Nat → Nat} {o : O} : (o.ren m).ld = o.ld := by cases o <;> rfl
theorem O.alike_trans {a b c : O} (h : a.alike b) (h' : b.alike c) : a.alike c := Eq.trans h h'
theorem O.alike_symm {a b : O} (h : a.alike b) : b.alike a := Eq.symm h
theorem O.alike_ren {m : Nat → Nat} (o : O) : o.alike (o.ren m) := by cases o <;> rfl
theorem O.ren_alike {m : Nat → Nat} (o : O) : (o.ren m).alike o := by cases o <;> rfl
def Emb (m : Nat → Nat) (ρc : LM) (σc : Store) (ρ : LM) (σ : Store) : Prop :=
  ∀ i oc, σc[i]? = some oc → ρ (m i) = ρc i ∧ ∃ o, σ[m i]? = some o ∧ (o = .dead ↔ oc = .dead) ∧ o.alike oc
section ren
variable {w : World} {I : Nat → Prop} {m : Nat → Nat} {ρc ρ : LM} {σc σ : Store}
theorem Emb.lt (h : Emb m ρc σc ρ σ) {i : Nat} (hi : i < σc.length) : m i < σ.length := by
  obtain ⟨_, o, ho, _⟩ := h i _ (List.getElem?_eq_getElem hi)
  exact (List.getElem?_eq_some_iff.1 ho).1
theorem Emb.live (h : Emb m ρc σc ρ σ) {i : Nat} (hi : i < σc.length) : live σ (m i) ↔ live σc i := by
  obtain ⟨h1, o, ho, hd, _⟩ := h i _ (List.getElem?_eq_getElem hi)
  constructor
  · rintro ⟨o', h2, h3⟩
    rw [ho] at h2; cases h2
    exact ⟨_, List.getElem?_eq_getElem hi, fun e => h3 (hd.2 e)⟩
  · rintro ⟨o', h2, h3⟩
    rw [List.getElem?_eq_getElem hi] at h2; cases h2
    exact ⟨o, ho, fun e => h3 (hd.1 e)⟩
theorem Emb.rho (h : Emb m ρc σc ρ σ) {i : Nat} (hi : i < σc.length) : ρ (m i) = ρc i := (h i _ (List.getElem?_eq_getElem hi)).1
theorem rowV_ren {i off n : Nat} (h : ρ (m i) = ρc i) {x : Value} : rowV ρ (m i) off n x ↔ rowV ρc i off n x := by unfold rowV; rw [h]
mutual
theorem vr_ren (h : Emb m ρc σc ρ σ) : ∀ (v : V) (x : Value), (∀ l ∈ v.locs, l < σc.length) → (vr w I ρ σ (v.ren m) x ↔ vr w I ρc σc v x)
  | .d _, _, _ => by simp [V.ren, vr]
  | .undef, _, _ => by simp [V.ren, vr]
  | .nils, _, _ => by simp [V.ren, vr]
  | .ex _ _, _, _ => by simp [V.ren, vr]
  | .ep _ _ _, _, _ => by simp [V.ren, vr]
  | .ptr l i s, x, hl => by
    have hl := hl l (by simp [V.locs])
    simp only [V.ren, vr, h.live hl, h.rho hl, h.lt hl, hl, true_and]
  | .yield l, x, hl => by
    have hl := hl l (by simp [V.locs])
    simp only [V.ren, vr, h.live hl, h.rho hl, h.lt hl, hl, true_and]
  | .map l, x, hl => by
    have hl := hl l (by simp [V.locs])
    simp only [V.ren, vr, h.live hl, h.rho hl, h.lt hl, hl, true_and]
  | .row l, x, hl => by
    have hl := hl l (by simp [V.locs])
    obtain ⟨h1, o, ho, _, h2⟩ := h l _ (List.getElem?_eq_getElem hl)
    simp only [V.ren, vr, h.lt hl, hl, true_and, and_congr_right_iff]
    intro _
    constructor
    · intro hx sz xs mv e
      obtain ⟨sz', xs', mv', e', hlen⟩ := alike_row (sz := sz) (xs := xs) (mv := mv) (by rw [List.getElem?_eq_getElem hl] at e; rw [← Option.some.inj e]; exact h2)
      rw [← hlen]
      exact (rowV_ren h1).1 (hx sz' xs' mv' (by rw [ho, e']))
    · intro hx sz xs mv e
      obtain ⟨sz', xs', mv', e', hlen⟩ := alike_row (sz := sz) (xs := xs) (mv := mv) (by rw [ho] at e; rw [← Option.some.inj e]; exact O.alike_symm h2)
      rw [← hlen]
      exact (rowV_ren h1).2 (hx sz' xs' mv' (by rw [List.getElem?_eq_getElem hl, e']))
  | .sl l a b c, x, hl => by
    have hl := hl l (by simp [V.locs])
    obtain ⟨h1, o, ho, _, h2⟩ := h l _ (List.getElem?_eq_getElem hl)
    simp only [V.ren, vr, h.lt hl, hl, true_and, and_congr_right_iff]
    intro _
    constructor
    · intro hx sz xs mv e
      obtain ⟨sz', xs', mv', e', hlen⟩ := alike_row (sz := sz) (xs := xs) (mv := mv) (by rw [List.getElem?_eq_getElem hl] at e; rw [← Option.some.inj e]; exact h2)
      rw [← hlen]
      have := hx sz' xs' mv' (by rw [ho, e'])
      exact ⟨this.1, (rowV_ren h1).1 this.2.1, this.2.2⟩
    · intro hx sz xs mv e
      obtain ⟨sz', xs', mv', e', hlen⟩ := alike_row (sz := sz) (xs := xs) (mv := mv) (by rw [ho] at e; rw [← Option.some.inj e]; exact O.alike_symm h2)
      rw [← hlen]
      have := hx sz' xs' mv' (by rw [List.getElem?_eq_getElem hl, e'])
      exact ⟨this.1, (rowV_ren h1).2 this.2.1, this.2.2⟩
  | .fn f a b, x, hl => by
    simp only [V.locs, List.mem_append] at hl
    simp only [V.ren, vr]
    constructor
    · rintro ⟨fs, cs, e, g1, g2⟩
      exact ⟨fs, cs, e, (vrL_ren h a fs fun l hm => hl l (.inl hm)).1 g1, (vrL_ren h b cs fun l hm => hl l (.inr hm)).1 g2⟩
    · rintro ⟨fs, cs, e, g1, g2⟩
      exact ⟨fs, cs, e, (vrL_ren h a fs fun l hm => hl l (.inl hm)).2 g1, (vrL_ren h b cs fun l hm => hl l (.inr hm)).2 g2⟩
  | .tuple vs, x, hl => by
    simp only [V.locs] at hl
    simp only [V.ren, vr]
    constructor
    · rintro ⟨xs, e, g1⟩
      exact ⟨xs, e, (vrL_ren h vs xs hl).1 g1⟩
    · rintro ⟨xs, e, g1⟩
      exact ⟨xs, e, (vrL_ren h vs xs hl).2 g1⟩
  | .agg vs, x, hl => by
    simp only [V.locs] at hl
    simp only [V.ren, vr]
    constructor
    · rintro ⟨xs, e, g1, g2⟩
      exact ⟨xs, e, (vrL_ren h vs xs hl).1 g1, g2⟩
    · rintro ⟨xs, e, g1, g2⟩
      exact ⟨xs, e, (vrL_ren h vs xs hl).2 g1, g2⟩
theorem vrL_ren (h : Emb m ρc σc ρ σ) : ∀ (vs : List V) (xs : List Value), (∀ l ∈ V.locsL vs, l < σc.length) → (vrL w I ρ σ (V.renL m vs) xs ↔ vrL w I ρc σc vs xs)
  | [], _, _ => by simp [V.renL, vrL]
  | v :: vs, xs, hl => by
    simp only [V.locsL, List.mem_append] at hl
    simp only [V.renL, vrL]
    constructor
    · rintro ⟨x, xs', e, g1, g2⟩
      exact ⟨x, xs', e, (vr_ren h v x fun l hm => hl l (.inl hm)).1 g1, (vrL_ren h vs xs' fun l hm => hl l (.inr hm)).1 g2⟩
    · rintro ⟨x, xs', e, g1, g2⟩
      exact ⟨x, xs', e, (vr_ren h v x fun l hm => hl l (.inl hm)).2 g1, (vrL_ren h vs xs' fun l hm => hl l (.inr hm)).2 g2⟩
end
def O.bel (n : Nat) (o : O) : Prop := ∀ l ∈ o.locs, l < n
theorem orel_ren (h : Emb m ρc σc ρ σ) {i : Nat} {oc : O} (hi : ρ (m i) = ρc i) (hb : oc.bel σc.length) : orel w I ρ σ (m i) (oc.ren m) ↔ orel w I ρc σc i oc := by
  cases oc with
  | dead => simp [O.ren, orel]
  | cells cs => simp only [O.ren, orel, hi, vrL_ren h cs _ hb]
  | row sz xs mv => simp only [O.ren, orel, hi]
  | map es => simp only [O.ren, orel, hi]
  | defd => simp only [O.ren, orel, hi]
  | loop a b c tm x e f =>
    have htm : ∀ l ∈ V.locsL tm, l < σc.length := fun l hl => hb l (by simpa [O.locs] using hl)
    simp only [O.ren, orel, hi, vrL_ren h tm _ htm]
theorem orel_bel {l : Nat} {o : O} (h : orel w I ρ σ l o) : o.bel σ.length := by
  intro x hx
  cases o with
  | cells cs => simp only [orel] at h; obtain ⟨L, C, T, fz, _, _, _, _, h5, _⟩ := h; exact vrL_locs cs _ h5 x hx
  | loop a b c tm y e f =>
    simp only [orel] at h
    obtain ⟨L, tmps, db, _, _, h3⟩ := h
    exact vrL_locs tm _ h3 x hx
  | _ => simp [O.locs] at hx
end ren
def CallsA (P : Program) (g : FuncId) (args : List V) (σ : Store) (Q : AE → Store → Prop) : Prop :=
  ∀ w I ρ (xs : List Value), vrL w I ρ σ args xs → ORel w I ρ σ → Calls P g xs.toArray w (Fin σ.length w I ρ σ Q)
theorem CallsA.mono {P : Program} {g : FuncId} {args : List V} {σ : Store} {Q Q' : AE → Store → Prop} (h : CallsA P g args σ Q) (hq : ∀ r σ', Q r σ' → Q' r σ') : CallsA P g args σ Q' :=
  fun w I ρ xs h1 h2 => (h w I ρ xs h1 h2).mono fun _ _ ⟨I', ρ', σ', r, k1, k2⟩ => ⟨I', ρ', σ', r, hq _ _ k1, k2⟩
theorem CallsA.of {P : Program} {g : FuncId} {fn : Func} {c : Code} {args : List V} {σ : Store} {Q : AE → Store → Prop} (hf : P.funcs[g]? = some fn) (hb : fn.body = some c)
    (h : AW P g none σ.length [.code c] (args ++ List.replicate (fn.ntmps - args.length) .undef) σ [] Q) : CallsA P g args σ Q := by
  intro w I ρ xs h1 h2
  have hl := vrL_len h1
  refine calls_of_runs hf hb (h w I ρ _ none ⟨?_, h2, rfl⟩ rfl (Nat.le_refl _))
  have := vrL_append h1 (vrL_undef (w := w) (I := I) (ρ := ρ) (σ := σ) (fn.ntmps - args.length) Go.undef)
  simpa [hl] using this
def mp (m : List Nat) (N : Nat) (i : Nat) : Nat := match m[i]? with | some l => l | none => N + (i - m.length)
def movedB (m : List Nat) (σc' : Store) (l : Nat) : Bool :=
  match m.idxOf? l with
  | some i => match σc'[i]? with | some (.row _ _ true) => true | _ => false
  | none => false
def flagged (o o' : O) : O := match o, o' with
  | .row _ _ true, .row sz xs _ => .row sz xs true
  | _, o' => o'
def merge (σ : Store) (m : List Nat) (σc' : Store) : Store :=
  (σ.mapIdx fun l o => match m.idxOf? l with
    | some i => flagged o ((σc'.getD i .dead).ren (mp m σ.length))
    | none => o.kill (movedB m σc')) ++ (σc'.drop m.length).map (·.ren (mp m σ.length))
def nodupB : List Nat → Bool
  | [] => true
  | x :: xs => !(xs.any (Nat.beq x)) && nodupB xs
theorem nodupB_ok : ∀ {m : List Nat}, nodupB m = true → m.Nodup
  | [], _ => List.nodup_nil
  | x :: xs, h => by
    simp only [nodupB, Bool.and_eq_true, Bool.not_eq_true', List.any_eq_false] at h
    refine List.nodup_cons.2 ⟨fun hm => ?_, nodupB_ok h.2⟩
    have := h.1 x hm
    simp at this
def within (σ : Store) (m : List Nat) (σc : Store) : Prop :=
  m.length = σc.length ∧ nodupB m = true ∧ m.map (fun l => σ[l]?) = (m.zip σc).map fun p => some (flagged (σ.getD p.1 .dead) (p.2.ren (mp m σ.length)))
theorem within_get {σ σc : Store} {m : List Nat} (h : within σ m σc) {i l : Nat} (hi : m[i]? = some l) : ∃ oc, σc[i]? = some oc ∧ σ[l]? = some (flagged (σ.getD l .dead) (oc.ren (mp m σ.length))) := by
  have hlt : i < σc.length := by rw [← h.1]; exact (List.getElem?_eq_some_iff.1 hi).1
  refine ⟨_, List.getElem?_eq_getElem hlt, ?_⟩
  have := congrArg (fun z => z[i]?) h.2.2
  have hz : (m.zip σc)[i]? = some (l, σc[i]) := by
    rw [List.getElem?_zip_eq_some]
    exact ⟨hi, List.getElem?_eq_getElem hlt⟩
  simp only [List.getElem?_map, hi, hz, Option.map_some, Option.some.injEq] at this
  exact this
theorem flagged_dead {o o' : O} : flagged o o' = .dead ↔ o' = .dead := by
  unfold flagged; split <;> simp
theorem flagged_alike (o o' : O) : (flagged o o').alike o' := by
  unfold flagged
  split <;> rfl
theorem flagged_still {o o' : O} (h : (flagged o o').still = true) : o'.still = true := by
  unfold flagged at h
  split at h
  · simp [O.still] at h
  · exact h
theorem flagged_ld (o o' : O) : (flagged o o').ld = o'.ld := by
  unfold flagged; split <;> rfl
theorem flagged_orel {w : World} {I : Nat → Prop} {ρ : LM} {σ : Store} {l : Nat} {o o' : O} : orel w I ρ σ l (flagged o o') ↔ orel w I ρ σ l o' := by
  unfold flagged; split <;> simp [orel]
theorem kill_dead {p : Nat → Bool} {o : O} : o.kill p = .dead ↔ o = .dead := by cases o <;> simp [O.kill]
theorem kill_alike (p : Nat → Bool) (o : O) : o.alike (o.kill p) := by cases o <;> rfl
theorem kill_still (p : Nat → Bool) (o : O) : (o.kill p).still = o.still := by cases o <;> rfl
theorem kill_ld (p : Nat → Bool) (o : O) : (o.kill p).ld = o.ld := by cases o <;> rfl
theorem orel_kill {w : World} {I : Nat → Prop} {ρ : LM} {σ : Store} {l : Nat} {o : O} (p : Nat → Bool) (h : orel w I ρ σ l o) : orel w I ρ σ l (o.kill p) := by
  cases o with
  | cells cs => simp only [O.kill, orel] at h ⊢; obtain ⟨L, C, T, fz, h1, h2, h3, h4, h5, h6⟩ := h; exact ⟨L, C, T, fz, h1, h2, h3, h4, vrL_kill p cs _ h5, h6⟩
  | loop a b c tm x e f => simp only [O.kill, orel] at h ⊢; obtain ⟨L, tmps, db, h1, h2, h3⟩ := h; exact ⟨L, tmps, db, h1, h2, vrL_kill p tm _ h3⟩
  | _ => exact h
theorem mem_idx {m : List Nat} (hn : m.Nodup) {i l : Nat} (h : m[i]? = some l) : m.idxOf? l = some i := by
  rw [List.idxOf?_eq_some_iff]
  obtain ⟨hi, he⟩ := List.getElem?_eq_some_iff.1 h
  refine ⟨hi, he, fun j hj => ?_⟩
  intro e
  have hjl : j < m.length := by omega
  have := (List.getElem_inj (h₀ := hjl) (h₁ := hi) hn).1 (by rw [he]; simpa using e)
  omega
theorem idx_mem {m : List Nat} {i l : Nat} (h : m.idxOf? l = some i) : m[i]? = some l := by
  rw [List.idxOf?_eq_some_iff] at h
  obtain ⟨hi, he, _⟩ := h
  rw [List.getElem?_eq_getElem hi, he]
end Go.Br
namespace Go.Br
open Go
section up
variable {w w' : World} {I I' : Nat → Prop} {ρ ρ' : LM} {σ σ' : Store}
theorem orel_up (hI : ∀ b, I b → I' b ∧ w'.heap[b]? = w.heap[b]?) {l : Nat} {o : O} (hs : ∀ x ∈ o.locs, Same ρ σ ρ' σ' x) (hρ : ρ' l = ρ l) (hh : ∀ L, ρ l = some L → w'.heap[L.b]? = w.heap[L.b]?) (h : orel w I ρ σ l o) :
    orel w' I' ρ' σ' l o := by
  cases o with
  | dead => simp [orel]
  | cells cs =>
    simp only [orel] at h ⊢
    obtain ⟨L, C, T, fz, h1, h2, h3, h4, h5, h6⟩ := h
    exact ⟨L, C, T, fz, hρ.trans h1, h2, (hh L h1).trans h3, h4, vrL_up hI _ _ hs h5, h6⟩
  | row sz xs mv =>
    simp only [orel] at h ⊢
    rcases h with ⟨h1, h2⟩ | ⟨L, C, T, fz, h1, h2, h3, h4, h5, h6, h7, h8⟩
    · exact .inl ⟨hρ.trans h1, h2⟩
    · exact .inr ⟨L, C, T, fz, hρ.trans h1, h2, (hh L h1).trans h3, h4, h5, h6, h7, DrE_mono hI sz L.b (hh L h1) L.o xs h8⟩
  | map es =>
    simp only [orel] at h ⊢
    obtain ⟨L, E, n, h1, h2, h3, h4, h5, h6⟩ := h
    refine ⟨L, E, n, hρ.trans h1, h2, (hh L h1).trans h3, h4, fun j e hj => ?_, h6⟩
    obtain ⟨g1, x, g2, g3, g4⟩ := h5 j e hj
    exact ⟨g1, x, g2, g3, Dr_mono hI _ _ g4⟩
  | loop st pend fn tm params assign body =>
    simp only [orel] at h ⊢
    obtain ⟨L, tmps, db, h1, h2, h3⟩ := h
    exact ⟨L, tmps, db, hρ.trans h1, (hh L h1).trans h2, vrL_up hI _ _ hs h3⟩
  | defd =>
    simp only [orel] at h ⊢
    obtain ⟨L, h1, h2⟩ := h
    exact ⟨L, hρ.trans h1, (hh L h1).trans h2⟩
end up
theorem O.locs_kill (p : Nat → Bool) (o : O) : ∀ l ∈ (o.kill p).locs, l ∈ o.locs ∧ p l = false := by
  intro l hl
  cases o with
  | cells cs => exact locsL_kill p cs l hl
  | loop a b c tm d e f => exact locsL_kill p tm l hl
  | _ => simp [O.kill, O.locs] at hl
def belB (n : Nat) (σ : Store) : Bool := σ.all fun o => o.locs.all fun l => Nat.blt l n
theorem belB_ok {n : Nat} {σ : Store} (h : belB n σ = true) {i : Nat} {o : O} (hi : σ[i]? = some o) : o.bel n := by
  intro l hl
  have h1 := (List.all_eq_true.1 h) o (List.mem_of_getElem? hi)
  have h2 := (List.all_eq_true.1 h1) l hl
  simpa [Nat.blt_eq] using h2
def rhoC (m : List Nat) (ρ : LM) : LM := fun i => match m[i]? with | some l => ρ l | none => none
def rhoB (m : List Nat) (N : Nat) (ρ ρc' : LM) : LM := fun l => match m.idxOf? l with | some i => ρc' i | none => if l < N then ρ l else ρc' (m.length + (l - N))
section calls
variable {w w' : World} {I I' : Nat → Prop} {ρ ρc' : LM} {σ σc σc' : Store} {m : List Nat}
theorem emb_enter (hw : within σ m σc) : Emb (mp m σ.length) (rhoC m ρ) σc ρ σ := by
  intro i oc hi
  have hlt : i < m.length := by rw [hw.1]; exact (List.getElem?_eq_some_iff.1 hi).1
  have hm : m[i]? = some m[i] := List.getElem?_eq_getElem hlt
  obtain ⟨oc', h1, h2⟩ := within_get hw hm
  rw [hi] at h1; cases h1
  have hmp : mp m σ.length i = m[i] := by simp [mp, hm]
  rw [hmp]
  exact ⟨by simp [rhoC, hm], _, h2, flagged_dead.trans O.ren_dead, O.alike_trans (flagged_alike _ _) (O.ren_alike oc)⟩
theorem orel_enter (hO : ORel w I ρ σ) (hw : within σ m σc) (hb : belB σc.length σc = true) : ORel w I (rhoC m ρ) σc := by
  have hE := emb_enter (ρ := ρ) hw
  have hmi : ∀ i, i < σc.length → m[i]? = some (mp m σ.length i) := fun i hi => by
    have hlt : i < m.length := by rw [hw.1]; exact hi
    simp [mp, List.getElem?_eq_getElem hlt]
  have hfoot : ∀ b, foot (rhoC m ρ) σc b → foot ρ σ b := by
    rintro b ⟨i, oc, L, h1, h2, h3, h4⟩
    have hi := (List.getElem?_eq_some_iff.1 h1).1
    obtain ⟨o, h5, h6⟩ := (hE.live hi).2 ⟨oc, h1, h2⟩
    exact ⟨_, o, L, h5, h6, (hE.rho hi).trans h3, h4⟩
  refine ⟨fun i oc hi => ?_, fun i j L L' hi hj hL hL' e => ?_, fun b h => hO.flt b (hfoot b h), fun b h => ⟨(hO.imm b h).1, fun hf => (hO.imm b h).2 (hfoot b hf)⟩⟩
  · have hlt := (List.getElem?_eq_some_iff.1 hi).1
    obtain ⟨oc', h1, h2⟩ := within_get hw (hmi i hlt)
    rw [hi] at h1; cases h1
    have := hO.objs _ _ h2
    rw [flagged_orel] at this
    exact (orel_ren hE (hE.rho hlt) (belB_ok hb hi)).1 this
  · have h1 := live_lt hi
    have h2 := live_lt hj
    have := hO.inj _ _ L L' ((hE.live h1).2 hi) ((hE.live h2).2 hj) ((hE.rho h1).trans hL) ((hE.rho h2).trans hL') e
    have hi' := hmi i h1
    have hj' := hmi j h2
    rw [← this] at hj'
    have a1 := mem_idx (nodupB_ok hw.2.1) hi'
    have a2 := mem_idx (nodupB_ok hw.2.1) hj'
    rw [a1] at a2
    exact Option.some.inj a2
theorem merge_len : (merge σ m σc').length = σ.length + (σc'.length - m.length) := by simp [merge]
theorem merge_lt {l : Nat} (hl : l < σ.length) : (merge σ m σc')[l]? = some (match m.idxOf? l with
    | some i => flagged σ[l] ((σc'.getD i .dead).ren (mp m σ.length))
    | none => σ[l].kill (movedB m σc')) := by
  unfold merge
  rw [List.getElem?_append_left (by simpa using hl), List.getElem?_mapIdx, List.getElem?_eq_getElem hl]
  rfl
theorem merge_ge {k : Nat} : (merge σ m σc')[σ.length + k]? = (σc'[m.length + k]?).map (·.ren (mp m σ.length)) := by
  unfold merge
  rw [List.getElem?_append_right (by simp)]
  simp
theorem leave (hO : ORel w I ρ σ) (hw : within σ m σc) (hx : Ext σc.length w I (rhoC m ρ) σc w' I' ρc' σc') (hO' : ORel w' I' ρc' σc') :
    Emb (mp m σ.length) ρc' σc' (rhoB m σ.length ρ ρc') (merge σ m σc') ∧ ORel w' I' (rhoB m σ.length ρ ρc') (merge σ m σc') ∧ Ext σ.length w I ρ σ w' I' (rhoB m σ.length ρ ρc') (merge σ m σc') ∧
      (∀ tm xs, vrL w I ρ σ tm xs → vrL w' I' (rhoB m σ.length ρ ρc') (merge σ m σc') (V.killL (movedB m σc') tm) xs) := by
  have hE := emb_enter (ρ := ρ) hw
  have hnd := nodupB_ok hw.2.1
  have hn : m.length ≤ σc'.length := by rw [hw.1]; exact hx.len
  have hmlt : ∀ i l, m[i]? = some l → l < σ.length := fun i l h => by
    obtain ⟨oc, _, h2⟩ := within_get hw h
    exact (List.getElem?_eq_some_iff.1 h2).1
  have hidxN : ∀ k, m.idxOf? (σ.length + k) = none := fun k => by
    cases hq : m.idxOf? (σ.length + k) with
    | none => rfl
    | some i => have := hmlt i _ (idx_mem hq); omega
  have hE' : Emb (mp m σ.length) ρc' σc' (rhoB m σ.length ρ ρc') (merge σ m σc') := by
    intro i oc hi
    by_cases him : i < m.length
    · have hm : m[i]? = some m[i] := List.getElem?_eq_getElem him
      have hid := mem_idx hnd hm
      have hlt := hmlt i _ hm
      have hmp : mp m σ.length i = m[i] := by simp [mp, hm]
      rw [hmp]
      refine ⟨by simp [rhoB, hid], _, merge_lt hlt, ?_⟩
      simp only [hid, List.getD_eq_getElem?_getD, hi, Option.getD_some]
      exact ⟨flagged_dead.trans O.ren_dead, O.alike_trans (flagged_alike _ _) (O.ren_alike oc)⟩
    · have hm : m[i]? = none := by simp; omega
      have hmp : mp m σ.length i = σ.length + (i - m.length) := by simp [mp, hm]
      rw [hmp]
      have hi2 : m.length + (i - m.length) = i := by omega
      exact ⟨by simp only [rhoB, hidxN]; rw [if_neg (by omega)]; congr 1; omega, oc.ren (mp m σ.length), by rw [merge_ge, hi2, hi]; rfl, O.ren_dead, O.ren_alike oc⟩
  have hsplit : ∀ l o', (merge σ m σc')[l]? = some o' → o' ≠ .dead → (∃ i oc', σc'[i]? = some oc' ∧ oc' ≠ .dead ∧ l = mp m σ.length i ∧ rhoB m σ.length ρ ρc' l = ρc' i) ∨
      (l < σ.length ∧ m.idxOf? l = none ∧ ∃ o, σ[l]? = some o ∧ o ≠ .dead ∧ o' = o.kill (movedB m σc') ∧ rhoB m σ.length ρ ρc' l = ρ l) := by
    intro l o' hl hd
    by_cases hlt : l < σ.length
    · rw [merge_lt hlt] at hl
      cases hid : m.idxOf? l with
      | some i =>
        simp only [hid, Option.some.injEq] at hl
        have hm := idx_mem hid
        have him := (List.getElem?_eq_some_iff.1 hm).1
        have hic : i < σc'.length := by omega
        refine .inl ⟨i, _, List.getElem?_eq_getElem hic, ?_, by simp [mp, hm], by simp [rhoB, hid]⟩
        intro e
        apply hd
        rw [← hl, flagged_dead, O.ren_dead]
        simp [hic, e]
      | none =>
        simp only [hid, Option.some.injEq] at hl
        refine .inr ⟨hlt, rfl, _, List.getElem?_eq_getElem hlt, fun e => hd ?_, hl.symm, by simp [rhoB, hid, hlt]⟩
        rw [← hl, e]; rfl
    · have hk : l = σ.length + (l - σ.length) := by omega
      rw [hk, merge_ge] at hl
      simp only [Option.map_eq_some_iff] at hl
      obtain ⟨oc, h1, h2⟩ := hl
      refine .inl ⟨_, oc, h1, fun e => hd ?_, ?_, ?_⟩
      · rw [← h2, e]; rfl
      · have hm : m[m.length + (l - σ.length)]? = none := by simp
        simp only [mp, hm]; omega
      · have := hidxN (l - σ.length)
        rw [← hk] at this
        simp [rhoB, this, hlt]
  have hfootc : ∀ b, foot (rhoC m ρ) σc b → ∃ j o L, m.idxOf? j ≠ none ∧ σ[j]? = some o ∧ o ≠ .dead ∧ ρ j = some L ∧ L.b = b := by
    rintro b ⟨i, oc, L, h1, h2, h3, h4⟩
    have hi := (List.getElem?_eq_some_iff.1 h1).1
    obtain ⟨o, h5, h6⟩ := (hE.live hi).2 ⟨oc, h1, h2⟩
    have him : i < m.length := by rw [hw.1]; exact hi
    have hm : m[i]? = some (mp m σ.length i) := by simp [mp, List.getElem?_eq_getElem him]
    exact ⟨_, o, L, by rw [mem_idx hnd hm]; simp, h5, h6, (hE.rho hi).trans h3, h4⟩
  have hfootc' : ∀ b, foot (rhoC m ρ) σc b → foot ρ σ b := fun b h => by
    obtain ⟨j, o, L, _, h1, h2, h3, h4⟩ := hfootc b h
    exact ⟨j, o, L, h1, h2, h3, h4⟩
  -- a location of the caller's own is not the callee's
  have hnot : ∀ l o L, m.idxOf? l = none → σ[l]? = some o → o ≠ .dead → ρ l = some L → ¬ foot (rhoC m ρ) σc L.b := by
    intro l o L hid h1 h2 h3 hf
    obtain ⟨j, o', L', hj, h4, h5, h6, h7⟩ := hfootc _ hf
    have := hO.inj j l L' L ⟨o', h4, h5⟩ ⟨o, h1, h2⟩ h6 h3 h7
    rw [this] at hj
    exact hj hid
  have hI : ∀ b, I b → I' b ∧ w'.heap[b]? = w.heap[b]? := fun b hb => ⟨hx.immI b hb, hx.old b (hO.imm b hb).1 fun hf => (hO.imm b hb).2 (hfootc' b hf)⟩
  have hS : ∀ x, x < σ.length → movedB m σc' x = false → Same ρ σ (rhoB m σ.length ρ ρc') (merge σ m σc') x := by
    intro x hxl hp
    refine ⟨by rw [merge_len]; omega, fun o' ho' hd => ?_⟩
    rw [merge_lt hxl] at ho'
    cases hid : m.idxOf? x with
    | none =>
      simp only [hid, Option.some.injEq] at ho'
      refine ⟨by simp [rhoB, hid, hxl], _, List.getElem?_eq_getElem hxl, fun e => hd ?_, ?_⟩
      · rw [← ho', e]; rfl
      · rw [← ho']; exact kill_alike _ _
    | some i =>
      simp only [hid, Option.some.injEq] at ho'
      have hm := idx_mem hid
      have him := (List.getElem?_eq_some_iff.1 hm).1
      have hic : i < σc'.length := by omega
      have hig : σc'[i]? = some σc'[i] := List.getElem?_eq_getElem hic
      have hgd : σc'.getD i .dead = σc'[i] := by simp [hic]
      rw [hgd] at ho'
      have hnd' : σc'[i] ≠ .dead := fun e => hd (by rw [← ho', flagged_dead, O.ren_dead]; exact e)
      have hst : σc'[i].still = true := by
        simp only [movedB, hid, hig] at hp
        revert hp hnd'
        cases σc'[i] with
        | row sz xs mv => cases mv <;> simp [O.still]
        | dead => simp
        | _ => simp [O.still]
      obtain ⟨h1, oc, h2, h3, h4⟩ := hx.fixed i _ (by rw [← hw.1]; exact him) hig hst
      obtain ⟨oc2, h5, h6⟩ := within_get hw hm
      rw [h2] at h5; cases h5
      have hoc : oc ≠ .dead := fun e => by rw [e] at h3; simp [O.still] at h3
      refine ⟨by simp only [rhoB, hid]; rw [h1]; simp [rhoC, hm], _, h6, fun e => hoc (O.ren_dead.1 (flagged_dead.1 e)), ?_⟩
      rw [← ho']
      exact O.alike_trans (O.alike_trans (O.alike_trans (flagged_alike _ _) (O.ren_alike oc)) h4) (O.alike_trans (O.alike_ren _) (O.alike_symm (flagged_alike _ _)))
  have hT : ∀ tm xs, vrL w I ρ σ tm xs → vrL w' I' (rhoB m σ.length ρ ρc') (merge σ m σc') (V.killL (movedB m σc') tm) xs := by
    intro tm xs h
    have hk := vrL_kill (movedB m σc') tm xs h
    exact vrL_up hI _ _ (fun l hl => hS l (vrL_locs _ _ hk l hl) (locsL_kill _ _ l hl).2) hk
  have hold : ∀ l o L, m.idxOf? l = none → σ[l]? = some o → o ≠ .dead → ρ l = some L → w'.heap[L.b]? = w.heap[L.b]? := fun l o L h1 h2 h3 h4 =>
    hx.old _ (hO.flt _ ⟨l, o, L, h2, h3, h4, rfl⟩) (hnot l o L h1 h2 h3 h4)
  refine ⟨hE', ⟨fun l o' hl => ?_, fun l l' L L' hl hl' hL hL' e => ?_, fun b hb => ?_, fun b hb => ⟨(hO'.imm b hb).1, fun hf => ?_⟩⟩, ?_, hT⟩
  · by_cases hd : o' = .dead
    · subst hd; simp [orel]
    have hl0 := hl
    rcases hsplit l o' hl hd with ⟨i, oc', h1, h2, h3, h4⟩ | ⟨h1, h2, o, h3, h4, h5, h6⟩
    · have hob := hO'.objs i oc' h1
      have := (orel_ren hE' (by rw [← h3]; exact h4) (orel_bel hob)).2 hob
      rw [← h3] at this
      obtain ⟨o2, h7⟩ : ∃ o2, o' = flagged o2 (oc'.ren (mp m σ.length)) := by
        by_cases hlt : l < σ.length
        · rw [merge_lt hlt] at hl
          cases hid : m.idxOf? l with
          | some i' =>
            have hii : i' = i := by
              have hm := idx_mem hid
              by_cases him : i < m.length
              · have hm2 : m[i]? = some l := by rw [h3]; simp [mp, List.getElem?_eq_getElem him]
                have := mem_idx hnd hm2
                rw [hid] at this
                exact Option.some.inj this
              · exfalso
                have hm2 : m[i]? = none := by simp; omega
                simp only [mp, hm2] at h3
                omega
            subst hii
            simp only [hid, Option.some.injEq, List.getD_eq_getElem?_getD, h1, Option.getD_some] at hl
            exact ⟨_, hl.symm⟩
          | none =>
            exfalso
            by_cases him : i < m.length
            · have hm2 : m[i]? = some l := by rw [h3]; simp [mp, List.getElem?_eq_getElem him]
              have := mem_idx hnd hm2
              rw [hid] at this
              cases this
            · have hm2 : m[i]? = none := by simp; omega
              simp only [mp, hm2] at h3
              omega
        · have hk : l = σ.length + (l - σ.length) := by omega
          rw [hk, merge_ge] at hl
          have him : ¬ i < m.length := fun him => hlt (by rw [h3]; exact hmlt i _ (by simp [mp, List.getElem?_eq_getElem him]))
          have hm2 : m[i]? = none := by simp; omega
          simp only [mp, hm2] at h3
          have hi2 : m.length + (l - σ.length) = i := by omega
          rw [hi2, h1] at hl
          exact ⟨.dead, by simpa [flagged] using hl.symm⟩
      rw [h7, flagged_orel]
      exact this
    · rw [h5]
      have hob := orel_kill (movedB m σc') (hO.objs l o h3)
      refine orel_up hI (fun x hx' => ?_) h6 (fun L hL => hold l o L h2 h3 h4 hL) hob
      obtain ⟨hx1, hx2⟩ := O.locs_kill _ o x hx'
      have hxlt : x < σ.length := orel_bel (hO.objs l o h3) x hx1
      exact hS x hxlt hx2
  · obtain ⟨o, ho, hd⟩ := hl
    obtain ⟨o2, ho2, hd2⟩ := hl'
    rcases hsplit l o ho hd with ⟨i, oc', h1, h2, h3, h4⟩ | ⟨h1, h2, p, h3, h4, h5, h6⟩ <;> rcases hsplit l' o2 ho2 hd2 with ⟨j, oc2, k1, k2, k3, k4⟩ | ⟨k1, k2, q, k3, k4, k5, k6⟩
    · rw [h4] at hL; rw [k4] at hL'
      rw [h3, k3, hO'.inj i j L L' ⟨_, h1, h2⟩ ⟨_, k1, k2⟩ hL hL' e]
    · exfalso
      rw [h4] at hL; rw [k6] at hL'
      rcases hx.footN L.b ⟨i, oc', L, h1, h2, hL, rfl⟩ with hf | hf
      · rw [e] at hf; exact hnot l' q L' k2 k3 k4 hL' hf
      · have := hO.flt L'.b ⟨l', q, L', k3, k4, hL', rfl⟩; omega
    · exfalso
      rw [h6] at hL; rw [k4] at hL'
      rcases hx.footN L'.b ⟨j, oc2, L', k1, k2, hL', rfl⟩ with hf | hf
      · rw [← e] at hf; exact hnot l p L h2 h3 h4 hL hf
      · have := hO.flt L.b ⟨l, p, L, h3, h4, hL, rfl⟩; omega
    · rw [h6] at hL; rw [k6] at hL'
      exact hO.inj l l' L L' ⟨_, h3, h4⟩ ⟨_, k3, k4⟩ hL hL' e
  · obtain ⟨l, o', L, h1, h2, h3, h4⟩ := hb
    rcases hsplit l o' h1 h2 with ⟨i, oc', k1, k2, k3, k4⟩ | ⟨k1, k2, p, k3, k4, k5, k6⟩
    · rw [k4] at h3; exact hO'.flt b ⟨i, oc', L, k1, k2, h3, h4⟩
    · rw [k6] at h3; exact Nat.lt_of_lt_of_le (hO.flt b ⟨l, p, L, k3, k4, h3, h4⟩) hx.size
  · obtain ⟨l, o', L, h1, h2, h3, h4⟩ := hf
    rcases hsplit l o' h1 h2 with ⟨i, oc', k1, k2, k3, k4⟩ | ⟨k1, k2, p, k3, k4, k5, k6⟩
    · rw [k4] at h3; exact (hO'.imm b hb).2 ⟨i, oc', L, k1, k2, h3, h4⟩
    · rw [k6] at h3
      have hfo : foot ρ σ b := ⟨l, p, L, k3, k4, h3, h4⟩
      rcases hx.immN b hb with hq | hq | hq
      · exact (hO.imm b hq).2 hfo
      · rw [← h4] at hq; exact hnot l p L k2 k3 k4 h3 hq
      · have := hO.flt b hfo; omega
  · refine ⟨hx.size, hx.os, hx.tape, hx.output, fun b hb hf => hx.old b hb fun h => hf (hfootc' b h), hx.immI, fun b hb => ?_, fun b hb => ?_, by rw [merge_len]; omega, fun l hl hv => ?_, fun l o' hl ho' hst => ?_, fun l o hl ho hld => ?_⟩
    · rcases hx.immN b hb with hq | hq | hq
      · exact .inl hq
      · exact .inr (.inl (hfootc' b hq))
      · exact .inr (.inr hq)
    · obtain ⟨l, o', L, h1, h2, h3, h4⟩ := hb
      rcases hsplit l o' h1 h2 with ⟨i, oc', k1, k2, k3, k4⟩ | ⟨k1, k2, p, k3, k4, k5, k6⟩
      · rw [k4] at h3
        rcases hx.footN b ⟨i, oc', L, k1, k2, h3, h4⟩ with hq | hq
        · exact .inl (hfootc' b hq)
        · exact .inr hq
      · rw [k6] at h3; exact .inl ⟨l, p, L, k3, k4, h3, h4⟩
    · obtain ⟨o', h1, h2⟩ := hv
      rcases hsplit l o' h1 h2 with ⟨i, oc', k1, k2, k3, k4⟩ | ⟨k1, k2, p, k3, k4, k5, k6⟩
      · by_cases him : i < m.length
        · have hic : i < σc.length := by rw [← hw.1]; exact him
          rw [k3]
          exact (hE.live hic).2 (hx.alive i hic ⟨oc', k1, k2⟩)
        · exfalso
          have hm2 : m[i]? = none := by simp; omega
          simp only [mp, hm2] at k3
          omega
      · exact ⟨p, k3, k4⟩
    · rw [merge_lt hl] at ho'
      cases hid : m.idxOf? l with
      | none =>
        simp only [hid, Option.some.injEq] at ho'
        refine ⟨by simp [rhoB, hid, hl], _, List.getElem?_eq_getElem hl, ?_, ?_⟩
        · rw [← ho', kill_still] at hst; exact hst
        · rw [← ho']; exact kill_alike _ _
      | some i =>
        simp only [hid, Option.some.injEq] at ho'
        have hm := idx_mem hid
        have him := (List.getElem?_eq_some_iff.1 hm).1
        have hic : i < σc'.length := by omega
        have hgd : σc'.getD i .dead = σc'[i] := by simp [hic]
        rw [hgd] at ho'
        have hst' : σc'[i].still = true := by
          have := flagged_still (o := σ[l]) (o' := σc'[i].ren (mp m σ.length)) (by rw [ho']; exact hst)
          rwa [O.ren_still] at this
        obtain ⟨h1, oc, h2, h3, h4⟩ := hx.fixed i _ (by rw [← hw.1]; exact him) (List.getElem?_eq_getElem hic) hst'
        obtain ⟨oc2, h5, h6⟩ := within_get hw hm
        rw [h2] at h5; cases h5
        refine ⟨by simp only [rhoB, hid]; rw [h1]; simp [rhoC, hm], _, h6, ?_, ?_⟩
        · -- the flag was not set
          have hrl : (oc.ren (mp m σ.length)).rl = (σc'[i].ren (mp m σ.length)).rl := O.alike_trans (O.alike_trans (O.ren_alike oc) h4) (O.alike_ren _)
          rw [List.getElem?_eq_getElem hl, Option.some.injEq] at h6
          rw [← h6]
          rw [← ho'] at hst
          have hgd2 : σ.getD l .dead = σ[l] := by simp [hl]
          rw [hgd2] at h6
          by_cases hrow : ∃ sz xs, σ[l] = .row sz xs true
          · exfalso
            obtain ⟨sz, xs, hrow⟩ := hrow
            rw [hrow] at h6 hst
            have h7 : (oc.ren (mp m σ.length)).rl = some xs.length := by
              have := flagged_alike (.row sz xs true) (oc.ren (mp m σ.length))
              unfold O.alike at this
              rw [← this, ← h6]; rfl
            rw [hrl] at h7
            cases hq : σc'[i].ren (mp m σ.length) <;> rw [hq] at h7 hst <;> simp [O.rl, flagged, O.still] at h7 hst
          · have hq : flagged σ[l] (oc.ren (mp m σ.length)) = oc.ren (mp m σ.length) := by
              unfold flagged
              split
              · rename_i sz xs _ _ _ he _
                exact absurd ⟨sz, xs, he⟩ hrow
              · rfl
            rw [h6, hq, O.ren_still]
            exact h3
        · rw [← ho']
          exact O.alike_trans (O.alike_trans (O.alike_trans (flagged_alike _ _) (O.ren_alike oc)) h4) (O.alike_trans (O.alike_ren _) (O.alike_symm (flagged_alike _ _)))
    · cases hid : m.idxOf? l with
      | none =>
        refine ⟨_, merge_lt hl, ?_⟩
        simp only [hid, kill_ld]
        rw [List.getElem?_eq_getElem hl] at ho; cases ho; rfl
      | some i =>
        have hm := idx_mem hid
        obtain ⟨oc, h1, h2⟩ := within_get hw hm
        rw [ho, Option.some.injEq] at h2
        have hld2 : oc.ld = o.ld := by rw [h2, flagged_ld, O.ren_ld]
        have him := (List.getElem?_eq_some_iff.1 hm).1
        obtain ⟨oc', h3, h4⟩ := hx.stay i oc (by rw [← hw.1]; exact him) h1 (by rw [hld2]; exact hld)
        refine ⟨_, merge_lt hl, ?_⟩
        simp only [hid, List.getD_eq_getElem?_getD, h3, Option.getD_some, flagged_ld, O.ren_ld, h4, hld2]
end calls
end Go.Br
namespace Go.Br
open Go
def coArgs (P : Program) : List TypeId → List V → List V
  | t :: ts, v :: vs => coA P t v :: coArgs P ts vs
  | _, vs => vs
section
variable {P : Program} {w w' : World} {I I' : Nat → Prop} {ρ ρ' : LM} {σ σ' : Store}
theorem coArgs_rel : ∀ {ts : List TypeId} {vs : List V} {xs : List Value}, vrL w I ρ σ vs xs → vrL w I ρ σ (coArgs P ts vs) xs
  | [], vs, xs, h => by simpa [coArgs] using h
  | t :: ts, [], xs, h => by simpa [coArgs] using h
  | t :: ts, v :: vs, xs, h => by
    simp only [vrL, coArgs] at h ⊢
    obtain ⟨x, xs', rfl, h1, h2⟩ := h
    exact ⟨x, xs', rfl, coA_rel h1, coArgs_rel h2⟩
structure Fnc (P : Program) (g : FuncId) (fn : Func) (c : Code) : Prop where
  get : P.funcs[g]? = some fn
  body : fn.body = some c
  name : (fn.name == "runtime.NumGoroutine") = false
theorem exec_call {o : Oper} {a : Act} {x : Operand} {args : Array Operand} {ts : Array TypeId} {g : FuncId} {fn : Func} {c : Code} {fs cs : List Value} (ho : o.op = .call { callee := .value x, args, argTypes := ts })
    (hx : a.eval x = .func (.func g) fs.toArray cs.toArray) (hF : Fnc P g fn c) (w : World) :
    (execOp a.eval o).run P w = .ok (.enter g (fs ++ args.toList.map a.eval ++ cs).toArray) w := by
  have hargs : fs.toArray ++ args.map a.eval ++ cs.toArray = (fs ++ args.toList.map a.eval ++ cs).toArray := by
    apply Array.ext'; simp
  have hname := hF.name
  simp only [execOp, ho, resolve, hx, Deferred.ofValue, Sem.run_bind, Sem.run_pure, Result.andThen_ok, invoke, callFunc, run_program, hF.get]
  rw [if_neg (by simp [hname])]
  simp only [hF.body, Option.isNone_some, Bool.false_eq_true, if_false, Sem.run_pure, hargs]
end
section rules
variable {P : Program} {f : FuncId} {ro : Option Nat} {n : Nat} {k : List Item} {tm tm' : List V} {σ σ' : Store} {df : List Nat} {Q : AE → Store → Prop}
theorem AW.call {ops : Array Oper} {i : Nat} {rest : List Nat} {o : Oper} {x : Operand} {args : Array Operand} {ts : Array TypeId} {g : FuncId} {fn : Func} {c : Code} {first cap : List V} (m : List Nat) (cargs : List V) (σc : Store) {Qc : AE → Store → Prop}
    (hF : Fnc P g fn c) (hc : CallsA P g cargs σc Qc) (hi : ops[i]? = some o) (hw : wantA ops o tm = some true) (ho : o.op = .call { callee := .value x, args, argTypes := ts }) (hx : ev tm x = .fn (.func g) first cap)
    (hargs : coArgs P fn.params.toList (first ++ args.toList.map (ev tm) ++ cap) = V.renL (mp m σ.length) cargs) (hbel : (belB σc.length σc && (V.locsL cargs).all fun l => Nat.blt l σc.length) = true) (hwi : within σ m σc)
    (hk : ∀ r σc', Qc r σc' → ∃ v, r = .ret v ∧ AW P f ro n (.inRegion ops rest :: k) (put (V.killL (movedB m σc') tm) o.dst (v.ren (mp m σ.length))) (merge σ m σc') df Q) :
    AW P f ro n (.inRegion ops (i :: rest) :: k) tm σ df Q := by
  intro w I ρ a rb hr hb hn
  simp only [Bool.and_eq_true] at hbel
  have hE := emb_enter (ρ := ρ) hwi
  have hOc := orel_enter hr.ors hwi hbel.1
  have hxv := vr_ev hr.tms x
  rw [hx] at hxv
  simp only [vr] at hxv
  obtain ⟨fs, cs, hxe, hfs, hcs⟩ := hxv
  have hev : vrL w I ρ σ (first ++ args.toList.map (ev tm) ++ cap) (fs ++ args.toList.map a.eval ++ cs) := vrL_append (vrL_append hfs (ev_rel (fun y => vr_ev hr.tms y) _)) hcs
  have hev2 := coArgs_rel (P := P) (ts := fn.params.toList) hev
  rw [hargs] at hev2
  have hca : ∀ l ∈ V.locsL cargs, l < σc.length := fun l hl => by
    have := (List.all_eq_true.1 hbel.2) l hl
    simpa [Nat.blt_eq] using this
  have hcr := (vrL_ren hE cargs _ hca).1 hev2
  have hcalls := hc w I (rhoC m ρ) _ hcr hOc
  refine RunsTo.call hi (wantA_ok hw hr.tms) (by simp [ho, Op.isDefer]) (exec_call ho hxe hF w) (S := fun v w'' => ∃ I' ρc' σc' va, Qc (.ret va) σc' ∧ vr w'' I' ρc' σc' va v ∧ ORel w'' I' ρc' σc' ∧ Ext σc.length w I (rhoC m ρ) σc w'' I' ρc' σc') (hcalls.mono ?_) ?_
  · rintro e w'' ⟨I', ρc', σc', r, h1, h2, h3, h4⟩
    obtain ⟨v, rfl, _⟩ := hk r σc' h1
    obtain ⟨y, rfl, h5⟩ := h2
    exact ⟨y, rfl, I', ρc', σc', v, h1, h5, h3, h4⟩
  · rintro y w'' ⟨I', ρc', σc', va, h1, h2, h3, h4⟩
    obtain ⟨v, hv, hnext⟩ := hk _ σc' h1
    cases hv
    obtain ⟨g1, g2, g3, g4⟩ := leave hr.ors hwi h4 h3
    have hval := (vr_ren g1 va y (vr_locs va y h2)).2 h2
    have hst := g3.stays
    have := hnext w'' I' _ (a.put o.dst y) rb ⟨vrL_put (g4 tm _ hr.tms) o.dst hval, g2, by rw [put_defers]; exact dfr_stay hst hr.dfs⟩ (rbOf_stay hst hb) (Nat.le_trans hn g3.len)
    exact this.mono fun e w3 hfin => hfin.trans (g3.less hn)
def resF (tmps : Array Value) : ResultVar → Sem Value
  | .tmp t => pure (tmps.getD t Go.undef)
  | .cell a t => do loadVar t (← asAddr (tmps.getD a Go.undef))
def resV (P : Program) (tm : List V) (σ : Store) : ResultVar → Option V
  | .tmp t => some (tm.getD t .undef)
  | .cell p t => if nilOf σ (tm.getD p .undef) = some false then loadV P σ t (tm.getD p .undef) else none
def resL (P : Program) (tm : List V) (σ : Store) : List ResultVar → Option (List V)
  | [] => some []
  | r :: rs => match resV P tm σ r with
    | some v => (resL P tm σ rs).map (v :: ·)
    | none => none
def resA (P : Program) (fn : Func) (tm : List V) (σ : Store) : Option V :=
  match resL P tm σ fn.results.toList with
  | some [v] => some v
  | some vs => some (.tuple vs)
  | none => none
theorem loadVar_ok {w : World} {I : Nat → Prop} {ρ : LM} {t : TypeId} {vx v : V} {a : Addr} (h : loadV P σ t vx = some v) (hx : vr w I ρ σ vx (.pointer (some a))) (hO : ORel w I ρ σ) : ∃ z, (loadVar t a).run P w = .ok z w ∧ vr w I ρ σ v z := by
  obtain ⟨z, h1, h2⟩ := loadV_ok (P := P) (o := { (default : Oper) with op := .load t (.tmp 0) }) (e := fun _ => .pointer (some a)) rfl h hx hO
  refine ⟨z, ?_, h2⟩
  simp only [execOp, Instr.loadAt, Instr.sureAddr, Sem.run_bind, Sem.run_pure, Result.andThen_ok] at h1
  cases hq : (loadVar t a).run P w with
  | ok y w2 => rw [hq] at h1; simp at h1; obtain ⟨rfl, rfl⟩ := h1; rfl
  | halt h w2 => rw [hq] at h1; simp at h1
theorem resV_ok {w : World} {I : Nat → Prop} {ρ : LM} {tmps : Array Value} (hr : vrL w I ρ σ tm tmps.toList) (hO : ORel w I ρ σ) {r : ResultVar} {v : V} (h : resV P tm σ r = some v) :
    ∃ z, (resF tmps r).run P w = .ok z w ∧ vr w I ρ σ v z := by
  cases r with
  | tmp t =>
    simp only [resV, Option.some.injEq] at h
    subst h
    have := vrL_get hr t Go.undef
    exact ⟨_, rfl, by simpa using this⟩
  | cell p t =>
    simp only [resV, Option.ite_none_right_eq_some] at h
    obtain ⟨hn, h⟩ := h
    have hp : vr w I ρ σ (tm.getD p .undef) (tmps.getD p Go.undef) := by simpa using vrL_get hr p Go.undef
    rcases nilOf_rel hn hp with ⟨hc, _⟩ | ⟨_, a, ha⟩
    · cases hc
    · rw [ha] at hp
      obtain ⟨z, h1, h2⟩ := loadVar_ok h hp hO
      exact ⟨z, by simp only [resF, ha, asAddr, Sem.run_bind, Sem.run_pure, Result.andThen_ok, h1], h2⟩
theorem resL_ok {w : World} {I : Nat → Prop} {ρ : LM} {tmps : Array Value} (hr : vrL w I ρ σ tm tmps.toList) (hO : ORel w I ρ σ) : ∀ {rs : List ResultVar} {vs : List V}, resL P tm σ rs = some vs →
    ∃ zs, (rs.mapM (resF tmps)).run P w = .ok zs w ∧ vrL w I ρ σ vs zs
  | [], vs, h => by simp only [resL, Option.some.injEq] at h; subst h; exact ⟨[], by simp, by simp [vrL]⟩
  | r :: rs, vs, h => by
    simp only [resL] at h
    split at h
    · rename_i v hv
      simp only [Option.map_eq_some_iff] at h
      obtain ⟨vs', h1, rfl⟩ := h
      obtain ⟨z, h2, h3⟩ := resV_ok hr hO hv
      obtain ⟨zs, h4, h5⟩ := resL_ok hr hO h1
      refine ⟨z :: zs, ?_, ?_⟩
      · rw [List.mapM_cons, Sem.run_bind, h2]
        simp only [Result.andThen_ok, Sem.run_bind, h4, Sem.run_pure]
      · simp only [vrL]; exact ⟨z, zs, rfl, h3, h5⟩
    · cases h
theorem resA_ok {w : World} {I : Nat → Prop} {ρ : LM} {tmps : Array Value} {fn : Func} {v : V} (hr : vrL w I ρ σ tm tmps.toList) (hO : ORel w I ρ σ) (h : resA P fn tm σ = some v) :
    ∃ z, (results fn tmps).run P w = .ok z w ∧ vr w I ρ σ v z := by
  unfold resA at h
  have key : ∀ vs, resL P tm σ fn.results.toList = some vs → ∃ zs : List Value, (results fn tmps).run P w = .ok (if h : zs.toArray.size = 1 then zs.toArray[0] else .tuple zs.toArray) w ∧ vrL w I ρ σ vs zs := by
    intro vs hvs
    obtain ⟨zs, h1, h2⟩ := resL_ok hr hO hvs
    refine ⟨zs, ?_, h2⟩
    unfold results
    rw [Sem.run_bind, Array.mapM_eq_mapM_toList, Sem.run_map]
    have hF0 : ∀ F : ResultVar → Sem Value, (∀ r, F r = resF tmps r) → (List.mapM F fn.results.toList).run P w = .ok zs w := fun F hF => by rw [funext hF]; exact h1
    rw [hF0 _ (fun r => by cases r <;> rfl)]
    simp
  split at h
  · rename_i v' hv
    cases h
    obtain ⟨zs, h1, h2⟩ := key _ hv
    simp only [vrL] at h2
    obtain ⟨z, zs', rfl, h3, rfl⟩ := h2
    exact ⟨z, by simpa using h1, h3⟩
  · rename_i vs hne hv
    cases h
    obtain ⟨zs, h1, h2⟩ := key _ hv
    have hlen := vrL_len h2
    have : zs.toArray.size ≠ 1 := by
      simp only [List.size_toArray, hlen]
      intro e
      match vs, e with
      | [u], _ => exact hne u rfl
    rw [dif_neg this] at h1
    exact ⟨_, h1, by simp only [vr]; exact ⟨zs, rfl, h2⟩⟩
  · cases h
theorem dfr_set {ρ : LM} {l : Nat} {o : O} : ∀ {df : List Nat} {ds : List Deferred}, l ∉ df → dfr ρ σ df ds → dfr ρ (σ.set l o) df ds
  | [], ds, _, h => by simpa [dfr] using h
  | x :: xs, ds, hnm, h => by
    simp only [dfr] at h ⊢
    obtain ⟨K, ds2, k1, k2, k3, k4⟩ := h
    simp only [List.mem_cons, not_or] at hnm
    exact ⟨K, ds2, k1, by rw [getElem?_set_ne (Ne.symm hnm.1)]; exact k2, k3, dfr_set hnm.2 k4⟩
theorem returning {fn : Func} (hf : P.funcs[f]? = some fn) : ∀ (df : List Nat) (σ : Store) (w : World) (I : Nat → Prop) (ρ : LM) (a : Act) (todo : List Item) (v : V),
    Rel w I ρ σ tm df a → n ≤ σ.length → df.Nodup → (∀ l ∈ df, n ≤ l) → resA P fn tm (df.foldl (fun s l => s.set l .dead) σ) = some v → Q (.ret v) (df.foldl (fun s l => s.set l .dead) σ) →
    ∀ cs, ∃ e w1 w' fr, Fin n w I ρ σ Q e w' ∧ Steps P (lone { frm f none a todo with mode := .returning } cs w) (lone fr cs w1) ∧ Lv P none f fr w1 e w'
  | [], σ, w, I, ρ, a, todo, v, hr, hn, _, _, hres, hq, cs => by
    obtain ⟨z, h1, h2⟩ := resA_ok hr.tms hr.ors hres
    refine ⟨.returned z, w, w, _, ⟨I, ρ, σ, .ret v, hq, ⟨z, rfl, h2⟩, hr.ors, (Ext.refl w I ρ σ).less hn⟩, Steps.refl _ _, rfl, rfl, ⟨rfl, hr.dfs, rfl, fn, hf, h1⟩, by simp⟩
  | l :: df, σ, w, I, ρ, a, todo, v, hr, hn, hnd, hge, hres, hq, cs => by
    have hd := hr.dfs
    simp only [dfr] at hd
    obtain ⟨L, ds', hL, hs, hds, hrest⟩ := hd
    have hlt : l < σ.length := (List.getElem?_eq_some_iff.1 hs).1
    have hob := hr.ors.objs l _ hs
    simp only [orel] at hob
    obtain ⟨L', hL', hh⟩ := hob
    rw [hL] at hL'; cases hL'
    obtain ⟨w2, hw2⟩ : ∃ w2 : World, w2 = { w with heap := w.heap.setIfInBounds L.b (.deferred none) } := ⟨_, rfl⟩
    have hother : ∀ b, b ≠ L.b → w2.heap[b]? = w.heap[b]? := fun b hb => by subst hw2; simp [Ne.symm hb]
    have hsize : w2.heap.size = w.heap.size := by subst hw2; simp
    have hstep : step P (lone { frm f none a todo with mode := .returning } cs w) = .next (lone { frm f none ⟨a.tmps, ds'⟩ todo with mode := .returning } cs w2) := by
      refine step_lone_go ?_
      have hrun : (Instr.takeDeferred L.b).run P w = .ok [] w2 := by
        subst hw2
        simp only [Instr.takeDeferred, getObj, setObj, Sem.run_bind, Sem.run, hh, Result.andThen_ok]
        rfl
      simp [stepG, unwind, frm, hds, hrun]
    have hlive : live σ l := ⟨_, hs, by simp⟩
    have hO2 : ORel w2 I ρ (σ.set l .dead) := hr.ors.upd hs (by simp) hL (by simp [O.alike, O.rl]) hother hsize (by simp [orel])
    have hdead : ∀ x, live (σ.set l .dead) x → x ≠ l := by
      rintro x ⟨o, h1, h2⟩ rfl
      rw [List.getElem?_set_self hlt] at h1
      cases h1
      exact h2 rfl
    have hO3 : ORel w2 I ρ (σ.set l .dead) := hO2
    have hX : Ext n w I ρ σ w2 I ρ (σ.set l .dead) := by
      refine ⟨by omega, by subst hw2; rfl, by subst hw2; rfl, by subst hw2; rfl, fun b _ hb => hother b fun e => hb ⟨l, _, L, hs, by simp, hL, e.symm⟩, fun _ h => h, fun _ h => .inl h, fun b h => .inl (foot_set hlive h), by simpa using hn, fun x _ h => live_set hlive h, fun x o' hx h1 h2 => ⟨rfl, ?_⟩, fun x o hx h1 _ => ?_⟩
      · have hne : x ≠ l := fun e => by have := hge l (by simp); omega
        rw [getElem?_set_ne hne] at h1
        exact ⟨o', h1, h2, rfl⟩
      · have hne : x ≠ l := fun e => by have := hge l (by simp); omega
        exact ⟨o, by rw [getElem?_set_ne hne]; exact h1, rfl⟩
    have htms : vrL w2 I ρ (σ.set l .dead) tm a.tmps.toList :=
      vrL_all (fun b hb => ⟨hb, hother b fun e => (hr.ors.imm b hb).2 ⟨l, _, L, hs, by simp, hL, e.symm⟩⟩) (same_set hs (by simp) (by simp [O.alike, O.rl])) hr.tms
    have hdf2 : dfr ρ (σ.set l .dead) df ds' :=
       dfr_set (List.nodup_cons.1 hnd).1 hrest
    obtain ⟨e, w1, w', fr, h1, h2, h3⟩ := returning hf df (σ.set l .dead) w2 I ρ ⟨a.tmps, ds'⟩ todo v ⟨htms, hO3, hdf2⟩ (by simpa using hn) (List.nodup_cons.1 hnd).2 (fun x hx => hge x (by simp [hx])) hres hq cs
    exact ⟨e, w1, w', fr, h1.trans hX, .head hstep h2, h3⟩
theorem AW.ret {fn : Func} {c : Code} {v : V} (hF : Fnc P f fn c) (hd : nodupB df = true ∧ (df.all fun l => Nat.ble n l) = true) (hres : resA P fn tm (df.foldl (fun s l => s.set l .dead) σ) = some v) (hq : Q (.ret v) (df.foldl (fun s l => s.set l .dead) σ)) :
    AW P f none n (.code .ret :: k) tm σ df Q := by
  intro w I ρ a rb hr hb hn cs
  cases hb
  obtain ⟨e, w1, w', fr, h1, h2, h3⟩ := returning hF.get df σ w I ρ a (.code .ret :: k) v hr hn (nodupB_ok hd.1) (fun l hl => by have := (List.all_eq_true.1 hd.2) l hl; simpa using this) hres hq cs
  exact ⟨e, w1, w', fr, h1, .head st_ret h2, h3⟩
theorem AW.fin {fn : Func} {c : Code} {v : V} (hF : Fnc P f fn c) (hd : nodupB df = true ∧ (df.all fun l => Nat.ble n l) = true) (hres : resA P fn tm (df.foldl (fun s l => s.set l .dead) σ) = some v) (hq : Q (.ret v) (df.foldl (fun s l => s.set l .dead) σ)) :
    AW P f none n [] tm σ df Q := by
  intro w I ρ a rb hr hb hn cs
  cases hb
  obtain ⟨e, w1, w', fr, h1, h2, h3⟩ := returning hF.get df σ w I ρ a [] v hr hn (nodupB_ok hd.1) (fun l hl => by have := (List.all_eq_true.1 hd.2) l hl; simpa using this) hres hq cs
  exact ⟨e, w1, w', fr, h1, .head st_end h2, h3⟩
end rules
end Go.Br
namespace Go.Br
open Go
section
variable (w : World) (I : Nat → Prop)
def DrN (sz : Nat) : List D → List Value → Prop
  | [], vs => vs = []
  | d :: ds, vs => ∃ v rest, Dr w I d v ∧ v.cells.size = sz ∧ vs = v.cells.toList ++ rest ∧ DrN sz ds rest
end
section
variable {w w' : World} {I I' : Nat → Prop} {ρ ρ' : LM} {σ σ' : Store} {P : Program}
theorem DrN_mono (h : ∀ b, I b → I' b ∧ w'.heap[b]? = w.heap[b]?) {sz : Nat} : ∀ {ds : List D} {vs : List Value}, DrN w I sz ds vs → DrN w' I' sz ds vs
  | [], _, hd => by simpa [DrN] using hd
  | d :: ds, vs, hd => by
    simp only [DrN] at hd ⊢
    obtain ⟨v, rest, h1, h2, h3, h4⟩ := hd
    exact ⟨v, rest, Dr_mono h d v h1, h2, h3, DrN_mono h h4⟩
theorem DrN_len {sz : Nat} : ∀ {ds : List D} {vs : List Value}, DrN w I sz ds vs → vs.length = ds.length * sz
  | [], _, hd => by simp only [DrN] at hd; subst hd; simp
  | d :: ds, vs, hd => by
    simp only [DrN] at hd
    obtain ⟨v, rest, h1, h2, rfl, h4⟩ := hd
    have := DrN_len h4
    simp only [List.length_append, Array.length_toList, List.length_cons, h2, this, Nat.add_mul, Nat.one_mul]
    omega
theorem Dr_one {d : D} {v : Value} (h : Dr w I d v) : ∀ x ∈ v.cells.toList, one x := by
  obtain ⟨vs, _, _, h3⟩ := Dr_cells (ρ := fun _ => none) (σ := []) h
  exact h3
theorem DrN_one {sz : Nat} : ∀ {ds : List D} {vs : List Value}, DrN w I sz ds vs → ∀ x ∈ vs, one x
  | [], _, hd, x, hx => by simp only [DrN] at hd; subst hd; simp at hx
  | d :: ds, vs, hd, x, hx => by
    simp only [DrN] at hd
    obtain ⟨v, rest, h1, h2, rfl, h4⟩ := hd
    rcases List.mem_append.1 hx with hx | hx
    · exact Dr_one h1 x hx
    · exact DrN_one h4 x hx
theorem DrN_append {sz : Nat} : ∀ {ds es : List D} {vs us : List Value}, DrN w I sz ds vs → DrN w I sz es us → DrN w I sz (ds ++ es) (vs ++ us)
  | [], es, vs, us, h1, h2 => by simp only [DrN] at h1; subst h1; simpa using h2
  | d :: ds, es, vs, us, h1, h2 => by
    simp only [DrN] at h1
    obtain ⟨v, rest, g1, g2, rfl, g4⟩ := h1
    simp only [List.cons_append, DrN]
    exact ⟨v, rest ++ us, g1, g2, by simp, DrN_append g4 h2⟩
theorem DrN_drop {sz : Nat} : ∀ {ds : List D} {vs : List Value} (n : Nat), DrN w I sz ds vs → DrN w I sz (ds.drop n) (vs.drop (n * sz))
  | [], vs, n, h => by simp only [DrN] at h; subst h; simp [DrN]
  | d :: ds, vs, 0, h => by simpa using h
  | d :: ds, vs, n + 1, h => by
    simp only [DrN] at h
    obtain ⟨v, rest, g1, g2, rfl, g4⟩ := h
    have := DrN_drop n g4
    have e : (v.cells.toList ++ rest).drop sz = rest := by
      rw [← g2]; exact List.drop_left' (by simp)
    have e2 : (v.cells.toList ++ rest).drop ((n + 1) * sz) = rest.drop (n * sz) := by
      have h3 : (n + 1) * sz = sz + n * sz := by rw [Nat.add_mul]; omega
      rw [h3, ← List.drop_drop, e]
    rw [e2]
    simpa using this
theorem DrN_take {sz : Nat} : ∀ {ds : List D} {vs : List Value} (n : Nat), DrN w I sz ds vs → DrN w I sz (ds.take n) (vs.take (n * sz))
  | [], vs, n, h => by simp only [DrN] at h; subst h; simp [DrN]
  | d :: ds, vs, 0, h => by simp [DrN]
  | d :: ds, vs, n + 1, h => by
    simp only [DrN] at h
    obtain ⟨v, rest, g1, g2, rfl, g4⟩ := h
    have := DrN_take n g4
    simp only [List.take_succ_cons, DrN]
    refine ⟨v, rest.take (n * sz), g1, g2, ?_, this⟩
    rw [Nat.add_mul, Nat.one_mul, Nat.add_comm, List.take_append]
    have e : sz + n * sz - v.cells.toList.length = n * sz := by simp [g2]
    rw [e, List.take_of_length_le (by simp [g2])]
theorem DrE_of_N {sz b : Nat} : ∀ {ds : List D} {vs : List Value} {o : Nat}, DrN w I sz ds vs → (∀ j, j < vs.length → w.cell? ⟨b, o + j, none⟩ = vs[j]?) → DrE w I sz b o ds
  | [], _, _, _, _ => by simp [DrE]
  | d :: ds, vs, o, h, hc => by
    simp only [DrN] at h
    obtain ⟨v, rest, g1, g2, rfl, g4⟩ := h
    simp only [DrE]
    refine ⟨⟨v, g1, g2, fun j hj => ?_⟩, DrE_of_N g4 fun j hj => ?_⟩
    · rw [hc j (by simp; omega), List.getElem?_append_left (by simp; omega)]
      simp
    · have := hc (sz + j) (by simp; omega)
      rw [show o + sz + j = o + (sz + j) by omega, this, List.getElem?_append_right (by simp; omega)]
      congr 1
      simp; omega
theorem DrN_of_E {sz b : Nat} : ∀ {ds : List D} {o : Nat}, DrE w I sz b o ds → ∃ vs, DrN w I sz ds vs ∧ ∀ j, j < vs.length → w.cell? ⟨b, o + j, none⟩ = vs[j]?
  | [], _, _ => ⟨[], by simp [DrN], by simp⟩
  | d :: ds, o, h => by
    simp only [DrE] at h
    obtain ⟨⟨v, g1, g2, g3⟩, g4⟩ := h
    obtain ⟨rest, h1, h2⟩ := DrN_of_E g4
    refine ⟨v.cells.toList ++ rest, ?_, fun j hj => ?_⟩
    · simp only [DrN]; exact ⟨v, rest, g1, g2, rfl, h1⟩
    · by_cases hjs : j < sz
      · rw [g3 j hjs, List.getElem?_append_left (by simp; omega)]; simp
      · have := h2 (j - sz) (by simp at hj; omega)
        rw [show o + sz + (j - sz) = o + j by omega] at this
        rw [this, List.getElem?_append_right (by simp; omega)]
        congr 1; simp; omega
theorem DrE_get {sz b : Nat} : ∀ {ds : List D} {o i : Nat} {d : D}, DrE w I sz b o ds → ds[i]? = some d → ∃ v, Dr w I d v ∧ v.cells.size = sz ∧ ∀ j, j < sz → w.cell? ⟨b, o + i * sz + j, none⟩ = v.cells[j]?
  | [], _, _, _, _, h => by simp at h
  | e :: ds, o, 0, d, h, hi => by
    simp only [DrE] at h
    simp only [List.getElem?_cons_zero, Option.some.injEq] at hi
    subst hi
    obtain ⟨⟨v, g1, g2, g3⟩, _⟩ := h
    exact ⟨v, g1, g2, by simpa using g3⟩
  | e :: ds, o, i + 1, d, h, hi => by
    simp only [DrE] at h
    simp only [List.getElem?_cons_succ] at hi
    obtain ⟨v, g1, g2, g3⟩ := DrE_get h.2 hi
    refine ⟨v, g1, g2, fun j hj => ?_⟩
    rw [← g3 j hj]
    congr 2
    rw [Nat.add_mul]; omega
theorem elemSz_und {t : TypeId} {sz : Nat} (h : elemSz P t = some sz) : ∃ e i, P.underlying t = some (.slice e) ∧ P.info? e = some i ∧ i.size = sz := by
  unfold elemSz at h
  split at h
  · simp only [Option.map_eq_some_iff] at h
    obtain ⟨i, h1, h2⟩ := h
    exact ⟨_, i, by assumption, h1, h2⟩
  · cases h
def listOf : V → Option (Nat × List D)
  | .d (.list sz xs) => some (sz, xs)
  | .ex sz xs => some (sz, xs)
  | _ => none
theorem listOf_rel {v : V} {x : Value} {sz : Nat} {xs : List D} (h : listOf v = some (sz, xs)) (hv : vr w I ρ σ v x) : Dr w I (.list sz xs) x := by
  unfold listOf at h
  split at h
  · cases h; simpa [vr] using hv
  · cases h; simp only [vr] at hv; obtain ⟨a, rfl, h⟩ := hv; exact h
  · cases h
theorem ixData_ok {tm : List V} {t : TypeId} {x i : Operand} {o : Oper} {sz : Nat} {xs : List D} {k : IntKind} {n : Int} {d : D} (ho : o.op = .indexAddr t x i) (hx : listOf (ev tm x) = some (sz, xs)) (hi : ev tm i = .d (.int k n))
    (ht : elemSz P t = some sz) (h0 : 0 ≤ n) (hd : xs[n.toNat]? = some d) : OpOk P o tm σ (.ep sz d 0) tm σ := by
  intro w I ρ a hr hO
  have hxr := listOf_rel hx (vr_ev hr x)
  have hir := vr_ev hr i
  rw [hi] at hir
  simp only [vr, Dr] at hir hxr
  obtain ⟨ad, cap, he, h1, h2, h3⟩ := hxr
  obtain ⟨e, inf, hu, hinf, hsz⟩ := elemSz_und ht
  have hlt : n.toNat < xs.length := (List.getElem?_eq_some_iff.1 hd).1
  rcases h3 with h3 | ⟨b, q, rfl, hI, hE⟩
  · simp [h3] at hlt
  obtain ⟨u, g1, g2, g3⟩ := DrE_get hE hd
  refine ⟨_, .pointer (some ⟨b, q + n.toNat * sz, none⟩), w, I, ρ, ?_, .inl rfl, ?_, hr, hO, Ext.refl _ _ _ _⟩
  · have hcond : 0 ≤ n ∧ n < (xs.length : Int) := ⟨h0, by omega⟩
    simp [execOp, ho, he, hir, Instr.indexAt, asIntOf, run_underlying hu, hcond, sizeOf, typeInfo, hinf, hsz, addr_add]
  · simp only [vr]
    exact ⟨b, q + n.toNat * sz, by simp, hI, u, g1, g2, g3⟩
theorem ixRow_ok {tm : List V} {t : TypeId} {x i : Operand} {o : Oper} {l sz : Nat} {xs : List D} {mv : Bool} {k : IntKind} {n : Int} (ho : o.op = .indexAddr t x i) (hx : ev tm x = .row l) (hi : ev tm i = .d (.int k n))
    (hs : σ[l]? = some (.row sz xs mv)) (ht : elemSz P t = some sz) (h0 : 0 ≤ n) (hn : n.toNat < xs.length) : OpOk P o tm σ (.ptr l n.toNat 0) tm σ := by
  intro w I ρ a hr hO
  have hxr := vr_ev hr x
  have hir := vr_ev hr i
  rw [hx] at hxr
  rw [hi] at hir
  simp only [vr, Dr] at hir hxr
  obtain ⟨e, inf, hu, hinf, hsz⟩ := elemSz_und ht
  have hob := hO.objs l _ hs
  simp only [orel] at hob
  rcases hob with ⟨_, rfl⟩ | ⟨L, C, T, fz, hL, hLs, hh, _⟩
  · simp at hn
  rcases hxr.2.2 _ _ _ hs with ⟨h3, _⟩ | ⟨L', hL', hle, he⟩
  · omega
  rw [hL] at hL'; cases hL'
  refine ⟨_, .pointer (some ⟨L.b, L.o + n.toNat * sz, none⟩), w, I, ρ, ?_, .inl rfl, ?_, hr, hO, Ext.refl _ _ _ _⟩
  · have hcond : 0 ≤ n ∧ n < (xs.length : Int) := ⟨h0, by omega⟩
    simp [execOp, ho, he, hir, Instr.indexAt, asIntOf, run_underlying hu, hcond, sizeOf, typeInfo, hinf, hsz, addr_add]
  · simp only [vr]
    exact ⟨rfl, hxr.2.1, fun _ => ⟨L, hL, by simp [hLs]⟩⟩
theorem ixStr_ok {tm : List V} {t : TypeId} {x i : Operand} {o : Oper} {s : ByteArray} {k : IntKind} {n : Int} {b : UInt8} (ho : o.op = .index t x i) (hx : ev tm x = .d (.str s)) (hi : ev tm i = .d (.int k n))
    (ht : isStrT P t = true) (h0 : 0 ≤ n) (hb : s[n.toNat]? = some b) : OpOk P o tm σ (.d (.int .u8 b.toNat)) tm σ := by
  intro w I ρ a hr hO
  have hxr := vr_ev hr x
  have hir := vr_ev hr i
  rw [hx] at hxr
  rw [hi] at hir
  simp only [vr, Dr] at hir hxr
  refine ⟨_, .int .u8 b.toNat, w, I, ρ, ?_, .inl rfl, by simp [vr, Dr], hr, hO, Ext.refl _ _ _ _⟩
  simp [execOp, ho, hxr, hir, Instr.index, asIntOf, run_underlying (isStrT_und ht), h0, hb]
theorem ldRow_ok {tm : List V} {t : TypeId} {x : Operand} {o : Oper} {l i s sz : Nat} {xs : List D} {mv : Bool} {d : D} {v : V} (ho : o.op = .load t x) (hx : ev tm x = .ptr l i s) (hs : σ[l]? = some (.row sz xs mv)) (hd : xs[i]? = some d)
    (hv : loadE P t d s = some v) : OpOk P o tm σ v tm σ := by
  intro w I ρ a hr hO
  have hxr := vr_ev hr x
  rw [hx] at hxr
  simp only [vr] at hxr
  obtain ⟨L, hL, he⟩ := hxr.2.2 ⟨_, hs, by simp⟩
  have hob := hO.objs l _ hs
  simp only [orel] at hob
  rcases hob with ⟨h1, _⟩ | ⟨L', C, T, fz, hL', hLs, hh, hth, hC, hle, hcap, hE⟩
  · rw [hL] at h1; cases h1
  rw [hL] at hL'; cases hL'
  obtain ⟨u, g1, g2, g3⟩ := DrE_get hE hd
  obtain ⟨z, h4, h5⟩ := loadE_ok (ρ := ρ) (σ := σ) (q := L.o + i * sz) (s := s) (b := L.b) hv g1 g2 g3
  rw [hLs] at he
  exact ⟨_, z, w, I, ρ, by simp [execOp, ho, he, Instr.loadAt, Instr.sureAddr, h4], .inl rfl, h5, hr, hO, Ext.refl _ _ _ _⟩
def setD (d : D) (s : Nat) (ys : List D) : Option D :=
  match d with
  | .agg cs => if s + ys.length ≤ cs.length then some (.agg (splice cs s ys)) else none
  | _ => match s, ys with
    | 0, [.agg _] => none
    | 0, [y] => some y
    | _, _ => none
def storeE (P : Program) (tm : List V) (t : TypeId) (y : Operand) (d : D) (s : Nat) : Option D :=
  match cellsV (co P t (ev tm y)) with
  | some vs => match datasX vs with
    | some ds => if (P.info? t).map (·.size) = some ds.length then setD d s ds else none
    | none => none
  | none => none
end
end Go.Br
namespace Go.Br
open Go
section
variable {w w' : World} {I I' : Nat → Prop} {ρ ρ' : LM} {σ σ' : Store} {P : Program}
theorem DrL_len : ∀ {cs : List D} {xs : List Value}, DrL w I cs xs → xs.length = cs.length
  | [], xs, h => by simp only [DrL] at h; subst h; rfl
  | c :: cs, xs, h => by
    simp only [DrL] at h
    obtain ⟨v, vs', rfl, _, _, h3⟩ := h
    simp [DrL_len h3]
theorem DrL_append : ∀ {cs ds : List D} {xs ys : List Value}, DrL w I cs xs → DrL w I ds ys → DrL w I (cs ++ ds) (xs ++ ys)
  | [], ds, xs, ys, h1, h2 => by simp only [DrL] at h1; subst h1; simpa using h2
  | c :: cs, ds, xs, ys, h1, h2 => by
    simp only [DrL] at h1
    obtain ⟨v, vs', rfl, g1, g2, g3⟩ := h1
    simp only [List.cons_append, DrL]
    exact ⟨v, vs' ++ ys, rfl, g1, g2, DrL_append g3 h2⟩
theorem DrL_take : ∀ {cs : List D} {xs : List Value} (n : Nat), DrL w I cs xs → DrL w I (cs.take n) (xs.take n)
  | [], xs, n, h => by simp only [DrL] at h; subst h; simp [DrL]
  | c :: cs, xs, 0, h => by simp [DrL]
  | c :: cs, xs, n + 1, h => by
    simp only [DrL] at h
    obtain ⟨v, vs', rfl, g1, g2, g3⟩ := h
    simp only [List.take_succ_cons, DrL]
    exact ⟨v, _, rfl, g1, g2, DrL_take n g3⟩
theorem DrL_drop : ∀ {cs : List D} {xs : List Value} (n : Nat), DrL w I cs xs → DrL w I (cs.drop n) (xs.drop n)
  | [], xs, n, h => by simp only [DrL] at h; subst h; simp [DrL]
  | c :: cs, xs, 0, h => by simpa using h
  | c :: cs, xs, n + 1, h => by
    simp only [DrL] at h
    obtain ⟨v, vs', rfl, g1, g2, g3⟩ := h
    simpa using DrL_drop n g3
theorem setD_rel {d d' : D} {s : Nat} {ys : List D} {v : Value} {us : List Value} (h : setD d s ys = some d') (hd : Dr w I d v) (hy : DrL w I ys us) : ∃ v', Dr w I d' v' ∧ v'.cells.toList = splice v.cells.toList s us := by
  have hlen := DrL_len hy
  unfold setD at h
  split at h
  · rename_i cs
    simp only [Option.ite_none_right_eq_some, Option.some.injEq] at h
    obtain ⟨hle, rfl⟩ := h
    simp only [Dr] at hd
    obtain ⟨xs, rfl, hl⟩ := hd
    refine ⟨.agg (splice xs s us).toArray, ?_, by simp [Value.cells]⟩
    simp only [Dr]
    refine ⟨_, rfl, ?_⟩
    unfold splice
    rw [hlen]
    exact DrL_append (DrL_append (DrL_take s hl) hy) (DrL_drop _ hl)
  · rename_i hna
    split at h
    · cases h
    · rename_i y hny
      cases h
      simp only [DrL] at hy
      obtain ⟨u, us', rfl, h1, h2, rfl⟩ := hy
      refine ⟨u, h2, ?_⟩
      have hu : u.cells = #[u] := by cases u <;> simp_all [Value.cells, one, Value.oneCell']
      have hv : v.cells = #[v] := by
        cases d with
        | agg cs => exact absurd rfl (hna cs)
        | int k n => simp only [Dr] at hd; subst hd; rfl
        | bool b => simp only [Dr] at hd; subst hd; rfl
        | str b => simp only [Dr] at hd; subst hd; rfl
        | raw x => simp only [Dr] at hd; obtain ⟨rfl, h9⟩ := hd; cases v <;> simp_all [Value.cells, one, Value.oneCell']
        | list sz xs => simp only [Dr] at hd; obtain ⟨a, c, rfl, _⟩ := hd; rfl
      simp [hu, hv, splice]
    · cases h
theorem DrN_set {sz : Nat} : ∀ {xs : List D} {vs : List Value} {i s : Nat} {d d' : D} {ys : List D} {us : List Value}, DrN w I sz xs vs → xs[i]? = some d → setD d s ys = some d' → DrL w I ys us → s + us.length ≤ sz →
    DrN w I sz (xs.set i d') (splice vs (i * sz + s) us)
  | [], _, _, _, _, _, _, _, _, hi, _, _, _ => by simp at hi
  | e :: xs, vs, 0, s, d, d', ys, us, h, hi, hs, hy, hle => by
    simp only [List.getElem?_cons_zero, Option.some.injEq] at hi
    subst hi
    simp only [DrN] at h
    obtain ⟨v, rest, g1, g2, rfl, g4⟩ := h
    obtain ⟨v', k1, k2⟩ := setD_rel hs g1 hy
    simp only [List.set_cons_zero, DrN]
    refine ⟨v', rest, k1, ?_, ?_, g4⟩
    · have := congrArg List.length k2
      simp [splice] at this
      omega
    · rw [k2]
      unfold splice
      have e1 : s ≤ v.cells.toList.length := by simp; omega
      have e2 : s + us.length ≤ v.cells.toList.length := by simp; omega
      rw [Nat.zero_mul, Nat.zero_add, List.take_append_of_le_length e1, List.drop_append_of_le_length e2]
      simp
  | e :: xs, vs, i + 1, s, d, d', ys, us, h, hi, hs, hy, hle => by
    simp only [List.getElem?_cons_succ] at hi
    simp only [DrN] at h
    obtain ⟨v, rest, g1, g2, rfl, g4⟩ := h
    have ih := DrN_set g4 hi hs hy hle
    simp only [List.set_cons_succ, DrN]
    refine ⟨v, _, g1, g2, ?_, ih⟩
    unfold splice
    have e1 : (i + 1) * sz + s = v.cells.toList.length + (i * sz + s) := by simp [g2, Nat.add_mul]; omega
    rw [e1, List.take_length_add_append, Nat.add_assoc, List.drop_length_add_append]
    simp
theorem setD_len {d d' : D} {s : Nat} {ys : List D} {v : Value} (h : setD d s ys = some d') (hd : Dr w I d v) : s + ys.length ≤ v.cells.size := by
  unfold setD at h
  split at h
  · simp only [Option.ite_none_right_eq_some] at h
    simp only [Dr] at hd
    obtain ⟨xs, rfl, hl⟩ := hd
    have := DrL_len hl
    simp only [Value.cells, List.size_toArray]
    omega
  · rename_i hna
    have hv : v.cells = #[v] := by
      cases d with
      | agg cs => exact absurd rfl (hna cs)
      | int k n => simp only [Dr] at hd; subst hd; rfl
      | bool b => simp only [Dr] at hd; subst hd; rfl
      | str b => simp only [Dr] at hd; subst hd; rfl
      | raw x => simp only [Dr] at hd; obtain ⟨rfl, h9⟩ := hd; cases v <;> simp_all [Value.cells, one, Value.oneCell']
      | list sz xs => simp only [Dr] at hd; obtain ⟨a, c, rfl, _⟩ := hd; rfl
    split at h
    · cases h
    · simp [hv]
    · cases h
theorem row_cells {L : Loc} {C : Array Value} {T : TypeId} {fz : Nat × Nat} {vs : List Value} (hh : w.heap[L.b]? = some (.cells C T fz)) (hc : ∀ j, j < vs.length → w.cell? ⟨L.b, L.o + j, none⟩ = vs[j]?) :
    vs = (C.toList.drop L.o).take vs.length := by
  apply List.ext_getElem?
  intro j
  by_cases hj : j < vs.length
  · rw [← hc j hj]
    simp [World.cell?, hh, hj]
  · rw [List.getElem?_eq_none (by omega), List.getElem?_eq_none (by simp; omega)]
theorem stRow_ok {tm : List V} {t : TypeId} {x y : Operand} {o : Oper} {l i s sz : Nat} {xs : List D} {mv : Bool} {d d' : D} (ho : o.op = .store t x y) (hx : ev tm x = .ptr l i s) (hs : σ[l]? = some (.row sz xs mv)) (hd : xs[i]? = some d)
    (hv : storeE P tm t y d s = some d') : OpOk P o tm σ .undef tm (σ.set l (.row sz (xs.set i d') mv)) := by
  intro w I ρ a hr hO
  have hxr := vr_ev hr x
  rw [hx] at hxr
  simp only [vr] at hxr
  obtain ⟨L, hL, he⟩ := hxr.2.2 ⟨_, hs, by simp⟩
  have hob := hO.objs l _ hs
  simp only [orel] at hob
  rcases hob with ⟨h1, _⟩ | ⟨L', C, T, fz, hL', hLs, hh, hth, hC, hle, hcap, hE⟩
  · rw [hL] at h1; cases h1
  rw [hL] at hL'; cases hL'
  unfold storeE at hv
  split at hv
  · rename_i vs hcv
    split at hv
    · rename_i ds hds
      simp only [Option.ite_none_right_eq_some] at hv
      obtain ⟨hsz, hset⟩ := hv
      obtain ⟨hc, h1⟩ := cells_rel hcv (co_rel (P := P) (t := t) (vr_ev hr y))
      have hDL := vrL_DrLX hds hc h1
      have hlen := DrL_len hDL
      simp only [Array.length_toList] at hlen
      obtain ⟨u, g1, g2, _⟩ := DrE_get hE hd
      have hfit := setD_len hset g1
      rw [g2] at hfit
      obtain ⟨vs0, hN, hcell⟩ := DrN_of_E hE
      have hN0 := DrN_len hN
      have hilt : i < xs.length := (List.getElem?_eq_some_iff.1 hd).1
      have hbound : i * sz + sz ≤ xs.length * sz := by
        have := Nat.mul_le_mul_right sz (show i + 1 ≤ xs.length by omega)
        rwa [Nat.add_mul, Nat.one_mul] at this
      have hbound2 : xs.length * sz ≤ L.cap * sz := Nat.mul_le_mul_right _ hle
      have hN2 := DrN_set hN hd hset hDL (by simp only [Array.length_toList]; omega)
      rw [hLs] at he
      have hrun := run_storeVar_th (P := P) (t := t) (g := L.b) (s := L.o + i * sz + s) (x := a.eval y) hh hth.1 (by rw [hlen]; exact hsz) (by omega) h1
      have hrun' : (execOp a.eval o).run P w = .ok .skip (w.setRow L.b (C.toList.take (L.o + i * sz + s) ++ (a.eval y).cells.toList ++ C.toList.drop (L.o + i * sz + s + (a.eval y).cells.size)).toArray) := by
        simp only [execOp, ho, he, Instr.storeAt, Instr.sureAddr, Sem.run_bind, Sem.run_pure, Result.andThen_ok, hrun]
      have hII : ∀ b, I b → I b ∧ (w.setRow L.b (C.toList.take (L.o + i * sz + s) ++ (a.eval y).cells.toList ++ C.toList.drop (L.o + i * sz + s + (a.eval y).cells.size)).toArray).heap[b]? = w.heap[b]? :=
        fun b hb => ⟨hb, setRow_other _ _ _ _ fun e => (hO.imm b hb).2 ⟨l, _, L, hs, by simp, hL, e.symm⟩⟩
      refine ⟨.skip, undef, _, I, ρ, hrun', .inr ⟨rfl, rfl⟩, by simp [vr], ?_, ?_, ?_⟩
      · exact vrL_all hII (same_set hs (by simp) (by simp [O.alike, O.rl])) hr
      · refine hO.upd hs (by simp) hL (by simp [O.alike, O.rl]) (fun b hb => setRow_other _ _ _ _ hb) (by simp) ?_
        simp only [orel]
        refine .inr ⟨L, _, T, fz, hL, hLs, setRow_heap _ _ _ _ _ _ hh, ?_, ?_, by simpa using hle, hcap, ?_⟩
        · have : ∀ n, n = C.size → thaw fz n := fun n e => e ▸ hth.1
          exact ⟨this _ (by simp; omega), one_splice hth.2 h1⟩
        · simp; omega
        · have hvs0 := row_cells hh hcell
          have hsl : (splice vs0 (i * sz + s) (a.eval y).cells.toList).length = vs0.length := by simp [splice]; omega
          refine DrE_of_N (DrN_mono hII hN2) fun j hj => ?_
          rw [hsl] at hj
          have hcs : ∀ q, (w.setRow L.b (C.toList.take (L.o + i * sz + s) ++ (a.eval y).cells.toList ++ C.toList.drop (L.o + i * sz + s + (a.eval y).cells.size)).toArray).cell? ⟨L.b, q, none⟩ =
              (C.toList.take (L.o + i * sz + s) ++ (a.eval y).cells.toList ++ C.toList.drop (L.o + i * sz + s + (a.eval y).cells.size))[q]? := fun q => by
            rw [cell_setRow_same _ _ _ _ _ _ _ hh]; simp
          rw [hcs]
          have key : C.toList.take (L.o + i * sz + s) ++ (a.eval y).cells.toList ++ C.toList.drop (L.o + i * sz + s + (a.eval y).cells.size) = C.toList.take L.o ++ splice (C.toList.drop L.o) (i * sz + s) (a.eval y).cells.toList := by
            unfold splice
            rw [List.drop_drop, ← List.append_assoc, ← List.append_assoc]
            congr 1
            · congr 1
              rw [Nat.add_assoc, List.take_add]
            · congr 1
              simp; omega
          rw [key, List.getElem?_append_right (by simp; omega)]
          have e1 : L.o + j - (C.toList.take L.o).length = j := by simp; omega
          rw [e1]
          -- both splices agree below vs0's length
          have hsp : splice vs0 (i * sz + s) (a.eval y).cells.toList = (splice (C.toList.drop L.o) (i * sz + s) (a.eval y).cells.toList).take vs0.length := by
            conv => lhs; rw [hvs0]
            unfold splice
            rw [List.take_take, List.drop_take, List.take_append, List.take_append, List.take_take]
            simp only [List.length_append, List.length_take, List.length_drop, Array.length_toList]
            have m1 : min (i * sz + s) vs0.length = i * sz + s := by omega
            have m2 : min vs0.length (i * sz + s) = i * sz + s := by omega
            have m3 : min (i * sz + s) (C.size - L.o) = i * sz + s := by omega
            rw [m1, m2, m3, List.take_of_length_le (l := (a.eval y).cells.toList) (by simp; omega)]
          rw [hsp, List.getElem?_take, if_pos hj]
      · exact Ext.upd hs (by simp) hL (fun h => by simpa [O.still] using h) (by simp [O.alike, O.rl]) rfl (fun b hb => setRow_other _ _ _ _ hb) (by simp) rfl rfl rfl
    · cases hv
  · cases hv
end
end Go.Br
namespace Go.Br
open Go
def Bnd (tm : List V) (o : Option Operand) (l d : Nat) : Prop :=
  match o with
  | none => l = d
  | some x => ∃ k n, ev tm x = .d (.int k n) ∧ 0 ≤ n ∧ n.toNat = l
section
variable {w w' : World} {I I' : Nat → Prop} {ρ ρ' : LM} {σ σ' : Store} {P : Program}
theorem bound_run {tm : List V} {a : Act} (hr : vrL w I ρ σ tm a.tmps.toList) {x : Operand} {k : IntKind} {n : Int} (hx : ev tm x = .d (.int k n)) (h0 : 0 ≤ n) {y : Nat} (hy : n.toNat ≤ y) (c : BoundsCode) : (Instr.sliceBound (a.eval x) y c).run P w = .ok n.toNat w := by
  have := vr_ev hr x
  rw [hx] at this
  simp only [vr, Dr] at this
  have hc : 0 ≤ n ∧ n ≤ (y : Int) := ⟨h0, by omega⟩
  simp [Instr.sliceBound, this, asIntOf, hc]
theorem bounds_run {tm : List V} {a : Act} (hr : vrL w I ρ σ tm a.tmps.toList) {lo hi mx : Option Operand} {b : Bool} {len cap l h m : Nat} (hlo : Bnd tm lo l 0) (hhi : Bnd tm hi h len) (hmx : Bnd tm mx m cap) (h1 : l ≤ h) (h2 : h ≤ m) (h3 : m ≤ cap)
    (hm : mx.isSome = true → hi.isSome = true) : (Instr.sliceBounds b len cap (lo.map a.eval) (hi.map a.eval) (mx.map a.eval)).run P w = .ok (l, h, m) w := by
  unfold Instr.sliceBounds
  cases mx with
  | none =>
    simp only [Bnd] at hmx; subst hmx
    cases hi with
    | none =>
      simp only [Bnd] at hhi; subst hhi
      cases lo with
      | none => simp only [Bnd] at hlo; subst hlo; simp
      | some x =>
        obtain ⟨k, n, g1, g2, rfl⟩ := hlo
        simp [bound_run (P := P) hr g1 g2 h1]
    | some y =>
      obtain ⟨k, n, g1, g2, rfl⟩ := hhi
      cases lo with
      | none => simp only [Bnd] at hlo; subst hlo; simp [bound_run (P := P) hr g1 g2 h2]
      | some x =>
        obtain ⟨k', n', g3, g4, rfl⟩ := hlo
        simp [bound_run (P := P) hr g1 g2 h2, bound_run (P := P) hr g3 g4 h1]
  | some z =>
    obtain ⟨k, n, g1, g2, rfl⟩ := hmx
    cases hi with
    | none => simp at hm
    | some y =>
      obtain ⟨k', n', g3, g4, rfl⟩ := hhi
      cases lo with
      | none => simp only [Bnd] at hlo; subst hlo; simp [bound_run (P := P) hr g1 g2 h3, bound_run (P := P) hr g3 g4 h2]
      | some x =>
        obtain ⟨k2, n2, g5, g6, rfl⟩ := hlo
        simp [bound_run (P := P) hr g1 g2 h3, bound_run (P := P) hr g3 g4 h2, bound_run (P := P) hr g5 g6 h1]
theorem DrE_piece {sz b o l h : Nat} {xs : List D} (hE : DrE w I sz b o xs) : DrE w I sz b (o + l * sz) ((xs.take h).drop l) := by
  obtain ⟨vs, hN, hc⟩ := DrN_of_E hE
  refine DrE_of_N (DrN_drop l (DrN_take h hN)) fun j hj => ?_
  simp only [List.length_drop, List.length_take] at hj
  rw [List.getElem?_drop, List.getElem?_take, if_pos (by omega), ← hc (l * sz + j) (by omega)]
  congr 2; omega
theorem slice_run {o : Oper} {a : Act} {t e : TypeId} {x : Operand} {lo hi mx : Option Operand} {inf : TypeInfo} {ad : Option Addr} {len cap l h m : Nat} (ho : o.op = .slice t x lo hi mx) (hu : P.underlying t = some (.slice e)) (hinf : P.info? e = some inf)
    (he : a.eval x = .slice ad len cap) (hb : (Instr.sliceBounds true len cap (lo.map a.eval) (hi.map a.eval) (mx.map a.eval)).run P w = .ok (l, h, m) w) :
    (execOp a.eval o).run P w = .ok (.value (.slice (if m = l then ad else ad.map (·.add (l * inf.size))) (h - l) (m - l))) w := by
  simp [execOp, ho, Instr.sliceAt, Instr.slice, run_underlying hu, he, hb, sizeOf, typeInfo, hinf]
theorem slData_ok {tm : List V} {t : TypeId} {x : Operand} {lo hi : Option Operand} {o : Oper} {sz : Nat} {xs : List D} (l h : Nat) (ho : o.op = .slice t x lo hi none) (hx : listOf (ev tm x) = some (sz, xs)) (ht : elemSz P t = some sz)
    (hlo : Bnd tm lo l 0) (hhi : Bnd tm hi h xs.length) (h1 : l ≤ h) (h2 : h ≤ xs.length) : OpOk P o tm σ (.d (.list sz ((xs.take h).drop l))) tm σ := by
  intro w I ρ a hr hO
  have hxr := listOf_rel hx (vr_ev hr x)
  simp only [Dr] at hxr
  obtain ⟨ad, cap, he, k1, k2, k3⟩ := hxr
  obtain ⟨e, inf, hu, hinf, hsz⟩ := elemSz_und ht
  have hb := bounds_run (P := P) (b := true) (len := xs.length) (cap := cap) (m := cap) hr hlo hhi (mx := none) rfl h1 (Nat.le_trans h2 k1) (Nat.le_refl _) (by simp)
  have hrun := slice_run ho hu hinf he hb
  refine ⟨_, _, w, I, ρ, hrun, .inl rfl, ?_, hr, hO, Ext.refl _ _ _ _⟩
  simp only [vr, Dr]
  have hlen : ((xs.take h).drop l).length = h - l := by simp; omega
  refine ⟨_, cap - l, by rw [hlen], by omega, by omega, ?_⟩
  by_cases hne : l = h
  · exact .inl (List.eq_nil_of_length_eq_zero (by omega))
  rcases k3 with k3 | ⟨b, q, rfl, hI, hE⟩
  · exact .inl (by simp [k3])
  · refine .inr ⟨b, q + l * sz, ?_, hI, DrE_piece hE⟩
    rw [if_neg (by omega)]
    simp [addr_add, hsz]
theorem sl3Data_ok {tm : List V} {t : TypeId} {x y z : Operand} {lo : Option Operand} {o : Oper} {sz : Nat} {xs : List D} (l h : Nat) (ho : o.op = .slice t x lo (some y) (some z)) (hx : listOf (ev tm x) = some (sz, xs)) (ht : elemSz P t = some sz)
    (hlo : Bnd tm lo l 0) (hhi : Bnd tm (some y) h xs.length) (hmx : Bnd tm (some z) h xs.length) (h1 : l ≤ h) (h2 : h ≤ xs.length) : OpOk P o tm σ (.ex sz ((xs.take h).drop l)) tm σ := by
  intro w I ρ a hr hO
  have hxr := listOf_rel hx (vr_ev hr x)
  simp only [Dr] at hxr
  obtain ⟨ad, cap, he, k1, k2, k3⟩ := hxr
  obtain ⟨e, inf, hu, hinf, hsz⟩ := elemSz_und ht
  have hb := bounds_run (P := P) (b := true) (len := xs.length) (cap := cap) (m := h) hr hlo hhi (mx := some z) hmx h1 (Nat.le_refl _) (Nat.le_trans h2 k1) (by simp)
  have hrun := slice_run ho hu hinf he hb
  refine ⟨_, _, w, I, ρ, hrun, .inl rfl, ?_, hr, hO, Ext.refl _ _ _ _⟩
  simp only [vr, Dr]
  have hlen : ((xs.take h).drop l).length = h - l := by simp; omega
  refine ⟨_, by rw [hlen], _, h - l, by rw [hlen], by omega, by omega, ?_⟩
  by_cases hne : l = h
  · exact .inl (List.eq_nil_of_length_eq_zero (by omega))
  rcases k3 with k3 | ⟨b, q, rfl, hI, hE⟩
  · exact .inl (by simp [k3])
  · refine .inr ⟨b, q + l * sz, ?_, hI, DrE_piece hE⟩
    rw [if_neg (by omega)]
    simp [addr_add, hsz]
theorem slRow_ok {tm : List V} {t : TypeId} {x : Operand} {lo hi : Option Operand} {o : Oper} {lc sz : Nat} {xs : List D} {mv : Bool} (l h : Nat) (ho : o.op = .slice t x lo hi none) (hx : ev tm x = .row lc) (hs : σ[lc]? = some (.row sz xs mv)) (ht : elemSz P t = some sz)
    (hlo : Bnd tm lo l 0) (hhi : Bnd tm hi h xs.length) (h1 : l ≤ h) (h2 : h ≤ xs.length) : OpOk P o tm σ (.sl lc l (h - l) none) tm σ := by
  intro w I ρ a hr hO
  have hxr := vr_ev hr x
  rw [hx] at hxr
  simp only [vr] at hxr
  obtain ⟨e, inf, hu, hinf, hsz⟩ := elemSz_und ht
  have hob := hO.objs lc _ hs
  simp only [orel] at hob
  have hmk : ∀ ad cap, a.eval x = .slice ad xs.length cap → xs.length ≤ cap → (∀ v, v = .slice (if cap = l then ad else ad.map (·.add (l * inf.size))) (h - l) (cap - l) → rowV ρ lc l (h - l) v) →
      ∃ nx y w' I' ρ', (execOp a.eval o).run P w = .ok nx w' ∧ (nx = .value y ∨ nx = .skip ∧ y = undef) ∧ vr w' I' ρ' σ (.sl lc l (h - l) none) y ∧ vrL w' I' ρ' σ tm a.tmps.toList ∧ ORel w' I' ρ' σ ∧ Ext σ.length w I ρ σ w' I' ρ' σ := by
    intro ad cap he k1 hv
    have hb := bounds_run (P := P) (b := true) (len := xs.length) (cap := cap) (m := cap) hr hlo hhi (mx := none) rfl h1 (Nat.le_trans h2 k1) (Nat.le_refl _) (by simp)
    have hrun := slice_run ho hu hinf he hb
    refine ⟨_, _, w, I, ρ, hrun, .inl rfl, ?_, hr, hO, Ext.refl _ _ _ _⟩
    simp only [vr]
    refine ⟨rfl, hxr.2.1, fun sz' xs' mv' hx' => ?_⟩
    rw [hs] at hx'; cases hx'
    exact ⟨by omega, hv _ rfl, fun k hk => by cases hk⟩
  rcases hxr.2.2 _ _ _ hs with ⟨h0, ad, he⟩ | ⟨L, hL, hle, he⟩
  · have he2 : a.eval x = .slice ad xs.length 0 := by rw [he, h0]
    refine hmk ad 0 he2 (by omega) fun v hv => .inl ⟨by omega, ?_⟩
    have : l = 0 := by omega
    subst this
    simp at hv
    have : h = 0 := by omega
    subst this
    exact ⟨_, hv⟩
  · rcases hob with ⟨h0, _⟩ | ⟨L', C, T, fz, hL', hLs, _, _, _, hle2, _⟩
    · rw [hL] at h0; cases h0
    rw [hL] at hL'; cases hL'
    refine hmk _ _ he (by omega) fun v hv => ?_
    by_cases hcl : L.cap = l
    · refine .inl ⟨by omega, ?_⟩
      have e1 : h - l = 0 := by omega
      have e2 : L.cap - 0 - l = 0 := by omega
      rw [e1, e2] at hv
      exact ⟨_, hv⟩
    · refine .inr ⟨L, hL, by omega, ?_⟩
      rw [if_neg (by omega)] at hv
      simpa [addr_add, hsz, hLs] using hv
theorem cat_ok {tm : List V} {t ty : TypeId} {x y : Operand} {o : Oper} {s u : ByteArray} (ho : o.op = .binOp .add t x y ty) (hx : ev tm x = .d (.str s)) (hy : ev tm y = .d (.str u)) (hsz : s.size + u.size ≤ 9223372036854775807) :
    OpOk P o tm σ (.d (.str (s ++ u))) tm σ := by
  intro w I ρ a hr hO
  have hxr := vr_ev hr x
  have hyr := vr_ev hr y
  rw [hx] at hxr
  rw [hy] at hyr
  simp only [vr, Dr] at hxr hyr
  have hmax : ¬ (((s.size + u.size : Nat) : Int) > IntKind.i64.max) := by
    have : IntKind.i64.max = 9223372036854775807 := by decide
    rw [this]; omega
  refine ⟨_, .string (s ++ u), w, I, ρ, ?_, .inl rfl, by simp [vr, Dr], hr, hO, Ext.refl _ _ _ _⟩
  simp only [execOp, ho, hxr, hyr, eqGuard, binOp, Op.stringOp, Sem.run_bind]
  rw [if_neg hmax]
  simp
def cont (σ : Store) : V → Option (Nat × List D)
  | .d (.list sz xs) => some (sz, xs)
  | .ex sz xs => some (sz, xs)
  | .row l => match σ[l]? with | some (.row sz xs _) => some (sz, xs) | _ => none
  | .sl l off n _ => match σ[l]? with | some (.row sz xs _) => some (sz, (xs.drop off).take n) | _ => none
  | .d (.str s) => some (1, s.data.toList.map fun b => .int .u8 b.toNat)
  | _ => none
theorem cells_run {L : Loc} {C : Array Value} {T : TypeId} {fz : Nat × Nat} {q : Nat} {vs : List Value} (hh : w.heap[L.b]? = some (.cells C T fz)) (hc : ∀ j, j < vs.length → C[q + j]? = vs[j]?) {w1 : World} (hw : w1.heap = w.heap) :
    (loadCells ⟨L.b, q, none⟩ vs.length).run P w1 = .ok vs.toArray w1 :=
  run_loadCells_list (P := P) w1 ⟨L.b, q, none⟩ vs fun j v hj => by
    rw [addr_add]
    have hlt := (List.getElem?_eq_some_iff.1 hj).1
    simp [World.cell?, hw, hh, hc j hlt, hj]
theorem str_cells (s : ByteArray) : DrN w I 1 (s.data.toList.map fun b => .int .u8 b.toNat) (s.data.toList.map fun b => .int .u8 b.toNat) := by
  generalize s.data.toList = l
  induction l with
  | nil => simp [DrN]
  | cons b l ih => simp only [List.map_cons, DrN]; exact ⟨.int .u8 b.toNat, _, by simp [Dr], rfl, rfl, ih⟩
theorem cont_rel {v : V} {x : Value} {sz : Nat} {ys : List D} (h : cont σ v = some (sz, ys)) (hv : vr w I ρ σ v x) (hO : ORel w I ρ σ) : ∃ news, DrN w I sz ys news ∧ (∀ w1, (Builtin.lenOf x).run P w1 = .ok ys.length w1) ∧
    ∀ w1 : World, w1.heap = w.heap → (Builtin.firstCells sz ys.length x).run P w1 = .ok news.toArray w1 := by
  have hdata : ∀ {sz : Nat} {xs : List D}, Dr w I (.list sz xs) x → ∃ news, DrN w I sz xs news ∧ (∀ w1, (Builtin.lenOf x).run P w1 = .ok xs.length w1) ∧ ∀ w1 : World, w1.heap = w.heap → (Builtin.firstCells sz xs.length x).run P w1 = .ok news.toArray w1 := by
    intro sz xs hd
    simp only [Dr] at hd
    obtain ⟨ad, cap, rfl, k1, k2, k3⟩ := hd
    rcases k3 with rfl | ⟨b, q, rfl, hI, hE⟩
    · refine ⟨[], by simp [DrN], fun w1 => by simp [Builtin.lenOf], fun w1 _ => ?_⟩
      cases ad with
      | none => simp [Builtin.firstCells]
      | some ad => simp [Builtin.firstCells, loadCells, loadCellsFrom]
    · obtain ⟨vs, hN, hc⟩ := DrN_of_E hE
      refine ⟨vs, hN, fun w1 => by simp [Builtin.lenOf], fun w1 hw => ?_⟩
      have hl := DrN_len hN
      simp only [Builtin.firstCells]
      rw [← hl]
      refine run_loadCells_list (P := P) w1 ⟨b, q, none⟩ vs fun j v hj => ?_
      rw [addr_add]
      have hlt := (List.getElem?_eq_some_iff.1 hj).1
      rw [← hj, ← hc j hlt]
      simp [World.cell?, hw]
  have hrow : ∀ {l off n sz : Nat} {xs : List D} {mv : Bool}, σ[l]? = some (.row sz xs mv) → rowV ρ l off n x → off + n ≤ xs.length → ∃ news, DrN w I sz ((xs.drop off).take n) news ∧ (∀ w1, (Builtin.lenOf x).run P w1 = .ok n w1) ∧ ∀ w1 : World, w1.heap = w.heap → (Builtin.firstCells sz n x).run P w1 = .ok news.toArray w1 := by
    intro l off n sz xs mv hs hv hle
    rcases hv with ⟨rfl, ad, rfl⟩ | ⟨L, hL, hle2, rfl⟩
    · refine ⟨[], by simp [DrN], fun w1 => by simp [Builtin.lenOf], fun w1 _ => ?_⟩
      cases ad with
      | none => simp [Builtin.firstCells]
      | some ad => simp [Builtin.firstCells, loadCells, loadCellsFrom]
    · have hob := hO.objs l _ hs
      simp only [orel] at hob
      rcases hob with ⟨h0, _⟩ | ⟨L', C, T, fz, hL', hLs, hh, _, _, _, _, hE⟩
      · rw [hL] at h0; cases h0
      rw [hL] at hL'; cases hL'
      obtain ⟨vs, hN, hc⟩ := DrN_of_E hE
      have hN2 := DrN_take n (DrN_drop off hN)
      refine ⟨_, hN2, fun w1 => by simp [Builtin.lenOf], fun w1 hw => ?_⟩
      have hl := DrN_len hN2
      have hl0 := DrN_len hN
      have hn : ((xs.drop off).take n).length = n := by simp; omega
      rw [hn] at hl
      have hcr := cells_run (P := P) (q := L.o + off * sz) (vs := (vs.drop (off * sz)).take (n * sz)) hh (fun j hj => by
        simp only [List.length_take, List.length_drop] at hj
        rw [List.getElem?_take, if_pos (by omega), List.getElem?_drop, ← hc _ (by omega)]
        simp [World.cell?, hh, Nat.add_assoc]) hw
      rw [hl] at hcr
      simp only [Builtin.firstCells]
      rw [hLs]
      exact hcr
  unfold cont at h
  split at h
  · cases h; simp only [vr] at hv; exact hdata hv
  · cases h; simp only [vr] at hv; obtain ⟨a, rfl, hv⟩ := hv; exact hdata hv
  · split at h
    · rename_i hs
      cases h
      simp only [vr] at hv
      have := hrow hs (hv.2.2 _ _ _ hs) (by omega)
      simpa using this
    · cases h
  · split at h
    · rename_i hs
      cases h
      simp only [vr] at hv
      obtain ⟨g1, g2⟩ := hv.2.2 _ _ _ hs
      have := hrow hs g2.1 g1
      have hn : ∀ (xs : List D) off n, off + n ≤ xs.length → ((xs.drop off).take n).length = n := fun xs off n h => by simp; omega
      rw [hn _ _ _ g1]
      exact this
    · cases h
  · cases h
    simp only [vr, Dr] at hv
    subst hv
    rename_i s
    refine ⟨_, str_cells s, fun w1 => by simp [Builtin.lenOf], fun w1 _ => ?_⟩
    simp only [Builtin.firstCells]
    have : s.extract 0 (s.data.toList.map fun b : UInt8 => D.int .u8 b.toNat).length = s := by simp
    rw [this]
    simp only [Sem.run_pure]
    congr 1
    apply Array.ext'
    simp
  · cases h
end
end Go.Br
