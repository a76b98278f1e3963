/- Part 0 of this proof. -/
import Derived.Calls
import Derived.KernelRfl
import Derived.Laws.Append
import Derived.Laws.AppendOwn
import Derived.Laws.CopyRow
import Derived.Laws.Rows
import Derived.Laws.Sem
import Derived.Laws.Small
import Derived.Laws.World
namespace Go.Br
open Go
inductive D where
  | int (k : IntKind) (n : Int)
  | bool (b : Bool)
  | str (s : ByteArray)
  | list (sz : Nat) (xs : List D)
  | agg (cs : List D)
  | raw (v : Value)
inductive V where
  | d (d : D)
  | undef
  | nils
  | ex (sz : Nat) (xs : List D)
  | ptr (l i s : Nat)
  | row (l : Nat)
  | sl (l off len : Nat) (c : Option Nat)
  | fn (f : Fn) (first cap : List V)
  | yield (l : Nat)
  | map (l : Nat)
  | tuple (vs : List V)
  | agg (vs : List V)
  | ep (sz : Nat) (x : D) (s : Nat)
inductive O where
  | dead
  | cells (cs : List V)
  | row (sz : Nat) (xs : List D) (mv : Bool)
  | map (es : List (Value × D))
  | loop (st : LoopState) (pend : Option Code) (fn : FuncId) (tm : List V) (params : Array Tmp) (assign body : Code)
  | defd
structure Loc where
  b : Nat
  o : Nat
  sz : Nat
  cap : Nat
abbrev LM := Nat → Option Loc
abbrev Store := List O
def one (v : Value) : Prop := v.oneCell' = true
section
variable (w : World) (I : Nat → Prop)
mutual
def Dr : D → Value → Prop
  | .int k n, v => v = .int k n
  | .bool b, v => v = .bool b
  | .str s, v => v = .string s
  | .raw x, v => v = x ∧ one x
  | .agg cs, v => ∃ vs : List Value, v = .agg vs.toArray ∧ DrL cs vs
  | .list sz xs, v => ∃ a cap, v = .slice a xs.length cap ∧ xs.length ≤ cap ∧ cap ≤ maxLen ∧ (xs = [] ∨ ∃ b o, a = some ⟨b, o, none⟩ ∧ I b ∧ DrE sz b o xs)
def DrL : List D → List Value → Prop
  | [], vs => vs = []
  | d :: ds, vs => ∃ v vs', vs = v :: vs' ∧ one v ∧ Dr d v ∧ DrL ds vs'
def DrE (sz b : Nat) : Nat → List D → Prop
  | _, [] => True
  | o, d :: ds => (∃ v, Dr d v ∧ v.cells.size = sz ∧ ∀ j, j < sz → w.cell? ⟨b, o + j, none⟩ = v.cells[j]?) ∧ DrE sz b (o + sz) ds
end
end
section
variable (w : World) (I : Nat → Prop) (ρ : LM) (σ : Store)
def live (σ : Store) (l : Nat) : Prop := ∃ o, σ[l]? = some o ∧ o ≠ .dead
def thaw (fz : Nat × Nat) (n : Nat) : Prop := fz.1 ≤ fz.2 ∧ ∀ j, j ≤ n → ¬ (fz.1 ≤ j ∧ j < fz.2)
def thawR (fz : Nat × Nat) (C : Array Value) : Prop := thaw fz C.size ∧ ∀ x ∈ C.toList, one x
def rowV (ρ : LM) (l off len : Nat) (v : Value) : Prop :=
  (len = 0 ∧ ∃ a, v = .slice a 0 0) ∨ ∃ L, ρ l = some L ∧ off + len ≤ L.cap ∧ v = .slice (some ⟨L.b, L.o + off * L.sz, none⟩) len (L.cap - off)
def slV (ρ : LM) (l off len : Nat) (c : Option Nat) (v : Value) : Prop := rowV ρ l off len v ∧ ∀ k, c = some k → ∃ a n, v = .slice a n k
mutual
def vr : V → Value → Prop
  | .d d, v => Dr w I d v
  | .undef, _ => True
  | .nils, v => v = .slice none 0 0
  | .ex sz xs, v => ∃ a, v = .slice a xs.length xs.length ∧ Dr w I (.list sz xs) v
  | .ptr l i s, v => one v ∧ l < σ.length ∧ (live σ l → ∃ L, ρ l = some L ∧ v = .pointer (some ⟨L.b, L.o + i * L.sz + s, none⟩))
  | .row l, v => one v ∧ l < σ.length ∧ ∀ sz xs mv, σ[l]? = some (.row sz xs mv) → rowV ρ l 0 xs.length v
  | .sl l off len c, v => one v ∧ l < σ.length ∧ ∀ sz xs mv, σ[l]? = some (.row sz xs mv) → off + len ≤ xs.length ∧ slV ρ l off len c v
  | .fn f first cap, v => ∃ fs cs : List Value, v = .func f fs.toArray cs.toArray ∧ vrL first fs ∧ vrL cap cs
  | .yield l, v => one v ∧ l < σ.length ∧ (live σ l → ∃ L, ρ l = some L ∧ v = .func (.yield L.b) #[] #[])
  | .map l, v => one v ∧ l < σ.length ∧ (live σ l → ∃ L, ρ l = some L ∧ v = .map (some L.b))
  | .tuple vs, v => ∃ xs : List Value, v = .tuple xs.toArray ∧ vrL vs xs
  | .agg vs, v => ∃ xs : List Value, v = .agg xs.toArray ∧ vrL vs xs ∧ ∀ x ∈ xs, one x
  | .ep sz x s, v => ∃ b o, v = .pointer (some ⟨b, o + s, none⟩) ∧ I b ∧ ∃ u, Dr w I x u ∧ u.cells.size = sz ∧ ∀ j, j < sz → w.cell? ⟨b, o + j, none⟩ = u.cells[j]?
def vrL : List V → List Value → Prop
  | [], vs => vs = []
  | x :: xs, vs => ∃ v vs', vs = v :: vs' ∧ vr x v ∧ vrL xs vs'
end
def orel (l : Nat) : O → Prop
  | .dead => True
  | .cells cs => ∃ L C T fz, ρ l = some L ∧ L.o = 0 ∧ w.heap[L.b]? = some (.cells C T fz) ∧ thaw fz C.size ∧ vrL w I ρ σ cs C.toList ∧ ∀ x ∈ C.toList, one x
  | .row sz xs _ => (ρ l = none ∧ xs = []) ∨ ∃ L C T fz, ρ l = some L ∧ L.sz = sz ∧ w.heap[L.b]? = some (.cells C T fz) ∧ thawR fz C ∧ C.size = L.o + L.cap * sz ∧ xs.length ≤ L.cap ∧ L.cap ≤ maxLen ∧ DrE w I sz L.b L.o xs
  | .map es => ∃ L E n, ρ l = some L ∧ L.o = 0 ∧ w.heap[L.b]? = some (.map E n) ∧ E.size = es.length ∧ (∀ (j : Nat) (e : MapEntry), E[j]? = some e → e.born < n ∧ ∃ x : Value × D, es[j]? = some x ∧ e.key = x.1 ∧ Dr w I x.2 e.val) ∧ (∀ (i j : Nat) (e e' : MapEntry), E[i]? = some e → E[j]? = some e' → e.born = e'.born → i = j)
  | .loop st pend fn tm params assign body => ∃ L tmps db, ρ l = some L ∧ w.heap[L.b]? = some (.loop { state := st, pending := pend, fn, tmps, params, assign, body, defers := db }) ∧ vrL w I ρ σ tm tmps.toList
  | .defd => ∃ L, ρ l = some L ∧ w.heap[L.b]? = some (.deferred (some []))
def O.still : O → Bool
  | .dead => false
  | .row _ _ mv => !mv
  | _ => true
def O.ld : O → Nat
  | .defd => 1
  | .loop .. => 2
  | _ => 0
def O.rl : O → Option Nat
  | .row _ xs _ => some xs.length
  | _ => none
def O.alike (o o' : O) : Prop := o.rl = o'.rl
theorem alike_row {o : O} {sz : Nat} {xs : List D} {mv : Bool} (h : o.alike (.row sz xs mv)) : ∃ sz' xs' mv', o = .row sz' xs' mv' ∧ xs'.length = xs.length := by
 cases o with
 | row sz' xs' mv' => exact ⟨sz', xs', mv', rfl, by simpa [O.alike, O.rl] using h⟩
 | _ => simp [O.alike, O.rl] at h
def foot (ρ : LM) (σ : Store) (b : Nat) : Prop := ∃ l o L, σ[l]? = some o ∧ o ≠ .dead ∧ ρ l = some L ∧ L.b = b
structure ORel : Prop where
  objs : ∀ l o, σ[l]? = some o → orel w I ρ σ l o
  inj : ∀ l l' L L', live σ l → live σ l' → ρ l = some L → ρ l' = some L' → L.b = L'.b → l = l'
  flt : ∀ b, foot ρ σ b → b < w.heap.size
  imm : ∀ b, I b → b < w.heap.size ∧ ¬ foot ρ σ b
end
structure Ext (n : Nat) (w : World) (I : Nat → Prop) (ρ : LM) (σ : Store) (w' : World) (I' : Nat → Prop) (ρ' : LM) (σ' : Store) : Prop where
  size : w.heap.size ≤ w'.heap.size
  os : w'.os = w.os
  tape : w'.tape = w.tape
  output : w'.output = w.output
  old : ∀ b, b < w.heap.size → ¬ foot ρ σ b → w'.heap[b]? = w.heap[b]?
  immI : ∀ b, I b → I' b
  immN : ∀ b, I' b → I b ∨ foot ρ σ b ∨ w.heap.size ≤ b
  footN : ∀ b, foot ρ' σ' b → foot ρ σ b ∨ w.heap.size ≤ b
  len : n ≤ σ'.length
  alive : ∀ l, l < n → live σ' l → live σ l
  fixed : ∀ l o', l < n → σ'[l]? = some o' → o'.still = true → ρ' l = ρ l ∧ ∃ o, σ[l]? = some o ∧ o.still = true ∧ o.alike o'
  stay : ∀ l o, l < n → σ[l]? = some o → o.ld ≠ 0 → ∃ o', σ'[l]? = some o' ∧ o'.ld = o.ld
theorem Ext.refl (w : World) (I : Nat → Prop) (ρ : LM) (σ : Store) : Ext σ.length w I ρ σ w I ρ σ :=
 ⟨Nat.le_refl _, rfl, rfl, rfl, fun _ _ _ => rfl, fun _ h => h, fun _ h => .inl h, fun _ h => .inl h, Nat.le_refl _, fun _ _ h => h, fun _ o _ h hf => ⟨rfl, o, h, hf, rfl⟩, fun _ o _ h _ => ⟨o, h, rfl⟩⟩
theorem Ext.less {n m : Nat} {w w' : World} {I I' : Nat → Prop} {ρ ρ' : LM} {σ σ' : Store} (h : Ext n w I ρ σ w' I' ρ' σ') (hm : m ≤ n) : Ext m w I ρ σ w' I' ρ' σ' :=
 ⟨h.size, h.os, h.tape, h.output, h.old, h.immI, h.immN, h.footN, Nat.le_trans hm h.len, fun l hl => h.alive l (by omega), fun l o hl => h.fixed l o (by omega), fun l o hl => h.stay l o (by omega)⟩
theorem Ext.trans {n : Nat} {w w1 w2 : World} {I I1 I2 : Nat → Prop} {ρ ρ1 ρ2 : LM} {σ σ1 σ2 : Store} (h : Ext n w I ρ σ w1 I1 ρ1 σ1) (h' : Ext n w1 I1 ρ1 σ1 w2 I2 ρ2 σ2) : Ext n w I ρ σ w2 I2 ρ2 σ2 where
 size := Nat.le_trans h.size h'.size
 os := h'.os.trans h.os
 tape := h'.tape.trans h.tape
 output := h'.output.trans h.output
 old b hb hf := by
  have hf1 : ¬ foot ρ1 σ1 b := fun hx => (h.footN b hx).elim hf fun hs => by omega
  rw [h'.old b (Nat.lt_of_lt_of_le hb h.size) hf1, h.old b hb hf]
 immI b hb := h'.immI b (h.immI b hb)
 immN b hb := by
  rcases h'.immN b hb with hx | hx | hx
  · exact h.immN b hx
  · exact .inr (h.footN b hx)
  · exact .inr (.inr (Nat.le_trans h.size hx))
 footN b hb := by
  rcases h'.footN b hb with hx | hx
  · exact h.footN b hx
  · exact .inr (Nat.le_trans h.size hx)
 len := h'.len
 alive l hl hv := h.alive l hl (h'.alive l hl hv)
 fixed l o' hn hl hf := by
  obtain ⟨h1, o1, ho1, hf1, ha1⟩ := h'.fixed l o' hn hl hf
  obtain ⟨h2, o2, ho2, hf2, ha2⟩ := h.fixed l o1 hn ho1 hf1
  exact ⟨h1.trans h2, o2, ho2, hf2, Eq.trans ha2 ha1⟩
 stay l o hn hl ho := by
  obtain ⟨o1, h1, h2⟩ := h.stay l o hn hl ho
  obtain ⟨o2, h3, h4⟩ := h'.stay l o1 hn h1 (by rw [h2]; exact ho)
  exact ⟨o2, h3, h4.trans h2⟩
section mono
variable {w w' : World} {I I' : Nat → Prop}
mutual
theorem Dr_mono (h : ∀ b, I b → I' b ∧ w'.heap[b]? = w.heap[b]?) : ∀ d v, Dr w I d v → Dr w' I' d v
 | .int _ _, _, hd => by simpa [Dr] using hd
 | .bool _, _, hd => by simpa [Dr] using hd
 | .str _, _, hd => by simpa [Dr] using hd
 | .raw _, _, hd => by simpa [Dr] using hd
 | .agg cs, v, hd => by
   simp only [Dr] at hd ⊢
   obtain ⟨vs, hv, hl⟩ := hd
   exact ⟨vs, hv, DrL_mono h cs vs hl⟩
 | .list sz xs, v, hd => by
   simp only [Dr] at hd ⊢
   obtain ⟨a, cap, hv, h1, h2, h3⟩ := hd
   refine ⟨a, cap, hv, h1, h2, h3.imp id ?_⟩
   rintro ⟨b, o, ha, hI, hE⟩
   exact ⟨b, o, ha, (h b hI).1, DrE_mono h sz b (h b hI).2 o xs hE⟩
theorem DrL_mono (h : ∀ b, I b → I' b ∧ w'.heap[b]? = w.heap[b]?) : ∀ ds vs, DrL w I ds vs → DrL w' I' ds vs
 | [], _, hd => by simpa [DrL] using hd
 | d :: ds, vs, hd => by
   simp only [DrL] at hd ⊢
   obtain ⟨v, vs', hv, h1, h2, h3⟩ := hd
   exact ⟨v, vs', hv, h1, Dr_mono h d v h2, DrL_mono h ds vs' h3⟩
theorem DrE_mono (h : ∀ b, I b → I' b ∧ w'.heap[b]? = w.heap[b]?) (sz b : Nat) (hb : w'.heap[b]? = w.heap[b]?) : ∀ o ds, DrE w I sz b o ds → DrE w' I' sz b o ds
 | _, [], _ => by simp [DrE]
 | o, d :: ds, hd => by
   simp only [DrE] at hd ⊢
   obtain ⟨⟨v, h1, h2, h3⟩, h4⟩ := hd
   refine ⟨⟨v, Dr_mono h d v h1, h2, fun j hj => ?_⟩, DrE_mono h sz b hb (o + sz) ds h4⟩
   rw [← h3 j hj]
   simp [World.cell?, hb]
end
end mono
mutual
def V.locs : V → List Nat
  | .ptr l _ _ | .row l | .sl l _ _ _ | .yield l | .map l => [l]
  | .fn _ a b => V.locsL a ++ V.locsL b
  | .tuple vs | .agg vs => V.locsL vs
  | _ => []
def V.locsL : List V → List Nat
  | [] => []
  | v :: vs => V.locs v ++ V.locsL vs
end
def O.locs : O → List Nat
  | .cells cs => V.locsL cs
  | .loop _ _ _ tm _ _ _ => V.locsL tm
  | _ => []
mutual
def V.kill (p : Nat → Bool) : V → V
  | .ptr l i s => if p l then .undef else .ptr l i s
  | .row l => if p l then .undef else .row l
  | .sl l a b c => if p l then .undef else .sl l a b c
  | .yield l => if p l then .undef else .yield l
  | .map l => if p l then .undef else .map l
  | .fn f a b => .fn f (V.killL p a) (V.killL p b)
  | .tuple vs => .tuple (V.killL p vs)
  | .agg vs => .agg (V.killL p vs)
  | .d x => .d x
  | .undef => .undef
  | .nils => .nils
  | .ex sz xs => .ex sz xs
  | .ep sz x s => .ep sz x s
def V.killL (p : Nat → Bool) : List V → List V
  | [] => []
  | v :: vs => V.kill p v :: V.killL p vs
end
def O.kill (p : Nat → Bool) : O → O
  | .cells cs => .cells (V.killL p cs)
  | .loop a b c tm x e f => .loop a b c (V.killL p tm) x e f
  | .dead => .dead
  | .row sz xs mv => .row sz xs mv
  | .map es => .map es
  | .defd => .defd
def Same (ρ : LM) (σ : Store) (ρ' : LM) (σ' : Store) (l : Nat) : Prop :=
  l < σ'.length ∧ ∀ o', σ'[l]? = some o' → o' ≠ .dead → ρ' l = ρ l ∧ ∃ o, σ[l]? = some o ∧ o ≠ .dead ∧ o.alike o'
section up
variable {w w' : World} {I I' : Nat → Prop} {ρ ρ' : LM} {σ σ' : Store}
theorem rowV_up {l off len : Nat} (h : ρ' l = ρ l) {v : Value} (hr : rowV ρ l off len v) : rowV ρ' l off len v := by
 unfold rowV at *
 rw [h]; exact hr
mutual
theorem vr_up (hI : ∀ b, I b → I' b ∧ w'.heap[b]? = w.heap[b]?) : ∀ (v : V) (x : Value), (∀ l ∈ v.locs, Same ρ σ ρ' σ' l) → vr w I ρ σ v x → vr w' I' ρ' σ' v x
 | .d d, x, _, h => by
   simp only [vr] at h ⊢
   exact Dr_mono hI d x h
 | .undef, _, _, _ => by simp [vr]
 | .nils, _, _, h => by simpa [vr] using h
 | .ex sz xs, x, _, h => by
   simp only [vr] at h ⊢
   obtain ⟨a, ha, hd⟩ := h
   exact ⟨a, ha, Dr_mono hI _ _ hd⟩
 | .ptr l i s, x, hs, h => by
   simp only [vr] at h ⊢
   have hs := hs l (by simp [V.locs])
   refine ⟨h.1, hs.1, ?_⟩
   rintro ⟨o', ho', hn'⟩
   obtain ⟨h1, o, h2, h3, _⟩ := hs.2 o' ho' hn'
   rw [h1]
   exact h.2.2 ⟨o, h2, h3⟩
 | .row l, x, hs, h => by
   simp only [vr] at h ⊢
   have hs := hs l (by simp [V.locs])
   refine ⟨h.1, hs.1, fun sz' xs' mv' hx => ?_⟩
   obtain ⟨h1, o, h2, h3, h4⟩ := hs.2 _ hx (by simp)
   obtain ⟨sz, xs, mv, rfl, he⟩ := alike_row h4
   rw [← he]
   exact rowV_up h1 (h.2.2 sz xs mv h2)
 | .sl l off len c, x, hs, h => by
   simp only [vr] at h ⊢
   have hs := hs l (by simp [V.locs])
   refine ⟨h.1, hs.1, fun sz' xs' mv' hx => ?_⟩
   obtain ⟨h1, o, h2, h3, h4⟩ := hs.2 _ hx (by simp)
   obtain ⟨sz, xs, mv, rfl, he⟩ := alike_row h4
   rw [← he]
   exact ⟨(h.2.2 sz xs mv h2).1, rowV_up h1 (h.2.2 sz xs mv h2).2.1, (h.2.2 sz xs mv h2).2.2⟩
 | .fn f a b, x, hs, h => by
   simp only [vr] at h ⊢
   obtain ⟨fs, cs, hx, h1, h2⟩ := h
   exact ⟨fs, cs, hx, vrL_up hI a fs (fun l hl => hs l (by simp [V.locs, hl])) h1, vrL_up hI b cs (fun l hl => hs l (by simp [V.locs, hl])) h2⟩
 | .yield l, x, hs, h => by
   simp only [vr] at h ⊢
   have hs := hs l (by simp [V.locs])
   refine ⟨h.1, hs.1, ?_⟩
   rintro ⟨o', ho', hn'⟩
   obtain ⟨h1, o, h2, h3, _⟩ := hs.2 o' ho' hn'
   rw [h1]
   exact h.2.2 ⟨o, h2, h3⟩
 | .map l, x, hs, h => by
   simp only [vr] at h ⊢
   have hs := hs l (by simp [V.locs])
   refine ⟨h.1, hs.1, ?_⟩
   rintro ⟨o', ho', hn'⟩
   obtain ⟨h1, o, h2, h3, _⟩ := hs.2 o' ho' hn'
   rw [h1]
   exact h.2.2 ⟨o, h2, h3⟩
 | .tuple vs, x, hs, h => by
   simp only [vr] at h ⊢
   obtain ⟨xs, hx, h1⟩ := h
   exact ⟨xs, hx, vrL_up hI vs xs (fun l hl => hs l (by simpa [V.locs] using hl)) h1⟩
 | .agg vs, x, hs, h => by
   simp only [vr] at h ⊢
   obtain ⟨xs, hx, h1, h2⟩ := h
   exact ⟨xs, hx, vrL_up hI vs xs (fun l hl => hs l (by simpa [V.locs] using hl)) h1, h2⟩
 | .ep sz y s, x, _, h => by
   simp only [vr] at h ⊢
   obtain ⟨b, o, hx, hb, u, h1, h2, h3⟩ := h
   refine ⟨b, o, hx, (hI b hb).1, u, Dr_mono hI y u h1, h2, fun j hj => ?_⟩
   rw [← h3 j hj]
   simp [World.cell?, (hI b hb).2]
theorem vrL_up (hI : ∀ b, I b → I' b ∧ w'.heap[b]? = w.heap[b]?) : ∀ (vs : List V) (xs : List Value), (∀ l ∈ V.locsL vs, Same ρ σ ρ' σ' l) → vrL w I ρ σ vs xs → vrL w' I' ρ' σ' vs xs
 | [], _, _, h => by simpa [vrL] using h
 | v :: vs, xs, hs, h => by
   simp only [vrL] at h ⊢
   obtain ⟨x, xs', hx, h1, h2⟩ := h
   exact ⟨x, xs', hx, vr_up hI v x (fun l hl => hs l (by simp [V.locsL, hl])) h1, vrL_up hI vs xs' (fun l hl => hs l (by simp [V.locsL, hl])) h2⟩
end
mutual
theorem vr_kill (p : Nat → Bool) : ∀ (v : V) (x : Value), vr w I ρ σ v x → vr w I ρ σ (v.kill p) x
 | .d d, x, h => by simpa [V.kill] using h
 | .undef, _, _ => by simp [vr, V.kill]
 | .nils, _, h => by simpa [V.kill] using h
 | .ex sz xs, x, h => by simpa [V.kill] using h
 | .ep sz y s, x, h => by simpa [V.kill] using h
 | .ptr l i s, x, h => by
   simp only [V.kill]
   split
   · simp [vr]
   · exact h
 | .row l, x, h => by
   simp only [V.kill]
   split
   · simp [vr]
   · exact h
 | .sl l off len c, x, h => by
   simp only [V.kill]
   split
   · simp [vr]
   · exact h
 | .fn f a b, x, h => by
   simp only [vr, V.kill] at h ⊢
   obtain ⟨fs, cs, hx, h1, h2⟩ := h
   exact ⟨fs, cs, hx, vrL_kill p a fs h1, vrL_kill p b cs h2⟩
 | .yield l, x, h => by
   simp only [V.kill]
   split
   · simp [vr]
   · exact h
 | .map l, x, h => by
   simp only [V.kill]
   split
   · simp [vr]
   · exact h
 | .tuple vs, x, h => by
   simp only [vr, V.kill] at h ⊢
   obtain ⟨xs, hx, h1⟩ := h
   exact ⟨xs, hx, vrL_kill p vs xs h1⟩
 | .agg vs, x, h => by
   simp only [vr, V.kill] at h ⊢
   obtain ⟨xs, hx, h1, h2⟩ := h
   exact ⟨xs, hx, vrL_kill p vs xs h1, h2⟩
theorem vrL_kill (p : Nat → Bool) : ∀ (vs : List V) (xs : List Value), vrL w I ρ σ vs xs → vrL w I ρ σ (V.killL p vs) xs
 | [], _, h => by simpa [vrL, V.killL] using h
 | v :: vs, xs, h => by
   simp only [vrL, V.killL] at h ⊢
   obtain ⟨x, xs', hx, h1, h2⟩ := h
   exact ⟨x, xs', hx, vr_kill p v x h1, vrL_kill p vs xs' h2⟩
end
end up
mutual
theorem locs_kill (p : Nat → Bool) : ∀ (v : V) (l : Nat), l ∈ (v.kill p).locs → l ∈ v.locs ∧ p l = false
 | .d d, l, h => by simp [V.kill, V.locs] at h
 | .undef, l, h => by simp [V.kill, V.locs] at h
 | .nils, l, h => by simp [V.kill, V.locs] at h
 | .ex sz xs, l, h => by simp [V.kill, V.locs] at h
 | .ep sz y s, l, h => by simp [V.kill, V.locs] at h
 | .ptr k i s, l, h => by
   simp only [V.kill] at h
   split at h <;> simp_all [V.locs]
 | .row k, l, h => by
   simp only [V.kill] at h
   split at h <;> simp_all [V.locs]
 | .sl k _ _ _, l, h => by
   simp only [V.kill] at h
   split at h <;> simp_all [V.locs]
 | .yield k, l, h => by
   simp only [V.kill] at h
   split at h <;> simp_all [V.locs]
 | .map k, l, h => by
   simp only [V.kill] at h
   split at h <;> simp_all [V.locs]
 | .fn f a b, l, h => by
   simp only [V.kill, V.locs, List.mem_append] at h ⊢
   rcases h with h | h
   · exact ⟨.inl (locsL_kill p a l h).1, (locsL_kill p a l h).2⟩
   · exact ⟨.inr (locsL_kill p b l h).1, (locsL_kill p b l h).2⟩
 | .tuple vs, l, h => by
   simp only [V.kill, V.locs] at h ⊢
   exact locsL_kill p vs l h
 | .agg vs, l, h => by
   simp only [V.kill, V.locs] at h ⊢
   exact locsL_kill p vs l h
theorem locsL_kill (p : Nat → Bool) : ∀ (vs : List V) (l : Nat), l ∈ V.locsL (V.killL p vs) → l ∈ V.locsL vs ∧ p l = false
 | [], l, h => by simp [V.killL, V.locsL] at h
 | v :: vs, l, h => by
   simp only [V.killL, V.locsL, List.mem_append] at h ⊢
   rcases h with h | h
   · exact ⟨.inl (locs_kill p v l h).1, (locs_kill p v l h).2⟩
   · exact ⟨.inr (locsL_kill p vs l h).1, (locsL_kill p vs l h).2⟩
end
end Go.Br
namespace Go.Br
open Go
def frm (f : FuncId) (rb : Option Nat) (a : Act) (todo : List Item) : Frame :=
  { fn := f, tmps := a.tmps, todo, defers := a.defers, mode := .run, kind := .normal, roundOf := rb }
section steps
variable {P : Program} {f : FuncId} {rb : Option Nat} {a : Act} {k : List Item} {cs : List Frame} {w : World}
theorem st_skip : step P (lone (frm f rb a (.code .skip :: k)) cs w) = .next (lone (frm f rb a k) cs w) :=
 step_lone_go (by simp [stepG, stepG.exec, frm])
theorem st_label {l : Nat} : step P (lone (frm f rb a (.code (.label l) :: k)) cs w) = .next (lone (frm f rb a k) cs w) :=
 step_lone_go (by simp [stepG, stepG.exec, frm])
theorem st_inBlock {id : Nat} : step P (lone (frm f rb a (.inBlock id :: k)) cs w) = .next (lone (frm f rb a k) cs w) :=
 step_lone_go (by simp [stepG, stepG.exec, frm])
theorem st_inScope {c : Code} : step P (lone (frm f rb a (.inScope c :: k)) cs w) = .next (lone (frm f rb a k) cs w) :=
 step_lone_go (by simp [stepG, stepG.exec, frm])
theorem st_seq {x y : Code} : step P (lone (frm f rb a (.code (.seq x y) :: k)) cs w) = .next (lone (frm f rb a (.code x :: .code y :: k)) cs w) :=
 step_lone_go (by simp [stepG, stepG.exec, frm])
theorem Frm.eval (todo : List Item) : (frm f rb a todo).eval = a.eval := by
 funext x; cases x <;> rfl
theorem st_cond {c : Operand} {x y : Code} {t : Bool} (h : a.eval c = .bool t) :
  step P (lone (frm f rb a (.code (.cond c x y) :: k)) cs w) = .next (lone (frm f rb a (.code (if t then x else y) :: k)) cs w) :=
 step_lone_go (by
  have := congrFun (Frm.eval (f := f) (rb := rb) (a := a) (.code (.cond c x y) :: k)) c
  simp only [frm] at this
  simp [stepG, stepG.exec, frm, this, h])
theorem st_block {id : Nat} {c : Code} : step P (lone (frm f rb a (.code (.block id c) :: k)) cs w) = .next (lone (frm f rb a (.code c :: .inBlock id :: k)) cs w) :=
 step_lone_go (by simp [stepG, stepG.exec, frm])
theorem st_scope {c : Code} : step P (lone (frm f rb a (.code (.scope c) :: k)) cs w) = .next (lone (frm f rb a (.code c :: .inScope c :: k)) cs w) :=
 step_lone_go (by simp [stepG, stepG.exec, frm])
theorem st_loop {c : Code} : step P (lone (frm f rb a (.code (.loop c) :: k)) cs w) = .next (lone (frm f rb a (.code c :: .inLoop c :: k)) cs w) :=
 step_lone_go (by simp [stepG, stepG.exec, frm])
theorem st_inLoop {c : Code} : step P (lone (frm f rb a (.inLoop c :: k)) cs w) = .next (lone (frm f rb a (.code c :: .inLoop c :: k)) cs w) :=
 step_lone_go (by simp [stepG, stepG.exec, frm])
theorem st_exit {id : Nat} {k' : List Item} (h : exitTo id k = some k') : step P (lone (frm f rb a (.code (.exit id) :: k)) cs w) = .next (lone (frm f rb a k') cs w) :=
 step_lone_go (by simp [stepG, stepG.exec, frm, h])
theorem st_goto {l : Nat} {k' : List Item} (h : gotoIn l k = some k') : step P (lone (frm f rb a (.code (.goto l) :: k)) cs w) = .next (lone (frm f rb a k') cs w) :=
 step_lone_go (by simp [stepG, stepG.exec, frm, h])
theorem st_ret : step P (lone (frm f none a (.code .ret :: k)) cs w) = .next (lone { frm f none a (.code .ret :: k) with mode := .returning } cs w) :=
 step_lone_go (by simp [stepG, stepG.exec, frm])
theorem st_end : step P (lone (frm f none a []) cs w) = .next (lone { frm f none a [] with mode := .returning } cs w) :=
 step_lone_go (by simp [stepG, stepG.exec, frm])
theorem st_region {id : Nat} {ops : Array Oper} :
  step P (lone (frm f rb a (.code (.region id ops false) :: k)) cs w) = .next (lone (frm f rb a (.inRegion ops (List.range ops.size) :: k)) cs w) :=
 step_lone_go (by simp [stepG, stepG.exec, frm])
theorem st_region_draw {id : Nat} {ops : Array Oper} :
  step P (lone (frm f rb a (.code (.region id ops true) :: k)) cs w) =
   .next (lone (frm f rb a (.inRegion ops (Region.schedule (P.follows .mixedOrders) ops (w.tape w.drawn (.order f id))) :: k)) cs w.drew) :=
 step_lone_go (by simp [stepG, stepG.exec, frm, choose, Sem.run, Question.forced, Question.cut])
theorem st_region_end {ops : Array Oper} : step P (lone (frm f rb a (.inRegion ops [] :: k)) cs w) = .next (lone (frm f rb a k) cs w) :=
 step_lone_go (by simp [stepG, stepG.exec, frm])
theorem Frm.finish (ops : Array Oper) (i : Nat) (rest : List Nat) (v : Value) :
  (frm f rb a (.inRegion ops (i :: rest) :: k)).finish v = frm f rb (a.put ((ops[i]?).bind (·.dst)) v) (.inRegion ops rest :: k) := by
 cases h : (ops[i]?).bind (·.dst) <;> simp [Frame.finish, frm, Act.put, h]
theorem st_op_skip {ops : Array Oper} {i : Nat} {rest : List Nat} (h : ((ops[i]?).map (Region.wanted · (yielded ops a.tmps))).getD false = false) :
  step P (lone (frm f rb a (.inRegion ops (i :: rest) :: k)) cs w) = .next (lone (frm f rb (a.put ((ops[i]?).bind (·.dst)) undef) (.inRegion ops rest :: k)) cs w) := by
 rw [← Frm.finish]
 exact step_lone_go (by
  have h' := h
  simp only [frm] at *
  simp [stepG, stepG.exec, h'])
def Op.isDefer : Op → Bool
  | .defer _ => true
  | _ => false
theorem stepG_oper {ops : Array Oper} {i : Nat} {rest : List Nat} {o : Oper} (ho : ops[i]? = some o) (hw : Region.wanted o (yielded ops a.tmps) = true) (hd : Op.isDefer o.op = false) :
  stepG P true { frame := frm f rb a (.inRegion ops (i :: rest) :: k), callers := cs, status := .running, dying := none } w =
   stepG.apply P true (frm f rb a (.inRegion ops (i :: rest) :: k)) cs none (execOp a.eval o) w := by
 have he := Frm.eval (f := f) (rb := rb) (a := a) (.inRegion ops (i :: rest) :: k)
 simp only [frm] at he
 cases rb with
 | none => simp [stepG, stepG.exec, stepG.oper, Frame.oper?, frm, ho, hw, he]
 | some l => cases hop : o.op <;> simp_all [stepG, stepG.exec, stepG.oper, Frame.oper?, frm, Op.isDefer]
theorem st_op_value {ops : Array Oper} {i : Nat} {rest : List Nat} {o : Oper} (ho : ops[i]? = some o) (hw : Region.wanted o (yielded ops a.tmps) = true) (hd : Op.isDefer o.op = false) {v : Value} {w' : World}
  (hr : (execOp a.eval o).run P w = .ok (.value v) w') :
  step P (lone (frm f rb a (.inRegion ops (i :: rest) :: k)) cs w) = .next (lone (frm f rb (a.put o.dst v) (.inRegion ops rest :: k)) cs w') := by
 refine step_lone_go ?_
 have hfin := Frm.finish (f := f) (rb := rb) (a := a) (k := k) ops i rest v
 rw [ho] at hfin
 rw [stepG_oper ho hw hd]
 simp only [Option.bind_some] at hfin
 rw [← hfin]
 simp [stepG.apply, hr]
theorem st_op_unit {ops : Array Oper} {i : Nat} {rest : List Nat} {o : Oper} (ho : ops[i]? = some o) (hw : Region.wanted o (yielded ops a.tmps) = true) (hd : Op.isDefer o.op = false) {w' : World}
  (hr : (execOp a.eval o).run P w = .ok .skip w') :
  step P (lone (frm f rb a (.inRegion ops (i :: rest) :: k)) cs w) = .next (lone (frm f rb (a.put o.dst undef) (.inRegion ops rest :: k)) cs w') := by
 refine step_lone_go ?_
 have hfin := Frm.finish (f := f) (rb := rb) (a := a) (k := k) ops i rest undef
 rw [ho] at hfin
 rw [stepG_oper ho hw hd]
 simp only [Option.bind_some] at hfin
 rw [← hfin]
 simp [stepG.apply, hr]
theorem st_op_enter {ops : Array Oper} {i : Nat} {rest : List Nat} {o : Oper} (ho : ops[i]? = some o) (hw : Region.wanted o (yielded ops a.tmps) = true) (hd : Op.isDefer o.op = false) {g : FuncId} {args : Array Value} {w' : World}
  (hr : (execOp a.eval o).run P w = .ok (.enter g args) w') :
  step P (lone (frm f rb a (.inRegion ops (i :: rest) :: k)) cs w) = .next (lone (Frame.enter P g args .normal) (frm f rb a (.inRegion ops (i :: rest) :: k) :: cs) w') := by
 refine step_lone_go ?_
 rw [stepG_oper ho hw hd]
 simp [stepG.apply, hr, frm]
theorem st_op_round {ops : Array Oper} {i : Nat} {rest : List Nat} {o : Oper} (ho : ops[i]? = some o) (hw : Region.wanted o (yielded ops a.tmps) = true) (hd : Op.isDefer o.op = false) {l g : Nat} {tmps : Array Value} {asg body : Code} {w' : World}
  (hr : (execOp a.eval o).run P w = .ok (.round l g tmps asg body) w') :
  step P (lone (frm f rb a (.inRegion ops (i :: rest) :: k)) cs w) = .next (lone (frm g (some l) ⟨tmps, []⟩ [.code asg, .beginRound, .code body]) (frm f rb a (.inRegion ops (i :: rest) :: k) :: cs) w') := by
 refine step_lone_go ?_
 rw [stepG_oper ho hw hd]
 simp [stepG.apply, hr, frm, Frame.round]
end steps
def Lv (P : Program) (rb : Option Nat) (f : FuncId) (fr : Frame) (w : World) (e : Ending) (w' : World) : Prop :=
  match rb with
  | none => w' = w ∧ fr.fn = f ∧ fr.leaving P w e ∧ e ≠ .outgrown
  | some _ => ∀ c cs, ∃ c', step P (lone fr (c :: cs) w) = .next (lone c' cs w') ∧ (match e with | .returned v => c' = c.finish v | .panicked ch => c' = c.raise ch | .outgrown => False)
def RunsTo (P : Program) (f : FuncId) (rb : Option Nat) (todo : List Item) (a : Act) (w : World) (R : Ending → World → Prop) : Prop :=
  ∀ cs, ∃ e w1 w' fr, R e w' ∧ Steps P (lone (frm f rb a todo) cs w) (lone fr cs w1) ∧ Lv P rb f fr w1 e w'
section runs
variable {P : Program} {f : FuncId} {rb : Option Nat} {a a' : Act} {k k' : List Item} {w w' : World} {R R' : Ending → World → Prop}
theorem RunsTo.step (h : ∀ cs, step P (lone (frm f rb a k) cs w) = .next (lone (frm f rb a' k') cs w')) (hr : RunsTo P f rb k' a' w' R) : RunsTo P f rb k a w R := by
 intro cs
 obtain ⟨e, w1, w2, fr, h1, h2, h3⟩ := hr cs
 exact ⟨e, w1, w2, fr, h1, .head (h cs) h2, h3⟩
theorem RunsTo.mono (hr : RunsTo P f rb k a w R) (h : ∀ e w', R e w' → R' e w') : RunsTo P f rb k a w R' := by
 intro cs
 obtain ⟨e, w1, w2, fr, h1, h2, h3⟩ := hr cs
 exact ⟨e, w1, w2, fr, h _ _ h1, h2, h3⟩
theorem RunsTo.call {ops : Array Oper} {i : Nat} {rest : List Nat} {o : Oper} (ho : ops[i]? = some o) (hw : Region.wanted o (yielded ops a.tmps) = true) (hd : Op.isDefer o.op = false) {g : FuncId} {args : Array Value}
  (hr : (execOp a.eval o).run P w = .ok (.enter g args) w') {S : Value → World → Prop}
  (hc : Calls P g args w' fun e w'' => ∃ v, e = .returned v ∧ S v w'')
  (hk : ∀ v w'', S v w'' → RunsTo P f rb (.inRegion ops rest :: k) (a.put o.dst v) w'' R) : RunsTo P f rb (.inRegion ops (i :: rest) :: k) a w R := by
 intro cs
 obtain ⟨e, w1, fr, hR, hcomes, _, hleave⟩ := hc (frm f rb a (.inRegion ops (i :: rest) :: k) :: cs)
 obtain ⟨v, rfl, hS⟩ := hR
 obtain ⟨e2, w2, w3, fr2, h1, h2, h3⟩ := hk v w1 hS cs
 refine ⟨e2, w2, w3, fr2, h1, .head (st_op_enter ho hw hd hr) (hcomes.trans (.head ?_ h2)), h3⟩
 have hfin := Frm.finish (f := f) (rb := rb) (a := a) (k := k) ops i rest v
 rw [ho] at hfin
 simp only [Option.bind_some] at hfin
 rw [← hfin]
 exact step_leave_returned hleave
theorem RunsTo.round {ops : Array Oper} {i : Nat} {rest : List Nat} {o : Oper} (ho : ops[i]? = some o) (hw : Region.wanted o (yielded ops a.tmps) = true) (hd : Op.isDefer o.op = false) {l g : Nat} {tmps : Array Value} {asg body : Code}
  (hr : (execOp a.eval o).run P w = .ok (.round l g tmps asg body) w') {S : Value → World → Prop}
  (hc : RunsTo P g (some l) [.code asg, .beginRound, .code body] ⟨tmps, []⟩ w' fun e w'' => ∃ v, e = .returned v ∧ S v w'')
  (hk : ∀ v w'', S v w'' → RunsTo P f rb (.inRegion ops rest :: k) (a.put o.dst v) w'' R) : RunsTo P f rb (.inRegion ops (i :: rest) :: k) a w R := by
 intro cs
 obtain ⟨e, w1, w2, fr, hR, hst, hlv⟩ := hc (frm f rb a (.inRegion ops (i :: rest) :: k) :: cs)
 obtain ⟨v, rfl, hS⟩ := hR
 obtain ⟨e2, w3, w4, fr2, h1, h2, h3⟩ := hk v w2 hS cs
 obtain ⟨c', hc1, rfl⟩ := hlv (frm f rb a (.inRegion ops (i :: rest) :: k)) cs
 have hfin := Frm.finish (f := f) (rb := rb) (a := a) (k := k) ops i rest v
 rw [ho] at hfin
 simp only [Option.bind_some] at hfin
 rw [hfin] at hc1
 exact ⟨e2, w3, w4, fr2, h1, .head (st_op_round ho hw hd hr) (hst.trans (.head hc1 h2)), h3⟩
end runs
theorem calls_of_runs {P : Program} {g : FuncId} {fn : Func} {c : Code} {args : Array Value} {w : World} {R : Ending → World → Prop} (hf : P.funcs[g]? = some fn) (hb : fn.body = some c)
  (h : RunsTo P g none [.code c] ⟨args ++ Array.replicate (fn.ntmps - args.size) undef, []⟩ w R) : Calls P g args w R := by
 intro cs
 obtain ⟨e, w1, w2, fr, h1, h2, h3⟩ := h cs
 obtain ⟨rfl, h4, h5, h6⟩ := h3
 refine ⟨e, _, fr, h1, ?_, h4, h5⟩
 have henter : Frame.enter P g args .normal = frm g none ⟨args ++ Array.replicate (fn.ntmps - args.size) undef, []⟩ [.code c] := by
  simp [Frame.enter, frm, hf, hb]
 rw [henter]
 cases e with
 | returned v => exact h2
 | panicked ch => exact h2
 | outgrown => exact absurd rfl h6
inductive AE where
  | ret (v : V)
  | pan (v : V)
def erel (w : World) (I : Nat → Prop) (ρ : LM) (σ : Store) : AE → Ending → Prop
  | .ret v, e => ∃ x, e = .returned x ∧ vr w I ρ σ v x
  | .pan v, e => ∃ x, e = .panicked [{ v := x, recovered := false }] ∧ vr w I ρ σ v x
def Fin (n : Nat) (w : World) (I : Nat → Prop) (ρ : LM) (σ : Store) (Q : AE → Store → Prop) (e : Ending) (w' : World) : Prop :=
  ∃ I' ρ' σ' r, Q r σ' ∧ erel w' I' ρ' σ' r e ∧ ORel w' I' ρ' σ' ∧ Ext n w I ρ σ w' I' ρ' σ'
theorem Fin.trans {n : Nat} {w w1 w' : World} {I I1 : Nat → Prop} {ρ ρ1 : LM} {σ σ1 : Store} {Q : AE → Store → Prop} {e : Ending} (hx : Ext n w I ρ σ w1 I1 ρ1 σ1) (h : Fin n w1 I1 ρ1 σ1 Q e w') : Fin n w I ρ σ Q e w' := by
 obtain ⟨I', ρ', σ', r, h1, h2, h3, h4⟩ := h
 exact ⟨I', ρ', σ', r, h1, h2, h3, hx.trans h4⟩
def dfr (ρ : LM) (σ : Store) : List Nat → List Deferred → Prop
  | [], ds => ds = []
  | l :: ls, ds => ∃ L ds', ρ l = some L ∧ σ[l]? = some .defd ∧ ds = { target := .collected L.b, args := #[] } :: ds' ∧ dfr ρ σ ls ds'
def rbOf (ρ : LM) (σ : Store) : Option Nat → Option Nat → Prop
  | none, rb => rb = none
  | some l, rb => ∃ L o, ρ l = some L ∧ σ[l]? = some o ∧ (∃ a b c d e f g, o = .loop a b c d e f g) ∧ rb = some L.b
structure Rel (w : World) (I : Nat → Prop) (ρ : LM) (σ : Store) (tm : List V) (df : List Nat) (a : Act) : Prop where
  tms : vrL w I ρ σ tm a.tmps.toList
  ors : ORel w I ρ σ
  dfs : dfr ρ σ df a.defers
def AW (P : Program) (f : FuncId) (ro : Option Nat) (n : Nat) (todo : List Item) (tm : List V) (σ : Store) (df : List Nat) (Q : AE → Store → Prop) : Prop :=
  ∀ w I ρ a rb, Rel w I ρ σ tm df a → rbOf ρ σ ro rb → n ≤ σ.length → RunsTo P f rb todo a w (Fin n w I ρ σ Q)
section control
variable {P : Program} {f : FuncId} {ro : Option Nat} {n : Nat} {k : List Item} {tm : List V} {σ : Store} {df : List Nat} {Q : AE → Store → Prop}
theorem AW.same {k' : List Item} (hs : ∀ rb a cs w, step P (lone (frm f rb a k') cs w) = .next (lone (frm f rb a k) cs w)) (h : AW P f ro n k tm σ df Q) : AW P f ro n k' tm σ df Q :=
 fun w I ρ a rb hr hb hn => .step (hs rb a · w) (h w I ρ a rb hr hb hn)
theorem AW.skip (h : AW P f ro n k tm σ df Q) : AW P f ro n (.code .skip :: k) tm σ df Q := h.same fun _ _ _ _ => st_skip
theorem AW.label {l : Nat} (h : AW P f ro n k tm σ df Q) : AW P f ro n (.code (.label l) :: k) tm σ df Q := h.same fun _ _ _ _ => st_label
theorem AW.inBlock {id : Nat} (h : AW P f ro n k tm σ df Q) : AW P f ro n (.inBlock id :: k) tm σ df Q := h.same fun _ _ _ _ => st_inBlock
theorem AW.inScope {c : Code} (h : AW P f ro n k tm σ df Q) : AW P f ro n (.inScope c :: k) tm σ df Q := h.same fun _ _ _ _ => st_inScope
theorem AW.seq {x y : Code} (h : AW P f ro n (.code x :: .code y :: k) tm σ df Q) : AW P f ro n (.code (.seq x y) :: k) tm σ df Q := h.same fun _ _ _ _ => st_seq
theorem AW.block {id : Nat} {c : Code} (h : AW P f ro n (.code c :: .inBlock id :: k) tm σ df Q) : AW P f ro n (.code (.block id c) :: k) tm σ df Q := h.same fun _ _ _ _ => st_block
theorem AW.scope {c : Code} (h : AW P f ro n (.code c :: .inScope c :: k) tm σ df Q) : AW P f ro n (.code (.scope c) :: k) tm σ df Q := h.same fun _ _ _ _ => st_scope
theorem AW.loop {c : Code} (h : AW P f ro n (.code c :: .inLoop c :: k) tm σ df Q) : AW P f ro n (.code (.loop c) :: k) tm σ df Q := h.same fun _ _ _ _ => st_loop
theorem AW.inLoop {c : Code} (h : AW P f ro n (.code c :: .inLoop c :: k) tm σ df Q) : AW P f ro n (.inLoop c :: k) tm σ df Q := h.same fun _ _ _ _ => st_inLoop
theorem AW.exit {id : Nat} {k' : List Item} (he : exitTo id k = some k') (h : AW P f ro n k' tm σ df Q) : AW P f ro n (.code (.exit id) :: k) tm σ df Q := h.same fun _ _ _ _ => st_exit he
theorem AW.goto {l : Nat} {k' : List Item} (he : gotoIn l k = some k') (h : AW P f ro n k' tm σ df Q) : AW P f ro n (.code (.goto l) :: k) tm σ df Q := h.same fun _ _ _ _ => st_goto he
theorem AW.region {id : Nat} {ops : Array Oper} (h : AW P f ro n (.inRegion ops (List.range ops.size) :: k) tm σ df Q) : AW P f ro n (.code (.region id ops false) :: k) tm σ df Q := h.same fun _ _ _ _ => st_region
theorem AW.regionEnd {ops : Array Oper} (h : AW P f ro n k tm σ df Q) : AW P f ro n (.inRegion ops [] :: k) tm σ df Q := h.same fun _ _ _ _ => st_region_end
theorem AW.mono {Q' : AE → Store → Prop} (h : AW P f ro n k tm σ df Q) (hq : ∀ r σ', Q r σ' → Q' r σ') : AW P f ro n k tm σ df Q' :=
 fun w I ρ a rb hr hb hn => (h w I ρ a rb hr hb hn).mono fun _ _ ⟨I', ρ', σ', r, h1, h2⟩ => ⟨I', ρ', σ', r, hq _ _ h1, h2⟩
end control
def cst : Value → V
  | .int k n => .d (.int k n)
  | .bool b => .d (.bool b)
  | .string s => .d (.str s)
  | .slice none 0 0 => .nils
  | .pointer none => .d (.raw (.pointer none))
  | .nilIface => .d (.raw .nilIface)
  | .nilFunc => .d (.raw .nilFunc)
  | .map none => .d (.raw (.map none))
  | _ => .undef
def ev (tm : List V) : Operand → V
  | .tmp t => tm.getD t .undef
  | .const v => cst v
  | .global _ => .undef
  | .func f => .fn (.func f) [] []
section evs
variable {w : World} {I : Nat → Prop} {ρ : LM} {σ : Store}
theorem vrL_get : ∀ {tm : List V} {xs : List Value}, vrL w I ρ σ tm xs → ∀ i (d : Value), vr w I ρ σ (tm.getD i .undef) (xs.getD i d)
 | [], xs, h, i, d => by simp [vr]
 | v :: tm, xs, h, i, d => by
   simp only [vrL] at h
   obtain ⟨x, xs', rfl, h1, h2⟩ := h
   cases i with
   | zero => simpa using h1
   | succ i => simpa using vrL_get h2 i d
theorem vrL_len : ∀ {tm : List V} {xs : List Value}, vrL w I ρ σ tm xs → xs.length = tm.length
 | [], xs, h => by simp only [vrL] at h; simp [h]
 | v :: tm, xs, h => by
   simp only [vrL] at h
   obtain ⟨x, xs', rfl, h1, h2⟩ := h
   simp [vrL_len h2]
theorem vrL_set : ∀ {tm : List V} {xs : List Value}, vrL w I ρ σ tm xs → ∀ i {v : V} {x : Value}, vr w I ρ σ v x → vrL w I ρ σ (tm.set i v) (xs.set i x)
 | [], xs, h, i, v, x, _ => by simp only [vrL] at h; subst h; simp [vrL]
 | u :: tm, xs, h, i, v, x, hv => by
   simp only [vrL] at h
   obtain ⟨y, xs', rfl, h1, h2⟩ := h
   cases i with
   | zero => simp only [List.set_cons_zero, vrL]; exact ⟨x, xs', rfl, hv, h2⟩
   | succ i => simp only [List.set_cons_succ, vrL]; exact ⟨y, _, rfl, h1, vrL_set h2 i hv⟩
theorem vrL_append : ∀ {t1 t2 : List V} {x1 x2 : List Value}, vrL w I ρ σ t1 x1 → vrL w I ρ σ t2 x2 → vrL w I ρ σ (t1 ++ t2) (x1 ++ x2)
 | [], t2, x1, x2, h1, h2 => by simp only [vrL] at h1; subst h1; simpa using h2
 | u :: t1, t2, x1, x2, h1, h2 => by
   simp only [vrL] at h1
   obtain ⟨y, xs', rfl, h3, h4⟩ := h1
   simp only [List.cons_append, vrL]
   exact ⟨y, xs' ++ x2, rfl, h3, vrL_append h4 h2⟩
theorem vrL_undef (m : Nat) (x : Value) : vrL w I ρ σ (List.replicate m .undef) (List.replicate m x) := by
 induction m with
 | zero => simp [vrL]
 | succ m ih => simp only [List.replicate_succ, vrL]; exact ⟨x, _, rfl, by simp [vr], ih⟩
theorem vr_cst (v : Value) : vr w I ρ σ (cst v) v := by
 unfold cst
 split <;> simp [vr, Dr, one, Value.oneCell']
theorem vr_ev {tm : List V} {a : Act} (h : vrL w I ρ σ tm a.tmps.toList) (x : Operand) : vr w I ρ σ (ev tm x) (a.eval x) := by
 cases x with
 | tmp t =>
   have := vrL_get h t undef
   simpa [ev, Act.eval] using this
 | const v => exact vr_cst v
 | global g => simp [ev, vr]
 | func g => simp [ev, vr, Act.eval, vrL]
end evs
def put (tm : List V) (d : Option Tmp) (v : V) : List V := match d with | some t => tm.set t v | none => tm
theorem vrL_put {w : World} {I : Nat → Prop} {ρ : LM} {σ : Store} {tm : List V} {a : Act} (h : vrL w I ρ σ tm a.tmps.toList) (d : Option Tmp) {v : V} {x : Value} (hv : vr w I ρ σ v x) :
  vrL w I ρ σ (put tm d v) (a.put d x).tmps.toList := by
 cases d with
 | none => simpa [put, Act.put] using h
 | some t => simpa [put, Act.put] using vrL_set h t hv
theorem put_defers (a : Act) (d : Option Tmp) (x : Value) : (a.put d x).defers = a.defers := by cases d <;> rfl
section conds
variable {P : Program} {f : FuncId} {ro : Option Nat} {n : Nat} {k : List Item} {tm : List V} {σ : Store} {df : List Nat} {Q : AE → Store → Prop}
theorem AW.cond {c : Operand} {x y : Code} {b : Bool} (hc : ev tm c = .d (.bool b)) (h1 : b = true → AW P f ro n (.code x :: k) tm σ df Q) (h2 : b = false → AW P f ro n (.code y :: k) tm σ df Q) :
  AW P f ro n (.code (.cond c x y) :: k) tm σ df Q := by
 intro w I ρ a rb hr hb hn
 have hv := vr_ev hr.tms c
 rw [hc] at hv
 simp only [vr, Dr] at hv
 refine .step (fun cs => st_cond hv) ?_
 cases b with
 | true => exact h1 rfl w I ρ a rb hr hb hn
 | false => exact h2 rfl w I ρ a rb hr hb hn
end conds
end Go.Br
namespace Go.Br
open Go
def cellsV : V → Option (List V)
  | .d (.agg cs) => some (cs.map .d)
  | .agg vs => some vs
  | .undef | .tuple _ => none
  | v => some [v]
def datas : List V → Option (List D)
  | [] => some []
  | .d x :: vs => (datas vs).map (x :: ·)
  | _ => none
def datasX : List V → Option (List D)
  | [] => some []
  | .d x :: vs => (datasX vs).map (x :: ·)
  | .ex sz xs :: vs => (datasX vs).map (.list sz xs :: ·)
  | _ => none
def mkAgg (vs : List V) : V := match datas vs with | some ds => .d (.agg ds) | none => .agg vs
section rel
variable {w : World} {I : Nat → Prop} {ρ : LM} {σ : Store}
theorem DrL_vrL : ∀ (cs : List D) (xs : List Value), DrL w I cs xs → vrL w I ρ σ (cs.map .d) xs ∧ ∀ x ∈ xs, one x
 | [], xs, h => by simp only [DrL] at h; subst h; simp [vrL]
 | c :: cs, xs, h => by
   simp only [DrL] at h
   obtain ⟨v, vs', rfl, h1, h2, h3⟩ := h
   obtain ⟨h4, h5⟩ := DrL_vrL cs vs' h3
   refine ⟨?_, ?_⟩
   · simp only [List.map_cons, vrL, vr]; exact ⟨v, vs', rfl, h2, h4⟩
   · intro x hx
     rcases List.mem_cons.1 hx with rfl | hx
     · exact h1
     · exact h5 x hx
theorem vrL_DrL : ∀ {vs : List V} {ds : List D} {xs : List Value}, datas vs = some ds → vrL w I ρ σ vs xs → (∀ x ∈ xs, one x) → DrL w I ds xs
 | [], ds, xs, h, hr, _ => by
   simp only [datas, Option.some.injEq] at h; subst h
   simp only [vrL] at hr; subst hr; simp [DrL]
 | v :: vs, ds, xs, h, hr, ho => by
   simp only [vrL] at hr
   obtain ⟨x, xs', rfl, h1, h2⟩ := hr
   cases v <;> simp only [datas, Option.map_eq_some_iff, reduceCtorEq] at h
   obtain ⟨ds', h3, rfl⟩ := h
   simp only [DrL]
   exact ⟨x, xs', rfl, ho x (by simp), by simpa [vr] using h1, vrL_DrL h3 h2 fun y hy => ho y (by simp [hy])⟩
theorem vrL_DrLX : ∀ {vs : List V} {ds : List D} {xs : List Value}, datasX vs = some ds → vrL w I ρ σ vs xs → (∀ x ∈ xs, one x) → DrL w I ds xs
 | [], ds, xs, h, hr, _ => by
   simp only [datasX, Option.some.injEq] at h; subst h
   simp only [vrL] at hr; subst hr; simp [DrL]
 | v :: vs, ds, xs, h, hr, ho => by
   simp only [vrL] at hr
   obtain ⟨x, xs', rfl, h1, h2⟩ := hr
   cases v <;> simp only [datasX, Option.map_eq_some_iff, reduceCtorEq] at h
   · obtain ⟨ds', h3, rfl⟩ := h
     simp only [DrL]
     exact ⟨x, xs', rfl, ho x (by simp), by simpa [vr] using h1, vrL_DrLX h3 h2 fun y hy => ho y (by simp [hy])⟩
   · obtain ⟨ds', h3, rfl⟩ := h
     simp only [DrL]
     refine ⟨x, xs', rfl, ho x (by simp), ?_, vrL_DrLX h3 h2 fun y hy => ho y (by simp [hy])⟩
     simp only [vr] at h1
     obtain ⟨_, _, h1⟩ := h1
     exact h1
theorem cells_rel {v : V} {x : Value} {vs : List V} (h : cellsV v = some vs) (hv : vr w I ρ σ v x) : vrL w I ρ σ vs x.cells.toList ∧ ∀ c ∈ x.cells.toList, one c := by
 cases v with
 | d y =>
   cases y with
   | agg cs =>
     simp only [cellsV, Option.some.injEq] at h; subst h
     simp only [vr, Dr] at hv
     obtain ⟨xs, rfl, h1⟩ := hv
     simpa [Value.cells] using DrL_vrL cs xs h1
   | int k n => simp only [cellsV, Option.some.injEq] at h; subst h; simp only [vr, Dr] at hv; subst hv; simp [vrL, vr, Dr, Value.cells, one, Value.oneCell']
   | bool b => simp only [cellsV, Option.some.injEq] at h; subst h; simp only [vr, Dr] at hv; subst hv; simp [vrL, vr, Dr, Value.cells, one, Value.oneCell']
   | str s => simp only [cellsV, Option.some.injEq] at h; subst h; simp only [vr, Dr] at hv; subst hv; simp [vrL, vr, Dr, Value.cells, one, Value.oneCell']
   | raw y =>
     simp only [cellsV, Option.some.injEq] at h; subst h
     simp only [vr, Dr] at hv
     obtain ⟨rfl, hv⟩ := hv
     cases x <;> simp_all [vrL, vr, Dr, Value.cells, one, Value.oneCell']
   | list sz xs =>
     simp only [cellsV, Option.some.injEq] at h; subst h
     have hv' := hv
     simp only [vr, Dr] at hv
     obtain ⟨a, cap, rfl, _⟩ := hv
     simp [vrL, Value.cells, one, Value.oneCell', hv']
 | agg vs' =>
   simp only [cellsV, Option.some.injEq] at h; subst h
   simp only [vr] at hv
   obtain ⟨xs, rfl, h1, h2⟩ := hv
   simpa [Value.cells] using ⟨h1, h2⟩
 | undef => simp [cellsV] at h
 | tuple _ => simp [cellsV] at h
 | nils => simp only [cellsV, Option.some.injEq] at h; subst h; simp only [vr] at hv; subst hv; simp [vrL, vr, Value.cells, one, Value.oneCell']
 | ex sz xs =>
   simp only [cellsV, Option.some.injEq] at h; subst h
   have hv' := hv
   simp only [vr] at hv
   obtain ⟨a, rfl, _⟩ := hv
   simp [vrL, Value.cells, one, Value.oneCell', hv']
 | ptr l i s => simp only [cellsV, Option.some.injEq] at h; subst h; have hv' := hv; simp only [vr] at hv; cases x <;> simp_all [vrL, Value.cells, one, Value.oneCell']
 | row l => simp only [cellsV, Option.some.injEq] at h; subst h; have hv' := hv; simp only [vr] at hv; cases x <;> simp_all [vrL, Value.cells, one, Value.oneCell']
 | sl l a b => simp only [cellsV, Option.some.injEq] at h; subst h; have hv' := hv; simp only [vr] at hv; cases x <;> simp_all [vrL, Value.cells, one, Value.oneCell']
 | yield l => simp only [cellsV, Option.some.injEq] at h; subst h; have hv' := hv; simp only [vr] at hv; cases x <;> simp_all [vrL, Value.cells, one, Value.oneCell']
 | map l => simp only [cellsV, Option.some.injEq] at h; subst h; have hv' := hv; simp only [vr] at hv; cases x <;> simp_all [vrL, Value.cells, one, Value.oneCell']
 | fn f a b =>
   simp only [cellsV, Option.some.injEq] at h; subst h
   have hv' := hv
   simp only [vr] at hv
   obtain ⟨fs, cs, rfl, _⟩ := hv
   simp [vrL, Value.cells, one, Value.oneCell', hv']
 | ep sz y s =>
   simp only [cellsV, Option.some.injEq] at h; subst h
   have hv' := hv
   simp only [vr] at hv
   obtain ⟨b, o, rfl, _⟩ := hv
   simp [vrL, Value.cells, one, Value.oneCell', hv']
theorem mkAgg_rel {vs : List V} {xs : List Value} (h : vrL w I ρ σ vs xs) (ho : ∀ x ∈ xs, one x) : vr w I ρ σ (mkAgg vs) (.agg xs.toArray) := by
 unfold mkAgg
 split
 · rename_i ds hd
   simp only [vr, Dr]
   exact ⟨xs, rfl, vrL_DrL hd h ho⟩
 · simp only [vr]
   exact ⟨xs, rfl, h, ho⟩
theorem vrL_drop : ∀ {tm : List V} {xs : List Value}, vrL w I ρ σ tm xs → ∀ n, vrL w I ρ σ (tm.drop n) (xs.drop n)
 | [], xs, h, n => by simp only [vrL] at h; subst h; simp [vrL]
 | v :: tm, xs, h, n => by
   have h' := h
   simp only [vrL] at h
   obtain ⟨x, xs', rfl, h1, h2⟩ := h
   cases n with
   | zero => simpa using h'
   | succ n => simpa using vrL_drop h2 n
theorem vrL_take : ∀ {tm : List V} {xs : List Value}, vrL w I ρ σ tm xs → ∀ n, vrL w I ρ σ (tm.take n) (xs.take n)
 | [], xs, h, n => by simp only [vrL] at h; subst h; simp [vrL]
 | v :: tm, xs, h, n => by
   simp only [vrL] at h
   obtain ⟨x, xs', rfl, h1, h2⟩ := h
   cases n with
   | zero => simp [vrL]
   | succ n => simp only [List.take_succ_cons, vrL]; exact ⟨x, _, rfl, h1, vrL_take h2 n⟩
theorem vrL_get? : ∀ {tm : List V} {xs : List Value}, vrL w I ρ σ tm xs → ∀ {i : Nat} {v : V}, tm[i]? = some v → ∃ x, xs[i]? = some x ∧ vr w I ρ σ v x
 | [], xs, h, i, v, hi => by simp at hi
 | u :: tm, xs, h, i, v, hi => by
   simp only [vrL] at h
   obtain ⟨x, xs', rfl, h1, h2⟩ := h
   cases i with
   | zero => simp only [List.getElem?_cons_zero, Option.some.injEq] at hi; subst hi; exact ⟨x, by simp, h1⟩
   | succ i => simp only [List.getElem?_cons_succ] at hi ⊢; exact vrL_get? h2 hi
end rel
def aggOf (P : Program) (t : TypeId) : Option (Option Nat) :=
  match P.underlying t with
  | some (.struct _) | some (.array _ _) => (P.info? t).map fun i => some i.size
  | some _ => some none
  | none => none
def partV (P : Program) (t : TypeId) (cs : List V) (off : Nat) : Option V :=
  match aggOf P t with
  | some (some n) => if off + n ≤ cs.length then some (mkAgg ((cs.drop off).take n)) else none
  | some none => cs[off]?
  | none => none
theorem isAgg_run {P : Program} {t : TypeId} {b : Option Nat} (h : aggOf P t = some b) (w : World) : (isAgg t).run P w = .ok b.isSome w := by
 unfold aggOf at h
 cases hu : P.underlying t with
 | none => simp [hu] at h
 | some d =>
   simp only [hu] at h
   unfold isAgg
   rw [Sem.run_bind, run_underlying hu w]
   cases d <;> simp_all <;> (try (subst h; simp)) <;> (obtain ⟨i, _, rfl⟩ := h; simp)
theorem aggOf_size {P : Program} {t : TypeId} {n : Nat} (h : aggOf P t = some (some n)) : ∃ i, P.info? t = some i ∧ i.size = n := by
 unfold aggOf at h
 split at h <;> simp_all
section ops
variable {P : Program} {w : World} {I : Nat → Prop} {ρ : LM} {σ : Store}
theorem part_rel {t : TypeId} {cs : List V} {xs : Array Value} {off : Nat} {v : V} (h : partV P t cs off = some v) (hr : vrL w I ρ σ cs xs.toList) (ho : ∀ x ∈ xs.toList, one x) :
    ∃ x, (part t xs off).run P w = .ok x w ∧ vr w I ρ σ v x := by
  unfold partV at h
  cases ha : aggOf P t with
  | none => simp [ha] at h
  | some b =>
    cases b with
    | some n =>
      simp only [ha, Option.ite_none_right_eq_some, Option.some.injEq] at h
      obtain ⟨_, h⟩ := h
      obtain ⟨i, hi, hn⟩ := aggOf_size ha
      refine ⟨.agg (xs.extract off (off + n)), ?_, ?_⟩
      · simp [part, isAgg_run ha, sizeOf, typeInfo, hi, hn]
      · subst h
        have hl := vrL_take (vrL_drop hr off) n
        have : xs.extract off (off + n) = ((xs.toList.drop off).take n).toArray := by
          apply Array.ext'
          simp [Array.toList_extract, List.extract_eq_take_drop]
        rw [this]
        exact mkAgg_rel hl fun x hx => ho x (List.mem_of_mem_drop (List.mem_of_mem_take hx))
    | none =>
      simp only [ha] at h
      obtain ⟨x, hx, hv⟩ := vrL_get? hr h
      refine ⟨x, ?_, hv⟩
      have hx' : xs[off]? = some x := by simpa using hx
      simp [part, isAgg_run ha, hx']
def intBin (op : BinOp) (k : IntKind) (a b : Int) : Option D :=
  match op with
  | .add => some (.int k (k.wrap (a + b)))
  | .sub => some (.int k (k.wrap (a - b)))
  | .mul => some (.int k (k.wrap (a * b)))
  | .quo => if b = 0 then none else some (.int k (k.wrap (a.tdiv b)))
  | .rem => if b = 0 then none else some (.int k (a.tmod b))
  | .and => some (.int k (k.wrap (BitVec.ofInt k.bits a &&& BitVec.ofInt k.bits b).toNat))
  | .or => some (.int k (k.wrap (BitVec.ofInt k.bits a ||| BitVec.ofInt k.bits b).toNat))
  | .xor => some (.int k (k.wrap (BitVec.ofInt k.bits a ^^^ BitVec.ofInt k.bits b).toNat))
  | .andNot => some (.int k (k.wrap (BitVec.ofInt k.bits a &&& ~~~(BitVec.ofInt k.bits b)).toNat))
  | .eql => some (.bool (a == b))
  | .neq => some (.bool (a != b))
  | .lss => some (.bool (decide (a < b)))
  | .leq => some (.bool (decide (a ≤ b)))
  | .gtr => some (.bool (decide (a > b)))
  | .geq => some (.bool (decide (a ≥ b)))
  | _ => none
theorem intBin_ok {op : BinOp} {k : IntKind} {a b : Int} {r : D} (h : intBin op k a b = some r) (t : TypeId) : ∃ x, (binOp op t (.int k a) (.int k b)).run P w = .ok x w ∧ Dr w I r x := by
 cases op
 case quo => simp only [intBin, Option.ite_none_left_eq_some, Option.some.injEq] at h; obtain ⟨hb, rfl⟩ := h; simp [binOp, Op.intDiv, Dr, hb]
 case rem => simp only [intBin, Option.ite_none_left_eq_some, Option.some.injEq] at h; obtain ⟨hb, rfl⟩ := h; simp [binOp, Op.intDiv, Dr, hb]
 all_goals simp only [intBin, reduceCtorEq, Option.some.injEq] at h
 all_goals
  subst h
  simp [binOp, Op.intArith, Op.intBits, Op.intCmp, Dr]
def intShift (op : BinOp) (k : IntKind) (a b : Int) : Option D :=
  match op with
  | .shl => if b < 0 then none else some (.int k (k.wrap (a * 2 ^ min b.toNat k.bits)))
  | .shr => if b < 0 then none else some (.int k (a.fdiv (2 ^ min b.toNat k.bits)))
  | _ => none
theorem intShift_ok {op : BinOp} {k k' : IntKind} {a b : Int} {r : D} (h : intShift op k a b = some r) (t : TypeId) : ∃ x, (binOp op t (.int k a) (.int k' b)).run P w = .ok x w ∧ Dr w I r x := by
 cases op <;> simp only [intShift, reduceCtorEq, Option.ite_none_left_eq_some, Option.some.injEq] at h <;> obtain ⟨hb, rfl⟩ := h <;>
  simp [binOp, Op.shift, hb, Dr]
def strBin (op : BinOp) (a b : ByteArray) : Option D :=
  match op with
  | .eql => some (.bool (a.toList == b.toList))
  | .neq => some (.bool (!(a.toList == b.toList)))
  | .lss => some (.bool (Op.bytesLess a.toList b.toList))
  | .leq => some (.bool (Op.bytesLess a.toList b.toList || (a.toList == b.toList)))
  | .gtr => some (.bool (!(Op.bytesLess a.toList b.toList || (a.toList == b.toList))))
  | .geq => some (.bool (!(Op.bytesLess a.toList b.toList)))
  | _ => none
theorem strBin_ok {op : BinOp} {a b : ByteArray} {r : D} (h : strBin op a b = some r) (t : TypeId) : ∃ x, (binOp op t (.string a) (.string b)).run P w = .ok x w ∧ Dr w I r x := by
 cases op <;> simp only [strBin, reduceCtorEq, Option.some.injEq] at h <;> subst h <;> simp [binOp, Op.stringOp, Dr]
def binV (P : Program) (op : BinOp) (t : TypeId) (x y : V) : Option V :=
  match x, y with
  | .d (.int k a), .d (.int k' b) => if k = k' then (match intBin op k a b with | some r => some (.d r) | none => (intShift op k a b).map .d) else (intShift op k a b).map .d
  | .d (.str a), .d (.str b) => (strBin op a b).map .d
  | .d (.bool a), .d (.bool b) => match op, P.underlying t with
    | .eql, some .bool => some (.d (.bool (a == b)))
    | .neq, some .bool => some (.d (.bool (!(a == b))))
    | _, _ => none
  | _, _ => none
theorem binV_ok {op : BinOp} {t ty : TypeId} {x y : Operand} {e : Operand → Value} {o : Oper} {vx vy v : V} (ho : o.op = .binOp op t x y ty) (h : binV P op t vx vy = some v)
    (hx : vr w I ρ σ vx (e x)) (hy : vr w I ρ σ vy (e y)) : ∃ z, (execOp e o).run P w = .ok (.value z) w ∧ vr w I ρ σ v z := by
  have key : ∀ a b, e x = a → e y = b → (∀ z, a ≠ .nilIface ∧ a ≠ .agg z) → (∃ z, (binOp op t a b).run P w = .ok z w ∧ vr w I ρ σ v z) → ∃ z, (execOp e o).run P w = .ok (.value z) w ∧ vr w I ρ σ v z := by
    intro a b ha hb hn ⟨z, h1, h2⟩
    refine ⟨z, ?_, h2⟩
    have hg : (eqGuard op t x y a b).run P w = .ok () w := by
      unfold eqGuard
      have hn1 := fun z => (hn z).1
      have hn2 := fun z => (hn z).2
      cases a <;> simp_all <;> split <;> simp_all
    simp [execOp, ho, ha, hb, hg, h1]
  unfold binV at h
  split at h
  · simp only [vr, Dr] at hx hy
    refine key _ _ hx hy (by simp) ?_
    split at h
    · rename_i hk; subst hk
      split at h
      · rename_i r hr
        obtain ⟨z, h1, h2⟩ := intBin_ok (P := P) (w := w) (I := I) hr t
        cases h
        exact ⟨z, h1, by simpa [vr] using h2⟩
      · simp only [Option.map_eq_some_iff] at h
        obtain ⟨r, hr, rfl⟩ := h
        obtain ⟨z, h1, h2⟩ := intShift_ok (P := P) (w := w) (I := I) hr t
        exact ⟨z, h1, by simpa [vr] using h2⟩
    · simp only [Option.map_eq_some_iff] at h
      obtain ⟨r, hr, rfl⟩ := h
      obtain ⟨z, h1, h2⟩ := intShift_ok (P := P) (w := w) (I := I) hr t
      exact ⟨z, h1, by simpa [vr] using h2⟩
  · simp only [vr, Dr] at hx hy
    refine key _ _ hx hy (by simp) ?_
    simp only [Option.map_eq_some_iff] at h
    obtain ⟨r, hr, rfl⟩ := h
    obtain ⟨z, h1, h2⟩ := strBin_ok (P := P) (w := w) (I := I) hr t
    exact ⟨z, h1, by simpa [vr] using h2⟩
  · simp only [vr, Dr] at hx hy
    refine key _ _ hx hy (by simp) ?_
    split at h
    · rename_i hu
      cases h
      exact ⟨_, run_eql_bool w t _ _ hu, by simp [vr, Dr]⟩
    · rename_i hu
      cases h
      exact ⟨_, run_neq_bool w t _ _ hu, by simp [vr, Dr]⟩
    · cases h
  · cases h
end ops
end Go.Br
namespace Go.Br
open Go
def liveB (σ : Store) (l : Nat) : Bool := match σ[l]? with | some .dead => false | some _ => true | none => false
theorem live_of {σ : Store} {l : Nat} (h : liveB σ l = true) : live σ l := by
 unfold liveB at h
 cases hs : σ[l]? with
 | none => simp [hs] at h
 | some o => cases o <;> simp_all [live]
def nilOf (σ : Store) : V → Option Bool
  | .d (.raw (.pointer none)) => some true
  | .ptr l _ _ => if liveB σ l then some false else none
  | .ep _ _ _ => some false
  | _ => none
section ops
variable {P : Program} {w : World} {I : Nat → Prop} {ρ : LM} {σ : Store}
theorem nilOf_rel {v : V} {x : Value} {b : Bool} (h : nilOf σ v = some b) (hv : vr w I ρ σ v x) : (b = true ∧ x = .pointer none) ∨ (b = false ∧ ∃ a, x = .pointer (some a)) := by
 unfold nilOf at h
 split at h
 · cases h; simp only [vr, Dr] at hv; exact .inl ⟨rfl, hv.1⟩
 · split at h
   · rename_i hl
     cases h
     simp only [vr] at hv
     obtain ⟨L, _, hx⟩ := hv.2.2 (live_of hl)
     exact .inr ⟨rfl, _, hx⟩
   · cases h
 · cases h
   simp only [vr] at hv
   obtain ⟨b, o, hx, _⟩ := hv
   exact .inr ⟨rfl, _, hx⟩
 · cases h
def isPtrT (P : Program) (t : TypeId) : Bool := match P.underlying t with | some (.pointer _) => true | _ => false
def eqRes (op : BinOp) (r : Bool) : Option V := match op with | .eql => some (.d (.bool r)) | .neq => some (.d (.bool (!r))) | _ => none
def ptrBin (P : Program) (σ : Store) (op : BinOp) (t : TypeId) (x y : V) : Option V :=
  if isPtrT P t then
    match nilOf σ x, nilOf σ y with
    | some true, some b => eqRes op b
    | some false, some true => eqRes op false
    | _, _ => none
  else none
theorem run_eq_ptr1 (d : Nat) {t el : TypeId} (hu : P.underlying t = some (.pointer el)) (b : Option Addr) : (Op.equalIn (d + 1) t (.pointer none) (.pointer b)).run P w = .ok b.isNone w := by
 simp [Op.equalIn, run_underlying hu]
theorem run_eq_ptr2 (d : Nat) {t el : TypeId} (hu : P.underlying t = some (.pointer el)) (a : Addr) : (Op.equalIn (d + 1) t (.pointer (some a)) (.pointer none)).run P w = .ok false w := by
 simp [Op.equalIn, run_underlying hu]
theorem run_bin_ptr {t el : TypeId} (hu : P.underlying t = some (.pointer el)) (a b : Option Addr) (r : Bool) (h : a = none ∧ r = b.isNone ∨ a ≠ none ∧ b = none ∧ r = false) :
  (binOp .eql t (.pointer a) (.pointer b)).run P w = .ok (.bool r) w ∧ (binOp .neq t (.pointer a) (.pointer b)).run P w = .ok (.bool (!r)) w := by
 have key : (Op.equal t (.pointer a) (.pointer b)).run P w = .ok r w := by
  show (Op.equalIn (9999 + 1) t (.pointer a) (.pointer b)).run P w = _
  rcases h with ⟨rfl, rfl⟩ | ⟨h1, rfl, rfl⟩
  · exact run_eq_ptr1 9999 hu b
  · cases a with
    | none => exact absurd rfl h1
    | some a => exact run_eq_ptr2 9999 hu a
 constructor <;> simp [binOp, key]
theorem ptrBin_ok {op : BinOp} {t ty : TypeId} {x y : Operand} {e : Operand → Value} {o : Oper} {vx vy v : V} (ho : o.op = .binOp op t x y ty) (h : ptrBin P σ op t vx vy = some v)
    (hx : vr w I ρ σ vx (e x)) (hy : vr w I ρ σ vy (e y)) : ∃ z, (execOp e o).run P w = .ok (.value z) w ∧ vr w I ρ σ v z := by
  unfold ptrBin at h
  split at h
  · rename_i hp
    have hu : ∃ el, P.underlying t = some (.pointer el) := by
      unfold isPtrT at hp
      split at hp
      · rename_i el hu; exact ⟨el, hu⟩
      · cases hp
    obtain ⟨el, hu⟩ := hu
    have key : ∀ (a b : Option Addr) (r : Bool), e x = .pointer a → e y = .pointer b → (a = none ∧ r = b.isNone ∨ a ≠ none ∧ b = none ∧ r = false) →
        eqRes op r = some v → ∃ z, (execOp e o).run P w = .ok (.value z) w ∧ vr w I ρ σ v z := by
      intro a b r ha hb hr hv
      obtain ⟨h1, h2⟩ := run_bin_ptr (w := w) hu a b r hr
      cases op <;> simp only [eqRes, reduceCtorEq, Option.some.injEq] at hv <;> subst hv
      · exact ⟨.bool r, by simp [execOp, ho, eqGuard, ha, hb, h1], by simp [vr, Dr]⟩
      · exact ⟨.bool (!r), by simp [execOp, ho, eqGuard, ha, hb, h2], by simp [vr, Dr]⟩
    split at h
    · rename_i b h1 h2
      rcases nilOf_rel h1 hx with ⟨_, hx'⟩ | ⟨hc, _⟩
      · rcases nilOf_rel h2 hy with ⟨hb, hy'⟩ | ⟨hb, a, hy'⟩ <;> subst hb
        · exact key none none true hx' hy' (.inl ⟨rfl, rfl⟩) h
        · exact key none (some a) false hx' hy' (.inl ⟨rfl, rfl⟩) h
      · cases hc
    · rename_i h1 h2
      rcases nilOf_rel h1 hx with ⟨hc, _⟩ | ⟨_, a, hx'⟩
      · cases hc
      · rcases nilOf_rel h2 hy with ⟨_, hy'⟩ | ⟨hb, _⟩
        · exact key (some a) none false hx' hy' (.inr ⟨by simp, rfl, rfl⟩) h
        · cases hb
    · cases h
  · cases h
def unV (op : UnOp) : V → Option V
  | .d (.int k n) => match op with
    | .neg => some (.d (.int k (k.wrap (0 - n))))
    | .xor => some (.d (.int k (k.wrap (BitVec.ofInt k.bits (if k.signed then -1 else k.max) ^^^ BitVec.ofInt k.bits n).toNat)))
    | _ => none
  | .d (.bool b) => match op with | .not => some (.d (.bool (!b))) | _ => none
  | _ => none
theorem unV_ok {op : UnOp} {t : TypeId} {x : Operand} {e : Operand → Value} {o : Oper} {vx v : V} (ho : o.op = .unOp op t x) (h : unV op vx = some v) (hx : vr w I ρ σ vx (e x)) :
   ∃ z, (execOp e o).run P w = .ok (.value z) w ∧ vr w I ρ σ v z := by
 unfold unV at h
 split at h
 · simp only [vr, Dr] at hx
   cases op <;> simp only [reduceCtorEq, Option.some.injEq] at h <;> subst h <;> simp [execOp, ho, hx, Op.unary, Op.intArith, Op.intBits, vr, Dr]
 · simp only [vr, Dr] at hx
   cases op <;> simp only [reduceCtorEq, Option.some.injEq] at h <;> subst h <;> simp [execOp, ho, hx, Op.unary, vr, Dr]
 · cases h
def intT (P : Program) (t : TypeId) : Option IntKind := match P.underlying t with | some (.int k) => some k | _ => none
theorem intT_und {t : TypeId} {k : IntKind} (h : intT P t = some k) : P.underlying t = some (.int k) := by
 unfold intT at h
 split at h
 · cases h; assumption
 · cases h
def convV (P : Program) (s t : TypeId) : V → Option V
  | .d (.int _ n) => match intT P s, intT P t with | some _, some k => some (.d (.int k (k.wrap n))) | _, _ => none
  | _ => none
theorem convV_ok {s t : TypeId} {x : Operand} {e : Operand → Value} {o : Oper} {vx v : V} (ho : o.op = .convert s t x) (h : convV P s t vx = some v) (hx : vr w I ρ σ vx (e x)) :
   ∃ z, (execOp e o).run P w = .ok (.value z) w ∧ vr w I ρ σ v z := by
 unfold convV at h
 split at h
 · simp only [vr, Dr] at hx
   split at h
   · rename_i k1 k2 h1 h2
     cases h
     simp [execOp, ho, hx, convert, run_underlying (intT_und h1), run_underlying (intT_und h2), Conv.intToInt, vr, Dr]
   · cases h
 · cases h
def pickV : V → V → V → Option V
  | .d (.bool true), a, _ => some a
  | .d (.bool false), _, b => some b
  | _, _, _ => none
theorem pickV_ok {c x y : Operand} {e : Operand → Value} {o : Oper} {vc vx vy v : V} (ho : o.op = .pick c x y) (h : pickV vc vx vy = some v) (hc : vr w I ρ σ vc (e c)) (hx : vr w I ρ σ vx (e x)) (hy : vr w I ρ σ vy (e y)) :
   ∃ z, (execOp e o).run P w = .ok (.value z) w ∧ vr w I ρ σ v z := by
 unfold pickV at h
 split at h
 · cases h; simp only [vr, Dr] at hc; exact ⟨_, by simp [execOp, ho, hc, asBool], hx⟩
 · cases h; simp only [vr, Dr] at hc; exact ⟨_, by simp [execOp, ho, hc, asBool], hy⟩
 · cases h
def extV (i : Nat) : V → Option V
  | .tuple vs => vs[i]?
  | _ => none
theorem extV_ok {i : Nat} {x : Operand} {e : Operand → Value} {o : Oper} {vx v : V} (ho : o.op = .extract x i) (h : extV i vx = some v) (hx : vr w I ρ σ vx (e x)) :
   ∃ z, (execOp e o).run P w = .ok (.value z) w ∧ vr w I ρ σ v z := by
 unfold extV at h
 split at h
 · simp only [vr] at hx
   obtain ⟨xs, he, hl⟩ := hx
   obtain ⟨z, h1, h2⟩ := vrL_get? hl h
   exact ⟨z, by simp [execOp, ho, he, Instr.extract, h1], h2⟩
 · cases h
def nilV (σ : Store) : V → Option V
  | .ptr l i s => if liveB σ l then some (.ptr l i s) else none
  | .ep sz x s => some (.ep sz x s)
  | .fn (.func f) a b => some (.fn (.func f) a b)
  | .yield l => if liveB σ l then some (.yield l) else none
  | _ => none
theorem nilV_ok {x : Operand} {e : Operand → Value} {o : Oper} {vx v : V} (ho : o.op = .nilCheck x) (h : nilV σ vx = some v) (hx : vr w I ρ σ vx (e x)) :
   ∃ z, (execOp e o).run P w = .ok (.value z) w ∧ vr w I ρ σ v z := by
 unfold nilV at h
 split at h
 · split at h
   · rename_i hl
     cases h
     have hx' := hx
     simp only [vr] at hx
     obtain ⟨L, _, he⟩ := hx.2.2 (live_of hl)
     exact ⟨e x, by simp [execOp, ho, he], hx'⟩
   · cases h
 · cases h
   have hx' := hx
   simp only [vr] at hx
   obtain ⟨b, q, he, _⟩ := hx
   exact ⟨e x, by simp [execOp, ho, he], hx'⟩
 · cases h
   have hx' := hx
   simp only [vr] at hx
   obtain ⟨fs, cs, he, _⟩ := hx
   exact ⟨e x, by simp [execOp, ho, he], hx'⟩
 · split at h
   · rename_i hl
     cases h
     have hx' := hx
     simp only [vr] at hx
     obtain ⟨L, _, he⟩ := hx.2.2 (live_of hl)
     exact ⟨e x, by simp [execOp, ho, he], hx'⟩
   · cases h
 · cases h
def fieldOf (P : Program) (t : TypeId) (f : Nat) : Option (Nat × TypeId) :=
  match P.underlying t with
  | some (.struct fs) => match fs[f]? with
    | some g => match P.info? g.type with
      | some i => if i.size = 0 then none else some (g.offset, g.type)
      | none => none
    | none => none
  | _ => none
theorem fieldOf_spec {t : TypeId} {f : Nat} {p : Nat × TypeId} (h : fieldOf P t f = some p) : ∃ fs g i, P.underlying t = some (.struct fs) ∧ fs[f]? = some g ∧ P.info? g.type = some i ∧ i.size ≠ 0 ∧ p = (g.offset, g.type) := by
  unfold fieldOf at h
  split at h
  · split at h
    · split at h
      · split at h
        · cases h
        · cases h; exact ⟨_, _, _, by assumption, by assumption, by assumption, by assumption, rfl⟩
      · cases h
    · cases h
  · cases h
theorem addr_add (b o n : Nat) : (⟨b, o, none⟩ : Addr).add n = ⟨b, o + n, none⟩ := by
 unfold Addr.add; split <;> simp_all
def faV (P : Program) (t : TypeId) (f : Nat) : V → Option V
  | .ptr l i s => (fieldOf P t f).map fun p => .ptr l i (s + p.1)
  | .ep sz x s => (fieldOf P t f).map fun p => .ep sz x (s + p.1)
  | _ => none
theorem faV_ok {t : TypeId} {f : Nat} {x : Operand} {e : Operand → Value} {o : Oper} {vx v : V} (ho : o.op = .fieldAddr t x f) (h : faV P t f vx = some v) (hn : nilOf σ vx = some false) (hx : vr w I ρ σ vx (e x)) :
   ∃ z, (execOp e o).run P w = .ok (.value z) w ∧ vr w I ρ σ v z := by
 unfold faV at h
 split at h
 · simp only [Option.map_eq_some_iff] at h
   obtain ⟨p, hp, rfl⟩ := h
   obtain ⟨fs, g, i, h1, h2, h3, h4, rfl⟩ := fieldOf_spec hp
   rename_i l i0 s
   have hl : liveB σ l = true := by
     simp only [nilOf] at hn; split at hn <;> simp_all
   simp only [vr] at hx
   obtain ⟨L, hL, he⟩ := hx.2.2 (live_of hl)
   refine ⟨.pointer (some ⟨L.b, L.o + i0 * L.sz + s + g.offset, none⟩), ?_, ?_⟩
   · simp [execOp, ho, he, Instr.fieldAt, run_underlying h1, h2, Instr.sureAddr, fieldPlace, sizeOf, typeInfo, h3, h4, addr_add]
   · simp only [vr]
     exact ⟨rfl, hx.2.1, fun _ => ⟨L, hL, by simp [Nat.add_assoc]⟩⟩
 · simp only [Option.map_eq_some_iff] at h
   obtain ⟨p, hp, rfl⟩ := h
   obtain ⟨fs, g, i, h1, h2, h3, h4, rfl⟩ := fieldOf_spec hp
   rename_i sz y s
   simp only [vr] at hx
   obtain ⟨b, q, he, hI, u, h5, h6, h7⟩ := hx
   refine ⟨.pointer (some ⟨b, q + s + g.offset, none⟩), ?_, ?_⟩
   · simp [execOp, ho, he, Instr.fieldAt, run_underlying h1, h2, Instr.sureAddr, fieldPlace, sizeOf, typeInfo, h3, h4, addr_add]
   · simp only [vr]
     exact ⟨b, q, by simp [Nat.add_assoc], hI, u, h5, h6, h7⟩
 · cases h
def fieldV (P : Program) (t : TypeId) (f : Nat) (v : V) : Option V :=
  match v with
  | .d (.agg cs) => (fieldOf P t f).bind fun p => partV P p.2 (cs.map .d) p.1
  | .agg cs => (fieldOf P t f).bind fun p => partV P p.2 cs p.1
  | _ => none
theorem fieldV_ok {t : TypeId} {f : Nat} {x : Operand} {e : Operand → Value} {o : Oper} {vx v : V} (ho : o.op = .field t x f) (h : fieldV P t f vx = some v) (hx : vr w I ρ σ vx (e x)) :
   ∃ z, (execOp e o).run P w = .ok (.value z) w ∧ vr w I ρ σ v z := by
 have key : ∀ (cs : List V) (xs : List Value), e x = .agg xs.toArray → vrL w I ρ σ cs xs → (∀ y ∈ xs, one y) → ((fieldOf P t f).bind fun p => partV P p.2 cs p.1) = some v → ∃ z, (execOp e o).run P w = .ok (.value z) w ∧ vr w I ρ σ v z := by
   intro cs xs he hl ho' h
   simp only [Option.bind_eq_some_iff] at h
   obtain ⟨p, hp, h⟩ := h
   obtain ⟨fs, g, i, h1, h2, h3, h4, rfl⟩ := fieldOf_spec hp
   obtain ⟨z, h5, h6⟩ := part_rel (w := w) (xs := xs.toArray) h (by simpa using hl) (by simpa using ho')
   exact ⟨z, by simp [execOp, ho, he, Instr.field, run_underlying h1, h2, asAgg, h5], h6⟩
 unfold fieldV at h
 split at h
 · simp only [vr, Dr] at hx
   obtain ⟨xs, he, hl⟩ := hx
   obtain ⟨h1, h2⟩ := DrL_vrL (ρ := ρ) (σ := σ) _ _ hl
   exact key _ xs he h1 h2 h
 · simp only [vr] at hx
   obtain ⟨xs, he, hl, h2⟩ := hx
   exact key _ xs he hl h2 h
 · cases h
theorem loadVar_cells {t : TypeId} {cs : List V} {b q s : Nat} {C : List Value} {v : V} (h : partV P t cs s = some v) (hr : vrL w I ρ σ cs C) (ho : ∀ x ∈ C, one x)
    (hc : ∀ j x, C[j]? = some x → w.cell? ⟨b, q + j, none⟩ = some x) : ∃ x, (loadVar t ⟨b, q + s, none⟩).run P w = .ok x w ∧ vr w I ρ σ v x := by
  unfold partV at h
  cases ha : aggOf P t with
  | none => simp [ha] at h
  | some bb =>
    cases bb with
    | some n =>
      simp only [ha, Option.ite_none_right_eq_some, Option.some.injEq] at h
      obtain ⟨hlen, h⟩ := h
      rw [← vrL_len hr] at hlen
      obtain ⟨i, hi, hn⟩ := aggOf_size ha
      have hl : (loadCells ⟨b, q + s, none⟩ ((C.drop s).take n).length).run P w = .ok ((C.drop s).take n).toArray w :=
        run_loadCells_list (P := P) w ⟨b, q + s, none⟩ _ (fun j y hj => by
          rw [addr_add]
          have hj' : C[s + j]? = some y := by
            rw [List.getElem?_take] at hj
            split at hj
            · simpa using hj
            · cases hj
          have := hc (s + j) y hj'
          rw [← this]
          congr 2
          omega)
      have hlt : ((C.drop s).take n).length = n := by simp; omega
      rw [hlt] at hl
      refine ⟨.agg ((C.drop s).take n).toArray, ?_, ?_⟩
      · simp [loadVar, isAgg_run ha, sizeOf, typeInfo, hi, hn, hl]
      · subst h
        exact mkAgg_rel (vrL_take (vrL_drop hr s) n) fun x hx => ho x (List.mem_of_mem_drop (List.mem_of_mem_take hx))
    | none =>
      simp only [ha] at h
      obtain ⟨x, hx, hv⟩ := vrL_get? hr h
      exact ⟨x, by simp [loadVar, isAgg_run ha, hc s x hx], hv⟩
theorem Dr_cells {x : D} {u : Value} (h : Dr w I x u) : ∃ vs, cellsV (.d x) = some vs ∧ vrL w I ρ σ vs u.cells.toList ∧ ∀ c ∈ u.cells.toList, one c := by
 have hc : ∃ vs, cellsV (.d x) = some vs := by cases x <;> exact ⟨_, rfl⟩
 obtain ⟨vs, hc⟩ := hc
 obtain ⟨h1, h2⟩ := cells_rel (ρ := ρ) (σ := σ) hc (by simpa [vr] using h)
 exact ⟨vs, hc, h1, h2⟩
def loadE (P : Program) (t : TypeId) (x : D) (s : Nat) : Option V := (cellsV (.d x)).bind fun cs => partV P t cs s
theorem loadE_ok {t : TypeId} {x : D} {u : Value} {b q s sz : Nat} {v : V} (h : loadE P t x s = some v) (hu : Dr w I x u) (hsz : u.cells.size = sz) (hc : ∀ j, j < sz → w.cell? ⟨b, q + j, none⟩ = u.cells[j]?) :
  ∃ z, (loadVar t ⟨b, q + s, none⟩).run P w = .ok z w ∧ vr w I ρ σ v z := by
 obtain ⟨vs, h1, h2, h3⟩ := Dr_cells (ρ := ρ) (σ := σ) hu
 unfold loadE at h
 rw [h1] at h
 simp only [Option.bind_some] at h
 refine loadVar_cells h h2 h3 fun j y hj => ?_
 have hlt : j < sz := by
  have := (List.getElem?_eq_some_iff.1 hj).1
  simp at this; omega
 rw [hc j hlt]
 simpa using hj
def loadV (P : Program) (σ : Store) (t : TypeId) : V → Option V
  | .ptr l 0 s => match σ[l]? with
    | some (.cells cs) => partV P t cs s
    | _ => none
  | .ep _ x s => loadE P t x s
  | _ => none
theorem loadV_ok {t : TypeId} {x : Operand} {e : Operand → Value} {o : Oper} {vx v : V} (ho : o.op = .load t x) (h : loadV P σ t vx = some v) (hx : vr w I ρ σ vx (e x)) (hO : ORel w I ρ σ) :
   ∃ z, (execOp e o).run P w = .ok (.value z) w ∧ vr w I ρ σ v z := by
 unfold loadV at h
 split at h
 · rename_i l s
   split at h
   · rename_i cs hs
     simp only [vr] at hx
     obtain ⟨L, hL, he⟩ := hx.2.2 ⟨_, hs, by simp⟩
     obtain ⟨L', C, T, fz, hL', h0, hh, _, hr, hone⟩ := hO.objs l _ hs
     rw [hL] at hL'; cases hL'
     obtain ⟨z, h1, h2⟩ := loadVar_cells (w := w) (b := L.b) (q := 0) h hr hone (fun j y hj => by simp [World.cell?, hh]; simpa using hj)
     refine ⟨z, ?_, h2⟩
     simp only [h0, Nat.zero_mul, Nat.add_zero, Nat.zero_add] at he h1
     simp [execOp, ho, he, Instr.loadAt, Instr.sureAddr, h1]
   · cases h
 · rename_i sz y s
   simp only [vr] at hx
   obtain ⟨b, q, he, _, u, h1, h2, h3⟩ := hx
   obtain ⟨z, h4, h5⟩ := loadE_ok (ρ := ρ) (σ := σ) h h1 h2 h3
   exact ⟨z, by simp [execOp, ho, he, Instr.loadAt, Instr.sureAddr, h4], h5⟩
 · cases h
def lenV (σ : Store) : V → Option Nat
  | .d (.list _ xs) => some xs.length
  | .nils => some 0
  | .ex _ xs => some xs.length
  | .row l => match σ[l]? with | some (.row _ xs _) => some xs.length | _ => none
  | .sl l _ n _ => match σ[l]? with | some (.row _ _ _) => some n | _ => none
  | _ => none
theorem rowV_slice {l off n : Nat} {x : Value} (h : rowV ρ l off n x) : ∃ a c, x = .slice a n c := by
 rcases h with ⟨rfl, a, rfl⟩ | ⟨L, _, _, rfl⟩
 · exact ⟨a, 0, rfl⟩
 · exact ⟨_, _, rfl⟩
theorem lenV_rel {v : V} {x : Value} {n : Nat} (h : lenV σ v = some n) (hv : vr w I ρ σ v x) : ∃ a c, x = .slice a n c := by
 unfold lenV at h
 split at h
 · cases h; simp only [vr, Dr] at hv; obtain ⟨a, c, rfl, _⟩ := hv; exact ⟨a, c, rfl⟩
 · cases h; simp only [vr] at hv; subst hv; exact ⟨none, 0, rfl⟩
 · cases h; simp only [vr] at hv; obtain ⟨a, rfl, _⟩ := hv; exact ⟨a, _, rfl⟩
 · split at h
   · rename_i hs
     cases h
     simp only [vr] at hv
     exact rowV_slice (hv.2.2 _ _ _ hs)
   · cases h
 · split at h
   · rename_i hs
     cases h
     simp only [vr] at hv
     exact rowV_slice (hv.2.2 _ _ _ hs).2.1
   · cases h
 · cases h
def isSliceT (P : Program) (t : TypeId) : Bool := match P.underlying t with | some (.slice _) => true | _ => false
def isStrT (P : Program) (t : TypeId) : Bool := match P.underlying t with | some .string => true | _ => false
theorem isSliceT_und {t : TypeId} (h : isSliceT P t = true) : ∃ e, P.underlying t = some (.slice e) := by
 unfold isSliceT at h; split at h
 · exact ⟨_, by assumption⟩
 · cases h
theorem isStrT_und {t : TypeId} (h : isStrT P t = true) : P.underlying t = some .string := by
 unfold isStrT at h; split at h
 · assumption
 · cases h
theorem map1 {α β : Type} {f : α → β} {xs : List α} {y : β} (h : xs.map f = [y]) : ∃ x, xs = [x] ∧ f x = y := by
 cases xs with
 | nil => simp at h
 | cons a t => cases t with
   | nil => simp at h; exact ⟨a, rfl, h⟩
   | cons b t => simp at h
theorem map2 {α β : Type} {f : α → β} {xs : List α} {y z : β} (h : xs.map f = [y, z]) : ∃ a b, xs = [a, b] ∧ f a = y ∧ f b = z := by
 cases xs with
 | nil => simp at h
 | cons a t => cases t with
   | nil => simp at h
   | cons b t => cases t with
     | nil => simp at h; exact ⟨a, b, rfl, h.1, h.2⟩
     | cons c t => simp at h
def bltV (P : Program) (σ : Store) (b : Builtin) (ts : List TypeId) (vs : List V) : Option V :=
  match b, ts, vs with
  | .len, [t], [.d (.str s)] => if isStrT P t then some (.d (.int .i64 s.size)) else none
  | .len, [t], [v] => if isSliceT P t then (lenV σ v).map fun (n : Nat) => V.d (.int .i64 (n : Int)) else none
  | .max, _, [.d (.int k a), .d (.int _ b)] => some (.d (.int k (if b > a then b else a)))
  | .min, _, [.d (.int k a), .d (.int _ b)] => some (.d (.int k (if b < a then b else a)))
  | _, _, _ => none
theorem bltV_ok {b : Builtin} {xs : List Operand} {ts : List TypeId} {e : Operand → Value} {o : Oper} {v : V} {tm : List V} (ho : o.op = .call { callee := .builtin b, args := xs.toArray, argTypes := ts.toArray })
   (h : bltV P σ b ts (xs.map (ev tm)) = some v) (hx : ∀ x, vr w I ρ σ (ev tm x) (e x)) :
   ∃ z, (execOp e o).run P w = .ok (.value z) w ∧ vr w I ρ σ v z := by
 unfold bltV at h
 split at h
 · rename_i t s hm
   obtain ⟨x, rfl, hm'⟩ := map1 hm
   · have := hx x
     rw [hm'] at this
     simp only [vr, Dr] at this
     simp only [Option.ite_none_right_eq_some, Option.some.injEq] at h
     obtain ⟨ht, rfl⟩ := h
     exact ⟨.int .i64 s.size, by simp [execOp, ho, resolve, invoke, builtin, Builtin.len_, this, run_underlying (isStrT_und ht), goInt], by simp [vr, Dr]⟩
 · rename_i t y _ hm
   obtain ⟨x, rfl, hm'⟩ := map1 hm
   · have hv := hx x
     rw [hm'] at hv
     simp only [Option.ite_none_right_eq_some, Option.map_eq_some_iff] at h
     obtain ⟨ht, n, hn, rfl⟩ := h
     obtain ⟨el, ht⟩ := isSliceT_und ht
     obtain ⟨a, c, hxe⟩ := lenV_rel hn hv
     exact ⟨.int .i64 n, by simp [execOp, ho, resolve, invoke, builtin, Builtin.len_, hxe, run_underlying ht, goInt], by simp [vr, Dr]⟩
 · rename_i k a k' b' hm
   obtain ⟨x, y, rfl, hm1, hm2⟩ := map2 hm
   · have h1 := hx x
     have h2 := hx y
     rw [hm1] at h1; rw [hm2] at h2
     simp only [vr, Dr] at h1 h2
     cases h
     refine ⟨.int k (if b' > a then b' else a), ?_, by simp only [vr, Dr]⟩
     have := fun z : Array TypeId => run_max_int2 (P := P) w z o.type k k' a b'
     simp only [execOp, ho, resolve, invoke, builtin, Sem.run_bind, Sem.run_pure, Result.andThen_ok, List.map_toArray, List.map_cons, List.map_nil, h1, h2, this]
 · rename_i k a k' b' hm
   obtain ⟨x, y, rfl, hm1, hm2⟩ := map2 hm
   · have h1 := hx x
     have h2 := hx y
     rw [hm1] at h1; rw [hm2] at h2
     simp only [vr, Dr] at h1 h2
     cases h
     refine ⟨.int k (if b' < a then b' else a), ?_, by simp only [vr, Dr]⟩
     have := fun z : Array TypeId => run_min_int2 (P := P) w z o.type k k' a b'
     simp only [execOp, ho, resolve, invoke, builtin, Sem.run_bind, Sem.run_pure, Result.andThen_ok, List.map_toArray, List.map_cons, List.map_nil, h1, h2, this]
 · cases h
theorem ev_rel {tm : List V} {e : Operand → Value} (hx : ∀ x, vr w I ρ σ (ev tm x) (e x)) : ∀ xs : List Operand, vrL w I ρ σ (xs.map (ev tm)) (xs.map e)
 | [] => by simp [vrL]
 | x :: xs => by simp only [List.map_cons, vrL]; exact ⟨_, _, rfl, hx x, ev_rel hx xs⟩
def qop (P : Program) (tm : List V) (σ : Store) (o : Op) : Option V :=
  match o with
  | .move x | .assign x => some (ev tm x)
  | .pick c x y => pickV (ev tm c) (ev tm x) (ev tm y)
  | .extract x i => extV i (ev tm x)
  | .nilCheck x => nilV σ (ev tm x)
  | .binOp op t x y _ => match binV P op t (ev tm x) (ev tm y) with | some v => some v | none => ptrBin P σ op t (ev tm x) (ev tm y)
  | .unOp op _ x => unV op (ev tm x)
  | .convert s t x => convV P s t (ev tm x)
  | .fieldAddr t x f => if nilOf σ (ev tm x) = some false then faV P t f (ev tm x) else none
  | .field t x f => fieldV P t f (ev tm x)
  | .load t x => loadV P σ t (ev tm x)
  | .makeFunc (.func f) a b => some (.fn (.func f) (a.toList.map (ev tm)) (b.toList.map (ev tm)))
  | .call { callee := .builtin b, args, argTypes } => bltV P σ b argTypes.toList (args.toList.map (ev tm))
  | _ => none
theorem qop_ok {o : Oper} {e : Operand → Value} {tm : List V} {v : V} (h : qop P tm σ o.op = some v) (hx : ∀ x, vr w I ρ σ (ev tm x) (e x)) (hO : ORel w I ρ σ) :
   ∃ z, (execOp e o).run P w = .ok (.value z) w ∧ vr w I ρ σ v z := by
 unfold qop at h
 split at h
 · rename_i x ho; cases h; exact ⟨e x, by simp [execOp, ho], hx x⟩
 · rename_i x ho; cases h; exact ⟨e x, by simp [execOp, ho], hx x⟩
 · rename_i ho; exact pickV_ok ho h (hx _) (hx _) (hx _)
 · rename_i ho; exact extV_ok ho h (hx _)
 · rename_i ho; exact nilV_ok ho h (hx _)
 · rename_i ho
   split at h
   · rename_i hb; cases h; exact binV_ok ho hb (hx _) (hx _)
   · exact ptrBin_ok ho h (hx _) (hx _)
 · rename_i ho; exact unV_ok ho h (hx _)
 · rename_i ho; exact convV_ok ho h (hx _)
 · rename_i ho
   simp only [Option.ite_none_right_eq_some] at h
   exact faV_ok ho h.2 h.1 (hx _)
 · rename_i ho; exact fieldV_ok ho h (hx _)
 · rename_i ho; exact loadV_ok ho h (hx _) hO
 · rename_i f a b ho
   cases h
   refine ⟨.func (.func f) (a.map e) (b.map e), by simp [execOp, ho, Instr.makeFunc], ?_⟩
   simp only [vr]
   have ha : ∀ q : Array Operand, q.map e = (q.toList.map e).toArray := fun q => by apply Array.ext'; simp
   exact ⟨a.toList.map e, b.toList.map e, by rw [← ha, ← ha], ev_rel hx _, ev_rel hx _⟩
 · rename_i b args ts ho
   exact bltV_ok (xs := args.toList) (ts := ts.toList) (by simpa using ho) h hx
 · cases h
end ops
end Go.Br
