/- The base of these proofs, part A: abstract values, abstract stores, and how they are read in a world of the model. Nothing of a program stands here. -/
import Derived.Calls
import Derived.Laws.Sem
import Derived.Laws.World
import Derived.Laws.Rows
import Derived.Laws.CopyRow
import Derived.Laws.Append
import Derived.Laws.AppendOwn
import Derived.Laws.Small
import Derived.KernelRfl
namespace Go.Br
open Go

/-- Data: no memory of its own is named in it. -/
inductive D where
  | int (k : IntKind) (n : Int)
  | bool (b : Bool)
  | str (s : ByteArray)
  | list (sz : Nat) (xs : List D)
  | agg (cs : List D)
  | raw (v : Value)

/-- Abstract values: data, or references to locations of the abstract store. -/
inductive V where
  | d (d : D)
  | undef
  | nils
  | ex (sz : Nat) (xs : List D)
  | ptr (l i s : Nat)
  | row (l : Nat)
  | sl (l off len : Nat) (c : Option Nat)
  | fn (f : Fn) (first cap : List V)
  | yield (l : Nat)
  | tuple (vs : List V)
  | agg (vs : List V)
  | ep (sz : Nat) (x : D) (s : Nat)

/-- What lies at a location. -/
inductive O where
  | dead
  | cells (cs : List V)
  | row (sz : Nat) (xs : List D) (mv : Bool)
  | map (es : List (Value × D))
  | loop (st : LoopState) (pend : Option Code) (fn : FuncId) (tm : List V) (params : Array Tmp) (assign body : Code)
  | defd

structure Loc where
  b : Nat
  o : Nat
  sz : Nat
  cap : Nat

abbrev LM := Nat → Option Loc
abbrev Store := List O

/-- A cell's value is one cell. -/
def one (v : Value) : Prop := v.oneCell' = true

section
variable (w : World) (I : Nat → Prop)
mutual
def Dr : D → Value → Prop
  | .int k n, v => v = .int k n
  | .bool b, v => v = .bool b
  | .str s, v => v = .string s
  | .raw x, v => v = x ∧ one x
  | .agg cs, v => ∃ vs : List Value, v = .agg vs.toArray ∧ DrL cs vs
  | .list sz xs, v => ∃ a cap, v = .slice a xs.length cap ∧ xs.length ≤ cap ∧ cap ≤ maxLen ∧ (xs = [] ∨ ∃ b o, a = some ⟨b, o, none⟩ ∧ I b ∧ DrE sz b o xs)
def DrL : List D → List Value → Prop
  | [], vs => vs = []
  | d :: ds, vs => ∃ v vs', vs = v :: vs' ∧ one v ∧ Dr d v ∧ DrL ds vs'
def DrE (sz b : Nat) : Nat → List D → Prop
  | _, [] => True
  | o, d :: ds => (∃ v, Dr d v ∧ v.cells.size = sz ∧ ∀ j, j < sz → w.cell? ⟨b, o + j, none⟩ = v.cells[j]?) ∧ DrE sz b (o + sz) ds
end
end

section
variable (w : World) (I : Nat → Prop) (ρ : LM) (σ : Store)
def live (σ : Store) (l : Nat) : Prop := ∃ o, σ[l]? = some o ∧ o ≠ .dead

/-- Nothing that may be written is frozen. -/
def thaw (fz : Nat × Nat) (n : Nat) : Prop := fz.1 ≤ fz.2 ∧ ∀ j, j ≤ n → ¬ (fz.1 ≤ j ∧ j < fz.2)

/-- Nothing is frozen; each cell is one cell. -/
def thawR (fz : Nat × Nat) (C : Array Value) : Prop := thaw fz C.size ∧ ∀ x ∈ C.toList, one x

def rowV (ρ : LM) (l off len : Nat) (v : Value) : Prop :=
  (len = 0 ∧ ∃ a, v = .slice a 0 0) ∨ ∃ L, ρ l = some L ∧ off + len ≤ L.cap ∧ v = .slice (some ⟨L.b, L.o + off * L.sz, none⟩) len (L.cap - off)

/-- A part of a row; its room, if that is told. -/
def slV (ρ : LM) (l off len : Nat) (c : Option Nat) (v : Value) : Prop := rowV ρ l off len v ∧ ∀ k, c = some k → ∃ a n, v = .slice a n k

mutual
def vr : V → Value → Prop
  | .d d, v => Dr w I d v
  | .undef, _ => True
  | .nils, v => v = .slice none 0 0
  | .ex sz xs, v => ∃ a, v = .slice a xs.length xs.length ∧ Dr w I (.list sz xs) v
  | .ptr l i s, v => one v ∧ l < σ.length ∧ (live σ l → ∃ L, ρ l = some L ∧ v = .pointer (some ⟨L.b, L.o + i * L.sz + s, none⟩))
  | .row l, v => one v ∧ l < σ.length ∧ ∀ sz xs mv, σ[l]? = some (.row sz xs mv) → rowV ρ l 0 xs.length v
  | .sl l off len c, v => one v ∧ l < σ.length ∧ ∀ sz xs mv, σ[l]? = some (.row sz xs mv) → off + len ≤ xs.length ∧ slV ρ l off len c v
  | .fn f first cap, v => ∃ fs cs : List Value, v = .func f fs.toArray cs.toArray ∧ vrL first fs ∧ vrL cap cs
  | .yield l, v => one v ∧ l < σ.length ∧ (live σ l → ∃ L, ρ l = some L ∧ v = .func (.yield L.b) #[] #[])
  | .tuple vs, v => ∃ xs : List Value, v = .tuple xs.toArray ∧ vrL vs xs
  | .agg vs, v => ∃ xs : List Value, v = .agg xs.toArray ∧ vrL vs xs ∧ ∀ x ∈ xs, one x
  | .ep sz x s, v => ∃ b o, v = .pointer (some ⟨b, o + s, none⟩) ∧ I b ∧ ∃ u, Dr w I x u ∧ u.cells.size = sz ∧ ∀ j, j < sz → w.cell? ⟨b, o + j, none⟩ = u.cells[j]?
def vrL : List V → List Value → Prop
  | [], vs => vs = []
  | x :: xs, vs => ∃ v vs', vs = v :: vs' ∧ vr x v ∧ vrL xs vs'
end

/-- What lies at a location, as it lies in memory. -/
def orel (l : Nat) : O → Prop
  | .dead => True
  | .cells cs => ∃ L C T fz, ρ l = some L ∧ L.o = 0 ∧ w.heap[L.b]? = some (.cells C T fz) ∧ thaw fz C.size ∧ vrL w I ρ σ cs C.toList ∧ ∀ x ∈ C.toList, one x
  | .row sz xs _ => (ρ l = none ∧ xs = []) ∨ ∃ L C T fz, ρ l = some L ∧ L.sz = sz ∧ w.heap[L.b]? = some (.cells C T fz) ∧ thawR fz C ∧ C.size = L.o + L.cap * sz ∧ xs.length ≤ L.cap ∧ L.cap ≤ maxLen ∧ DrE w I sz L.b L.o xs
  | .map es => ∃ L E n, ρ l = some L ∧ L.o = 0 ∧ w.heap[L.b]? = some (.map E n) ∧ E.size = es.length ∧ (∀ (j : Nat) (e : MapEntry), E[j]? = some e → e.born < n ∧ ∃ x : Value × D, es[j]? = some x ∧ e.key = x.1 ∧ Dr w I x.2 e.val) ∧ (∀ (i j : Nat) (e e' : MapEntry), E[i]? = some e → E[j]? = some e' → e.born = e'.born → i = j)
  | .loop st pend fn tm params assign body => ∃ L tmps db, ρ l = some L ∧ w.heap[L.b]? = some (.loop { state := st, pending := pend, fn, tmps, params, assign, body, defers := db }) ∧ vrL w I ρ σ tm tmps.toList
  | .defd => ∃ L, ρ l = some L ∧ w.heap[L.b]? = some (.deferred (some []))

def O.owns : O → Bool
  | .dead => false
  | _ => true
/-- Things that have not moved. -/
def O.still : O → Bool
  | .dead => false
  | .row _ _ mv => !mv
  | _ => true
/-- Loops and lists of deferred calls. -/
def O.ld : O → Nat
  | .defd => 1
  | .loop .. => 2
  | _ => 0
/-- A row is as long as it was. -/
def O.rl : O → Option Nat
  | .row _ xs _ => some xs.length
  | _ => none
def O.alike (o o' : O) : Prop := o.rl = o'.rl
theorem alike_row {o : O} {sz : Nat} {xs : List D} {mv : Bool} (h : o.alike (.row sz xs mv)) : ∃ sz' xs' mv', o = .row sz' xs' mv' ∧ xs'.length = xs.length := by
  cases o with
  | row sz' xs' mv' => exact ⟨sz', xs', mv', rfl, by simpa [O.alike, O.rl] using h⟩
  | _ => simp [O.alike, O.rl] at h

/-- The blocks that a store has for itself. -/
def foot (ρ : LM) (σ : Store) (b : Nat) : Prop := ∃ l o L, σ[l]? = some o ∧ o ≠ .dead ∧ ρ l = some L ∧ L.b = b

structure ORel : Prop where
  objs : ∀ l o, σ[l]? = some o → orel w I ρ σ l o
  inj : ∀ l l' L L', live σ l → live σ l' → ρ l = some L → ρ l' = some L' → L.b = L'.b → l = l'
  flt : ∀ b, foot ρ σ b → b < w.heap.size
  imm : ∀ b, I b → b < w.heap.size ∧ ¬ foot ρ σ b
end

/-- What a run leaves of what was; 'n': of how many locations it is told. -/
structure Ext (n : Nat) (w : World) (I : Nat → Prop) (ρ : LM) (σ : Store) (w' : World) (I' : Nat → Prop) (ρ' : LM) (σ' : Store) : Prop where
  size : w.heap.size ≤ w'.heap.size
  os : w'.os = w.os
  tape : w'.tape = w.tape
  output : w'.output = w.output
  old : ∀ b, b < w.heap.size → ¬ foot ρ σ b → w'.heap[b]? = w.heap[b]?
  immI : ∀ b, I b → I' b
  immN : ∀ b, I' b → I b ∨ foot ρ σ b ∨ w.heap.size ≤ b
  footN : ∀ b, foot ρ' σ' b → foot ρ σ b ∨ w.heap.size ≤ b
  len : n ≤ σ'.length
  alive : ∀ l, l < n → live σ' l → live σ l
  fixed : ∀ l o', l < n → σ'[l]? = some o' → o'.still = true → ρ' l = ρ l ∧ ∃ o, σ[l]? = some o ∧ o.still = true ∧ o.alike o'
  stay : ∀ l o, l < n → σ[l]? = some o → o.ld ≠ 0 → ∃ o', σ'[l]? = some o' ∧ o'.ld = o.ld

theorem Ext.refl (w : World) (I : Nat → Prop) (ρ : LM) (σ : Store) : Ext σ.length w I ρ σ w I ρ σ :=
  ⟨Nat.le_refl _, rfl, rfl, rfl, fun _ _ _ => rfl, fun _ h => h, fun _ h => .inl h, fun _ h => .inl h, Nat.le_refl _, fun _ _ h => h, fun _ o _ h hf => ⟨rfl, o, h, hf, rfl⟩, fun _ o _ h _ => ⟨o, h, rfl⟩⟩

theorem Ext.less {n m : Nat} {w w' : World} {I I' : Nat → Prop} {ρ ρ' : LM} {σ σ' : Store} (h : Ext n w I ρ σ w' I' ρ' σ') (hm : m ≤ n) : Ext m w I ρ σ w' I' ρ' σ' :=
  ⟨h.size, h.os, h.tape, h.output, h.old, h.immI, h.immN, h.footN, Nat.le_trans hm h.len, fun l hl => h.alive l (by omega), fun l o hl => h.fixed l o (by omega), fun l o hl => h.stay l o (by omega)⟩

theorem Ext.trans {n : Nat} {w w1 w2 : World} {I I1 I2 : Nat → Prop} {ρ ρ1 ρ2 : LM} {σ σ1 σ2 : Store} (h : Ext n w I ρ σ w1 I1 ρ1 σ1) (h' : Ext n w1 I1 ρ1 σ1 w2 I2 ρ2 σ2) : Ext n w I ρ σ w2 I2 ρ2 σ2 where
  size := Nat.le_trans h.size h'.size
  os := h'.os.trans h.os
  tape := h'.tape.trans h.tape
  output := h'.output.trans h.output
  old b hb hf := by
    have hf1 : ¬ foot ρ1 σ1 b := fun hx => (h.footN b hx).elim hf fun hs => by omega
    rw [h'.old b (Nat.lt_of_lt_of_le hb h.size) hf1, h.old b hb hf]
  immI b hb := h'.immI b (h.immI b hb)
  immN b hb := by
    rcases h'.immN b hb with hx | hx | hx
    · exact h.immN b hx
    · exact .inr (h.footN b hx)
    · exact .inr (.inr (Nat.le_trans h.size hx))
  footN b hb := by
    rcases h'.footN b hb with hx | hx
    · exact h.footN b hx
    · exact .inr (Nat.le_trans h.size hx)
  len := h'.len
  alive l hl hv := h.alive l hl (h'.alive l hl hv)
  fixed l o' hn hl hf := by
    obtain ⟨h1, o1, ho1, hf1, ha1⟩ := h'.fixed l o' hn hl hf
    obtain ⟨h2, o2, ho2, hf2, ha2⟩ := h.fixed l o1 hn ho1 hf1
    exact ⟨h1.trans h2, o2, ho2, hf2, Eq.trans ha2 ha1⟩
  stay l o hn hl ho := by
    obtain ⟨o1, h1, h2⟩ := h.stay l o hn hl ho
    obtain ⟨o2, h3, h4⟩ := h'.stay l o1 hn h1 (by rw [h2]; exact ho)
    exact ⟨o2, h3, h4.trans h2⟩

section mono
variable {w w' : World} {I I' : Nat → Prop}
mutual
theorem Dr_mono (h : ∀ b, I b → I' b ∧ w'.heap[b]? = w.heap[b]?) : ∀ d v, Dr w I d v → Dr w' I' d v
  | .int _ _, _, hd => by simpa [Dr] using hd
  | .bool _, _, hd => by simpa [Dr] using hd
  | .str _, _, hd => by simpa [Dr] using hd
  | .raw _, _, hd => by simpa [Dr] using hd
  | .agg cs, v, hd => by
    simp only [Dr] at hd ⊢
    obtain ⟨vs, hv, hl⟩ := hd
    exact ⟨vs, hv, DrL_mono h cs vs hl⟩
  | .list sz xs, v, hd => by
    simp only [Dr] at hd ⊢
    obtain ⟨a, cap, hv, h1, h2, h3⟩ := hd
    refine ⟨a, cap, hv, h1, h2, h3.imp id ?_⟩
    rintro ⟨b, o, ha, hI, hE⟩
    exact ⟨b, o, ha, (h b hI).1, DrE_mono h sz b (h b hI).2 o xs hE⟩
theorem DrL_mono (h : ∀ b, I b → I' b ∧ w'.heap[b]? = w.heap[b]?) : ∀ ds vs, DrL w I ds vs → DrL w' I' ds vs
  | [], _, hd => by simpa [DrL] using hd
  | d :: ds, vs, hd => by
    simp only [DrL] at hd ⊢
    obtain ⟨v, vs', hv, h1, h2, h3⟩ := hd
    exact ⟨v, vs', hv, h1, Dr_mono h d v h2, DrL_mono h ds vs' h3⟩
theorem DrE_mono (h : ∀ b, I b → I' b ∧ w'.heap[b]? = w.heap[b]?) (sz b : Nat) (hb : w'.heap[b]? = w.heap[b]?) : ∀ o ds, DrE w I sz b o ds → DrE w' I' sz b o ds
  | _, [], _ => by simp [DrE]
  | o, d :: ds, hd => by
    simp only [DrE] at hd ⊢
    obtain ⟨⟨v, h1, h2, h3⟩, h4⟩ := hd
    refine ⟨⟨v, Dr_mono h d v h1, h2, fun j hj => ?_⟩, DrE_mono h sz b hb (o + sz) ds h4⟩
    rw [← h3 j hj]
    simp [World.cell?, hb]
end
end mono

mutual
def V.locs : V → List Nat
  | .ptr l _ _ | .row l | .sl l _ _ _ | .yield l => [l]
  | .fn _ a b => V.locsL a ++ V.locsL b
  | .tuple vs | .agg vs => V.locsL vs
  | _ => []
def V.locsL : List V → List Nat
  | [] => []
  | v :: vs => V.locs v ++ V.locsL vs
end
def O.locs : O → List Nat
  | .cells cs => V.locsL cs
  | .loop _ _ _ tm _ _ _ => V.locsL tm
  | _ => []

mutual
def V.kill (p : Nat → Bool) : V → V
  | .ptr l i s => if p l then .undef else .ptr l i s
  | .row l => if p l then .undef else .row l
  | .sl l a b c => if p l then .undef else .sl l a b c
  | .yield l => if p l then .undef else .yield l
  | .fn f a b => .fn f (V.killL p a) (V.killL p b)
  | .tuple vs => .tuple (V.killL p vs)
  | .agg vs => .agg (V.killL p vs)
  | .d x => .d x
  | .undef => .undef
  | .nils => .nils
  | .ex sz xs => .ex sz xs
  | .ep sz x s => .ep sz x s
def V.killL (p : Nat → Bool) : List V → List V
  | [] => []
  | v :: vs => V.kill p v :: V.killL p vs
end
def O.kill (p : Nat → Bool) : O → O
  | .cells cs => .cells (V.killL p cs)
  | .loop a b c tm x e f => .loop a b c (V.killL p tm) x e f
  | .dead => .dead
  | .row sz xs mv => .row sz xs mv
  | .map es => .map es
  | .defd => .defd

/-- What is told of location l stays. -/
def Same (ρ : LM) (σ : Store) (ρ' : LM) (σ' : Store) (l : Nat) : Prop :=
  l < σ'.length ∧ ∀ o', σ'[l]? = some o' → o' ≠ .dead → ρ' l = ρ l ∧ ∃ o, σ[l]? = some o ∧ o ≠ .dead ∧ o.alike o'

section up
variable {w w' : World} {I I' : Nat → Prop} {ρ ρ' : LM} {σ σ' : Store}
theorem rowV_up {l off len : Nat} (h : ρ' l = ρ l) {v : Value} (hr : rowV ρ l off len v) : rowV ρ' l off len v := by
  unfold rowV at *
  rw [h]; exact hr
mutual
theorem vr_up (hI : ∀ b, I b → I' b ∧ w'.heap[b]? = w.heap[b]?) : ∀ (v : V) (x : Value), (∀ l ∈ v.locs, Same ρ σ ρ' σ' l) → vr w I ρ σ v x → vr w' I' ρ' σ' v x
  | .d d, x, _, h => by
    simp only [vr] at h ⊢
    exact Dr_mono hI d x h
  | .undef, _, _, _ => by simp [vr]
  | .nils, _, _, h => by simpa [vr] using h
  | .ex sz xs, x, _, h => by
    simp only [vr] at h ⊢
    obtain ⟨a, ha, hd⟩ := h
    exact ⟨a, ha, Dr_mono hI _ _ hd⟩
  | .ptr l i s, x, hs, h => by
    simp only [vr] at h ⊢
    have hs := hs l (by simp [V.locs])
    refine ⟨h.1, hs.1, ?_⟩
    rintro ⟨o', ho', hn'⟩
    obtain ⟨h1, o, h2, h3, _⟩ := hs.2 o' ho' hn'
    rw [h1]
    exact h.2.2 ⟨o, h2, h3⟩
  | .row l, x, hs, h => by
    simp only [vr] at h ⊢
    have hs := hs l (by simp [V.locs])
    refine ⟨h.1, hs.1, fun sz' xs' mv' hx => ?_⟩
    obtain ⟨h1, o, h2, h3, h4⟩ := hs.2 _ hx (by simp)
    obtain ⟨sz, xs, mv, rfl, he⟩ := alike_row h4
    rw [← he]
    exact rowV_up h1 (h.2.2 sz xs mv h2)
  | .sl l off len c, x, hs, h => by
    simp only [vr] at h ⊢
    have hs := hs l (by simp [V.locs])
    refine ⟨h.1, hs.1, fun sz' xs' mv' hx => ?_⟩
    obtain ⟨h1, o, h2, h3, h4⟩ := hs.2 _ hx (by simp)
    obtain ⟨sz, xs, mv, rfl, he⟩ := alike_row h4
    rw [← he]
    exact ⟨(h.2.2 sz xs mv h2).1, rowV_up h1 (h.2.2 sz xs mv h2).2.1, (h.2.2 sz xs mv h2).2.2⟩
  | .fn f a b, x, hs, h => by
    simp only [vr] at h ⊢
    obtain ⟨fs, cs, hx, h1, h2⟩ := h
    exact ⟨fs, cs, hx, vrL_up hI a fs (fun l hl => hs l (by simp [V.locs, hl])) h1, vrL_up hI b cs (fun l hl => hs l (by simp [V.locs, hl])) h2⟩
  | .yield l, x, hs, h => by
    simp only [vr] at h ⊢
    have hs := hs l (by simp [V.locs])
    refine ⟨h.1, hs.1, ?_⟩
    rintro ⟨o', ho', hn'⟩
    obtain ⟨h1, o, h2, h3, _⟩ := hs.2 o' ho' hn'
    rw [h1]
    exact h.2.2 ⟨o, h2, h3⟩
  | .tuple vs, x, hs, h => by
    simp only [vr] at h ⊢
    obtain ⟨xs, hx, h1⟩ := h
    exact ⟨xs, hx, vrL_up hI vs xs (fun l hl => hs l (by simpa [V.locs] using hl)) h1⟩
  | .agg vs, x, hs, h => by
    simp only [vr] at h ⊢
    obtain ⟨xs, hx, h1, h2⟩ := h
    exact ⟨xs, hx, vrL_up hI vs xs (fun l hl => hs l (by simpa [V.locs] using hl)) h1, h2⟩
  | .ep sz y s, x, _, h => by
    simp only [vr] at h ⊢
    obtain ⟨b, o, hx, hb, u, h1, h2, h3⟩ := h
    refine ⟨b, o, hx, (hI b hb).1, u, Dr_mono hI y u h1, h2, fun j hj => ?_⟩
    rw [← h3 j hj]
    simp [World.cell?, (hI b hb).2]
theorem vrL_up (hI : ∀ b, I b → I' b ∧ w'.heap[b]? = w.heap[b]?) : ∀ (vs : List V) (xs : List Value), (∀ l ∈ V.locsL vs, Same ρ σ ρ' σ' l) → vrL w I ρ σ vs xs → vrL w' I' ρ' σ' vs xs
  | [], _, _, h => by simpa [vrL] using h
  | v :: vs, xs, hs, h => by
    simp only [vrL] at h ⊢
    obtain ⟨x, xs', hx, h1, h2⟩ := h
    exact ⟨x, xs', hx, vr_up hI v x (fun l hl => hs l (by simp [V.locsL, hl])) h1, vrL_up hI vs xs' (fun l hl => hs l (by simp [V.locsL, hl])) h2⟩
end
mutual
theorem vr_kill (p : Nat → Bool) : ∀ (v : V) (x : Value), vr w I ρ σ v x → vr w I ρ σ (v.kill p) x
  | .d d, x, h => by simpa [V.kill] using h
  | .undef, _, _ => by simp [vr, V.kill]
  | .nils, _, h => by simpa [V.kill] using h
  | .ex sz xs, x, h => by simpa [V.kill] using h
  | .ep sz y s, x, h => by simpa [V.kill] using h
  | .ptr l i s, x, h => by
    simp only [V.kill]
    split
    · simp [vr]
    · exact h
  | .row l, x, h => by
    simp only [V.kill]
    split
    · simp [vr]
    · exact h
  | .sl l off len c, x, h => by
    simp only [V.kill]
    split
    · simp [vr]
    · exact h
  | .fn f a b, x, h => by
    simp only [vr, V.kill] at h ⊢
    obtain ⟨fs, cs, hx, h1, h2⟩ := h
    exact ⟨fs, cs, hx, vrL_kill p a fs h1, vrL_kill p b cs h2⟩
  | .yield l, x, h => by
    simp only [V.kill]
    split
    · simp [vr]
    · exact h
  | .tuple vs, x, h => by
    simp only [vr, V.kill] at h ⊢
    obtain ⟨xs, hx, h1⟩ := h
    exact ⟨xs, hx, vrL_kill p vs xs h1⟩
  | .agg vs, x, h => by
    simp only [vr, V.kill] at h ⊢
    obtain ⟨xs, hx, h1, h2⟩ := h
    exact ⟨xs, hx, vrL_kill p vs xs h1, h2⟩
theorem vrL_kill (p : Nat → Bool) : ∀ (vs : List V) (xs : List Value), vrL w I ρ σ vs xs → vrL w I ρ σ (V.killL p vs) xs
  | [], _, h => by simpa [vrL, V.killL] using h
  | v :: vs, xs, h => by
    simp only [vrL, V.killL] at h ⊢
    obtain ⟨x, xs', hx, h1, h2⟩ := h
    exact ⟨x, xs', hx, vr_kill p v x h1, vrL_kill p vs xs' h2⟩
end
end up
mutual
theorem locs_kill (p : Nat → Bool) : ∀ (v : V) (l : Nat), l ∈ (v.kill p).locs → l ∈ v.locs ∧ p l = false
  | .d d, l, h => by simp [V.kill, V.locs] at h
  | .undef, l, h => by simp [V.kill, V.locs] at h
  | .nils, l, h => by simp [V.kill, V.locs] at h
  | .ex sz xs, l, h => by simp [V.kill, V.locs] at h
  | .ep sz y s, l, h => by simp [V.kill, V.locs] at h
  | .ptr k i s, l, h => by
    simp only [V.kill] at h
    split at h <;> simp_all [V.locs]
  | .row k, l, h => by
    simp only [V.kill] at h
    split at h <;> simp_all [V.locs]
  | .sl k _ _ _, l, h => by
    simp only [V.kill] at h
    split at h <;> simp_all [V.locs]
  | .yield k, l, h => by
    simp only [V.kill] at h
    split at h <;> simp_all [V.locs]
  | .fn f a b, l, h => by
    simp only [V.kill, V.locs, List.mem_append] at h ⊢
    rcases h with h | h
    · exact ⟨.inl (locsL_kill p a l h).1, (locsL_kill p a l h).2⟩
    · exact ⟨.inr (locsL_kill p b l h).1, (locsL_kill p b l h).2⟩
  | .tuple vs, l, h => by
    simp only [V.kill, V.locs] at h ⊢
    exact locsL_kill p vs l h
  | .agg vs, l, h => by
    simp only [V.kill, V.locs] at h ⊢
    exact locsL_kill p vs l h
theorem locsL_kill (p : Nat → Bool) : ∀ (vs : List V) (l : Nat), l ∈ V.locsL (V.killL p vs) → l ∈ V.locsL vs ∧ p l = false
  | [], l, h => by simp [V.killL, V.locsL] at h
  | v :: vs, l, h => by
    simp only [V.killL, V.locsL, List.mem_append] at h ⊢
    rcases h with h | h
    · exact ⟨.inl (locs_kill p v l h).1, (locs_kill p v l h).2⟩
    · exact ⟨.inr (locsL_kill p vs l h).1, (locsL_kill p vs l h).2⟩
end

end Go.Br
