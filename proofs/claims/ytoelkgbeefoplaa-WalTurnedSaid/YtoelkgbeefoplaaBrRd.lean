/- The base of these proofs: what an argument is that is made of numbers, texts, structs, arrays and slices, read as data. -/
import Derived.Test.YtoelkgbeefoplaaBrY
import Derived.OpenShut
import Derived.ChangeArms
import Derived.WideShapes
namespace Go.Br
open Go

def isAggB (P : Program) (t : TypeId) : Bool := match P.underlying t with | some (.struct _) | some (.array _ _) => true | _ => false
def layB (P : Program) : List Field → Nat → Option Nat
  | [], o => some o
  | f :: fs, o => if f.offset = o then layB P fs (o + P.cellsOf f.type) else none
/-- Types of plain data. -/
def plainB (P : Program) : Nat → TypeId → Bool
  | 0, _ => false
  | n + 1, t => match P.underlying t with
    | some .bool | some (.int _) | some .string => Nat.beq (P.cellsOf t) 1
    | some (.slice e) => Nat.beq (P.cellsOf t) 1 && (Nat.blt 0 (P.cellsOf e) && plainB P n e)
    | some (.struct fs) => (layB P fs.toList 0 == some (P.cellsOf t)) && fs.toList.all fun f => plainB P n f.type
    | some (.array m e) => Nat.beq (m * P.cellsOf e) (P.cellsOf t) && plainB P n e
    | _ => false
/-- What is known of a value's cells by its type. -/
def WtC (P : Program) : Nat → TypeId → List D → Prop
  | 0, _, _ => False
  | n + 1, t, ds => match P.underlying t with
    | some .bool => ∃ b, ds = [.bool b]
    | some (.int k) => ∃ x, ds = [.int k x] ∧ k.min ≤ x ∧ x ≤ k.max
    | some .string => ∃ s, ds = [.str s] ∧ s.size ≤ maxLen
    | some (.slice e) => ∃ xs, ds = [.list (P.cellsOf e) xs] ∧ xs.length ≤ maxLen ∧ ∀ x ∈ xs, if isAggB P e = true then ∃ cs, x = .agg cs ∧ cs.length = P.cellsOf e ∧ WtC P n e cs else WtC P n e [x]
    | some (.struct fs) => ∀ f ∈ fs.toList, WtC P n f.type ((ds.drop f.offset).take (P.cellsOf f.type))
    | some (.array m e) => ∀ i, i < m → WtC P n e ((ds.drop (i * P.cellsOf e)).take (P.cellsOf e))
    | _ => False
def WtE (P : Program) (n : Nat) (e : TypeId) (x : D) : Prop := if isAggB P e = true then ∃ cs, x = .agg cs ∧ cs.length = P.cellsOf e ∧ WtC P n e cs else WtC P n e [x]

theorem choose_list {α : Type} {R : Nat → α → Prop} : ∀ (n : Nat), (∀ i, i < n → ∃ d, R i d) → ∃ xs : List α, xs.length = n ∧ ∀ i d, xs[i]? = some d → R i d
  | 0, _ => ⟨[], rfl, fun i d h => by simp at h⟩
  | n + 1, h => by
    obtain ⟨xs, h1, h2⟩ := choose_list n fun i hi => h i (by omega)
    obtain ⟨d, hd⟩ := h n (by omega)
    refine ⟨xs ++ [d], by simp [h1], fun i e he => ?_⟩
    by_cases hi : i < xs.length
    · rw [List.getElem?_append_left hi] at he; exact h2 i e he
    · rw [List.getElem?_append_right (by omega)] at he
      have : i - xs.length = 0 := by
        rcases Nat.eq_zero_or_pos (i - xs.length) with h | h
        · exact h
        · simp [List.getElem?_eq_none (show [d].length ≤ i - xs.length by simp; omega)] at he
      rw [this] at he
      simp at he
      subst he
      obtain rfl : i = n := by omega
      exact hd
section
variable {W : World} {I : Nat → Prop}
theorem DrE_of_get {sz b : Nat} : ∀ {xs : List D} {o : Nat}, (∀ i d, xs[i]? = some d → ∃ v, Dr W I d v ∧ v.cells.size = sz ∧ ∀ j, j < sz → W.cell? ⟨b, o + i * sz + j, none⟩ = v.cells[j]?) → DrE W I sz b o xs
  | [], _, _ => by simp [DrE]
  | x :: xs, o, h => by
    simp only [DrE]
    refine ⟨?_, DrE_of_get fun i d hd => ?_⟩
    · have := h 0 x (by simp)
      simpa using this
    · have := h (i + 1) d (by simpa using hd)
      rw [show o + (i + 1) * sz = o + sz + i * sz by rw [Nat.add_mul]; omega] at this
      exact this
theorem DrL_cat : ∀ {cs ds : List D} {xs ys : List Value}, DrL W I cs xs → DrL W I ds ys → DrL W I (cs ++ ds) (xs ++ ys) := DrL_append
end
theorem drop_take_cat {α : Type} (cs : List α) (o a : Nat) : (cs.drop o).take a ++ cs.drop (o + a) = cs.drop o := by
  have := List.take_append_drop a (cs.drop o)
  rwa [List.drop_drop] at this

section
variable {H : Type} {enc : TypeId × Value → H} {P : Program} {W : World} {base : Nat} {spare : Nat → Bool} {held : Bool}
theorem fields_read {cs : List Value} {R : TypeId → List D → Prop} : ∀ (fs : List Field) (o tot : Nat), layB P fs o = some tot → tot = cs.length → o ≤ cs.length →
    (∀ f ∈ fs, f.offset + P.cellsOf f.type ≤ cs.length → ∃ ds, DrL W (fun b => b < W.heap.size) ds ((cs.drop f.offset).take (P.cellsOf f.type)) ∧ R f.type ds) →
    ∃ ds, DrL W (fun b => b < W.heap.size) ds (cs.drop o) ∧ ∀ f ∈ fs, o ≤ f.offset ∧ R f.type ((ds.drop (f.offset - o)).take (P.cellsOf f.type))
  | [], o, tot, hl, ht, ho, _ => by
    simp only [layB, Option.some.injEq] at hl
    subst hl ht
    refine ⟨[], ?_, fun f hf => by cases hf⟩
    rw [List.drop_length]; simp [DrL]
  | f :: fs, o, tot, hl, ht, ho, h => by
    simp only [layB] at hl
    split at hl
    · rename_i hfo
      have hmono : ∀ (fs : List Field) (o tot : Nat), layB P fs o = some tot → o ≤ tot := by
        intro fs
        induction fs with
        | nil => intro o tot h; simp only [layB, Option.some.injEq] at h; omega
        | cons g gs ih =>
          intro o tot h
          simp only [layB] at h
          split at h
          · have := ih _ _ h; omega
          · cases h
      have hle := hmono fs _ _ hl
      obtain ⟨ds1, h1, h2⟩ := h f (by simp) (by omega)
      rw [hfo] at h1
      obtain ⟨ds2, h3, h4⟩ := fields_read fs (o + P.cellsOf f.type) tot hl ht (by omega) fun g hg => h g (by simp [hg])
      have hlen : ds1.length = P.cellsOf f.type := by
        have := DrL_len h1
        simp at this; omega
      refine ⟨ds1 ++ ds2, ?_, fun g hg => ?_⟩
      · rw [← drop_take_cat cs o (P.cellsOf f.type)]
        exact DrL_append h1 h3
      · rcases List.mem_cons.1 hg with rfl | hg
        · refine ⟨by omega, ?_⟩
          rw [hfo, Nat.sub_self, List.drop_zero, ← hlen, List.take_left]
          exact h2
        · obtain ⟨k1, k2⟩ := h4 g hg
          refine ⟨by omega, ?_⟩
          rw [List.drop_append, List.drop_eq_nil_of_le (by omega), List.nil_append, show g.offset - o - ds1.length = g.offset - (o + P.cellsOf f.type) by omega]
          exact k2
    · cases hl

theorem elems_read {cs : List Value} {R : List D → Prop} {c : Nat} : ∀ (m o : Nat), o + m * c = cs.length →
    (∀ i, i < m → ∃ ds, DrL W (fun b => b < W.heap.size) ds ((cs.drop (o + i * c)).take c) ∧ R ds) →
    ∃ ds, DrL W (fun b => b < W.heap.size) ds (cs.drop o) ∧ ∀ i, i < m → R ((ds.drop (i * c)).take c)
  | 0, o, ho, _ => by
    refine ⟨[], ?_, fun i hi => by omega⟩
    rw [List.drop_eq_nil_of_le (by omega)]; simp [DrL]
  | m + 1, o, ho, h => by
    have hm : (m + 1) * c = m * c + c := Nat.succ_mul m c
    obtain ⟨ds1, h1, h2⟩ := h 0 (by omega)
    rw [Nat.zero_mul, Nat.add_zero] at h1
    obtain ⟨ds2, h3, h4⟩ := elems_read (cs := cs) (R := R) (c := c) m (o + c) (by omega) fun i hi => by
      have := h (i + 1) (by omega)
      rwa [show o + (i + 1) * c = o + c + i * c by rw [Nat.succ_mul]; omega] at this
    have hlen : ds1.length = c := by
      have := DrL_len h1
      simp at this; omega
    refine ⟨ds1 ++ ds2, ?_, fun i hi => ?_⟩
    · rw [← drop_take_cat cs o c]
      exact DrL_append h1 h3
    · cases i with
      | zero => rw [Nat.zero_mul, List.drop_zero, ← hlen, List.take_left]; exact h2
      | succ i =>
        have e : (i + 1) * c = i * c + c := Nat.succ_mul i c
        rw [List.drop_append, List.drop_eq_nil_of_le (by omega), List.nil_append, show (i + 1) * c - ds1.length = i * c by omega]
        exact h4 i (by omega)

theorem cells_spot {a : Addr} {c : Nat} {vs : List Value} (h : W.cells? base a c = some vs) (hc : 0 < c) : a.spot = none ∧ a.block < W.heap.size ∧ vs.length = c ∧ ∀ j, j < c → W.cell? ⟨a.block, a.off + j, none⟩ = vs[j]? := by
  unfold World.cells? at h
  split at h
  · have hl := mapM_some_length h
    have hg := fun j (hj : j < c) => mapM_some_get h j j (by simp [hj])
    have h0 := hg 0 hc
    have hv : ∃ v, W.cell? a = some v := by
      have h1 : vs[0]? = some (vs[0]'(by simp at hl; omega)) := List.getElem?_eq_getElem (by simp at hl; omega)
      rw [h1] at h0
      exact ⟨_, by simpa [Addr.add] using h0⟩
    obtain ⟨v, hv⟩ := hv
    have hs : a.spot = none ∧ a.block < W.heap.size := by
      unfold World.cell? at hv
      split at hv
      · rename_i hh
        split at hv
        · cases hv
        · rename_i hs
          exact ⟨by simpa using hs, (Array.getElem?_eq_some_iff.1 hh).1⟩
      · cases hv
    refine ⟨hs.1, hs.2, by simpa using hl, fun j hj => ?_⟩
    rw [← hg j hj]
    have : a.add j = ⟨a.block, a.off + j, none⟩ := by
      obtain ⟨b, o, sp⟩ := a
      simp only at hs
      unfold Addr.add
      split
      · rename_i hj0; subst hj0; simp [hs.1]
      · rfl
    rw [this]
  · cases h

theorem cells_one {n : Nat} {e : TypeId} (h : plainB P n e = true) (ha : isAggB P e = false) : P.cellsOf e = 1 := by
  cases n with
  | zero => simp [plainB] at h
  | succ n =>
    unfold plainB at h
    unfold isAggB at ha
    split at h
    · simpa using h
    · simpa using h
    · simpa using h
    · simp only [Bool.and_eq_true] at h; simpa using h.1
    · rename_i hu; simp [hu] at ha
    · rename_i hu; simp [hu] at ha
    · cases h
theorem spot_of {a : Addr} {e : TypeId} {len fuel : Nat} {elems : List (DataW H × List MemPlace)} (hE : ∀ i, i < len → (W.cells? base (a.add (i * P.cellsOf e)) (P.cellsOf e)).bind (DataW.trod enc P W base spare held fuel e) = elems[i]?) (hl : elems.length = len) (hc : 0 < P.cellsOf e) (h0 : 0 < len) : a.spot = none := by
  have h1 := hE 0 h0
  rw [List.getElem?_eq_getElem (by omega)] at h1
  simp only [Option.bind_eq_some_iff] at h1
  obtain ⟨vs, h2, _⟩ := h1
  have := (cells_spot h2 hc).1
  simpa [Addr.add] using this

theorem plain_read : ∀ (n : Nat) {fuel : Nat} {t : TypeId} {cs : List Value} {x : DataW H × List MemPlace}, plainB P n t = true → DataW.trod enc P W base spare held fuel t cs = some x →
    ∃ ds, DrL W (fun b => b < W.heap.size) ds cs ∧ WtC P n t ds
  | 0, _, _, _, _, hp, _ => by simp [plainB] at hp
  | n + 1, 0, _, _, _, _, h => by simp [DataW.trod] at h
  | n + 1, fuel + 1, t, cs, x, hp, h => by
    unfold plainB at hp
    unfold WtC
    split at hp
    · rename_i hu
      unfold DataW.trod at h
      rw [hu] at h
      try simp only [hu]
      split at h <;> simp_all
      rename_i b
      refine ⟨[.bool b], ?_, ?_⟩
      · simp only [DrL, Dr]; exact ⟨_, [], rfl, rfl, rfl, rfl⟩
      · cases b <;> simp
    · rename_i k hu
      unfold DataW.trod at h
      rw [hu] at h
      try simp only [hu]
      split at h <;> (try cases h) <;> simp_all only [Option.some.injEq, TypeDesc.int.injEq, reduceCtorEq, Option.ite_none_right_eq_some]
      rename_i k' m _
      obtain ⟨⟨h1, hw⟩, _⟩ := h
      subst h1
      simp only [Lit.wf, Bool.and_eq_true, decide_eq_true_eq] at hw
      refine ⟨[.int _ m], ?_, m, rfl, hw.1, hw.2⟩
      simp only [DrL, Dr]; exact ⟨_, [], rfl, rfl, rfl, rfl⟩
    · rename_i hu
      unfold DataW.trod at h
      rw [hu] at h
      try simp only [hu]
      split at h <;> simp_all
      rename_i s
      refine ⟨[.str s], ?_, s, rfl, h.1⟩
      simp only [DrL, Dr]; exact ⟨_, [], rfl, rfl, rfl, rfl⟩
    · rename_i e hu
      try simp only [hu]
      simp only [Bool.and_eq_true, Nat.blt_eq] at hp
      obtain ⟨_, hc, hpe⟩ := hp
      rcases DataW.trod_slice hu h with ⟨rfl, _⟩ | ⟨a, len, cap, elems, rest, m, hm, rfl, _, hb, hlc, hcm, hel, hE, _⟩
      · refine ⟨[.list (P.cellsOf e) []], ?_, [], rfl, by simp [maxLen], fun x hx => by cases hx⟩
        simp only [DrL, Dr]
        exact ⟨_, [], rfl, by simp [one, Value.oneCell'], ⟨none, 0, rfl, by simp, by simp [maxLen], .inl trivial⟩, rfl⟩
      · obtain rfl : fuel = m := by omega
        have hi : ∀ i, i < len → ∃ d, (∃ v, Dr W (fun b => b < W.heap.size) d v ∧ v.cells.size = P.cellsOf e ∧ ∀ j, j < P.cellsOf e → W.cell? ⟨a.block, a.off + i * P.cellsOf e + j, none⟩ = v.cells[j]?) ∧ WtE P n e d ∧ a.spot = none ∧ a.block < W.heap.size := by
          intro i hi
          have h1 := hE i hi
          rw [List.getElem?_eq_getElem (by omega)] at h1
          simp only [Option.bind_eq_some_iff] at h1
          obtain ⟨vs, h2, h3⟩ := h1
          obtain ⟨g1, g2, g3, g4⟩ := cells_spot h2 hc
          obtain ⟨ds, k1, k2⟩ := plain_read n hpe h3
          have hadd : a.add (i * P.cellsOf e) = ⟨a.block, a.off + i * P.cellsOf e, a.spot⟩ ∨ (a.add (i * P.cellsOf e) = ⟨a.block, a.off + i * P.cellsOf e, none⟩) := by
            obtain ⟨b, o, sp⟩ := a
            unfold Addr.add
            split
            · rename_i hz; left; simp [hz]
            · right; rfl
          have hlenv := DrL_len k1
          by_cases hag : isAggB P e = true
          · refine ⟨.agg ds, ⟨.agg vs.toArray, by simp only [Dr]; exact ⟨vs, rfl, k1⟩, by simp [Value.cells, g3], fun j hj => ?_⟩, by unfold WtE; rw [if_pos hag]; exact ⟨ds, rfl, by omega, k2⟩, ?_, ?_⟩
            · have := g4 j hj
              rcases hadd with e' | e' <;> rw [e'] at this <;> simpa [Value.cells] using this
            · rcases hadd with e' | e'
              · rw [e'] at g1; exact g1
              · rw [e'] at g1
                exact spot_of hE hel hc (by omega)
            · rcases hadd with e' | e' <;> rw [e'] at g2 <;> exact g2
          · have hone : P.cellsOf e = 1 := cells_one hpe (by simpa using hag)
            obtain ⟨d, rfl⟩ : ∃ d, ds = [d] := List.length_eq_one_iff.1 (by omega)
            obtain ⟨v, rfl⟩ : ∃ v, vs = [v] := List.length_eq_one_iff.1 (by omega)
            simp only [DrL] at k1
            obtain ⟨v', vs', e1, hov, hdv, rfl⟩ := k1
            cases e1
            have hcells : v.cells = #[v] := by
              have := hov
              unfold one at this
              cases v <;> simp_all [Value.cells, Value.oneCell']
            refine ⟨d, ⟨v, hdv, by simp [hcells, hone], fun j hj => ?_⟩, by unfold WtE; rw [if_neg hag]; exact k2, ?_, ?_⟩
            · have := g4 j hj
              rw [hcells]
              rcases hadd with e' | e' <;> rw [e'] at this <;> simpa using this
            · rcases hadd with e' | e'
              · rw [e'] at g1; exact g1
              · exact spot_of hE hel hc (by omega)
            · rcases hadd with e' | e' <;> rw [e'] at g2 <;> exact g2
        obtain ⟨xs, hx1, hx2⟩ := choose_list len hi
        refine ⟨[.list (P.cellsOf e) xs], ?_, xs, rfl, by omega, fun x hx => ?_⟩
        · simp only [DrL, Dr]
          refine ⟨_, [], rfl, by simp [one, Value.oneCell'], ⟨some a, cap, by rw [hx1], by omega, hcm, ?_⟩, rfl⟩
          by_cases h0 : len = 0
          · left; exact List.eq_nil_of_length_eq_zero (by omega)
          · right
            obtain ⟨d, hd⟩ : ∃ d, xs[0]? = some d := ⟨xs[0]'(by omega), List.getElem?_eq_getElem (by omega)⟩
            obtain ⟨_, _, h5, h6⟩ := hx2 0 d hd
            refine ⟨a.block, a.off, by obtain ⟨b, o, sp⟩ := a; simp only at h5; rw [h5], h6, DrE_of_get fun i d hd => (hx2 i d hd).1⟩
        · obtain ⟨i, hi2, rfl⟩ := List.getElem_of_mem hx
          exact (hx2 i _ (List.getElem?_eq_getElem hi2)).2.1
    · rename_i fs hu
      try simp only [hu]
      simp only [Bool.and_eq_true, beq_iff_eq, List.all_eq_true] at hp
      obtain ⟨ys, m, hm, _, hcs, hlen, hf⟩ := DataW.trod_struct hu h
      obtain rfl : fuel = m := by omega
      obtain ⟨ds, k1, k2⟩ := fields_read (cs := cs) (R := WtC P n) fs.toList 0 (P.cellsOf t) hp.1 hcs.symm (by omega) fun f hfm _ => by
        obtain ⟨i, hi, rfl⟩ := List.getElem_of_mem hfm
        have h1 := hf i (fs.toList[i]) (by simp at hi; simp [hi])
        rw [List.getElem?_eq_getElem (by simp at hi; omega)] at h1
        exact plain_read n (hp.2 _ hfm) h1
      rw [List.drop_zero] at k1
      exact ⟨ds, k1, fun f hf => by have := (k2 f hf).2; rwa [Nat.sub_zero] at this⟩
    · rename_i m e hu
      try simp only [hu]
      simp only [Bool.and_eq_true, Nat.beq_eq] at hp
      obtain ⟨ys, m', hm', _, hcs, hlen, hf⟩ := DataW.trod_array hu h
      obtain rfl : fuel = m' := by omega
      obtain ⟨ds, k1, k2⟩ := elems_read (cs := cs) (R := WtC P n e) (c := P.cellsOf e) m 0 (by omega) fun i hi => by
        have h1 := hf i hi
        rw [List.getElem?_eq_getElem (by omega)] at h1
        rw [Nat.zero_add]
        exact plain_read n hp.2 h1
      rw [List.drop_zero] at k1
      exact ⟨ds, k1, k2⟩
    · cases hp
end
end Go.Br
namespace Go.Br
open Go Go.WideShapes
/-- An argument of a plain type, as data. -/
theorem arg_read {H : Type} {enc : TypeId × Value → H} {P : Program} {W : World} {base b2 : Nat} {spare : Nat → Bool} {held : Bool} {r : Reach} {t : TypeId} {v : Value} {d : DataW H} {ps : List MemPlace} (n : Nat) (hp : plainB P n t = true)
    (hval : Value.okWide P W r b2 t v) (h : DataW.Trod enc P W base spare held t v d ps) : ∃ x : D, Dr W (fun b => b < W.heap.size) x v ∧ WtE P n t x := by
  obtain ⟨fuel, hf⟩ := h
  obtain ⟨ds, h1, h2⟩ := plain_read n hp hf
  by_cases hag : isAggB P t = true
  · have : ∃ cs, v = .agg cs ∧ cs.size = P.cellsOf t := by
      unfold isAggB at hag
      unfold Value.okWide at hval
      split at hag
      · rename_i hu; rw [hu] at hval; obtain ⟨cs, e1, e2, _⟩ := hval; exact ⟨cs, e1, e2⟩
      · rename_i hu; rw [hu] at hval; obtain ⟨cs, e1, e2, _⟩ := hval; exact ⟨cs, e1, e2⟩
      · cases hag
    obtain ⟨cs, rfl, hcs⟩ := this
    have hl := DrL_len h1
    refine ⟨.agg ds, by simp only [Dr]; exact ⟨cs.toList, rfl, h1⟩, ?_⟩
    unfold WtE
    rw [if_pos hag]
    refine ⟨ds, rfl, ?_, h2⟩
    simp [Value.cells] at hl
    omega
  · have hone : v.cells = #[v] := by
      unfold plainB at hp
      cases n with
      | zero => simp at hp
      | succ n =>
        simp only at hp
        unfold isAggB at hag
        split at hp
        · rename_i hu; obtain ⟨b, rfl⟩ := okWide_bool hu hval; rfl
        · rename_i hu; obtain ⟨b, rfl⟩ := okWide_int hu hval; rfl
        · rename_i hu; obtain ⟨b, rfl⟩ := okWide_string hu hval; rfl
        · rename_i hu; obtain ⟨a, b, c, rfl⟩ := okWide_slice hu hval; rfl
        · rename_i hu; simp [hu] at hag
        · rename_i hu; simp [hu] at hag
        · cases hp
    rw [hone] at h1
    have hl := DrL_len h1
    obtain ⟨x, rfl⟩ : ∃ x, ds = [x] := List.length_eq_one_iff.1 (by simpa using hl.symm)
    simp only [DrL] at h1
    obtain ⟨v', vs', e1, _, hd, _⟩ := h1
    cases e1
    exact ⟨x, hd, by unfold WtE; rw [if_neg hag]; exact h2⟩

section
variable {P : Program} {n : Nat}
theorem WtE.bool {t : TypeId} {x : D} (h : WtE P n t x) (hu : P.underlying t = some .bool) : ∃ b, x = .bool b := by
  unfold WtE isAggB at h
  simp only [hu] at h
  cases n with
  | zero => simp [WtC] at h
  | succ n => simpa [WtC, hu] using h
theorem WtE.int {t : TypeId} {x : D} {k : IntKind} (h : WtE P n t x) (hu : P.underlying t = some (.int k)) : ∃ a, x = .int k a ∧ k.min ≤ a ∧ a ≤ k.max := by
  unfold WtE isAggB at h
  simp only [hu] at h
  cases n with
  | zero => simp [WtC] at h
  | succ n => simpa [WtC, hu] using h
theorem WtE.str {t : TypeId} {x : D} (h : WtE P n t x) (hu : P.underlying t = some .string) : ∃ s, x = .str s ∧ s.size ≤ maxLen := by
  unfold WtE isAggB at h
  simp only [hu] at h
  cases n with
  | zero => simp [WtC] at h
  | succ n => simpa [WtC, hu] using h
theorem WtE.slice {t e : TypeId} {x : D} (h : WtE P n t x) (hu : P.underlying t = some (.slice e)) : ∃ xs, x = .list (P.cellsOf e) xs ∧ xs.length ≤ maxLen ∧ ∀ y ∈ xs, WtE P (n - 1) e y := by
  unfold WtE at h
  have hag : isAggB P t = false := by simp [isAggB, hu]
  rw [hag] at h
  cases n with
  | zero => simp [WtC] at h
  | succ n =>
    simp only [WtC, hu, Bool.false_eq_true, if_false] at h
    obtain ⟨xs, h1, h2, h3⟩ := h
    simp only [List.cons.injEq, and_true] at h1
    exact ⟨xs, h1, h2, fun y hy => h3 y hy⟩
/-- A slice, its elements decoded. -/
theorem WtE.slice_map {α : Type} {t e : TypeId} {x : D} (g : α → D) (ok : α → Prop) (h : WtE P n t x) (hu : P.underlying t = some (.slice e)) (hg : ∀ y, WtE P (n - 1) e y → ∃ a, y = g a ∧ ok a) :
    ∃ l : List α, x = .list (P.cellsOf e) (l.map g) ∧ l.length ≤ maxLen ∧ ∀ a ∈ l, ok a := by
  obtain ⟨xs, rfl, h2, h3⟩ := h.slice hu
  have : ∀ xs : List D, (∀ y ∈ xs, WtE P (n - 1) e y) → ∃ l : List α, xs = l.map g ∧ ∀ a ∈ l, ok a := by
    intro xs
    induction xs with
    | nil => intro _; exact ⟨[], rfl, fun a ha => by cases ha⟩
    | cons y ys ih =>
      intro h
      obtain ⟨l, h1, h2⟩ := ih fun z hz => h z (by simp [hz])
      obtain ⟨a, h3, h4⟩ := hg y (h y (by simp))
      exact ⟨a :: l, by simp [h3, h1], fun b hb => by rcases List.mem_cons.1 hb with rfl | hb; exact h4; exact h2 b hb⟩
  obtain ⟨l, rfl, h4⟩ := this xs h3
  exact ⟨l, rfl, by simpa using h2, h4⟩
theorem WtE.struct {t : TypeId} {x : D} {fs : Array Field} (h : WtE P n t x) (hu : P.underlying t = some (.struct fs)) : ∃ cs, x = .agg cs ∧ cs.length = P.cellsOf t ∧ ∀ f ∈ fs.toList, WtC P (n - 1) f.type ((cs.drop f.offset).take (P.cellsOf f.type)) := by
  unfold WtE at h
  have hag : isAggB P t = true := by simp [isAggB, hu]
  rw [if_pos hag] at h
  cases n with
  | zero => obtain ⟨_, _, _, h⟩ := h; simp [WtC] at h
  | succ n => simpa [WtC, hu] using h
theorem WtE.array {t : TypeId} {x : D} {m : Nat} {e : TypeId} (h : WtE P n t x) (hu : P.underlying t = some (.array m e)) : ∃ cs, x = .agg cs ∧ cs.length = P.cellsOf t ∧ ∀ i, i < m → WtC P (n - 1) e ((cs.drop (i * P.cellsOf e)).take (P.cellsOf e)) := by
  unfold WtE at h
  have hag : isAggB P t = true := by simp [isAggB, hu]
  rw [if_pos hag] at h
  cases n with
  | zero => obtain ⟨_, _, _, h⟩ := h; simp [WtC] at h
  | succ n => simpa [WtC, hu] using h
/-- One cell of a type that has one. -/
theorem WtC.one {t : TypeId} {ds : List D} (h : WtC P n t ds) (ha : isAggB P t = false) : ∃ x, ds = [x] ∧ WtE P n t x := by
  cases n with
  | zero => simp [WtC] at h
  | succ n =>
    have h' := h
    unfold WtC at h
    unfold WtE
    rw [ha]
    simp only [Bool.false_eq_true, if_false]
    unfold isAggB at ha
    split at h
    · obtain ⟨b, rfl⟩ := h; exact ⟨_, rfl, h'⟩
    · obtain ⟨b, rfl, _⟩ := h; exact ⟨_, rfl, h'⟩
    · obtain ⟨b, rfl, _⟩ := h; exact ⟨_, rfl, h'⟩
    · obtain ⟨b, rfl, _⟩ := h; exact ⟨_, rfl, h'⟩
    · rename_i hu; simp [hu] at ha
    · rename_i hu; simp [hu] at ha
    · cases h
theorem WtC.agg {t : TypeId} {ds : List D} (h : WtC P n t ds) (ha : isAggB P t = true) (hl : ds.length = P.cellsOf t) : WtE P n t (.agg ds) := by
  unfold WtE
  rw [if_pos ha]
  exact ⟨ds, rfl, hl, h⟩
end
end Go.Br
