/- The base of these proofs, part P: regions whose order is drawn: one order serves for all that differ by operations that have nothing to do with one another. -/
import Derived.Test.YtoelkgbeefoplaaBrO
import Derived.Orders
namespace Go.Br
open Go

/-! ### Orders -/

/-- i stands ahead of j. -/
def ahead (L : List Nat) (i j : Nat) : Prop := L.idxOf i < L.idxOf j

theorem idx_ne {x i : Nat} {L : List Nat} (h : i ≠ x) : (x :: L).idxOf i = L.idxOf i + 1 := by
  have h' : (x == i) = false := by simp; exact fun e => h e.symm
  rw [List.idxOf_cons, h']; rfl

/-- An order that may be drawn. -/
structure Ord (ops : Array Oper) (L : List Nat) : Prop where
  nodup : L.Nodup
  mem : ∀ i, i ∈ L ↔ i < ops.size
  edge : ∀ j ∈ L, ∀ o, ops[j]? = some o → ∀ e ∈ o.after, Region.binds .any e = true → ahead L e.on j

def edgesB (ops : Array Oper) : Bool := (List.range ops.size).all fun i => match ops[i]? with
  | some o => o.after.all fun e => !Region.binds .any e || Nat.blt e.on i
  | none => true

section go
variable {ops : Array Oper}
def unl (ops : Array Oper) (listed : Array Bool) : List Nat := (List.range ops.size).filter fun i => !listed.getD i true
theorem mem_unl {listed : Array Bool} {i : Nat} : i ∈ unl ops listed ↔ i < ops.size ∧ listed.getD i true = false := by
  simp only [unl, List.mem_filter, List.mem_range, Bool.not_eq_true']
theorem getD_set {listed : Array Bool} {i j : Nat} (hi : i < listed.size) (d : Bool) : (listed.setIfInBounds i true).getD j d = if j = i then true else listed.getD j d := by
  by_cases hj : j = i
  · subst hj; simp [Array.getD, hi]
  · simp only [hj, if_false]
    simp only [Array.getD_eq_getD_getElem?, Array.getElem?_setIfInBounds_ne (Ne.symm hj)]

theorem go_ord (hE : edgesB ops = true) : ∀ (fuel t : Nat) (listed : Array Bool), listed.size = ops.size → (unl ops listed).length ≤ fuel →
    (Region.linearise.go .any ops fuel t listed []).Nodup ∧ (∀ i, i ∈ Region.linearise.go .any ops fuel t listed [] ↔ i < ops.size ∧ listed.getD i true = false) ∧
    ∀ j ∈ Region.linearise.go .any ops fuel t listed [], ∀ o, ops[j]? = some o → ∀ e ∈ o.after, Region.binds .any e = true → listed.getD e.on false = true ∨ ahead (Region.linearise.go .any ops fuel t listed []) e.on j := by
  have hedge : ∀ i o e, ops[i]? = some o → e ∈ o.after → Region.binds .any e = true → e.on < i := by
    intro i o e ho he hb
    have hi : i < ops.size := (Array.getElem?_eq_some_iff.1 ho).1
    have h1 := List.all_eq_true.1 hE i (List.mem_range.2 hi)
    rw [ho] at h1
    have h2 := (Array.all_eq_true_iff_forall_mem.1 h1) e he
    simpa [hb] using h2
  intro fuel
  induction fuel with
  | zero =>
    intro t listed hsz hlen
    have hnil : unl ops listed = [] := List.eq_nil_of_length_eq_zero (by omega)
    refine ⟨by simp [Region.linearise.go], fun i => ⟨fun h => by simp [Region.linearise.go] at h, fun ⟨h1, h2⟩ => ?_⟩, fun j hj => by simp [Region.linearise.go] at hj⟩
    have : i ∈ unl ops listed := mem_unl.2 ⟨h1, h2⟩
    rw [hnil] at this; cases this
  | succ fuel ih =>
    intro t listed hsz hlen
    have hgo : Region.linearise.go .any ops (fuel + 1) t listed [] = (match (Region.ready .any ops listed)[t % (Region.ready .any ops listed).length]? with
      | some i => Region.linearise.go .any ops fuel (t / (Region.ready .any ops listed).length) (listed.setIfInBounds i true) [i]
      | none => [].reverse) := rfl
    cases hi : (Region.ready .any ops listed)[t % (Region.ready .any ops listed).length]? with
    | none =>
      have hnil : Region.ready .any ops listed = [] := by
        cases hr : Region.ready .any ops listed with
        | nil => rfl
        | cons x xs =>
          rw [hr] at hi
          have hlt : t % (x :: xs).length < (x :: xs).length := Nat.mod_lt _ (by simp)
          simp at hi
          simp at hlt
          omega
      rw [hgo, hi]
      have hall : ∀ i, i < ops.size → listed.getD i true = true := by
        intro i
        induction i using Nat.strongRecOn with
        | _ i ihi =>
          intro hlt
          cases hl : listed.getD i true with
          | true => rfl
          | false =>
            exfalso
            have hmem : i ∈ Region.ready .any ops listed := by
              unfold Region.ready
              simp only [List.mem_filter, List.mem_range, hlt, hl, true_and, Bool.not_false, Bool.true_and]
              rw [Array.getElem?_eq_getElem hlt]
              simp only [Option.map_some, Option.getD_some]
              rw [Array.all_eq_true_iff_forall_mem]
              intro e he
              cases hb : Region.binds .any e with
              | false => rfl
              | true =>
                have hlt2 := hedge i _ e (Array.getElem?_eq_getElem hlt) he hb
                have h3 := ihi e.on hlt2 (by omega)
                have hb2 : e.on < listed.size := by omega
                simp only [Array.getD_eq_getD_getElem?, Array.getElem?_eq_getElem hb2, Option.getD_some] at h3 ⊢
                simp [h3]
            rw [hnil] at hmem; cases hmem
      refine ⟨by simp, fun i => ⟨fun h => by simp at h, fun ⟨h1, h2⟩ => ?_⟩, fun j hj => by simp at hj⟩
      rw [hall i h1] at h2; cases h2
    | some i =>
      rw [hgo, hi]
      simp only []
      rw [linearise_go_acc, List.reverse_singleton, List.singleton_append]
      have hmem := List.mem_of_getElem? hi
      unfold Region.ready at hmem
      simp only [List.mem_filter, List.mem_range, Bool.and_eq_true, Bool.not_eq_true'] at hmem
      obtain ⟨hlt, hl, haft⟩ := hmem
      have hlt' : i < listed.size := by omega
      have hun : (unl ops (listed.setIfInBounds i true)).length ≤ fuel := by
        have : (unl ops (listed.setIfInBounds i true)).length < (unl ops listed).length := by
          have hsub : unl ops (listed.setIfInBounds i true) = (unl ops listed).filter fun x => x != i := by
            unfold unl
            rw [List.filter_filter]
            apply List.filter_congr
            intro x _
            rw [getD_set hlt']
            by_cases hx : x = i <;> simp [hx]
          rw [hsub]
          apply List.length_filter_lt_length_iff_exists.2
          exact ⟨i, mem_unl.2 ⟨hlt, hl⟩, by simp⟩
        omega
      obtain ⟨n1, n2, n3⟩ := ih (t / (Region.ready .any ops listed).length) (listed.setIfInBounds i true) (by simpa using hsz) hun
      refine ⟨List.nodup_cons.2 ⟨fun hx => ?_, n1⟩, fun x => ?_, fun j hj o ho e he hb => ?_⟩
      · have := ((n2 i).1 hx).2
        rw [getD_set hlt'] at this
        simp at this
      · rw [List.mem_cons, n2 x, getD_set hlt']
        by_cases hx : x = i
        · subst hx; simp [hlt, hl]
        · simp [hx]
      · by_cases hji : j = i
        · subst hji
          left
          rw [ho] at haft
          simp only [Option.map_some, Option.getD_some] at haft
          have := (Array.all_eq_true_iff_forall_mem.1 haft) e he
          simpa [hb] using this
        · have hj' : j ∈ Region.linearise.go .any ops fuel (t / (Region.ready .any ops listed).length) (listed.setIfInBounds i true) [] := by
            rcases List.mem_cons.1 hj with h | h
            · exact absurd h hji
            · exact h
          have hjpos : ((i :: Region.linearise.go .any ops fuel (t / (Region.ready .any ops listed).length) (listed.setIfInBounds i true) []).idxOf j) = (Region.linearise.go .any ops fuel (t / (Region.ready .any ops listed).length) (listed.setIfInBounds i true) []).idxOf j + 1 := by
            exact idx_ne hji
          by_cases hei : e.on = i
          · right
            unfold ahead
            rw [hjpos, hei]
            simp
          · rcases n3 j hj' o ho e he hb with h | h
            · left
              rw [getD_set hlt'] at h
              simpa [hei] using h
            · right
              unfold ahead at h ⊢
              rw [hjpos, idx_ne hei]
              omega
theorem ord_of {mixed : Bool} (hm : mixed = true) (hE : edgesB ops = true) (t : Nat) : Ord ops (Region.schedule mixed ops t) := by
  subst hm
  have h := go_ord hE ops.size t (Array.replicate ops.size false) (by simp) (by
    unfold unl
    exact Nat.le_trans (List.length_filter_le ..) (by simp))
  have he : Region.schedule true ops t = Region.linearise.go .any ops ops.size t (Array.replicate ops.size false) [] := by
    simp [Region.schedule, Region.linearise]
  rw [he]
  have hrep : ∀ i, i < ops.size → ∀ d, (Array.replicate ops.size false).getD i d = false := by
    intro i hi d
    simp [Array.getD_eq_getD_getElem?, hi]
  refine ⟨h.1, fun i => ?_, fun j hj o ho e he2 hb => ?_⟩
  · rw [h.2.1 i]
    constructor
    · exact fun x => x.1
    · exact fun x => ⟨x, hrep i x _⟩
  · rcases h.2.2 j hj o ho e he2 hb with h1 | h1
    · exfalso
      by_cases hx : e.on < ops.size
      · rw [hrep _ hx] at h1; cases h1
      · simp [Array.getD_eq_getD_getElem?, hx] at h1
    · exact h1
end go

/-- What stands ahead of what in every order: a table, and is it right? -/
def tableB (ops : Array Oper) (B : Array Nat) : Bool := (List.range ops.size).all fun j => (List.range ops.size).all fun i =>
  !(B.getD j 0).testBit i || (match ops[j]? with
    | some o => o.after.any fun e => Region.binds .any e && Nat.blt e.on j && (Nat.beq e.on i || (B.getD e.on 0).testBit i)
    | none => false)
theorem table_ok {ops : Array Oper} {B : Array Nat} (h : tableB ops B = true) {L : List Nat} (hL : Ord ops L) : ∀ j, j < ops.size → ∀ i, i < ops.size → (B.getD j 0).testBit i = true → ahead L i j := by
  intro j
  induction j using Nat.strongRecOn with
  | _ j ih =>
    intro hj i hi hb
    have h1 := List.all_eq_true.1 (List.all_eq_true.1 h j (List.mem_range.2 hj)) i (List.mem_range.2 hi)
    rw [hb] at h1
    rw [Array.getElem?_eq_getElem hj] at h1
    simp only [Bool.not_true, Bool.false_or] at h1
    rw [Array.any_eq_true'] at h1
    obtain ⟨e, he, h2⟩ := h1
    simp only [Bool.and_eq_true, Nat.blt_eq, Bool.or_eq_true, Nat.beq_eq] at h2
    obtain ⟨⟨h3, h4⟩, h5⟩ := h2
    have h6 := hL.edge j ((hL.mem j).2 hj) _ (Array.getElem?_eq_getElem hj) e he h3
    rcases h5 with h5 | h5
    · rw [h5] at h6; exact h6
    · exact Nat.lt_trans (ih e.on h4 (by omega) i hi h5) h6

/-! ### Runs in some order -/
section runs
variable {S : Type} (St : Nat → S → S → Prop)
def Run : List Nat → S → S → Prop
  | [], s, s' => s' = s
  | i :: L, s, s' => ∃ s1, St i s s1 ∧ Run L s1 s'
variable {St}
theorem Run.push {dep : Nat → Nat → Bool} (hc : ∀ i j, dep i j = false → ∀ s a b, St i s a → St j a b → ∃ a', St j s a' ∧ St i a' b) {x : Nat} : ∀ (A : List Nat) {B : List Nat} {s a s' : S}, (∀ y ∈ A, dep x y = false) →
    St x s a → Run St (A ++ B) a s' → Run St (A ++ x :: B) s s'
  | [], B, s, a, s', _, h, hr => ⟨a, h, hr⟩
  | y :: A, B, s, a, s', hd, h, hr => by
    obtain ⟨s1, h1, h2⟩ := hr
    obtain ⟨a', h3, h4⟩ := hc x y (hd y (by simp)) s a s1 h h1
    exact ⟨a', h3, Run.push hc A (fun z hz => hd z (by simp [hz])) h4 h2⟩
theorem idx_mid {A B : List Nat} {x i : Nat} (hi : i ≠ x) : (A ++ x :: B).idxOf i = if i ∈ A then (A ++ B).idxOf i else (A ++ B).idxOf i + 1 := by
  rw [List.idxOf_append, List.idxOf_append]
  by_cases h : i ∈ A
  · simp [h]
  · simp only [h, if_false]
    rw [idx_ne hi]
    omega
theorem idx_in {A B : List Nat} {i j : Nat} (hi : i ∈ A) (hj : j ∉ A) : (A ++ B).idxOf i < (A ++ B).idxOf j := by
  rw [List.idxOf_append, List.idxOf_append]
  simp only [hi, hj, if_true, if_false]
  have := List.idxOf_lt_length_iff.2 hi
  omega
/-- Orders that put what has to do with one another alike come to the same. -/
theorem Run.turn {dep : Nat → Nat → Bool} (hsym : ∀ i j, dep i j = dep j i) (hc : ∀ i j, dep i j = false → ∀ s a b, St i s a → St j a b → ∃ a', St j s a' ∧ St i a' b) : ∀ (L' L : List Nat) {s s' : S}, L.Nodup → L'.Nodup → (∀ i, i ∈ L ↔ i ∈ L') →
    (∀ i j, i ∈ L → j ∈ L → dep i j = true → ahead L i j → ahead L' i j) → Run St L' s s' → Run St L s s'
  | [], L, s, s', _, _, hm, _, h => by
    have : L = [] := List.eq_nil_iff_forall_not_mem.2 fun x hx => by simpa using (hm x).1 hx
    subst this; exact h
  | x :: L', L, s, s', hn, hn', hm, hd, h => by
    obtain ⟨a, h1, h2⟩ := h
    have hx : x ∈ L := (hm x).2 (by simp)
    obtain ⟨A, B, rfl⟩ := List.append_of_mem hx
    have hn2 : (A ++ B).Nodup ∧ x ∉ A ++ B := by
      rw [List.perm_middle.nodup_iff] at hn
      exact ⟨(List.nodup_cons.1 hn).2, (List.nodup_cons.1 hn).1⟩
    have hxA : x ∉ A := fun hx => hn2.2 (by simp [hx])
    have hne : ∀ i, i ∈ A ++ B → i ≠ x := fun i hi e => hn2.2 (e ▸ hi)
    refine Run.push hc A (fun y hy => ?_) h1 (Run.turn hsym hc L' (A ++ B) hn2.1 (List.nodup_cons.1 hn').2 (fun i => ?_) (fun i j hi hj hdep hij => ?_) h2)
    · cases hdep : dep x y with
      | false => rfl
      | true =>
        exfalso
        have h3 := hd y x (by simp [hy]) hx (by rw [hsym]; exact hdep) (idx_in hy hxA)
        unfold ahead at h3
        simp at h3
    · have h3 := hm i
      simp only [List.mem_append, List.mem_cons] at h3 ⊢
      constructor
      · intro h4
        have h5 : i ≠ x := hne i (by simpa using h4)
        have := h3.1 (by rcases h4 with h4 | h4 <;> simp [h4])
        rcases this with h | h
        · exact absurd h h5
        · exact h
      · intro h4
        have h5 : i ≠ x := fun e => (List.nodup_cons.1 hn').1 (e ▸ h4)
        rcases h3.2 (.inr h4) with h | h | h
        · exact .inl h
        · exact absurd h h5
        · exact .inr h
    · have hix := hne i hi
      have hjx := hne j hj
      have h3 : ahead (A ++ x :: B) i j := by
        unfold ahead at hij ⊢
        rw [idx_mid hix, idx_mid hjx]
        by_cases h4 : i ∈ A
        · simp only [h4, if_true]; split <;> omega
        · by_cases h5 : j ∈ A
          · exfalso
            have := idx_in (B := B) h5 h4
            omega
          · simp only [h4, h5, if_false]; omega
      have h4 := hd i j (by rcases List.mem_append.1 hi with h | h <;> simp [h]) (by rcases List.mem_append.1 hj with h | h <;> simp [h]) hdep h3
      unfold ahead at h4 ⊢
      rw [idx_ne hix, idx_ne hjx] at h4
      omega
end runs
end Go.Br
