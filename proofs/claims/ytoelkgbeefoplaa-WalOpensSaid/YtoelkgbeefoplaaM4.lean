/- Texts of this proof, part 4: DirP, DiskA, DiskB, PlainB, BackB, BackC, BackD, DiskC, DkP, DiskD, DiskE, DiskF, CloneA, EachA, CopyA, CheckA, UsedA, TurnK, OpsA, OpsB, OpsC, CopyB, OpsD, TurnB, TurnD, TurnC. -/
import Derived.Test.YtoelkgbeefoplaaM3
set_option linter.unusedSimpArgs false
set_option linter.unusedVariables false
set_option linter.constructorNameAsVariable false
namespace Go.Proofs.Ytoelkgbeefoplaa
open Go Go.Br Go.Proofs
theorem pos_get_low {ks : List ByteArray} {x : ByteArray} : ∀ k ∈ ks.take (pos ks x), lt k x = true := by
  intro k hk
  obtain ⟨i, hi, rfl⟩ := List.mem_iff_getElem.1 hk
  simp only [List.length_take] at hi
  rw [List.getElem_take]
  exact pos_low (by omega) (by omega)
theorem pos_get_high {ks : List ByteArray} {x : ByteArray} (hr : Rising ks) : ∀ k ∈ ks.drop (pos ks x), lt k x = false := by
  intro k hk
  obtain ⟨i, hi, rfl⟩ := List.mem_iff_getElem.1 hk
  simp only [List.length_drop] at hi
  rw [List.getElem_drop]
  exact pos_high hr (by omega) (by omega)
theorem kdrop_rising {ks : List ByteArray} {V2 : List Int} {x : ByteArray} (hr : Rising ks) : Rising (kdrop ks V2 x).1 := by
  unfold kdrop; split
  · exact List.Pairwise.sublist (List.eraseIdx_sublist _ _) hr
  · exact hr
theorem kdrop_len {ks : List ByteArray} {V2 : List Int} {x : ByteArray} (hv : V2.length = ks.length) : (kdrop ks V2 x).2.length = (kdrop ks V2 x).1.length := by
  unfold kdrop; split
  · simp [List.length_eraseIdx, hv]
  · exact hv
theorem kdrop_le {ks : List ByteArray} {V2 : List Int} {x : ByteArray} : (kdrop ks V2 x).1.length ≤ ks.length := by
  unfold kdrop; split
  · simp only [List.length_eraseIdx]; split <;> omega
  · exact Nat.le_refl _
theorem kput_rising {ks : List ByteArray} {V2 : List Int} {x : ByteArray} {y : Int} (hr : Rising ks) : Rising (kput ks V2 x y).1 := by
  unfold kput; split
  · exact hr
  · rename_i hne
    have h1 := @pos_get_low ks x
    have h2 := @pos_get_high ks x hr
    have h4 : ∀ k ∈ ks.drop (pos ks x), lt x k = true := by
      intro k hk
      cases h : lt x k with
      | true => rfl
      | false =>
        exfalso
        have he := lt_total h (h2 k hk)
        subst he
        obtain ⟨i, hi, he⟩ := List.mem_iff_getElem.1 hk
        simp only [List.length_drop] at hi
        rw [List.getElem_drop] at he
        cases i with
        | zero => exact hne (by rw [List.getElem?_eq_getElem (by omega)]; simpa using he)
        | succ i =>
          have := List.pairwise_iff_getElem.1 hr (pos ks x) (pos ks x + (i + 1)) (by omega) (by omega) (by omega)
          rw [he] at this
          rw [pos_high hr (Nat.le_refl _) (by omega)] at this
          cases this
    unfold Rising
    rw [List.pairwise_append]
    refine ⟨List.Pairwise.sublist (List.take_sublist _ _) hr, List.pairwise_cons.2 ⟨h4, List.Pairwise.sublist (List.drop_sublist _ _) hr⟩, ?_⟩
    intro a ha b hb
    rcases List.mem_cons.1 hb with rfl | hb
    · exact h1 a ha
    · exact lt_trans (h1 a ha) (h4 b hb)
theorem kput_len {ks : List ByteArray} {V2 : List Int} {x : ByteArray} {y : Int} (hv : V2.length = ks.length) : (kput ks V2 x y).2.length = (kput ks V2 x y).1.length := by
  unfold kput; split
  · simpa using hv
  · simp [hv]
theorem kput_le {ks : List ByteArray} {V2 : List Int} {x : ByteArray} {y : Int} : (kput ks V2 x y).1.length ≤ ks.length + 1 := by
  unfold kput; split
  · simp
  · have := pos_le ks x
    simp; omega
def kapply (ks : List ByteArray) (V2 : List Int) (g n : ByteArray) (k : Int) : List ByteArray × List Int :=
  let p := if g.size = 0 then (ks, V2) else kdrop ks V2 g
  if n.size = 0 then p else kput p.1 p.2 n k
theorem kapply_rising {ks : List ByteArray} {V2 : List Int} {g n : ByteArray} {k : Int} (hr : Rising ks) : Rising (kapply ks V2 g n k).1 := by
  unfold kapply
  dsimp only
  split <;> split <;> first | exact hr | exact kdrop_rising hr | exact kput_rising hr | exact kput_rising (kdrop_rising hr)
theorem kapply_len {ks : List ByteArray} {V2 : List Int} {g n : ByteArray} {k : Int} (hv : V2.length = ks.length) : (kapply ks V2 g n k).2.length = (kapply ks V2 g n k).1.length := by
  unfold kapply
  dsimp only
  split <;> split <;> first | exact hv | exact kdrop_len hv | exact kput_len hv | exact kput_len (kdrop_len hv)
theorem kapply_le {ks : List ByteArray} {V2 : List Int} {g n : ByteArray} {k : Int} : (kapply ks V2 g n k).1.length ≤ ks.length + 1 := by
  unfold kapply
  dsimp only
  have h1 := @kdrop_le ks V2 g
  have h2 := @kput_le ks V2 n k
  have h3 := @kput_le (kdrop ks V2 g).1 (kdrop ks V2 g).2 n k
  split <;> split <;> (try dsimp only) <;> omega
theorem pos_all : ∀ {ks : List ByteArray} {x : ByteArray} (_ : ∀ k ∈ ks, lt k x = true), pos ks x = ks.length
  | [], _, _ => rfl
  | k :: ks, x, h => by
    rw [pos_cons, if_pos (h k (by simp)), pos_all fun k' hk => h k' (by simp [hk])]
    rfl
theorem kput_next {ks : List ByteArray} {V2 : List Int} (hr : Rising ks) (hv : V2.length = ks.length) (i : Nat) (h : i < ks.length) : kput (ks.take i) (V2.take i) ks[i] (V2[i]'(by omega)) = (ks.take (i + 1), V2.take (i + 1)) := by
  have hp : pos (ks.take i) ks[i] = i := by
    rw [pos_all]
    · simp; omega
    · intro k hk
      obtain ⟨j, hj, rfl⟩ := List.mem_iff_getElem.1 hk
      simp only [List.length_take] at hj
      rw [List.getElem_take]
      exact List.pairwise_iff_getElem.1 hr j i (by omega) h (by omega)
  unfold kput
  rw [hp, if_neg (by rw [List.getElem?_eq_none (by simp; omega)]; simp)]
  have h1 : (ks.take i).take i = ks.take i := by rw [List.take_take, Nat.min_self]
  have h2 : (V2.take i).take i = V2.take i := by rw [List.take_take, Nat.min_self]
  have h3 : (ks.take i).drop i = [] := by rw [List.drop_eq_nil_iff, List.length_take]; omega
  have h4 : (V2.take i).drop i = [] := by rw [List.drop_eq_nil_iff, List.length_take]; omega
  rw [h1, h2, h3, h4, List.take_succ_eq_append_getElem h, List.take_succ_eq_append_getElem (by omega : i < V2.length)]
end Go.Proofs.Ytoelkgbeefoplaa
namespace Go.Proofs.Ytoelkgbeefoplaa
open Go Go.Br Go.Proofs
noncomputable def B28 : Code := (Try.f28.body).getD .skip
theorem F28 : Fnc Try.prog 28 Try.f28 B28 := ⟨Try.func28, by kernel_rfl, by kernel_rfl⟩
def okc (c : Int) : Prop := (97 ≤ c ∧ c ≤ 122) ∨ (48 ≤ c ∧ c ≤ 57) ∨ c = 46 ∨ c = 45 ∨ c = 95
instance (c : Int) : Decidable (okc c) := by unfold okc; exact inferInstance
def mayName (s : ByteArray) : Bool := decide (∀ j, ∀ _ : j < s.size, okc (s[j].toNat : Int)) && decide (1 ≤ s.size ∧ s.size ≤ 80)
theorem get_of {s : ByteArray} {i : Nat} {y : UInt8} (hy : s[i]? = some y) : ∃ h : i < s.size, s[i] = y := by
  by_cases h : i < s.size
  · refine ⟨h, ?_⟩
    rw [show s[i]? = some s[i] by simp [h]] at hy
    exact Option.some.inj hy
  · rw [show s[i]? = none by simp [h]] at hy
    cases hy
theorem no28 {s : ByteArray} {i : Nat} {y : UInt8} (hy : s[i]? = some y) (hc : ¬ okc (y.toNat : Int)) : mayName s = false := by
  obtain ⟨h, rfl⟩ := get_of hy
  unfold mayName
  rw [decide_eq_false fun hall => hc (hall i h), Bool.false_and]
theorem yes28 {s : ByteArray} {i : Nat} {y : UInt8} (hj : ∀ j, ∀ _ : j < s.size, j < i → okc (s[j].toNat : Int)) (hy : s[i]? = some y) (hc : okc (y.toNat : Int)) : ∀ j, ∀ _ : j < s.size, j < i + 1 → okc (s[j].toNat : Int) := by
  obtain ⟨h, rfl⟩ := get_of hy
  intro j hs hi
  by_cases hji : j = i
  · subst hji; exact hc
  · exact hj j hs (by omega)
theorem lp28 (s : ByteArray) (hs : s.size < 9223372036854775807) : ∀ (m i : Nat), i + m = s.size → (∀ j, ∀ _ : j < s.size, j < i → okc (s[j].toNat : Int)) →
    AW Try.prog 28 none 0 (cgo 13 [] [.code B28]) (mk (Try.f28.ntmps) [(0, .d (.str s)), (2, .d (.bool false)), (6, .d (i64 s.size)), (7, .d (i64 i))]) [] [] (fun r σ' => r = .ret (.d (.bool (mayName s))) ∧ σ' = []) := by
  intro m
  induction m with
  | zero =>
    intro i hi hj
    obtain rfl : i = s.size := by omega
    refine .sg0 5 [0, 2, 6, 7, 8] (cgo 18 [] [.code B28]) [(8, .d (.bool (decide ((↑s.size : Int) < (↑s.size : Int)))))] ?_
    refine .if' (decide ((↑s.size : Int) < (↑s.size : Int))) (cgo 19 [true] [.code B28]) (cgo 19 [false] [.code B28]) (fun h1 => ?_) (fun h1 => ?_)
    · simp only [bsX] at h1
      omega
    · simp only [bsX] at h1
      refine .sg0 7 [0, 2, 40, 41, 42, 43] (cgo 26 [false] [.code B28]) [(40, .d (.str s)), (41, .d (.int .i64 (↑s.size : Int))), (42, .d (.bool (decide ((↑s.size : Int) ≥ 1)))), (43, .d (.bool (decide ((↑s.size : Int) ≥ 1))))] ?_
      rcases Bool.eq_false_or_eq_true (decide ((↑s.size : Int) ≥ 1)) with h2 | h2
      · rw [h2]
        simp only [bsX] at h2
        refine .seg 6 [2] (T' := cgo 32 [false] [.code B28]) (tm' := mk 48 [(2, .d (.bool (decide ((↑s.size : Int) ≤ 80))))]) (σ' := []) (by kernel_rfl) ?_
        refine .retH F28 (v := V.d (D.bool (decide ((↑s.size : Int) ≤ 80)))) (by kernel_rfl) (by kernel_rfl) ?_
        refine ⟨?_, rfl⟩
        unfold mayName
        rw [decide_eq_true (fun j h => hj j h h), Bool.true_and]
        exact congrArg (fun b => AE.ret (V.d (D.bool b))) (decide_eq_decide.2 (by omega))
      · rw [h2]
        simp only [bsX] at h2
        refine .seg 6 [2] (T' := cgo 32 [false] [.code B28]) (tm' := mk 48 [(2, .d (.bool false))]) (σ' := []) (by kernel_rfl) ?_
        refine .retH F28 (v := V.d (D.bool false)) (by kernel_rfl) (by kernel_rfl) ?_
        (simp [mayName] <;> omega)
  | succ m ih =>
    intro i hi hj
    refine .sg0 5 [0, 2, 6, 7, 8] (cgo 18 [] [.code B28]) [(8, .d (.bool (decide ((↑i : Int) < (↑s.size : Int)))))] ?_
    refine .if' (decide ((↑i : Int) < (↑s.size : Int))) (cgo 19 [true] [.code B28]) (cgo 19 [false] [.code B28]) (fun h1 => ?_) (fun h1 => ?_)
    · simp only [bsX] at h1
      refine .sg0 12 [0, 2, 3, 6, 7, 8, 9, 10, 11] (cgo 31 [true] [.code B28]) [(3, .d (.int .i64 (↑i : Int))), (9, .d (.int .i64 (↑i : Int))), (10, .d (.str s)), (11, .d (.int .i64 (↑i : Int)))] ?_
      obtain ⟨y2, hy2⟩ := str_get (s := s) (i := i) (by omega)
      refine .op' (cgo 32 [true] [.code B28]) (ixStr_ok (t := 9) (x := (.tmp 10)) (i := (.tmp 11)) (k := IntKind.i64) (n := (↑i : Int)) (s := s) (b := y2) (by kernel_rfl) (by kernel_rfl) (by kernel_rfl) (by kernel_rfl) (by omega) hy2) ?_
      refine .sg0 7 [0, 2, 3, 4, 6, 7, 8, 9, 10, 11, 12, 13, 14, 15] (cgo 39 [true] [.code B28]) [(4, .d (.int .u8 (↑y2.toNat : Int))), (13, .d (.int .u8 (↑y2.toNat : Int))), (14, .d (.bool (decide ((↑y2.toNat : Int) < 97)))), (15, .d (.bool (decide ((↑y2.toNat : Int) < 97))))] ?_
      rcases Bool.eq_false_or_eq_true (decide ((↑y2.toNat : Int) < 97)) with h3 | h3
      · rw [h3]
        simp only [bsX] at h3
        refine .sg0 7 [0, 2, 3, 4, 6, 7, 8, 9, 10, 11, 12, 13, 14, 15, 16, 17, 18, 19, 20, 21, 22] (cgo 46 [true] [.code B28]) [(16, .tuple []), (17, .tuple []), (18, .d (.bool true)), (19, .d (.bool true)), (20, .d (.int .u8 (↑y2.toNat : Int))), (21, .d (.bool (decide ((↑y2.toNat : Int) < 48)))), (22, .d (.bool (decide ((↑y2.toNat : Int) < 48))))] ?_
        rcases Bool.eq_false_or_eq_true (decide ((↑y2.toNat : Int) < 48)) with h4 | h4
        · rw [h4]
          simp only [bsX] at h4
          refine .sg0 9 [0, 2, 3, 4, 6, 7, 8, 9, 10, 11, 12, 13, 14, 15, 16, 17, 18, 19, 20, 21, 22, 23, 24, 25, 26, 27, 28, 29, 30, 31] (cgo 55 [true] [.code B28]) [(23, .tuple []), (24, .tuple []), (25, .d (.bool true)), (26, .d (.bool true)), (27, .d (.bool true)), (28, .d (.int .u8 (↑y2.toNat : Int))), (29, .d (.bool ((↑y2.toNat : Int) != 46))), (30, .d (.bool ((↑y2.toNat : Int) != 46))), (31, .d (.bool ((↑y2.toNat : Int) != 46)))] ?_
          rcases Bool.eq_false_or_eq_true ((↑y2.toNat : Int) != 46) with h5 | h5
          · rw [h5]
            simp only [bsX] at h5
            refine .sg0 4 [0, 2, 3, 4, 6, 7, 8, 9, 10, 11, 12, 13, 14, 15, 16, 17, 18, 19, 20, 21, 22, 23, 24, 25, 26, 27, 28, 29, 30, 31, 32, 33, 34, 35] (cgo 59 [true] [.code B28]) [(32, .d (.int .u8 (↑y2.toNat : Int))), (33, .d (.bool ((↑y2.toNat : Int) != 45))), (34, .d (.bool ((↑y2.toNat : Int) != 45))), (35, .d (.bool ((↑y2.toNat : Int) != 45)))] ?_
            rcases Bool.eq_false_or_eq_true ((↑y2.toNat : Int) != 45) with h6 | h6
            · rw [h6]
              simp only [bsX] at h6
              refine .sg0 4 [0, 2, 3, 4, 6, 7, 8, 9, 10, 11, 12, 13, 14, 15, 16, 17, 18, 19, 20, 21, 22, 23, 24, 25, 26, 27, 28, 29, 30, 31, 32, 33, 34, 35, 36, 37, 38] (cgo 63 [true] [.code B28]) [(36, .d (.int .u8 (↑y2.toNat : Int))), (37, .d (.bool ((↑y2.toNat : Int) != 95))), (38, .d (.bool ((↑y2.toNat : Int) != 95)))] ?_
              refine .if' ((↑y2.toNat : Int) != 95) (cgo 64 [true, true] [.code B28]) (cgo 64 [true, false] [.code B28]) (fun h7 => ?_) (fun h7 => ?_)
              · simp only [bsX] at h7
                refine .seg 4 [0, 2, 3, 4, 6, 7, 8, 9, 10, 11, 12, 13, 14, 15, 16, 17, 18, 19, 20, 21, 22, 23, 24, 25, 26, 27, 28, 29, 30, 31, 32, 33, 34, 35, 36, 37, 38] (T' := cgo 68 [true, true] [.code B28]) (tm' := mk 48 [(0, .d (.str s)), (2, .d (.bool false)), (3, .d (.int .i64 (↑i : Int))), (4, .d (.int .u8 (↑y2.toNat : Int))), (6, .d (.int .i64 (↑s.size : Int))), (7, .d (.int .i64 (↑i : Int))), (8, .d (.bool (decide ((↑i : Int) < (↑s.size : Int))))), (9, .d (.int .i64 (↑i : Int))), (10, .d (.str s)), (11, .d (.int .i64 (↑i : Int))), (12, .d (.int .u8 (↑y2.toNat : Int))), (13, .d (.int .u8 (↑y2.toNat : Int))), (14, .d (.bool true)), (15, .d (.bool true)), (16, .tuple []), (17, .tuple []), (18, .d (.bool true)), (19, .d (.bool true)), (20, .d (.int .u8 (↑y2.toNat : Int))), (21, .d (.bool true)), (22, .d (.bool true)), (23, .tuple []), (24, .tuple []), (25, .d (.bool true)), (26, .d (.bool true)), (27, .d (.bool true)), (28, .d (.int .u8 (↑y2.toNat : Int))), (29, .d (.bool true)), (30, .d (.bool true)), (31, .d (.bool true)), (32, .d (.int .u8 (↑y2.toNat : Int))), (33, .d (.bool true)), (34, .d (.bool true)), (35, .d (.bool true)), (36, .d (.int .u8 (↑y2.toNat : Int))), (37, .d (.bool ((↑y2.toNat : Int) != 95))), (38, .d (.bool ((↑y2.toNat : Int) != 95)))]) (σ' := []) (by kernel_rfl) ?_
                refine .retH F28 (v := V.d (D.bool false)) (by kernel_rfl) (by kernel_rfl) ?_
                exact ⟨by rw [no28 hy2 (by unfold okc; omega)], rfl⟩
              · simp only [bsX] at h7
                omega
            · rw [h6]
              simp only [bsX] at h6
              refine .sg0 11 [0, 2, 3, 4, 6, 7, 8, 9, 10, 11, 12, 13, 14, 15, 16, 17, 18, 19, 20, 21, 22, 23, 24, 25, 26, 27, 28, 29, 30, 31, 32, 33, 34, 35, 36, 37, 38, 39] (cgo 70 [true, false] [.code B28]) [(7, .d (.int .i64 (IntKind.i64.wrap ((↑i : Int) + 1)))), (36, .tuple []), (37, .tuple []), (38, .d (.bool false)), (39, .d (.int .i64 (IntKind.i64.wrap ((↑i : Int) + 1))))] ?_
              simp (disch := omega) only [wrap_i64, wrap_u64s, wrap_u32s, wrap_u8s, wrap_i32s, iadd_i64, isub_i64, irem_n, iquo_n, tdiv_nn, tmod_nn]
              refine .seg 1 [0, 2, 6, 7] (T' := cgo 13 [] [.code B28]) (tm' := mk 48 [(0, .d (.str s)), (2, .d (.bool false)), (6, .d (i64 s.size)), (7, .d (i64 (↑i + 1)))]) (σ' := []) (by kernel_rfl) ?_
              exact ih (i + 1) (by omega) (yes28 hj hy2 (by unfold okc; omega))
          · rw [h5]
            simp only [bsX] at h5
            refine .sg0 15 [0, 2, 3, 4, 6, 7, 8, 9, 10, 11, 12, 13, 14, 15, 16, 17, 18, 19, 20, 21, 22, 23, 24, 25, 26, 27, 28, 29, 30, 31, 32, 33, 34, 35, 36, 37, 38, 39] (cgo 70 [true, false] [.code B28]) [(7, .d (.int .i64 (IntKind.i64.wrap ((↑i : Int) + 1)))), (32, .tuple []), (33, .tuple []), (34, .d (.bool false)), (35, .d (.bool false)), (36, .tuple []), (37, .tuple []), (38, .d (.bool false)), (39, .d (.int .i64 (IntKind.i64.wrap ((↑i : Int) + 1))))] ?_
            simp (disch := omega) only [wrap_i64, wrap_u64s, wrap_u32s, wrap_u8s, wrap_i32s, iadd_i64, isub_i64, irem_n, iquo_n, tdiv_nn, tmod_nn]
            refine .seg 1 [0, 2, 6, 7] (T' := cgo 13 [] [.code B28]) (tm' := mk 48 [(0, .d (.str s)), (2, .d (.bool false)), (6, .d (i64 s.size)), (7, .d (i64 (↑i + 1)))]) (σ' := []) (by kernel_rfl) ?_
            exact ih (i + 1) (by omega) (yes28 hj hy2 (by unfold okc; omega))
        · rw [h4]
          simp only [bsX] at h4
          refine .sg0 5 [0, 2, 3, 4, 6, 7, 8, 9, 10, 11, 12, 13, 14, 15, 16, 17, 18, 19, 20, 21, 22, 23, 24, 25, 26, 27] (cgo 51 [true] [.code B28]) [(23, .d (.int .u8 (↑y2.toNat : Int))), (24, .d (.bool (decide ((↑y2.toNat : Int) > 57)))), (25, .d (.bool (decide ((↑y2.toNat : Int) > 57)))), (26, .d (.bool (decide ((↑y2.toNat : Int) > 57)))), (27, .d (.bool (decide ((↑y2.toNat : Int) > 57))))] ?_
          rcases Bool.eq_false_or_eq_true (decide ((↑y2.toNat : Int) > 57)) with h8 | h8
          · rw [h8]
            simp only [bsX] at h8
            refine .sg0 4 [0, 2, 3, 4, 6, 7, 8, 9, 10, 11, 12, 13, 14, 15, 16, 17, 18, 19, 20, 21, 22, 23, 24, 25, 26, 27, 28, 29, 30, 31] (cgo 55 [true] [.code B28]) [(28, .d (.int .u8 (↑y2.toNat : Int))), (29, .d (.bool ((↑y2.toNat : Int) != 46))), (30, .d (.bool ((↑y2.toNat : Int) != 46))), (31, .d (.bool ((↑y2.toNat : Int) != 46)))] ?_
            rcases Bool.eq_false_or_eq_true ((↑y2.toNat : Int) != 46) with h9 | h9
            · rw [h9]
              simp only [bsX] at h9
              refine .sg0 4 [0, 2, 3, 4, 6, 7, 8, 9, 10, 11, 12, 13, 14, 15, 16, 17, 18, 19, 20, 21, 22, 23, 24, 25, 26, 27, 28, 29, 30, 31, 32, 33, 34, 35] (cgo 59 [true] [.code B28]) [(32, .d (.int .u8 (↑y2.toNat : Int))), (33, .d (.bool ((↑y2.toNat : Int) != 45))), (34, .d (.bool ((↑y2.toNat : Int) != 45))), (35, .d (.bool ((↑y2.toNat : Int) != 45)))] ?_
              rcases Bool.eq_false_or_eq_true ((↑y2.toNat : Int) != 45) with h10 | h10
              · rw [h10]
                simp only [bsX] at h10
                refine .sg0 4 [0, 2, 3, 4, 6, 7, 8, 9, 10, 11, 12, 13, 14, 15, 16, 17, 18, 19, 20, 21, 22, 23, 24, 25, 26, 27, 28, 29, 30, 31, 32, 33, 34, 35, 36, 37, 38] (cgo 63 [true] [.code B28]) [(36, .d (.int .u8 (↑y2.toNat : Int))), (37, .d (.bool ((↑y2.toNat : Int) != 95))), (38, .d (.bool ((↑y2.toNat : Int) != 95)))] ?_
                refine .if' ((↑y2.toNat : Int) != 95) (cgo 64 [true, true] [.code B28]) (cgo 64 [true, false] [.code B28]) (fun h11 => ?_) (fun h11 => ?_)
                · simp only [bsX] at h11
                  refine .seg 4 [0, 2, 3, 4, 6, 7, 8, 9, 10, 11, 12, 13, 14, 15, 16, 17, 18, 19, 20, 21, 22, 23, 24, 25, 26, 27, 28, 29, 30, 31, 32, 33, 34, 35, 36, 37, 38] (T' := cgo 68 [true, true] [.code B28]) (tm' := mk 48 [(0, .d (.str s)), (2, .d (.bool false)), (3, .d (.int .i64 (↑i : Int))), (4, .d (.int .u8 (↑y2.toNat : Int))), (6, .d (.int .i64 (↑s.size : Int))), (7, .d (.int .i64 (↑i : Int))), (8, .d (.bool (decide ((↑i : Int) < (↑s.size : Int))))), (9, .d (.int .i64 (↑i : Int))), (10, .d (.str s)), (11, .d (.int .i64 (↑i : Int))), (12, .d (.int .u8 (↑y2.toNat : Int))), (13, .d (.int .u8 (↑y2.toNat : Int))), (14, .d (.bool true)), (15, .d (.bool true)), (16, .tuple []), (17, .tuple []), (18, .d (.bool true)), (19, .d (.bool true)), (20, .d (.int .u8 (↑y2.toNat : Int))), (21, .d (.bool false)), (22, .d (.bool false)), (23, .d (.int .u8 (↑y2.toNat : Int))), (24, .d (.bool true)), (25, .d (.bool true)), (26, .d (.bool true)), (27, .d (.bool true)), (28, .d (.int .u8 (↑y2.toNat : Int))), (29, .d (.bool true)), (30, .d (.bool true)), (31, .d (.bool true)), (32, .d (.int .u8 (↑y2.toNat : Int))), (33, .d (.bool true)), (34, .d (.bool true)), (35, .d (.bool true)), (36, .d (.int .u8 (↑y2.toNat : Int))), (37, .d (.bool ((↑y2.toNat : Int) != 95))), (38, .d (.bool ((↑y2.toNat : Int) != 95)))]) (σ' := []) (by kernel_rfl) ?_
                  refine .retH F28 (v := V.d (D.bool false)) (by kernel_rfl) (by kernel_rfl) ?_
                  exact ⟨by rw [no28 hy2 (by unfold okc; omega)], rfl⟩
                · simp only [bsX] at h11
                  refine .sg0 6 [0, 2, 3, 4, 6, 7, 8, 9, 10, 11, 12, 13, 14, 15, 16, 17, 18, 19, 20, 21, 22, 23, 24, 25, 26, 27, 28, 29, 30, 31, 32, 33, 34, 35, 36, 37, 38, 39] (cgo 70 [true, false] [.code B28]) [(7, .d (.int .i64 (IntKind.i64.wrap ((↑i : Int) + 1)))), (39, .d (.int .i64 (IntKind.i64.wrap ((↑i : Int) + 1))))] ?_
                  simp (disch := omega) only [wrap_i64, wrap_u64s, wrap_u32s, wrap_u8s, wrap_i32s, iadd_i64, isub_i64, irem_n, iquo_n, tdiv_nn, tmod_nn]
                  refine .seg 1 [0, 2, 6, 7] (T' := cgo 13 [] [.code B28]) (tm' := mk 48 [(0, .d (.str s)), (2, .d (.bool false)), (6, .d (i64 s.size)), (7, .d (i64 (↑i + 1)))]) (σ' := []) (by kernel_rfl) ?_
                  exact ih (i + 1) (by omega) (yes28 hj hy2 (by unfold okc; omega))
              · rw [h10]
                simp only [bsX] at h10
                omega
            · rw [h9]
              simp only [bsX] at h9
              omega
          · rw [h8]
            simp only [bsX] at h8
            refine .sg0 19 [0, 2, 3, 4, 6, 7, 8, 9, 10, 11, 12, 13, 14, 15, 16, 17, 18, 19, 20, 21, 22, 23, 24, 25, 26, 27, 28, 29, 30, 31, 32, 33, 34, 35, 36, 37, 38, 39] (cgo 70 [true, false] [.code B28]) [(7, .d (.int .i64 (IntKind.i64.wrap ((↑i : Int) + 1)))), (28, .tuple []), (29, .tuple []), (30, .d (.bool false)), (31, .d (.bool false)), (32, .tuple []), (33, .tuple []), (34, .d (.bool false)), (35, .d (.bool false)), (36, .tuple []), (37, .tuple []), (38, .d (.bool false)), (39, .d (.int .i64 (IntKind.i64.wrap ((↑i : Int) + 1))))] ?_
            simp (disch := omega) only [wrap_i64, wrap_u64s, wrap_u32s, wrap_u8s, wrap_i32s, iadd_i64, isub_i64, irem_n, iquo_n, tdiv_nn, tmod_nn]
            refine .seg 1 [0, 2, 6, 7] (T' := cgo 13 [] [.code B28]) (tm' := mk 48 [(0, .d (.str s)), (2, .d (.bool false)), (6, .d (i64 s.size)), (7, .d (i64 (↑i + 1)))]) (σ' := []) (by kernel_rfl) ?_
            exact ih (i + 1) (by omega) (yes28 hj hy2 (by unfold okc; omega))
      · rw [h3]
        simp only [bsX] at h3
        refine .sg0 4 [0, 2, 3, 4, 6, 7, 8, 9, 10, 11, 12, 13, 14, 15, 16, 17, 18, 19] (cgo 43 [true] [.code B28]) [(16, .d (.int .u8 (↑y2.toNat : Int))), (17, .d (.bool (decide ((↑y2.toNat : Int) > 122)))), (18, .d (.bool (decide ((↑y2.toNat : Int) > 122)))), (19, .d (.bool (decide ((↑y2.toNat : Int) > 122))))] ?_
        rcases Bool.eq_false_or_eq_true (decide ((↑y2.toNat : Int) > 122)) with h12 | h12
        · rw [h12]
          simp only [bsX] at h12
          refine .sg0 3 [0, 2, 3, 4, 6, 7, 8, 9, 10, 11, 12, 13, 14, 15, 16, 17, 18, 19, 20, 21, 22] (cgo 46 [true] [.code B28]) [(20, .d (.int .u8 (↑y2.toNat : Int))), (21, .d (.bool (decide ((↑y2.toNat : Int) < 48)))), (22, .d (.bool (decide ((↑y2.toNat : Int) < 48))))] ?_
          rcases Bool.eq_false_or_eq_true (decide ((↑y2.toNat : Int) < 48)) with h13 | h13
          · rw [h13]
            simp only [bsX] at h13
            omega
          · rw [h13]
            simp only [bsX] at h13
            refine .sg0 5 [0, 2, 3, 4, 6, 7, 8, 9, 10, 11, 12, 13, 14, 15, 16, 17, 18, 19, 20, 21, 22, 23, 24, 25, 26, 27] (cgo 51 [true] [.code B28]) [(23, .d (.int .u8 (↑y2.toNat : Int))), (24, .d (.bool (decide ((↑y2.toNat : Int) > 57)))), (25, .d (.bool (decide ((↑y2.toNat : Int) > 57)))), (26, .d (.bool (decide ((↑y2.toNat : Int) > 57)))), (27, .d (.bool (decide ((↑y2.toNat : Int) > 57))))] ?_
            rcases Bool.eq_false_or_eq_true (decide ((↑y2.toNat : Int) > 57)) with h14 | h14
            · rw [h14]
              simp only [bsX] at h14
              refine .sg0 4 [0, 2, 3, 4, 6, 7, 8, 9, 10, 11, 12, 13, 14, 15, 16, 17, 18, 19, 20, 21, 22, 23, 24, 25, 26, 27, 28, 29, 30, 31] (cgo 55 [true] [.code B28]) [(28, .d (.int .u8 (↑y2.toNat : Int))), (29, .d (.bool ((↑y2.toNat : Int) != 46))), (30, .d (.bool ((↑y2.toNat : Int) != 46))), (31, .d (.bool ((↑y2.toNat : Int) != 46)))] ?_
              rcases Bool.eq_false_or_eq_true ((↑y2.toNat : Int) != 46) with h15 | h15
              · rw [h15]
                simp only [bsX] at h15
                refine .sg0 4 [0, 2, 3, 4, 6, 7, 8, 9, 10, 11, 12, 13, 14, 15, 16, 17, 18, 19, 20, 21, 22, 23, 24, 25, 26, 27, 28, 29, 30, 31, 32, 33, 34, 35] (cgo 59 [true] [.code B28]) [(32, .d (.int .u8 (↑y2.toNat : Int))), (33, .d (.bool ((↑y2.toNat : Int) != 45))), (34, .d (.bool ((↑y2.toNat : Int) != 45))), (35, .d (.bool ((↑y2.toNat : Int) != 45)))] ?_
                rcases Bool.eq_false_or_eq_true ((↑y2.toNat : Int) != 45) with h16 | h16
                · rw [h16]
                  simp only [bsX] at h16
                  refine .sg0 4 [0, 2, 3, 4, 6, 7, 8, 9, 10, 11, 12, 13, 14, 15, 16, 17, 18, 19, 20, 21, 22, 23, 24, 25, 26, 27, 28, 29, 30, 31, 32, 33, 34, 35, 36, 37, 38] (cgo 63 [true] [.code B28]) [(36, .d (.int .u8 (↑y2.toNat : Int))), (37, .d (.bool ((↑y2.toNat : Int) != 95))), (38, .d (.bool ((↑y2.toNat : Int) != 95)))] ?_
                  refine .if' ((↑y2.toNat : Int) != 95) (cgo 64 [true, true] [.code B28]) (cgo 64 [true, false] [.code B28]) (fun h17 => ?_) (fun h17 => ?_)
                  · simp only [bsX] at h17
                    refine .seg 4 [0, 2, 3, 4, 6, 7, 8, 9, 10, 11, 12, 13, 14, 15, 16, 17, 18, 19, 20, 21, 22, 23, 24, 25, 26, 27, 28, 29, 30, 31, 32, 33, 34, 35, 36, 37, 38] (T' := cgo 68 [true, true] [.code B28]) (tm' := mk 48 [(0, .d (.str s)), (2, .d (.bool false)), (3, .d (.int .i64 (↑i : Int))), (4, .d (.int .u8 (↑y2.toNat : Int))), (6, .d (.int .i64 (↑s.size : Int))), (7, .d (.int .i64 (↑i : Int))), (8, .d (.bool (decide ((↑i : Int) < (↑s.size : Int))))), (9, .d (.int .i64 (↑i : Int))), (10, .d (.str s)), (11, .d (.int .i64 (↑i : Int))), (12, .d (.int .u8 (↑y2.toNat : Int))), (13, .d (.int .u8 (↑y2.toNat : Int))), (14, .d (.bool false)), (15, .d (.bool false)), (16, .d (.int .u8 (↑y2.toNat : Int))), (17, .d (.bool true)), (18, .d (.bool true)), (19, .d (.bool true)), (20, .d (.int .u8 (↑y2.toNat : Int))), (21, .d (.bool false)), (22, .d (.bool false)), (23, .d (.int .u8 (↑y2.toNat : Int))), (24, .d (.bool true)), (25, .d (.bool true)), (26, .d (.bool true)), (27, .d (.bool true)), (28, .d (.int .u8 (↑y2.toNat : Int))), (29, .d (.bool true)), (30, .d (.bool true)), (31, .d (.bool true)), (32, .d (.int .u8 (↑y2.toNat : Int))), (33, .d (.bool true)), (34, .d (.bool true)), (35, .d (.bool true)), (36, .d (.int .u8 (↑y2.toNat : Int))), (37, .d (.bool ((↑y2.toNat : Int) != 95))), (38, .d (.bool ((↑y2.toNat : Int) != 95)))]) (σ' := []) (by kernel_rfl) ?_
                    refine .retH F28 (v := V.d (D.bool false)) (by kernel_rfl) (by kernel_rfl) ?_
                    exact ⟨by rw [no28 hy2 (by unfold okc; omega)], rfl⟩
                  · simp only [bsX] at h17
                    omega
                · rw [h16]
                  simp only [bsX] at h16
                  omega
              · rw [h15]
                simp only [bsX] at h15
                omega
            · rw [h14]
              simp only [bsX] at h14
              omega
        · rw [h12]
          simp only [bsX] at h12
          refine .sg0 27 [0, 2, 3, 4, 6, 7, 8, 9, 10, 11, 12, 13, 14, 15, 16, 17, 18, 19, 20, 21, 22, 23, 24, 25, 26, 27, 28, 29, 30, 31, 32, 33, 34, 35, 36, 37, 38, 39] (cgo 70 [true, false] [.code B28]) [(7, .d (.int .i64 (IntKind.i64.wrap ((↑i : Int) + 1)))), (20, .tuple []), (21, .tuple []), (22, .tuple []), (23, .tuple []), (24, .tuple []), (25, .tuple []), (26, .d (.bool false)), (27, .d (.bool false)), (28, .tuple []), (29, .tuple []), (30, .d (.bool false)), (31, .d (.bool false)), (32, .tuple []), (33, .tuple []), (34, .d (.bool false)), (35, .d (.bool false)), (36, .tuple []), (37, .tuple []), (38, .d (.bool false)), (39, .d (.int .i64 (IntKind.i64.wrap ((↑i : Int) + 1))))] ?_
          simp (disch := omega) only [wrap_i64, wrap_u64s, wrap_u32s, wrap_u8s, wrap_i32s, iadd_i64, isub_i64, irem_n, iquo_n, tdiv_nn, tmod_nn]
          refine .seg 1 [0, 2, 6, 7] (T' := cgo 13 [] [.code B28]) (tm' := mk 48 [(0, .d (.str s)), (2, .d (.bool false)), (6, .d (i64 s.size)), (7, .d (i64 (↑i + 1)))]) (σ' := []) (by kernel_rfl) ?_
          exact ih (i + 1) (by omega) (yes28 hj hy2 (by unfold okc; omega))
    · simp only [bsX] at h1
      omega
theorem spec_28 (s : ByteArray) (hs : s.size < 9223372036854775807) : Br.Pure Try.prog 28 [.d (.str s)] (.d (.bool (mayName s))) := by
  refine CallsA.start F28 (tm := mk 48 [(0, .d (.str s))]) (by kernel_rfl) ?_
  refine .seg 13 [0, 2, 6, 7] (T' := cgo 13 [] [.code B28]) (tm' := mk 48 [(0, .d (.str s)), (2, .d (.bool false)), (6, .d (i64 s.size)), (7, .d (i64 (0 : Nat)))]) (σ' := []) (by kernel_rfl) ?_
  exact lp28 s hs s.size 0 (by omega) fun j _ h => by omega
end Go.Proofs.Ytoelkgbeefoplaa
namespace Go.Proofs.Ytoelkgbeefoplaa
open Go Go.Br Go.Proofs
end Go.Proofs.Ytoelkgbeefoplaa
namespace Go.Proofs.Ytoelkgbeefoplaa
open Go Go.Br Go.Proofs
theorem le4_length (x : BitVec 32) : (le4 x).length = 4 := rfl
theorem getD_le4 (x : BitVec 32) (t : List UInt8) : (le4 x ++ t).getD 0 0 = byt x 0 ∧ (le4 x ++ t).getD 1 0 = byt x 1 ∧ (le4 x ++ t).getD 2 0 = byt x 2 ∧ (le4 x ++ t).getD 3 0 = byt x 3 := ⟨rfl, rfl, rfl, rfl⟩
theorem get4_le4 (x : BitVec 32) (t : List UInt8) : get4 (le4 x ++ t) 0 = x := by
  apply BitVec.eq_of_toNat_eq
  rw [get4_toNat (by simp [le4_length])]
  obtain ⟨h0, h1, h2, h3⟩ := getD_le4 x t
  simp only [Nat.zero_add]
  rw [h0, h1, h2, h3, byt_toNat, byt_toNat, byt_toNat, byt_toNat]
  have := x.isLt
  simp
  omega
theorem get4_drop (bs : List UInt8) (k : Nat) (h : k + 4 ≤ bs.length) : get4 bs k = get4 (bs.drop k) 0 := by
  have hg : ∀ i, bs.getD (k + i) 0 = (bs.drop k).getD i 0 := fun i => by simp [List.getD_eq_getElem?_getD]
  have h0 := hg 0
  rw [Nat.add_zero] at h0
  rw [get4, get4, if_pos h, if_pos (by simp; omega), h0, hg 1, hg 2, hg 3]
theorem toInt_small {n : Nat} (h : n ≤ 65536) : (BitVec.ofNat 32 n).toInt = (n : Int) := by
  rw [BitVec.toInt_eq_toNat_cond, BitVec.toNat_ofNat, Nat.mod_eq_of_lt (by omega)]
  split <;> omega
theorem front {r t : List UInt8} (hr : r.length ≤ 65536) : fits (frame r ++ t) = true ∧ sumOk (frame r ++ t) = true ∧ nOf (frame r ++ t) = r.length ∧ piece (frame r ++ t) = r ∧ (frame r ++ t).drop (r.length + 8) = t := by
  have e : frame r ++ t = le4 (BitVec.ofNat 32 r.length) ++ (r ++ (le4 (crc (bare r)) ++ t)) := by simp [frame, bare]
  have hl : (frame r ++ t).length = r.length + 8 + t.length := by rw [List.length_append, frame_length]
  have h0 : get4 (frame r ++ t) 0 = BitVec.ofNat 32 r.length := by rw [e, get4_le4]
  have hi : (get4 (frame r ++ t) 0).toInt = (r.length : Int) := by rw [h0, toInt_small hr]
  have hn : nOf (frame r ++ t) = r.length := by unfold nOf; omega
  have hf : fits (frame r ++ t) = true := by
    simp only [fits, Bool.and_eq_true, decide_eq_true_eq]
    omega
  have hb : (frame r ++ t).take (4 + r.length) = bare r := by
    have e2 : frame r ++ t = bare r ++ (le4 (crc (bare r)) ++ t) := by simp [frame]
    rw [e2, List.take_left' (by simp [bare, le4_length])]
  refine ⟨hf, ?_, hn, ?_, ?_⟩
  · unfold sumOk
    rw [hn, hb, get4_drop _ _ (by omega)]
    have e3 : (frame r ++ t).drop (4 + r.length) = le4 (crc (bare r)) ++ t := by
      have e2 : frame r ++ t = bare r ++ (le4 (crc (bare r)) ++ t) := by simp [frame]
      rw [e2, List.drop_left' (by simp [bare, le4_length])]
    rw [e3, get4_le4]
    simp
  · rw [piece, hn, hb, bare, List.drop_left' (by simp [le4_length])]
  · rw [List.drop_left' (by rw [frame_length])]
theorem fits_short {bs : List UInt8} (h : bs.length < 8) : fits bs = false := by
  rw [fits_iff]; simp [h]
theorem allOf_cons (r : List UInt8) (l : List (List UInt8)) : allOf (r :: l) = frame r ++ allOf l := by simp [allOf]
theorem recs_all : ∀ (l : List (List UInt8)) (more : List UInt8) (m : Nat), (∀ r ∈ l, r.length ≤ 65536) → more.length < 8 → (allOf l ++ more).length < m → recs m (allOf l ++ more) = l
  | [], more, 0, _, _, h => by omega
  | [], more, m + 1, _, hm, h => by
    have e : allOf [] ++ more = more := by simp [allOf]
    rw [e, recs, fits_short hm]; rfl
  | r :: l, more, 0, _, _, h => by omega
  | r :: l, more, m + 1, hl, hm, h => by
    have hr := hl r (by simp)
    rw [allOf_cons, List.append_assoc] at h ⊢
    obtain ⟨h1, h2, h3, h4, h5⟩ := front (t := allOf l ++ more) hr
    rw [recs, h1, h2, h3, h4, h5]
    simp only [Bool.and_self, if_true]
    rw [recs_all l more m (fun x hx => hl x (by simp [hx])) hm (by rw [List.length_append, frame_length] at h; omega)]
theorem good_all : ∀ l : List (List UInt8), good l = (allOf l).length
  | [] => rfl
  | r :: l => by
    have := good_all l
    simp only [good, List.map_cons, List.sum_cons] at this ⊢
    rw [allOf_cons, List.length_append, frame_length, this]
end Go.Proofs.Ytoelkgbeefoplaa
namespace Go.Proofs.Ytoelkgbeefoplaa
open Go Go.Br Go.Proofs
section
variable {Q : AE → Store → Prop}
end
end Go.Proofs.Ytoelkgbeefoplaa
namespace Go.Proofs.Ytoelkgbeefoplaa
open Go Go.Br Go.Proofs
end Go.Proofs.Ytoelkgbeefoplaa
namespace Go.Proofs.Ytoelkgbeefoplaa
open Go Go.Br Go.Proofs
theorem spec_22 (l : List (List UInt8)) (hl : l.length ≤ 9223372036854775807) : Br.Pure Try.prog 22 [.d (lsD l)] (.d (lsD (cutg 0 l))) := cut_pure l hl
theorem cutg_len : ∀ (l : List (List UInt8)) (i : Nat), (cutg i l).length ≤ 30 - i
  | [], i => by simp [cutg]
  | r :: rs, i => by
    have := cutg_len rs (i + 1)
    unfold cutg
    split <;> simp <;> omega
theorem cutg_le : ∀ (l : List (List UInt8)) (i : Nat), ∀ r ∈ cutg i l, r.length ≤ 300
  | [], i, r, h => by simp [cutg] at h
  | x :: xs, i, r, h => by
    unfold cutg at h
    split at h
    · rcases List.mem_cons.1 h with rfl | h
      · omega
      · exact cutg_le xs _ r h
    · exact cutg_le xs _ r h
theorem allOf_le (k : Nat) : ∀ (l : List (List UInt8)), (∀ r ∈ l, r.length ≤ k) → (allOf l).length ≤ l.length * (k + 8)
  | [], _ => by simp [allOf]
  | r :: rs, h => by
    have h1 := allOf_le k rs fun x hx => h x (by simp [hx])
    have h2 := h r (by simp)
    have e : allOf (r :: rs) = frame r ++ allOf rs := by simp [allOf]
    have e2 : (frame r).length = r.length + 8 := by rw [frame_length]
    rw [e, List.length_append, e2, List.length_cons, Nat.add_mul]
    omega
end Go.Proofs.Ytoelkgbeefoplaa
namespace Go.Proofs.Ytoelkgbeefoplaa
open Go Go.Br Go.Proofs
structure Dk where
  files : List (List UInt8 × Nat)
  nk : List ByteArray
  nv : List Int
  sk : List ByteArray
  sv : List Int
  ch : List (ByteArray × ByteArray × Int)
  quota : Int
  full : Bool
  off : Bool
  stop : Int
  calls : Int
def fileD (x : List UInt8 × Nat) : D := .agg [bsD x.1, i64 x.2]
def chD (c : ByteArray × ByteArray × Int) : D := .agg [.str c.1, .str c.2.1, .int .i64 c.2.2]
def dirD (ks : List ByteArray) (V2 : List Int) : D := .agg [.list 1 (ks.map strD), .list 1 (V2.map intD)]
def SD (d : Dk) (m : Bool) : Store := [.cells [.row 1, .ptr 2 0 0, .ep 2 (dirD d.sk d.sv) 0, .row 5, .d (.int .i64 d.quota), .d (.bool d.full), .d (.bool d.off), .d (.int .i64 d.stop), .d (.int .i64 d.calls)],
  .row 2 (d.files.map fileD) m, .cells [.row 3, .row 4], .row 1 (d.nk.map strD) m, .row 1 (d.nv.map intD) m, .row 3 (d.ch.map chD) m]
abbrev SP (r p : Nat) (d : Dk) (m : Bool) (t : Store) : Store := .cells [.row r, .ptr p 0 0, .ep 2 (.agg [.list 1 (d.sk.map strD), .list 1 (d.sv.map intD)]) 0, .row 5, .d (.int .i64 d.quota), .d (.bool d.full), .d (.bool d.off), .d (.int .i64 d.stop), .d (.int .i64 d.calls)] ::
  .row 2 (d.files.map fileD) m :: .cells [.row 3, .row 4] :: .row 1 (d.nk.map strD) m :: .row 1 (d.nv.map intD) m :: .row 3 (d.ch.map chD) m :: t
noncomputable def B94 : Code := (Try.f94.body).getD .skip
theorem F94 : Fnc Try.prog 94 Try.f94 B94 := ⟨Try.func94, by kernel_rfl, by kernel_rfl⟩
def Dk.begun (d : Dk) : Dk := if d.off then d else { d with calls := d.calls + 1, off := decide (d.stop = 0), stop := if -1 > d.stop - 1 then -1 else d.stop - 1 }
theorem spec_94 (d : Dk) (hc : 0 ≤ d.calls) (hc' : d.calls < 1000000000) (hs : -1 ≤ d.stop) (hs' : d.stop < 9223372036854775807) :
    CallsA Try.prog 94 [.ptr 0 0 0] (SD d false) fun r σ' => r = .ret (.d (.bool (!d.begun.off))) ∧ σ' = SD d.begun false := by
  refine CallsA.start F94 (tm := mk (Try.f94.ntmps) [(0, .ptr 0 0 0)]) (by kernel_rfl) ?_
  refine .sg0 16 [0, 2, 10] (cgo 16 [] [.code B94]) [(2, .d (.bool false)), (10, .d (.bool d.off))] ?_
  refine .if' (d.off) (cgo 17 [true] [.code B94]) (cgo 17 [false] [.code B94]) (fun h1 => ?_) (fun h1 => ?_)
  · refine .seg 4 [0, 2] (T' := cgo 21 [true] [.code B94]) (tm' := mk 40 [(0, .ptr 0 0 0), (2, .d (.bool false))]) (σ' := [.cells [.row 1, .ptr 2 0 0, .ep 2 (D.agg [D.list 1 (List.map strD d.sk), D.list 1 (List.map intD d.sv)]) 0, .row 5, .d (.int .i64 d.quota), .d (.bool d.full), .d (.bool d.off), .d (.int .i64 d.stop), .d (.int .i64 d.calls)], .row 2 (List.map fileD d.files) false, .cells [.row 3, .row 4], .row 1 (List.map strD d.nk) false, .row 1 (List.map intD d.nv) false, .row 3 (List.map chD d.ch) false]) (by kernel_rfl) ?_
    refine .retH F94 (v := V.d (D.bool false)) (by kernel_rfl) (by kernel_rfl) ?_
    simp_all [Dk.begun, SD, dirD]
  · refine .sg 21 [0, 2, 22] (cgo 38 [false] [.code B94]) [(22, .d (.bool (d.stop == 0)))] [(0, .cells [.row 1, .ptr 2 0 0, .ep 2 (D.agg [D.list 1 (List.map strD d.sk), D.list 1 (List.map intD d.sv)]) 0, .row 5, .d (.int .i64 d.quota), .d (.bool d.full), .d (.bool d.off), .d (.int .i64 d.stop), .d (.int .i64 (IntKind.i64.wrap (d.calls + 1)))])] ?_
    simp (disch := omega) only [wrap_i64, wrap_u64s, wrap_u32s, wrap_u8s, wrap_i32s, iadd_i64, isub_i64, irem_n, iquo_n, tdiv_nn, tmod_nn]
    refine .if' (d.stop == 0) (cgo 39 [false, true] [.code B94]) (cgo 39 [false, false] [.code B94]) (fun h2 => ?_) (fun h2 => ?_)
    · simp only [bsX] at h2
      refine .seg 28 [2] (T' := cgo 67 [false, true] [.code B94]) (tm' := mk 40 [(2, .d (.bool false))]) (σ' := [.cells [.row 1, .ptr 2 0 0, .ep 2 (D.agg [D.list 1 (List.map strD d.sk), D.list 1 (List.map intD d.sv)]) 0, .row 5, .d (.int .i64 d.quota), .d (.bool d.full), .d (.bool true), .d (.int .i64 (if -1 > IntKind.i64.wrap (d.stop - 1) then -1 else IntKind.i64.wrap (d.stop - 1))), .d (.int .i64 (d.calls + 1))], .row 2 (List.map fileD d.files) false, .cells [.row 3, .row 4], .row 1 (List.map strD d.nk) false, .row 1 (List.map intD d.nv) false, .row 3 (List.map chD d.ch) false]) (by kernel_rfl) ?_
      simp (disch := omega) only [wrap_i64, wrap_u64s, wrap_u32s, wrap_u8s, wrap_i32s, iadd_i64, isub_i64, irem_n, iquo_n, tdiv_nn, tmod_nn]
      refine .retH F94 (v := V.d (D.bool false)) (by kernel_rfl) (by kernel_rfl) ?_
      simp_all [Dk.begun, SD, dirD]
    · simp only [bsX] at h2
      refine .seg 23 [2] (T' := cgo 62 [false, false] [.code B94]) (tm' := mk 40 [(2, .d (.bool !d.off))]) (σ' := [.cells [.row 1, .ptr 2 0 0, .ep 2 (D.agg [D.list 1 (List.map strD d.sk), D.list 1 (List.map intD d.sv)]) 0, .row 5, .d (.int .i64 d.quota), .d (.bool d.full), .d (.bool d.off), .d (.int .i64 (if -1 > IntKind.i64.wrap (d.stop - 1) then -1 else IntKind.i64.wrap (d.stop - 1))), .d (.int .i64 (d.calls + 1))], .row 2 (List.map fileD d.files) false, .cells [.row 3, .row 4], .row 1 (List.map strD d.nk) false, .row 1 (List.map intD d.nv) false, .row 3 (List.map chD d.ch) false]) (by kernel_rfl) ?_
      simp (disch := omega) only [wrap_i64, wrap_u64s, wrap_u32s, wrap_u8s, wrap_i32s, iadd_i64, isub_i64, irem_n, iquo_n, tdiv_nn, tmod_nn]
      refine .retH F94 (v := V.d (D.bool !d.off)) (by kernel_rfl) (by kernel_rfl) ?_
      simp_all [Dk.begun, SD, dirD]
end Go.Proofs.Ytoelkgbeefoplaa
namespace Go.Proofs.Ytoelkgbeefoplaa
open Go Go.Br Go.Proofs
def Dk.new (q : Int) : Dk := { files := [], nk := [], nv := [], sk := [], sv := [], ch := [], quota := if 0 > q then 0 else q, full := false, off := false, stop := -1, calls := 0 }
def Dk.err (b : Dk) (there : Bool) (names : List ByteArray) : Int :=
  if b.off then 5 else if names.all mayName then (if there && (look b.nk b.nv (names.headD default)).isNone then 3 else 0) else 1
def Dk.turn (d : Dk) (g n : ByteArray) (k : Int) : Dk := { d with nk := (kapply d.nk d.nv g n k).1, nv := (kapply d.nk d.nv g n k).2, ch := d.ch ++ [(g, n, k)] }
def Dk.num (d : Dk) (x : ByteArray) : Nat := ((look d.nk d.nv x).getD 0).toNat
def Dk.file (d : Dk) (k : Nat) : List UInt8 × Nat := d.files.getD k ([], 0)
def Dk.used (d : Dk) : Nat := (d.nv.map fun k => (d.file k.toNat).1.length).sum
def noName : ByteArray := ⟨#[]⟩
def Dk.createE (b : Dk) (x : ByteArray) : Int :=
  if b.err false [x] ≠ 0 then b.err false [x] else if (look b.nk b.nv x).isNone ∧ 1024 ≤ b.nk.length then 2 else 0
def Dk.createD (b : Dk) (x : ByteArray) : Dk := if b.createE x = 0 then ({ b with files := b.files ++ [([], 0)] } : Dk).turn noName x b.files.length else b
def Dk.appendE (b : Dk) (x : ByteArray) (bs : List UInt8) : Int :=
  if b.err true [x] ≠ 0 then b.err true [x] else if 1048576 - ((b.file (b.num x)).1.length : Int) < bs.length then 2 else if b.quota - (b.used : Int) < bs.length then 4 else 0
def Dk.appendD (b : Dk) (x : ByteArray) (bs : List UInt8) : Dk :=
  if b.appendE x bs = 0 then { b with files := b.files.set (b.num x) ((b.file (b.num x)).1 ++ bs, (b.file (b.num x)).2) } else if b.appendE x bs = 4 then { b with full := true } else b
def Dk.syncD (b : Dk) (x : ByteArray) : Dk := if b.err true [x] = 0 then { b with files := b.files.set (b.num x) ((b.file (b.num x)).1, (b.file (b.num x)).1.length) } else b
def Dk.syncDirD (b : Dk) : Dk := if b.off then b else { b with sk := b.nk, sv := b.nv, ch := [] }
def Dk.renameD (b : Dk) (x y : ByteArray) : Dk := if b.err true [x, y] = 0 then b.turn x y ((look b.nk b.nv x).getD 0) else b
def Dk.removeD (b : Dk) (x : ByteArray) : Dk := if b.err true [x] = 0 then b.turn x noName 0 else b
def kfold : List (ByteArray × ByteArray × Int) → List ByteArray × List Int → List ByteArray × List Int
  | [], p => p
  | c :: cs, p => kfold cs (kapply p.1 p.2 c.1 c.2.1 c.2.2)
def Dk.names (d : Dk) (dir : Int) : List ByteArray × List Int := kfold (d.ch.take (min dir d.ch.length).toNat) (d.sk, d.sv)
def Dk.has (d : Dk) (dir : Int) (i : Nat) : Bool := decide ((i : Int) ∈ (d.names dir).2)
def numsOk (n : Nat) (vs : List Int) : Prop := ∀ v ∈ vs, 0 ≤ v ∧ v < n
structure Dk.Ok (d : Dk) (N : Nat) : Prop where
  nr : Rising d.nk
  sr : Rising d.sk
  nl : d.nv.length = d.nk.length
  sl : d.sv.length = d.sk.length
  nn : numsOk d.files.length d.nv
  sn : numsOk d.files.length d.sv
  cn : ∀ c ∈ d.ch, 0 ≤ c.2.2 ∧ (c.2.1.size ≠ 0 → c.2.2 < d.files.length)
  fs : ∀ f ∈ d.files, f.2 ≤ f.1.length ∧ f.1.length ≤ 1048576
  fl : d.files.length ≤ N
  chl : d.ch.length ≤ N
  nkl : d.nk.length ≤ N
  skl : d.sk.length ≤ N
  skc : d.sk.length + d.ch.length ≤ N
  c0 : 0 ≤ d.calls
  cl : d.calls ≤ N
  s0 : -1 ≤ d.stop
  s1 : d.stop < 9223372036854775807
  q0 : 0 ≤ d.quota
  q1 : d.quota < 9223372036854775808
  nb : N ≤ 50000
theorem Dk.Ok.mono {d : Dk} {N M : Nat} (h : d.Ok N) (hm : N ≤ M) (hb : M ≤ 50000) : d.Ok M :=
  ⟨h.nr, h.sr, h.nl, h.sl, h.nn, h.sn, h.cn, h.fs, by have := h.fl; omega, by have := h.chl; omega, by have := h.nkl; omega, by have := h.skl; omega, by have := h.skc; omega, h.c0, by have := h.cl; omega, h.s0, h.s1, h.q0, h.q1, hb⟩
theorem Dk.new_ok {q : Int} (h : q < 9223372036854775808) : (Dk.new q).Ok 0 := by
  refine ⟨List.Pairwise.nil, List.Pairwise.nil, rfl, rfl, ?_, ?_, ?_, ?_, ?_, ?_, ?_, ?_, ?_, ?_, ?_, ?_, ?_, ?_, ?_, ?_⟩ <;> simp [Dk.new, numsOk]
  · split <;> omega
  · split <;> omega
theorem Dk.begun_ok {d : Dk} {N : Nat} (h : d.Ok N) (hb : N + 1 ≤ 50000) : d.begun.Ok (N + 1) := by
  unfold Dk.begun
  split
  · exact h.mono (by omega) hb
  · have := h.cl; have := h.c0; have := h.s0; have := h.s1
    have := h.fl; have := h.chl; have := h.nkl; have := h.skl; have := h.skc
    refine ⟨h.nr, h.sr, h.nl, h.sl, h.nn, h.sn, h.cn, h.fs, ?_, ?_, ?_, ?_, ?_, ?_, ?_, ?_, ?_, h.q0, h.q1, hb⟩ <;> (dsimp only; first | omega | (split <;> omega))
theorem look_mem {ks : List ByteArray} {V2 : List Int} {x : ByteArray} {k : Int} (h : look ks V2 x = some k) : k ∈ V2 := by
  unfold look at h
  split at h
  · exact List.mem_of_getElem? h
  · cases h
theorem numsOk.more {n m : Nat} {vs : List Int} (h : numsOk n vs) (hm : n ≤ m) : numsOk m vs := fun v hv => ⟨(h v hv).1, by have := (h v hv).2; omega⟩
theorem kput_mem {ks : List ByteArray} {V2 : List Int} {x : ByteArray} {y : Int} : ∀ v ∈ (kput ks V2 x y).2, v ∈ V2 ∨ v = y := by
  intro v hv
  unfold kput at hv
  split at hv
  · exact List.mem_or_eq_of_mem_set hv
  · simp only [List.mem_append, List.mem_cons] at hv
    rcases hv with h | h | h
    · exact .inl (List.mem_of_mem_take h)
    · exact .inr h
    · exact .inl (List.mem_of_mem_drop h)
theorem kdrop_mem {ks : List ByteArray} {V2 : List Int} {x : ByteArray} : ∀ v ∈ (kdrop ks V2 x).2, v ∈ V2 := by
  intro v hv
  unfold kdrop at hv
  split at hv
  · exact List.mem_of_mem_eraseIdx hv
  · exact hv
theorem kapply_mem {ks : List ByteArray} {V2 : List Int} {g n : ByteArray} {k : Int} : ∀ v ∈ (kapply ks V2 g n k).2, v ∈ V2 ∨ (n.size ≠ 0 ∧ v = k) := by
  intro v hv
  unfold kapply at hv
  dsimp only at hv
  split at hv <;> split at hv <;> rename_i h1 h2
  · exact .inl hv
  · exact .inl (kdrop_mem v hv)
  · exact (kput_mem v hv).imp id fun h => ⟨h1, h⟩
  · exact ((kput_mem v hv).imp (kdrop_mem v) fun h => ⟨h1, h⟩)
theorem Dk.turn_ok {d : Dk} {N : Nat} (h : d.Ok N) (hb : N + 1 ≤ 50000) (g n : ByteArray) (k : Int) (hk : 0 ≤ k) (hk' : n.size ≠ 0 → k < d.files.length) : (d.turn g n k).Ok (N + 1) := by
  have hle := @kapply_le d.nk d.nv g n k
  have := h.cl; have := h.chl; have := h.nkl; have := h.skl; have := h.skc; have := h.fl
  refine ⟨kapply_rising h.nr, h.sr, kapply_len h.nl, h.sl, fun v hv => ?_, h.sn, fun c hc => ?_, h.fs, ?_, ?_, ?_, ?_, ?_, h.c0, ?_, h.s0, h.s1, h.q0, h.q1, hb⟩
  · rcases kapply_mem v hv with h1 | ⟨h1, rfl⟩
    · exact h.nn v h1
    · exact ⟨hk, hk' h1⟩
  · simp only [Dk.turn, List.mem_append, List.mem_singleton] at hc
    rcases hc with h1 | rfl
    · exact h.cn c h1
    · exact ⟨hk, hk'⟩
  all_goals simp only [Dk.turn, List.length_append, List.length_singleton]; omega
theorem Dk.createD_ok {b : Dk} {N : Nat} (h : b.Ok N) (hb : N + 1 ≤ 50000) (x : ByteArray) : (b.createD x).Ok (N + 1) := by
  unfold Dk.createD
  split
  · have h' : ({ b with files := b.files ++ [([], 0)] } : Dk).turn noName x b.files.length = ({ (b.turn noName x b.files.length) with files := b.files ++ [([], 0)] } : Dk) := rfl
    have := h.cl; have := h.chl; have := h.nkl; have := h.skl; have := h.skc; have := h.fl
    have hle := @kapply_le b.nk b.nv noName x b.files.length
    rw [h']
    refine ⟨kapply_rising h.nr, h.sr, kapply_len h.nl, h.sl, fun v hv => ?_, h.sn.more (by simp [Dk.turn]), fun c hc => ?_, fun f hf => ?_, ?_, ?_, ?_, ?_, ?_, h.c0, ?_, h.s0, h.s1, h.q0, h.q1, hb⟩
    · rcases kapply_mem v hv with h1 | ⟨h1, rfl⟩
      · exact (h.nn.more (by simp)) v h1
      · simp; omega
    · simp only [Dk.turn, List.mem_append, List.mem_singleton] at hc
      rcases hc with h1 | rfl
      · exact ⟨(h.cn c h1).1, fun hs => by have := (h.cn c h1).2 hs; simp only [List.length_append, List.length_singleton]; omega⟩
      · refine ⟨by simp, fun _ => by simp; omega⟩
    · simp only [List.mem_append, List.mem_singleton] at hf
      rcases hf with h1 | rfl
      · exact h.fs f h1
      · simp
    all_goals simp only [Dk.turn, List.length_append, List.length_singleton]; omega
  · exact h.mono (by omega) hb
theorem Dk.num_lt {d : Dk} {N : Nat} (h : d.Ok N) {x : ByteArray} (hx : (look d.nk d.nv x).isSome) : d.num x < d.files.length := by
  obtain ⟨k, hk⟩ := Option.isSome_iff_exists.1 hx
  have := h.nn k (look_mem hk)
  simp only [Dk.num, hk, Option.getD_some]; omega
theorem Dk.file_mem {d : Dk} {k : Nat} (h : k < d.files.length) : d.file k ∈ d.files := by
  unfold Dk.file
  rw [List.getD_eq_getElem?_getD, List.getElem?_eq_getElem h]; simp
theorem Dk.err_there {d : Dk} {x : ByteArray} {l : List ByteArray} (h : d.err true (x :: l) = 0) : (look d.nk d.nv x).isSome ∧ d.off = false ∧ (x :: l).all mayName = true := by
  unfold Dk.err at h
  split at h
  · cases h
  · split at h
    · split at h
      · cases h
      · rename_i h1 h2 h3
        simp only [List.headD_cons, Bool.true_and] at h3
        exact ⟨by cases hl : look d.nk d.nv x <;> simp_all, by simpa using h1, h2⟩
    · cases h
theorem Dk.set_ok {b : Dk} {N : Nat} (h : b.Ok N) (k : Nat) (f : List UInt8 × Nat) (hf : f.2 ≤ f.1.length ∧ f.1.length ≤ 1048576) : ({ b with files := b.files.set k f } : Dk).Ok N := by
  refine ⟨h.nr, h.sr, h.nl, h.sl, ?_, ?_, ?_, ?_, ?_, h.chl, h.nkl, h.skl, h.skc, h.c0, h.cl, h.s0, h.s1, h.q0, h.q1, h.nb⟩
  · simpa using h.nn
  · simpa using h.sn
  · simpa using h.cn
  · intro g hg
    rcases List.mem_or_eq_of_mem_set hg with h1 | rfl
    · exact h.fs g h1
    · exact hf
  · simpa using h.fl
theorem Dk.full_ok {b : Dk} {N : Nat} (h : b.Ok N) (f : Bool) : ({ b with full := f } : Dk).Ok N := ⟨h.nr, h.sr, h.nl, h.sl, h.nn, h.sn, h.cn, h.fs, h.fl, h.chl, h.nkl, h.skl, h.skc, h.c0, h.cl, h.s0, h.s1, h.q0, h.q1, h.nb⟩
theorem Dk.err_appendE {b : Dk} {x : ByteArray} {bs : List UInt8} (h : b.appendE x bs = 0) : b.err true [x] = 0 ∧ (bs.length : Int) ≤ 1048576 - ((b.file (b.num x)).1.length : Int) ∧ (bs.length : Int) ≤ b.quota - (b.used : Int) := by
  unfold Dk.appendE at h
  split at h
  · contradiction
  · split at h
    · cases h
    · split at h
      · cases h
      · rename_i h1 h2 h3
        exact ⟨by simpa using h1, by omega, by omega⟩
theorem Dk.appendD_ok {b : Dk} {N : Nat} (h : b.Ok N) (x : ByteArray) (bs : List UInt8) : (b.appendD x bs).Ok N := by
  unfold Dk.appendD
  split
  · rename_i he
    obtain ⟨h1, h2, h3⟩ := Dk.err_appendE he
    have hm := h.fs _ (Dk.file_mem (Dk.num_lt h (Dk.err_there h1).1))
    refine Dk.set_ok h _ _ ⟨?_, ?_⟩ <;> simp <;> omega
  · split
    · exact Dk.full_ok h true
    · exact h
theorem Dk.syncD_ok {b : Dk} {N : Nat} (h : b.Ok N) (x : ByteArray) : (b.syncD x).Ok N := by
  unfold Dk.syncD
  split
  · rename_i h1
    have hm := h.fs _ (Dk.file_mem (Dk.num_lt h (Dk.err_there h1).1))
    exact Dk.set_ok h _ _ ⟨Nat.le_refl _, hm.2⟩
  · exact h
theorem Dk.syncDirD_ok {b : Dk} {N : Nat} (h : b.Ok N) : b.syncDirD.Ok N := by
  unfold Dk.syncDirD
  split
  · exact h
  · refine ⟨h.nr, h.nr, h.nl, h.nl, h.nn, h.nn, by simp, h.fs, h.fl, by simp, h.nkl, h.nkl, by simpa using h.nkl, h.c0, h.cl, h.s0, h.s1, h.q0, h.q1, h.nb⟩
theorem Dk.renameD_ok {b : Dk} {N : Nat} (h : b.Ok N) (hb : N + 1 ≤ 50000) (x y : ByteArray) : (b.renameD x y).Ok (N + 1) := by
  unfold Dk.renameD
  split
  · rename_i h1
    obtain ⟨k, hk⟩ := Option.isSome_iff_exists.1 (Dk.err_there h1).1
    have hn := h.nn k (look_mem hk)
    exact Dk.turn_ok h hb _ _ _ (by rw [hk]; exact hn.1) (fun _ => by rw [hk]; exact hn.2)
  · exact h.mono (by omega) hb
theorem Dk.removeD_ok {b : Dk} {N : Nat} (h : b.Ok N) (hb : N + 1 ≤ 50000) (x : ByteArray) : (b.removeD x).Ok (N + 1) := by
  unfold Dk.removeD
  split
  · exact Dk.turn_ok h hb _ _ _ (by omega) (fun hn => absurd rfl hn)
  · exact h.mono (by omega) hb
end Go.Proofs.Ytoelkgbeefoplaa
namespace Go.Proofs.Ytoelkgbeefoplaa
open Go Go.Br Go.Proofs
noncomputable def B41 : Code := (Try.f41.body).getD .skip
theorem F41 : Fnc Try.prog 41 Try.f41 B41 := ⟨Try.func41, by kernel_rfl, by kernel_rfl⟩
theorem spec_41 (d : Dk) : CallsA Try.prog 41 [.ptr 0 0 0] (SD d false) fun r σ' => r = .ret (.d (.bool d.off)) ∧ σ' = SD d false := by
  refine CallsA.start F41 (tm := mk (Try.f41.ntmps) [(0, .ptr 0 0 0)]) (by kernel_rfl) ?_
  refine .seg 16 [2] (T' := cgo 16 [] [.code B41]) (tm' := mk 11 [(2, .d (.bool d.off))]) (σ' := [.cells [.row 1, .ptr 2 0 0, .ep 2 (D.agg [D.list 1 (List.map strD d.sk), D.list 1 (List.map intD d.sv)]) 0, .row 5, .d (.int .i64 d.quota), .d (.bool d.full), .d (.bool d.off), .d (.int .i64 d.stop), .d (.int .i64 d.calls)], .row 2 (List.map fileD d.files) false, .cells [.row 3, .row 4], .row 1 (List.map strD d.nk) false, .row 1 (List.map intD d.nv) false, .row 3 (List.map chD d.ch) false]) (by kernel_rfl) ?_
  refine .retH F41 (v := V.d (D.bool d.off)) (by kernel_rfl) (by kernel_rfl) ?_
  exact ⟨rfl, rfl⟩
end Go.Proofs.Ytoelkgbeefoplaa
namespace Go.Proofs.Ytoelkgbeefoplaa
open Go Go.Br Go.Proofs
noncomputable def B65 : Code := (Try.f65.body).getD .skip
theorem F65 : Fnc Try.prog 65 Try.f65 B65 := ⟨Try.func65, by kernel_rfl, by kernel_rfl⟩
def atV : Option Int → V
  | some k => .tuple [.ptr 1 k.toNat 0, .d (.bool true)]
  | none => .tuple [.d (.raw (.pointer none)), .d (.bool false)]
theorem spec_65 (d : Dk) (x : ByteArray) (o : Option Int) (ho : look d.nk d.nv x = o) (h1 : Rising d.nk) (h2 : d.nv.length = d.nk.length) (h3 : d.nk.length < 4611686018427387904) (h4 : ∀ k, look d.nk d.nv x = some k → 0 ≤ k ∧ k < d.files.length) :
    CallsA Try.prog 65 [.ptr 0 0 0, .d (.str x)] (SD d false) fun r σ' => r = .ret (atV o) ∧ σ' = SD d false := by
  refine CallsA.start F65 (tm := mk (Try.f65.ntmps) [(0, .ptr 0 0 0), (1, .d (.str x))]) (by kernel_rfl) ?_
  cases o with
  | none =>
    refine .sg0 20 [0, 1, 4, 5, 11, 12, 13, 14, 15] (cgo 20 [false] [.code B65]) [(4, .d (.raw (Value.pointer none))), (5, .d (.bool false)), (11, .ptr 0 0 0), (12, .ptr 0 0 0), (13, .ptr 0 0 1), (14, .ptr 2 0 0), (15, .d (.str x))] ?_
    refine .ca [2, 3, 4] (cgo 21 [false] [.code B65]) F70 (@spec_70 (d.nk) (x) (d.nv) (by assumption) (by assumption) (by assumption)) ?_
    rintro r0 s0 ⟨rfl, rfl⟩
    refine ⟨_, rfl, ?_⟩
    refine .sg0 12 [0, 4, 5, 6, 20] (cgo 33 [false] [.code B65]) [(6, .d (.int .i64 ((look d.nk d.nv x).getD 0))), (20, .d (.bool !(look d.nk d.nv x).isSome))] ?_
    refine .if' (!(look d.nk d.nv x).isSome) (cgo 34 [false, true] [.code B65]) (cgo 34 [false, false] [.code B65]) (fun h5 => ?_) (fun h5 => ?_)
    · simp only [bsX] at h5
      refine .seg 5 [0, 4, 5, 6] (T' := cgo 39 [false, true] [.code B65]) (tm' := mk 27 [(0, .ptr 0 0 0), (4, .d (.raw (Value.pointer none))), (5, .d (.bool false)), (6, .d (.int .i64 ((look d.nk d.nv x).getD 0)))]) (σ' := [.cells [.row 1, .ptr 2 0 0, .ep 2 (D.agg [D.list 1 (List.map strD d.sk), D.list 1 (List.map intD d.sv)]) 0, .row 5, .d (.int .i64 d.quota), .d (.bool d.full), .d (.bool d.off), .d (.int .i64 d.stop), .d (.int .i64 d.calls)], .row 2 (List.map fileD d.files) false, .cells [.row 3, .row 4], .row 1 (List.map strD d.nk) false, .row 1 (List.map intD d.nv) false, .row 3 (List.map chD d.ch) false]) (by kernel_rfl) ?_
      refine .retH F65 (v := V.tuple [V.d (D.raw (Value.pointer none)), V.d (D.bool false)]) (by kernel_rfl) (by kernel_rfl) ?_
      exact ⟨rfl, rfl⟩
    · simp only [bsX] at h5
      simp_all
  | some k =>
    have q := h4 k ho
    have q1 := q.1
    have q2 := q.2
    refine .sg0 20 [0, 1, 4, 5, 11, 12, 13, 14, 15] (cgo 20 [false] [.code B65]) [(4, .d (.raw (Value.pointer none))), (5, .d (.bool false)), (11, .ptr 0 0 0), (12, .ptr 0 0 0), (13, .ptr 0 0 1), (14, .ptr 2 0 0), (15, .d (.str x))] ?_
    refine .ca [2, 3, 4] (cgo 21 [false] [.code B65]) F70 (@spec_70 (d.nk) (x) (d.nv) (by assumption) (by assumption) (by assumption)) ?_
    rintro r0 s0 ⟨rfl, rfl⟩
    refine ⟨_, rfl, ?_⟩
    refine .sg0 12 [0, 4, 5, 6, 20] (cgo 33 [false] [.code B65]) [(6, .d (.int .i64 ((look d.nk d.nv x).getD 0))), (20, .d (.bool !(look d.nk d.nv x).isSome))] ?_
    refine .if' (!(look d.nk d.nv x).isSome) (cgo 34 [false, true] [.code B65]) (cgo 34 [false, false] [.code B65]) (fun h5 => ?_) (fun h5 => ?_)
    · simp only [bsX] at h5
      simp_all
    · simp only [bsX] at h5
      refine .sg0 8 [0, 4, 5, 6, 21, 22, 23, 24, 25] (cgo 42 [false, false] [.code B65]) [(21, .ptr 0 0 0), (22, .ptr 0 0 0), (23, .ptr 0 0 0), (24, .row 1), (25, .d (.int .i64 ((look d.nk d.nv x).getD 0)))] ?_
      refine .op' (cgo 43 [false, false] [.code B65]) (ixRow_ok (t := 105) (x := (.tmp 24)) (i := (.tmp 25)) (k := IntKind.i64) (n := (look d.nk d.nv x).getD 0) (l := 1) (sz := 2) (xs := List.map fileD d.files) (mv := false) (by kernel_rfl) (by kernel_rfl) (by kernel_rfl) (by kernel_rfl) (by kernel_rfl) (by grind) (by grind)) ?_
      refine .seg 3 [4, 5] (T' := cgo 46 [false, false] [.code B65]) (tm' := mk 27 [(4, .ptr 1 ((look d.nk d.nv x).getD 0).toNat 0), (5, .d (.bool true))]) (σ' := [.cells [.row 1, .ptr 2 0 0, .ep 2 (D.agg [D.list 1 (List.map strD d.sk), D.list 1 (List.map intD d.sv)]) 0, .row 5, .d (.int .i64 d.quota), .d (.bool d.full), .d (.bool d.off), .d (.int .i64 d.stop), .d (.int .i64 d.calls)], .row 2 (List.map fileD d.files) false, .cells [.row 3, .row 4], .row 1 (List.map strD d.nk) false, .row 1 (List.map intD d.nv) false, .row 3 (List.map chD d.ch) false]) (by kernel_rfl) ?_
      refine .retH F65 (v := V.tuple [V.ptr 1 ((look d.nk d.nv x).getD 0).toNat 0, V.d (D.bool true)]) (by kernel_rfl) (by kernel_rfl) ?_
      simp_all [SD, dirD, atV]
end Go.Proofs.Ytoelkgbeefoplaa
namespace Go.Proofs.Ytoelkgbeefoplaa
open Go Go.Br Go.Proofs
theorem emptyStr (g : ByteArray) : g.toList = (ByteArray.mk #[]).toList ↔ g.size = 0 := by
  rw [Go.ByteArray.toList_eq, Go.ByteArray.toList_eq]
  cases g with
  | mk a =>
    have h : (ByteArray.mk a).size = a.size := rfl
    rw [h]
    cases hd : a.toList with
    | nil => have : a.size = 0 := by rw [← Array.length_toList, hd]; rfl
             simp [this]
    | cons x l => have : a.size ≠ 0 := by rw [← Array.length_toList, hd]; simp
                  simp [this]
noncomputable def B71 : Code := (Try.f71.body).getD .skip
theorem F71 : Fnc Try.prog 71 Try.f71 B71 := ⟨Try.func71, by kernel_rfl, by kernel_rfl⟩
theorem spec_71 (ks : List ByteArray) (V2 : List Int) (g n : ByteArray) (k : Int) (hr : Rising ks) (hl : ks.length < 999990) (hv : V2.length = ks.length) :
    CallsA Try.prog 71 [.ptr 0 0 0, .d (.agg [.str g, .str n, .int .i64 k])] [.cells [.row 1, .row 2], .row 1 (ks.map strD) false, .row 1 (V2.map intD) false] fun r σ' => r = .ret (.tuple []) ∧ σ' = [.cells [.row 1, .row 2], .row 1 ((kapply ks V2 g n k).1.map strD) true, .row 1 ((kapply ks V2 g n k).2.map intD) true] := by
  refine CallsA.start F71 (tm := mk (Try.f71.ntmps) [(0, .ptr 0 0 0), (1, .d (.agg [.str g, .str n, .int .i64 k]))]) (by kernel_rfl) ?_
  have e1 := emptyStr g
  have e2 := emptyStr n
  have d1 := @kdrop_rising ks V2 g hr
  have d2 := @kdrop_len ks V2 g hv
  have d3 := @kdrop_le ks V2 g
  refine .sg 11 [0, 3, 6] (cgo 11 [] [.code B71]) [(3, .ptr 3 0 0), (6, .d (.bool !g.toList == (ByteArray.mk #[]).toList))] [(3, .cells [.d (.str g), .d (.str n), .d (.int .i64 k)])] ?_
  refine .if' (!g.toList == (ByteArray.mk #[]).toList) (cgo 12 [true] [.code B71]) (cgo 12 [false] [.code B71]) (fun h1 => ?_) (fun h1 => ?_)
  · simp only [bsX] at h1
    refine .sg0 4 [0, 3, 7, 8, 9] (cgo 16 [true] [.code B71]) [(7, .ptr 0 0 0), (8, .ptr 3 0 0), (9, .d (.str g))] ?_
    refine .ca [0, 1, 2] (cgo 17 [true] [.code B71]) F96 (@spec_96 (ks) (g) (V2) (by assumption) (by omega) (by assumption)) ?_
    rintro r1 s1 ⟨rfl, rfl⟩
    refine ⟨_, rfl, ?_⟩
    refine .sg0 7 [0, 3, 13] (cgo 24 [true] [.code B71]) [(13, .d (.bool !n.toList == (ByteArray.mk #[]).toList))] ?_
    refine .if' (!n.toList == (ByteArray.mk #[]).toList) (cgo 25 [true, true] [.code B71]) (cgo 25 [true, false] [.code B71]) (fun h3 => ?_) (fun h3 => ?_)
    · simp only [bsX] at h3
      refine .sg0 6 [0, 3, 14, 15, 16, 17, 18] (cgo 31 [true, true] [.code B71]) [(14, .ptr 0 0 0), (15, .ptr 3 0 1), (16, .d (.str n)), (17, .ptr 3 0 2), (18, .d (.int .i64 k))] ?_
      refine .ca [0, 1, 2] (cgo 32 [true, true] [.code B71]) F76 (@spec_76 ((kdrop ks V2 g).fst) (n) ((kdrop ks V2 g).snd) (k) (by assumption) (by omega) (by assumption)) ?_
      rintro r3 s3 ⟨rfl, rfl⟩
      refine ⟨_, rfl, ?_⟩
      refine .sg0 1 [] (cgo 33 [true, true] [.code B71]) [] ?_
      refine .kp [] ?_
      refine .su [0, 1, 2] (mk 20 []) [O.cells [V.row 1, V.row 2], O.row 1 (List.map strD (kput (kdrop ks V2 g).fst (kdrop ks V2 g).snd n k).fst) true, O.row 1 (List.map intD (kput (kdrop ks V2 g).fst (kdrop ks V2 g).snd n k).snd) true] ?_
      refine .retH F71 (v := V.tuple []) (by kernel_rfl) (by kernel_rfl) ?_
      simp_all [kapply]
    · simp only [bsX] at h3
      refine .sg0 1 [] (cgo 26 [true, false] [.code B71]) [] ?_
      refine .kp [] ?_
      refine .su [0, 1, 2] (mk 20 []) [O.cells [V.row 1, V.row 2], O.row 1 (List.map strD (kdrop ks V2 g).fst) true, O.row 1 (List.map intD (kdrop ks V2 g).snd) true] ?_
      refine .retH F71 (v := V.tuple []) (by kernel_rfl) (by kernel_rfl) ?_
      simp_all [kapply]
  · simp only [bsX] at h1
    refine .sg0 7 [0, 3, 13] (cgo 19 [false] [.code B71]) [(13, .d (.bool !n.toList == (ByteArray.mk #[]).toList))] ?_
    refine .if' (!n.toList == (ByteArray.mk #[]).toList) (cgo 20 [false, true] [.code B71]) (cgo 20 [false, false] [.code B71]) (fun h5 => ?_) (fun h5 => ?_)
    · simp only [bsX] at h5
      refine .sg0 6 [0, 3, 14, 15, 16, 17, 18] (cgo 26 [false, true] [.code B71]) [(14, .ptr 0 0 0), (15, .ptr 3 0 1), (16, .d (.str n)), (17, .ptr 3 0 2), (18, .d (.int .i64 k))] ?_
      refine .ca [0, 1, 2] (cgo 27 [false, true] [.code B71]) F76 (@spec_76 (ks) (n) (V2) (k) (by assumption) (by omega) (by assumption)) ?_
      rintro r5 s5 ⟨rfl, rfl⟩
      refine ⟨_, rfl, ?_⟩
      refine .sg0 1 [] (cgo 28 [false, true] [.code B71]) [] ?_
      refine .kp [] ?_
      refine .su [0, 1, 2] (mk 20 []) [O.cells [V.row 1, V.row 2], O.row 1 (List.map strD (kput ks V2 n k).fst) true, O.row 1 (List.map intD (kput ks V2 n k).snd) true] ?_
      refine .retH F71 (v := V.tuple []) (by kernel_rfl) (by kernel_rfl) ?_
      simp_all [kapply]
    · simp only [bsX] at h5
      refine .sg0 1 [] (cgo 21 [false, false] [.code B71]) [] ?_
      refine .raises [1, 2] ?_
      refine .kp [] ?_
      refine .su [0, 1, 2] (mk 20 []) [O.cells [V.row 1, V.row 2], O.row 1 (List.map strD ks) true, O.row 1 (List.map intD V2) true] ?_
      refine .retH F71 (v := V.tuple []) (by kernel_rfl) (by kernel_rfl) ?_
      simp_all [kapply]
end Go.Proofs.Ytoelkgbeefoplaa
namespace Go.Proofs.Ytoelkgbeefoplaa
open Go Go.Br Go.Proofs
noncomputable def B110 : Code := (Try.f110.body).getD .skip
theorem F110 : Fnc Try.prog 110 Try.f110 B110 := ⟨Try.func110, by kernel_rfl, by kernel_rfl⟩
theorem spec_110b (xs : List D) (off n : Nat) (c : Option Nat) (hn : off + n ≤ xs.length) (hlen : xs.length ≤ 1000000) : CallsA Try.prog 110 [.sl 0 off n c] [.row 1 xs false] fun r σ' => r = .ret (.d (.list 1 ((xs.drop off).take n))) ∧ σ' = [.row 1 xs false] := by
  refine CallsA.start F110 (tm := (mk 8 [(0, .sl 0 off n c)])) (by kernel_rfl) ?_
  refine .seg 8 [0, 3] (T' := cgo 8 [] [.code B110]) (tm' := mk 8 [(0, .sl 0 off n c), (3, .sl 0 off n c)]) (σ' := [.row 1 xs false]) (by kernel_rfl) ?_
  refine .anyH (o := (opOf (cgo 8 [] [.code B110])).getD default) (by kernel_rfl) (by kernel_rfl) (by kernel_rfl) (T' := (cgo 9 [] [.code B110])) (by kernel_rfl) (nilEqC_ok (x := .tmp 3) (y := .const (.slice none 0 0)) (t := 66) (ty := 66) (sz := 1) (xs := (xs.drop off).take n) (neg := false) (by kernel_rfl) (by kernel_rfl) (by kernel_rfl) (by kernel_rfl) (by kernel_rfl)) ?_
  rintro v ⟨b, rfl, hb⟩
  cases b with
  | true =>
    have h0 : (xs.drop off).take n = [] := hb rfl
    refine .seg 6 [2] (T' := cgo 15 [true] [.code B110]) (tm' := mk 8 [(2, .nils)]) (σ' := [.row 1 xs false]) (by kernel_rfl) ?_
    refine .coerce [66, 66, 66] ?_
    exact .retH (v := .d (.list 1 [])) F110 (by kernel_rfl) (by kernel_rfl) ⟨by rw [h0], rfl⟩
  | false =>
    refine .seg 5 [0] (T' := cgo 14 [false] [.code B110]) (tm' := mk 8 [(0, .sl 0 off n c)]) (σ' := [.row 1 xs false]) (by kernel_rfl) ?_
    refine .opH (o := (opOf (cgo 14 [false] [.code B110])).getD default) (by kernel_rfl) (by kernel_rfl) (by kernel_rfl) (T' := cgo 15 [false] [.code B110]) (by kernel_rfl) (build0_ok (t := 66) (e := 9) (sz := 1) (sz' := 1) (by kernel_rfl) (by kernel_rfl) (by kernel_rfl)) ?_
    refine .seg 1 [5, 6] (T' := cgo 16 [false] [.code B110]) (tm' := mk 8 [(5, .ex 1 []), (6, .sl 0 off n c)]) (σ' := [.row 1 xs false]) (by kernel_rfl) ?_
    generalize hys : (xs.drop off).take n = ys
    have hl : ys.length ≤ 1000000 := by rw [← hys]; simp; omega
    have hc : cont [.row 1 xs false] (.sl 0 off n c) = some (1, ys) := by rw [← hys]; rfl
    cases ys with
    | nil =>
      refine .opH (o := (opOf (cgo 16 [false] [.code B110])).getD default) (by kernel_rfl) (by kernel_rfl) (by kernel_rfl) (T' := cgo 17 [false] [.code B110]) (by kernel_rfl) (appNone_ok (s := .tmp 5) (x := .tmp 6) (t := 66) (t2 := 66) (sz := 1) (by' := 16) (xs := []) (by kernel_rfl) (by kernel_rfl) hc (by kernel_rfl) (by kernel_rfl)) ?_
      refine .seg 2 [2] (T' := cgo 19 [false] [.code B110]) (tm' := mk 8 [(2, .ex 1 [])]) (σ' := [.row 1 xs false]) (by kernel_rfl) ?_
      refine .coerce [66, 66, 66] ?_
      exact .retH (v := .d (.list 1 [])) F110 (by kernel_rfl) (by kernel_rfl) ⟨rfl, rfl⟩
    | cons b bs =>
      refine .opH (o := (opOf (cgo 16 [false] [.code B110])).getD default) (by kernel_rfl) (by kernel_rfl) (by kernel_rfl) (T' := cgo 17 [false] [.code B110]) (by kernel_rfl) (appEx_ok (s := .tmp 5) (x := .tmp 6) (t := 66) (t2 := 66) (sz := 1) (by' := 16) (xs := []) (ys := b :: bs) (by kernel_rfl) (by kernel_rfl) hc (by kernel_rfl) (by kernel_rfl) (by simp) (by simp at hl ⊢; omega) (by simp [maxLen] at hl ⊢; omega)) ?_
      refine .seg 2 [2] (T' := cgo 19 [false] [.code B110]) (tm' := mk 8 [(2, .row 1)]) (σ' := [.row 1 xs false, .row 1 (b :: bs) false]) (by kernel_rfl) ?_
      refine .freeze 1 (sz := 1) (xs := b :: bs) (mv := false) rfl ?_
      refine .sub [0] ((mk 8 [(2, .d (.list 1 (b :: bs)))])) [.row 1 xs false] none [] ⟨rfl, rfl, rfl⟩ rfl ⟨by simp, rfl⟩ rfl ⟨rfl, rfl⟩ ⟨rfl, rfl⟩ ?_
      exact .retH F110 (by kernel_rfl) (by kernel_rfl) (⟨rfl, rfl⟩)
noncomputable def B111 : Code := (Try.f111.body).getD .skip
theorem F111 : Fnc Try.prog 111 Try.f111 B111 := ⟨Try.func111, by kernel_rfl, by kernel_rfl⟩
theorem spec_111b (xs : List D) (off n : Nat) (c : Option Nat) (hn : off + n ≤ xs.length) (hlen : xs.length ≤ 1000000) : CallsA Try.prog 111 [.sl 0 off n c] [.row 1 xs false] fun r σ' => r = .ret (.d (.list 1 ((xs.drop off).take n))) ∧ σ' = [.row 1 xs false] := by
  refine CallsA.start F111 (tm := (mk 8 [(0, .sl 0 off n c)])) (by kernel_rfl) ?_
  refine .seg 8 [0, 3] (T' := cgo 8 [] [.code B111]) (tm' := mk 8 [(0, .sl 0 off n c), (3, .sl 0 off n c)]) (σ' := [.row 1 xs false]) (by kernel_rfl) ?_
  refine .anyH (o := (opOf (cgo 8 [] [.code B111])).getD default) (by kernel_rfl) (by kernel_rfl) (by kernel_rfl) (T' := (cgo 9 [] [.code B111])) (by kernel_rfl) (nilEqC_ok (x := .tmp 3) (y := .const (.slice none 0 0)) (t := 46) (ty := 46) (sz := 1) (xs := (xs.drop off).take n) (neg := false) (by kernel_rfl) (by kernel_rfl) (by kernel_rfl) (by kernel_rfl) (by kernel_rfl)) ?_
  rintro v ⟨b, rfl, hb⟩
  cases b with
  | true =>
    have h0 : (xs.drop off).take n = [] := hb rfl
    refine .seg 6 [2] (T' := cgo 15 [true] [.code B111]) (tm' := mk 8 [(2, .nils)]) (σ' := [.row 1 xs false]) (by kernel_rfl) ?_
    refine .coerce [46, 46, 46] ?_
    exact .retH (v := .d (.list 1 [])) F111 (by kernel_rfl) (by kernel_rfl) ⟨by rw [h0], rfl⟩
  | false =>
    refine .seg 5 [0] (T' := cgo 14 [false] [.code B111]) (tm' := mk 8 [(0, .sl 0 off n c)]) (σ' := [.row 1 xs false]) (by kernel_rfl) ?_
    refine .opH (o := (opOf (cgo 14 [false] [.code B111])).getD default) (by kernel_rfl) (by kernel_rfl) (by kernel_rfl) (T' := cgo 15 [false] [.code B111]) (by kernel_rfl) (build0_ok (t := 46) (e := 3) (sz := 1) (sz' := 1) (by kernel_rfl) (by kernel_rfl) (by kernel_rfl)) ?_
    refine .seg 1 [5, 6] (T' := cgo 16 [false] [.code B111]) (tm' := mk 8 [(5, .ex 1 []), (6, .sl 0 off n c)]) (σ' := [.row 1 xs false]) (by kernel_rfl) ?_
    generalize hys : (xs.drop off).take n = ys
    have hl : ys.length ≤ 1000000 := by rw [← hys]; simp; omega
    have hc : cont [.row 1 xs false] (.sl 0 off n c) = some (1, ys) := by rw [← hys]; rfl
    cases ys with
    | nil =>
      refine .opH (o := (opOf (cgo 16 [false] [.code B111])).getD default) (by kernel_rfl) (by kernel_rfl) (by kernel_rfl) (T' := cgo 17 [false] [.code B111]) (by kernel_rfl) (appNone_ok (s := .tmp 5) (x := .tmp 6) (t := 46) (t2 := 46) (sz := 1) (by' := 8) (xs := []) (by kernel_rfl) (by kernel_rfl) hc (by kernel_rfl) (by kernel_rfl)) ?_
      refine .seg 2 [2] (T' := cgo 19 [false] [.code B111]) (tm' := mk 8 [(2, .ex 1 [])]) (σ' := [.row 1 xs false]) (by kernel_rfl) ?_
      refine .coerce [46, 46, 46] ?_
      exact .retH (v := .d (.list 1 [])) F111 (by kernel_rfl) (by kernel_rfl) ⟨rfl, rfl⟩
    | cons b bs =>
      refine .opH (o := (opOf (cgo 16 [false] [.code B111])).getD default) (by kernel_rfl) (by kernel_rfl) (by kernel_rfl) (T' := cgo 17 [false] [.code B111]) (by kernel_rfl) (appEx_ok (s := .tmp 5) (x := .tmp 6) (t := 46) (t2 := 46) (sz := 1) (by' := 8) (xs := []) (ys := b :: bs) (by kernel_rfl) (by kernel_rfl) hc (by kernel_rfl) (by kernel_rfl) (by simp) (by simp at hl ⊢; omega) (by simp [maxLen] at hl ⊢; omega)) ?_
      refine .seg 2 [2] (T' := cgo 19 [false] [.code B111]) (tm' := mk 8 [(2, .row 1)]) (σ' := [.row 1 xs false, .row 1 (b :: bs) false]) (by kernel_rfl) ?_
      refine .freeze 1 (sz := 1) (xs := b :: bs) (mv := false) rfl ?_
      refine .sub [0] ((mk 8 [(2, .d (.list 1 (b :: bs)))])) [.row 1 xs false] none [] ⟨rfl, rfl, rfl⟩ rfl ⟨by simp, rfl⟩ rfl ⟨rfl, rfl⟩ ⟨rfl, rfl⟩ ?_
      exact .retH F111 (by kernel_rfl) (by kernel_rfl) (⟨rfl, rfl⟩)
end Go.Proofs.Ytoelkgbeefoplaa
namespace Go.Proofs.Ytoelkgbeefoplaa
open Go Go.Br Go.Proofs
noncomputable def B72 : Code := (Try.f72.body).getD .skip
theorem F72 : Fnc Try.prog 72 Try.f72 B72 := ⟨Try.func72, by kernel_rfl, by kernel_rfl⟩
noncomputable def B97 : Code := (Try.f97.body).getD .skip
theorem F97 : Fnc Try.prog 97 Try.f97 B97 := ⟨Try.func97, by kernel_rfl, by kernel_rfl⟩
noncomputable def B98 : Code := (Try.f98.body).getD .skip
theorem F98 : Fnc Try.prog 98 Try.f98 B98 := ⟨Try.func98, by kernel_rfl, by kernel_rfl⟩
noncomputable def B109 : Code := (Try.f109.body).getD .skip
theorem F109 : Fnc Try.prog 109 Try.f109 B109 := ⟨Try.func109, by kernel_rfl, by kernel_rfl⟩
theorem spec_98 : Br.Pure Try.prog 98 [] (.d (.int .i64 0)) := by
  refine CallsA.start F98 (tm := mk (Try.f98.ntmps) []) (by kernel_rfl) ?_
  refine .seg 8 [0] (T' := cgo 8 [] [.code B98]) (tm' := mk 1 [(0, .d (.int .i64 0))]) (σ' := []) (by kernel_rfl) ?_
  refine .retH F98 (v := V.d (D.int IntKind.i64 0)) (by kernel_rfl) (by kernel_rfl) ?_
  exact ⟨rfl, rfl⟩
theorem spec_97 (ks V2 : List D) : CallsA Try.prog 97 [.ptr 0 0 0, .fn (.func 98) [] []] [.cells [.row 1, .row 2], .row 1 ks false, .row 1 V2 false] fun r σ' => r = .ret (.fn (.func 109) [] [.ptr 3 0 0, .ptr 4 0 0]) ∧ σ' = [.cells [.row 1, .row 2], .row 1 ks false, .row 1 V2 false, .cells [.ptr 0 0 0], .cells [.fn (.func 98) [] []]] := by
  refine CallsA.start F97 (tm := mk (Try.f97.ntmps) [(0, .ptr 0 0 0), (1, .fn (.func 98) [] [])]) (by kernel_rfl) ?_
  refine .seg 11 [4] (T' := cgo 11 [] [.code B97]) (tm' := mk 6 [(4, .fn (Fn.func 109) [] [.ptr 3 0 0, .ptr 4 0 0])]) (σ' := [.cells [.row 1, .row 2], .row 1 ks false, .row 1 V2 false, .cells [.ptr 0 0 0], .cells [.fn (Fn.func 98) [] []]]) (by kernel_rfl) ?_
  refine .retH F97 (v := V.fn (Fn.func 109) [] [V.ptr 3 0 0, V.ptr 4 0 0]) (by kernel_rfl) (by kernel_rfl) ?_
  exact ⟨rfl, rfl⟩
theorem spec_72 (ks V2 : List D) : CallsA Try.prog 72 [.ptr 0 0 0] [.cells [.row 1, .row 2], .row 1 ks false, .row 1 V2 false] fun r σ' => r = .ret (.fn (.func 109) [] [.ptr 3 0 0, .ptr 4 0 0]) ∧ σ' = [.cells [.row 1, .row 2], .row 1 ks false, .row 1 V2 false, .cells [.ptr 0 0 0], .cells [.fn (.func 98) [] []]] := by
  refine CallsA.start F72 (tm := mk (Try.f72.ntmps) [(0, .ptr 0 0 0)]) (by kernel_rfl) ?_
  refine .sg0 7 [0, 2, 3] (cgo 7 [] [.code B72]) [(2, .d (.raw Value.nilFunc)), (3, .ptr 0 0 0)] ?_
  refine .ca [0, 1, 2] (cgo 8 [] [.code B72]) F97 (@spec_97 (ks) (V2)) ?_
  rintro r0 s0 ⟨rfl, rfl⟩
  refine ⟨_, rfl, ?_⟩
  refine .seg 2 [2] (T' := cgo 10 [] [.code B72]) (tm' := mk 5 [(2, .fn (Fn.func 109) [] [.ptr 3 0 0, .ptr 4 0 0])]) (σ' := [.cells [.row 1, .row 2], .row 1 ks false, .row 1 V2 false, .cells [.ptr 0 0 0], .cells [.fn (Fn.func 98) [] []]]) (by kernel_rfl) ?_
  refine .retH F72 (v := V.fn (Fn.func 109) [] [V.ptr 3 0 0, V.ptr 4 0 0]) (by kernel_rfl) (by kernel_rfl) ?_
  exact ⟨rfl, rfl⟩
theorem eachL {α : Type} (l : List α) (g : α → D) : List.take (l.length - 0) (List.drop 0 (List.map g l)) = List.map g l := by
  rw [Nat.sub_zero, List.drop_zero, List.take_of_length_le (by simp)]
end Go.Proofs.Ytoelkgbeefoplaa
namespace Go.Proofs.Ytoelkgbeefoplaa
open Go Go.Br Go.Proofs
noncomputable def B69 : Code := (Try.f69.body).getD .skip
theorem F69 : Fnc Try.prog 69 Try.f69 B69 := ⟨Try.func69, by kernel_rfl, by kernel_rfl⟩
noncomputable def R69 : List Item := [.code (rfAs (cgo 18 [] [Item.code B69])), .beginRound, .code (rfBd (cgo 18 [] [Item.code B69]))]
noncomputable def S69 (ks : List ByteArray) (V2 : List Int) (i : Nat) (st : LoopState) : Store :=
  [.cells [.row 1, .row 2], .row 1 (ks.map strD) false, .row 1 (V2.map intD) false, .cells [.row 7, .row 8], .cells [.ptr 3 0 0], .cells [.ptr 0 0 0], .cells [.fn (.func 98) [] []], .row 1 ((ks.take i).map strD) true, .row 1 ((V2.take i).map intD) true, .defd,
    lp (cgo 18 [] [Item.code B69]) 69 (mk 17 [(2, V.d (D.raw (Value.pointer none))), (3, V.ptr 4 0 0), (9, V.fn (Fn.func 109) [] [V.ptr 5 0 0, V.ptr 6 0 0])]) st]
theorem body69 (ks : List ByteArray) (V2 : List Int) (hr : Rising ks) (hl : ks.length < 60000) (hv : V2.length = ks.length) (i : Nat) (x : ByteArray) (v : Int) (hx : ks[i]? = some x) (hy : V2[i]? = some v) :
    AW Try.prog 69 (some 10) 11 R69 (mk 17 [(2, V.d (D.raw (Value.pointer none))), (3, V.ptr 4 0 0), (9, V.fn (Fn.func 109) [] [V.ptr 5 0 0, V.ptr 6 0 0]), (10, .d (.str x)), (11, .d (.int .i64 v))]) (S69 ks V2 i .ready) [] fun a σ' => a = .ret (.d (.bool true)) ∧ σ' = S69 ks V2 (i + 1) .ready := by
  refine .at (T' := cgo 0 [] R69) rfl ?_
  have hi := (List.getElem?_eq_some_iff.1 hx).1
  have hk : kput (ks.take i) (V2.take i) x v = (ks.take (i + 1), V2.take (i + 1)) := by
    obtain ⟨_, rfl⟩ := List.getElem?_eq_some_iff.1 hx
    obtain ⟨_, rfl⟩ := List.getElem?_eq_some_iff.1 hy
    exact kput_next hr hv i hi
  have hr2 : Rising (ks.take i) := List.Pairwise.sublist (List.take_sublist _ _) hr
  have hl2 : (ks.take i).length < 1000000 := by simp; omega
  have hv2 : (V2.take i).length = (ks.take i).length := by simp [hv]
  refine .sg0 7 [2, 3, 4, 5, 9, 10, 11] (cgo 7 [] R69) [(4, .d (.str x)), (5, .d (.int .i64 v))] ?_
  refine .beginL (T0 := cgo 18 [] [Item.code B69]) (fn := 69) (tml := (mk 17 [(2, V.d (D.raw (Value.pointer none))), (3, V.ptr 4 0 0), (9, V.fn (Fn.func 109) [] [V.ptr 5 0 0, V.ptr 6 0 0])])) (by kernel_rfl) (T' := cgo 8 [] R69) (by kernel_rfl) (σ' := [.cells [.row 1, .row 2], .row 1 (List.map strD ks) false, .row 1 (List.map intD V2) false, .cells [.row 7, .row 8], .cells [.ptr 3 0 0], .cells [.ptr 0 0 0], .cells [.fn (Fn.func 98) [] []], .row 1 (List.map strD (List.take i ks)) true, .row 1 (List.map intD (List.take i V2)) true, .defd, lp (cgo 18 [] [Item.code B69]) 69 (mk 17 [(2, .d (.raw (Value.pointer none))), (3, .ptr 4 0 0), (9, .fn (Fn.func 109) [] [.ptr 5 0 0, .ptr 6 0 0])]) LoopState.busy]) (by kernel_rfl) (by kernel_rfl) ?_
  refine .sg0 5 [2, 3, 4, 5, 12, 13, 14] (cgo 13 [] R69) [(12, .ptr 3 0 0), (13, .d (.str x)), (14, .d (.int .i64 v))] ?_
  refine .ca [3, 7, 8] (cgo 14 [] R69) F76 (@spec_76 (List.take i ks) (x) (List.take i V2) (v) (by assumption) (by assumption) (by assumption)) ?_
  rintro r0 s0 ⟨rfl, rfl⟩
  refine ⟨_, rfl, ?_⟩
  refine .sg 2 [2] (cgo 16 [] R69) [] [(10, lp (cgo 18 [] [Item.code B69]) 69 (mk 17 [(2, .d (.raw (Value.pointer none))), (3, .ptr 4 0 0), (9, .fn (Fn.func 109) [] [.ptr 5 0 0, .ptr 6 0 0])]) LoopState.busy)] ?_
  refine .roundEndL (T0 := cgo 18 [] [Item.code B69]) (fn := 69) (tml := (mk 17 [(2, V.d (D.raw (Value.pointer none))), (3, V.ptr 4 0 0), (9, V.fn (Fn.func 109) [] [V.ptr 5 0 0, V.ptr 6 0 0])])) (st := LoopState.busy) (by kernel_rfl) (by kernel_rfl) (σ' := [.cells [.row 1, .row 2], .row 1 (List.map strD ks) false, .row 1 (List.map intD V2) false, .cells [.row 7, .row 8], .cells [.ptr 3 0 0], .cells [.ptr 0 0 0], .cells [.fn (Fn.func 98) [] []], .row 1 (List.map strD (kput (List.take i ks) (List.take i V2) x v).fst) true, .row 1 (List.map intD (kput (List.take i ks) (List.take i V2) x v).snd) true, .defd, lp (cgo 18 [] [Item.code B69]) 69 (mk 17 [(2, .d (.raw (Value.pointer none))), (3, .ptr 4 0 0), (9, .fn (Fn.func 109) [] [.ptr 5 0 0, .ptr 6 0 0])]) LoopState.ready]) (by kernel_rfl) ?_
  simp_all [S69]
theorem lo69 (ks : List ByteArray) (V2 : List Int) (hr : Rising ks) (hl : ks.length < 60000) (hv : V2.length = ks.length) : ∀ (m i : Nat), i + m = (ks).length →
    AW Try.prog 109 none 11 (cgo 24 [false] [Item.code B109]) (mk 43 [(0, V.yield 10), (5, V.d (.list 1 ((ks).map strD))), (6, V.d (.list 1 ((V2).map intD))), (27, V.d (.int .i64 ((ks).length : Nat))), (28, V.d (.int .i64 (i : Nat)))]) (S69 ks V2 i .ready) [] fun r σ' => r = .ret (.tuple []) ∧ σ' = S69 ks V2 (ks).length .ready := by
  intro m
  induction m with
  | zero =>
    intro i hi
    have hi : i = (ks).length := by omega
    subst hi
    refine .sg0 5 [0, 5, 6, 27, 28, 29] (cgo 29 [false] [.code B109]) [(29, .d (.bool (decide ((↑ks.length : Int) < (↑ks.length : Int)))))] ?_
    refine .if' (decide ((↑ks.length : Int) < (↑ks.length : Int))) (cgo 30 [false, true] [.code B109]) (cgo 30 [false, false] [.code B109]) (fun h1 => ?_) (fun h1 => ?_)
    · simp only [bsX] at h1
      omega
    · simp only [bsX] at h1
      refine .seg 1 [] (T' := cgo 31 [false, false] [.code B109]) (tm' := mk 43 []) (σ' := [.cells [.row 1, .row 2], .row 1 (List.map strD ks) false, .row 1 (List.map intD V2) false, .cells [.row 7, .row 8], .cells [.ptr 3 0 0], .cells [.ptr 0 0 0], .cells [.fn (Fn.func 98) [] []], .row 1 (List.map strD (List.take ks.length ks)) true, .row 1 (List.map intD (List.take ks.length V2)) true, .defd, lp (cgo 18 [] [.code B69]) 69 (mk 17 [(2, .d (.raw (Value.pointer none))), (3, .ptr 4 0 0), (9, .fn (Fn.func 109) [] [.ptr 5 0 0, .ptr 6 0 0])]) LoopState.ready]) (by kernel_rfl) ?_
      refine .retH F109 (v := V.tuple []) (by kernel_rfl) (by kernel_rfl) ?_
      exact ⟨rfl, rfl⟩
  | succ m ih =>
    intro i hi
    obtain ⟨x, hx⟩ := get_some (l := ks) (i := i) (by omega)
    obtain ⟨v, hy⟩ := get_some (l := V2) (i := i) (by omega)
    have hYi := body69 ks V2 hr hl hv i x v hx hy
    refine .sg0 5 [0, 5, 6, 27, 28, 29] (cgo 29 [false] [.code B109]) [(29, .d (.bool (decide ((↑i : Int) < (↑ks.length : Int)))))] ?_
    refine .if' (decide ((↑i : Int) < (↑ks.length : Int))) (cgo 30 [false, true] [.code B109]) (cgo 30 [false, false] [.code B109]) (fun h1 => ?_) (fun h1 => ?_)
    · simp only [bsX] at h1
      refine .sg0 9 [0, 5, 6, 7, 27, 28, 29, 30] (cgo 39 [false, true] [.code B109]) [(7, .d (.int .i64 (↑i : Int))), (30, .d (.int .i64 (↑i : Int)))] ?_
      refine .dr (cgo 40 [false, true] [.code B109]) [(31, .yield 10), (32, .d (.list 1 (List.map strD ks))), (33, .d (.int .i64 (↑i : Int))), (34, .ep 1 (D.str x) 0), (35, .d (.str x)), (36, .d (.list 1 (List.map intD V2))), (37, .d (.int .i64 (↑i : Int))), (38, .ep 1 (D.int IntKind.i64 v) 0), (39, .d (.int .i64 v)), (40, .d (.bool true)), (41, .d (.bool false))] [(7, .row 1 (List.map strD (List.take (i + 1) ks)) true), (8, .row 1 (List.map intD (List.take (i + 1) V2)) true)] (fun kz L hL => ?_) ?_
      · refine ⟨[⟨[], [], [], [10], [10], [], true, false⟩, ⟨[], [], [], [], [], [], true, false⟩, ⟨[], [], [], [], [], [], true, false⟩, ⟨[], [], [], [], [], [], true, false⟩, ⟨[], [], [], [], [], [], true, false⟩, ⟨[], [], [], [], [], [], true, false⟩, ⟨[], [], [], [], [], [], true, false⟩, ⟨[], [], [], [], [], [], true, false⟩, ⟨[], [], [], [], [], [], true, false⟩, ⟨[], [], [], [], [], [], false, true⟩, ⟨[], [], [], [], [], [], true, false⟩], run_amongF hL _ [] [0, 1, 2, 3, 4, 5, 6, 7, 8, 9, 10] (by intro p hp; cases hp) (by kernel_rfl) ?_⟩
        refine Run.ap [0, 1, 2] [(31, .yield 10), (32, .d (.list 1 (List.map strD ks))), (33, .d (.int .i64 (↑i : Int)))] [] ?_
        refine Run.one (StepF.look (o := ((drawOf (cgo 39 [false, true] [.code B109]))[3]?).getD default) (v := .ep 1 (D.str x) 0) [(.tmp 32), (.tmp 33)] (by kernel_rfl) rfl (by kernel_rfl) (by kernel_rfl) (by kernel_rfl) (by kernel_rfl) (by kernel_rfl) (fun tm' σ2 hv hr => ixData_ok (t := 66) (x := (.tmp 32)) (i := (.tmp 33)) (k := IntKind.i64) (n := (↑i : Int)) (sz := 1) (xs := List.map strD ks) (d := strD x) (by kernel_rfl) (by rw [hv _ (by simp)]; kernel_rfl) (by rw [hv _ (by simp)]; kernel_rfl) (by kernel_rfl) (by omega) (map_get hx))) ?_
        refine Run.ap [4, 5, 6] [(35, .d (.str x)), (36, .d (.list 1 (List.map intD V2))), (37, .d (.int .i64 (↑i : Int)))] [] ?_
        refine Run.one (StepF.look (o := ((drawOf (cgo 39 [false, true] [.code B109]))[7]?).getD default) (v := .ep 1 (D.int IntKind.i64 v) 0) [(.tmp 36), (.tmp 37)] (by kernel_rfl) rfl (by kernel_rfl) (by kernel_rfl) (by kernel_rfl) (by kernel_rfl) (by kernel_rfl) (fun tm' σ2 hv hr => ixData_ok (t := 46) (x := (.tmp 36)) (i := (.tmp 37)) (k := IntKind.i64) (n := (↑i : Int)) (sz := 1) (xs := List.map intD V2) (d := intD v) (by kernel_rfl) (by rw [hv _ (by simp)]; kernel_rfl) (by rw [hv _ (by simp)]; kernel_rfl) (by kernel_rfl) (by omega) (map_get hy))) ?_
        refine Run.ap [8] [(39, .d (.int .i64 v))] [] ?_
        refine Run.one (s1 := (mk 43 [(0, .yield 10), (5, .d (.list 1 (List.map strD ks))), (6, .d (.list 1 (List.map intD V2))), (7, .d (.int .i64 (↑i : Int))), (27, .d (.int .i64 (↑ks.length : Int))), (28, .d (.int .i64 (↑i : Int))), (29, .d (.bool (decide ((↑i : Int) < (↑ks.length : Int))))), (30, .d (.int .i64 (↑i : Int))), (31, .yield 10), (32, .d (.list 1 (List.map strD ks))), (33, .d (.int .i64 (↑i : Int))), (34, .ep 1 (D.str x) 0), (35, .d (.str x)), (36, .d (.list 1 (List.map intD V2))), (37, .d (.int .i64 (↑i : Int))), (38, .ep 1 (D.int IntKind.i64 v) 0), (39, .d (.int .i64 v)), (40, .d (.bool true))], [.cells [.row 1, .row 2], .row 1 (List.map strD ks) false, .row 1 (List.map intD V2) false, .cells [.row 7, .row 8], .cells [.ptr 3 0 0], .cells [.ptr 0 0 0], .cells [.fn (Fn.func 98) [] []], .row 1 (List.map strD (List.take (i + 1) ks)) true, .row 1 (List.map intD (List.take (i + 1) V2)) true, .defd, lp (cgo 18 [] [Item.code B69]) 69 (mk 17 [(2, .d (.raw (Value.pointer none))), (3, .ptr 4 0 0), (9, .fn (Fn.func 109) [] [.ptr 5 0 0, .ptr 6 0 0])]) LoopState.ready])) (StepF.all (o := ((drawOf (cgo 39 [false, true] [Item.code B109]))[9]?).getD default) (by kernel_rfl) (by kernel_rfl) fun rest hn => AW.yieldD (T0 := cgo 18 [] [Item.code B69]) (x := (.tmp 31)) (args := #[(.tmp 35), (.tmp 39)]) (ts := #[9, 3]) (l := 10) (st := LoopState.ready) (fn := 69) (tml := (mk 17 [(2, .d (.raw (Value.pointer none))), (3, .ptr 4 0 0), (9, .fn (Fn.func 109) [] [.ptr 5 0 0, .ptr 6 0 0])])) (R := R69) (o := ((drawOf (cgo 39 [false, true] [Item.code B109]))[9]?).getD default) (N := 11) (by kernel_rfl) (by kernel_rfl) (by kernel_rfl) (by kernel_rfl) (by kernel_rfl) (by kernel_rfl) (by kernel_rfl) (by kernel_rfl) (by kernel_rfl) hYi (by rintro r s ⟨rfl, rfl⟩; exact ⟨_, rfl, AW.as (by kernel_rfl) (by kernel_rfl) hn⟩)) ?_
        exact Run.fin
      refine .seg 7 [0, 5, 6, 7, 27, 28, 29, 30, 31, 32, 33, 34, 35, 36, 37, 38, 39, 40, 41, 42] (T' := cgo 47 [false, true, false] [.code B109]) (tm' := mk 43 [(0, .yield 10), (5, .d (.list 1 (List.map strD ks))), (6, .d (.list 1 (List.map intD V2))), (7, .d (.int .i64 (↑i : Int))), (27, .d (.int .i64 (↑ks.length : Int))), (28, .d (.int .i64 (IntKind.i64.wrap ((↑i : Int) + 1)))), (29, .d (.bool (decide ((↑i : Int) < (↑ks.length : Int))))), (30, .d (.int .i64 (↑i : Int))), (31, .yield 10), (32, .d (.list 1 (List.map strD ks))), (33, .d (.int .i64 (↑i : Int))), (34, .ep 1 (D.str x) 0), (35, .d (.str x)), (36, .d (.list 1 (List.map intD V2))), (37, .d (.int .i64 (↑i : Int))), (38, .ep 1 (D.int IntKind.i64 v) 0), (39, .d (.int .i64 v)), (40, .d (.bool true)), (41, .d (.bool false)), (42, .d (.int .i64 (IntKind.i64.wrap ((↑i : Int) + 1))))]) (σ' := [.cells [.row 1, .row 2], .row 1 (List.map strD ks) false, .row 1 (List.map intD V2) false, .cells [.row 7, .row 8], .cells [.ptr 3 0 0], .cells [.ptr 0 0 0], .cells [.fn (Fn.func 98) [] []], .row 1 (List.map strD (List.take (i + 1) ks)) true, .row 1 (List.map intD (List.take (i + 1) V2)) true, .defd, lp (cgo 18 [] [.code B69]) 69 (mk 17 [(2, .d (.raw (Value.pointer none))), (3, .ptr 4 0 0), (9, .fn (Fn.func 109) [] [.ptr 5 0 0, .ptr 6 0 0])]) LoopState.ready]) (by kernel_rfl) ?_
      simp (disch := omega) only [wrap_i64, wrap_u64s, wrap_u32s, wrap_u8s, wrap_i32s, iadd_i64, isub_i64, irem_n, iquo_n, tdiv_nn, tmod_nn]
      exact .seg 1 [0, 5, 6, 27, 28] (by kernel_rfl) (ih (i + 1) (by omega))
    · simp only [bsX] at h1
      omega
theorem it69 (ks : List ByteArray) (V2 : List Int) (hr : Rising ks) (hl : ks.length < 60000) (hv : V2.length = ks.length) : CallsA Try.prog 109 [.yield 10, .ptr 5 0 0, .ptr 6 0 0] (S69 ks V2 0 .ready) fun r σ' => r = .ret (.tuple []) ∧ σ' = S69 ks V2 (ks).length .ready := by
  refine CallsA.start F109 (tm := mk (Try.f109.ntmps) [(0, .yield 10), (1, .ptr 5 0 0), (2, .ptr 6 0 0)]) (by kernel_rfl) ?_
  refine .sg0 11 [0, 1, 2, 10] (cgo 11 [false] [.code B109]) [(10, .fn (Fn.func 98) [] [])] ?_
  refine .semH (o := (opOf (cgo 11 [false] [Item.code B109])).getD default) (v := .d (.int .i64 0)) (σ' := [.cells [.row 1, .row 2], .row 1 (List.map strD ks) false, .row 1 (List.map intD V2) false, .cells [.row 7, .row 8], .cells [.ptr 3 0 0], .cells [.ptr 0 0 0], .cells [.fn (Fn.func 98) [] []], .row 1 [] true, .row 1 [] true, .defd, lp (cgo 18 [] [Item.code B69]) 69 (mk 17 [(2, .d (.raw (Value.pointer none))), (3, .ptr 4 0 0), (9, .fn (Fn.func 109) [] [.ptr 5 0 0, .ptr 6 0 0])]) LoopState.ready]) (by kernel_rfl) (by kernel_rfl) (T' := cgo 12 [false] [Item.code B109]) (by kernel_rfl) (fun kz => sem_data0 (x := (.tmp 10)) (args := #[]) (ts := #[]) (first := []) (cap := []) (ds := []) (v := .d (.int .i64 0)) F98 (@spec_98) (by kernel_rfl) (by kernel_rfl) (by kernel_rfl) (by kernel_rfl) (by kernel_rfl) (by kernel_rfl) _) ?_
  refine .sg0 3 [0, 1, 4] (cgo 15 [false] [.code B109]) [(4, .d (.int .i64 0))] ?_
  refine .dr (cgo 16 [false] [.code B109]) [(5, .d (.list 1 (List.take ((List.map strD ks).length - 0) (List.drop 0 (List.map strD ks))))), (6, .d (.list 1 (List.take ((List.map intD V2).length - 0) (List.drop 0 (List.map intD V2))))), (12, .ptr 0 0 0), (13, .ptr 0 0 0), (14, .ptr 0 0 0), (15, .row 1), (16, .d (.int .i64 0)), (17, .sl 1 0 ((List.map strD ks).length - 0) none), (18, .d (.list 1 (List.take ((List.map strD ks).length - 0) (List.drop 0 (List.map strD ks))))), (19, .ptr 0 0 0), (20, .ptr 0 0 0), (21, .ptr 0 0 1), (22, .row 2), (23, .d (.int .i64 0)), (24, .sl 2 0 ((List.map intD V2).length - 0) none), (25, .d (.list 1 (List.take ((List.map intD V2).length - 0) (List.drop 0 (List.map intD V2)))))] [] (fun kz L hL => ?_) ?_
  · refine ⟨[⟨[5], [], [], [0], [5, 0], [], true, false⟩, ⟨[], [], [], [0], [0], [0], true, false⟩, ⟨[], [], [], [0], [0], [0], true, false⟩, ⟨[0], [], [], [1], [0, 1, 2], [], true, false⟩, ⟨[], [], [], [], [], [], true, false⟩, ⟨[1], [], [], [1], [1], [], true, false⟩, ⟨[1], [1], [], [], [1], [], true, false⟩, ⟨[5], [], [], [0], [5, 0], [], true, false⟩, ⟨[], [], [], [0], [0], [0], true, false⟩, ⟨[], [], [], [0], [0], [0], true, false⟩, ⟨[0], [], [], [2], [0, 1, 2], [], true, false⟩, ⟨[], [], [], [], [], [], true, false⟩, ⟨[2], [], [], [2], [2], [], true, false⟩, ⟨[2], [], [], [], [2], [], true, false⟩, ⟨[], [], [], [], [], [], true, false⟩, ⟨[], [], [], [], [], [], true, false⟩], run_amongF hL _ [] [0, 1, 2, 3, 4, 5, 7, 8, 9, 10, 11, 12, 6, 13, 14, 15] (by intro p hp; cases hp) (by kernel_rfl) ?_⟩
    refine Run.ap [0, 1, 2, 3, 4] [(12, .ptr 0 0 0), (13, .ptr 0 0 0), (14, .ptr 0 0 0), (15, .row 1), (16, .d (.int .i64 0))] [] ?_
    refine Run.one (StepF.look (o := ((drawOf (cgo 15 [false] [.code B109]))[5]?).getD default) (v := .sl 1 0 ((List.map strD ks).length - 0) none) [(.tmp 15), (.tmp 16)] (by kernel_rfl) rfl (by kernel_rfl) (by kernel_rfl) (by kernel_rfl) (by kernel_rfl) (by kernel_rfl) (fun tm' σ2 hv hr => slRow_ok (t := 66) (x := (.tmp 15)) (lo := (some (.tmp 16))) (hi := none) (lc := 1) (sz := 1) (xs := List.map strD ks) (mv := false) (0) ((List.map strD ks).length) (by kernel_rfl) (by rw [hv _ (by simp)]; kernel_rfl) ((hr _ (inK_iff.1 (by kernel_rfl))).trans (by kernel_rfl)) (by kernel_rfl) (bnd_some (k := IntKind.i64) (i := 0) (by rw [hv _ (by simp)]; kernel_rfl) (by omega) (by rfl)) rfl (by omega) (by omega))) ?_
    refine Run.ap [7, 8, 9, 10, 11] [(19, .ptr 0 0 0), (20, .ptr 0 0 0), (21, .ptr 0 0 1), (22, .row 2), (23, .d (.int .i64 0))] [] ?_
    refine Run.one (StepF.look (o := ((drawOf (cgo 15 [false] [.code B109]))[12]?).getD default) (v := .sl 2 0 ((List.map intD V2).length - 0) none) [(.tmp 22), (.tmp 23)] (by kernel_rfl) rfl (by kernel_rfl) (by kernel_rfl) (by kernel_rfl) (by kernel_rfl) (by kernel_rfl) (fun tm' σ2 hv hr => slRow_ok (t := 46) (x := (.tmp 22)) (lo := (some (.tmp 23))) (hi := none) (lc := 2) (sz := 1) (xs := List.map intD V2) (mv := false) (0) ((List.map intD V2).length) (by kernel_rfl) (by rw [hv _ (by simp)]; kernel_rfl) ((hr _ (inK_iff.1 (by kernel_rfl))).trans (by kernel_rfl)) (by kernel_rfl) (bnd_some (k := IntKind.i64) (i := 0) (by rw [hv _ (by simp)]; kernel_rfl) (by omega) (by rfl)) rfl (by omega) (by omega))) ?_
    refine Run.one (StepF.call (o := ((drawOf (cgo 15 [false] [.code B109]))[6]?).getD default) (x := (.func 110)) (args := #[(.tmp 17)]) (ts := #[66]) (first := []) (cap := []) [1] [.sl 0 0 ((List.map strD ks).length - 0) none] [.row 1 (List.map strD ks) false] [.row 1 (List.map strD ks) false] (v := .d (.list 1 (List.take ((List.map strD ks).length - 0) (List.drop 0 (List.map strD ks))))) (by kernel_rfl) rfl (by kernel_rfl) (by kernel_rfl) F110 (@spec_110b (List.map strD ks) (0) ((List.map strD ks).length - 0) (none) (by omega) (by simp <;> omega)) (by kernel_rfl) (by kernel_rfl) (by kernel_rfl) (by kernel_rfl) ⟨rfl, rfl, by kernel_rfl⟩ (by kernel_rfl) (by kernel_rfl) (by kernel_rfl) (by kernel_rfl) (by kernel_rfl) rfl rfl) ?_
    refine Run.one (StepF.callLook (o := ((drawOf (cgo 15 [false] [.code B109]))[13]?).getD default) (x := (.func 111)) (args := #[(.tmp 24)]) (ts := #[46]) (first := []) (cap := []) [2] [.sl 0 0 ((List.map intD V2).length - 0) none] [.row 1 (List.map intD V2) false] (v := .d (.list 1 (List.take ((List.map intD V2).length - 0) (List.drop 0 (List.map intD V2))))) (by kernel_rfl) rfl (by kernel_rfl) (by kernel_rfl) F111 (@spec_111b (List.map intD V2) (0) ((List.map intD V2).length - 0) (none) (by omega) (by simp <;> omega)) (by kernel_rfl) (by kernel_rfl) (by kernel_rfl) (by kernel_rfl) ⟨rfl, rfl, by kernel_rfl⟩ (by kernel_rfl) (by kernel_rfl) (by kernel_rfl) (by kernel_rfl) (by kernel_rfl)) ?_
    exact Run.fin
  refine .seg 7 [0, 5, 6, 27, 28] (T' := cgo 23 [false] [.code B109]) (tm' := mk 43 [(0, .yield 10), (5, .d (.list 1 (List.take ((List.map strD ks).length - 0) (List.drop 0 (List.map strD ks))))), (6, .d (.list 1 (List.take ((List.map intD V2).length - 0) (List.drop 0 (List.map intD V2))))), (27, .d (.int .i64 (↑(List.take ((List.map strD ks).length - 0) (List.drop 0 (List.map strD ks))).length : Int))), (28, .d (.int .i64 0))]) (σ' := [.cells [.row 1, .row 2], .row 1 (List.map strD ks) false, .row 1 (List.map intD V2) false, .cells [.row 7, .row 8], .cells [.ptr 3 0 0], .cells [.ptr 0 0 0], .cells [.fn (Fn.func 98) [] []], .row 1 [] true, .row 1 [] true, .defd, lp (cgo 18 [] [.code B69]) 69 (mk 17 [(2, .d (.raw (Value.pointer none))), (3, .ptr 4 0 0), (9, .fn (Fn.func 109) [] [.ptr 5 0 0, .ptr 6 0 0])]) LoopState.ready]) (by kernel_rfl) ?_
  simp only [List.length_map]
  rw [show List.take ((ks).length - 0) (List.drop 0 (List.map strD (ks))) = List.map strD (ks) by rw [Nat.sub_zero, List.drop_zero, List.take_of_length_le (by simp)], show List.take ((V2).length - 0) (List.drop 0 (List.map intD (V2))) = List.map intD (V2) by rw [Nat.sub_zero, List.drop_zero, List.take_of_length_le (by simp)], List.length_map]
  exact .seg 1 [0, 5, 6, 27, 28] (by kernel_rfl) (lo69 ks V2 hr hl hv (ks).length 0 (by omega))
theorem spec_69 (ks : List ByteArray) (V2 : List Int) (hr : Rising ks) (hl : ks.length < 60000) (hv : V2.length = ks.length) :
    CallsA Try.prog 69 [.ptr 0 0 0] [.cells [.row 1, .row 2], .row 1 (ks.map strD) false, .row 1 (V2.map intD) false] fun r σ' => r = .ret (.ptr 3 0 0) ∧ σ' = [.cells [.row 1, .row 2], .row 1 (ks.map strD) false, .row 1 (V2.map intD) false, .cells [.row 4, .row 5], .row 1 (ks.map strD) true, .row 1 (V2.map intD) true] := by
  refine CallsA.start F69 (tm := mk (Try.f69.ntmps) [(0, .ptr 0 0 0)]) (by kernel_rfl) ?_
  refine .sg 15 [0, 2, 3, 8] (cgo 15 [] [.code B69]) [(2, .d (.raw (Value.pointer none))), (3, .ptr 4 0 0), (8, .ptr 0 0 0)] [(3, .cells [.ex 1 [], .ex 1 []]), (4, .cells [.ptr 3 0 0])] ?_
  refine .ca [0, 1, 2] (cgo 16 [] [.code B69]) F72 (@spec_72 (List.map strD ks) (List.map intD V2)) ?_
  rintro r0 s0 ⟨rfl, rfl⟩
  refine ⟨_, rfl, ?_⟩
  refine .seg 2 [2, 3, 9] (T' := cgo 18 [] [.code B69]) (tm' := mk 17 [(2, .d (.raw (Value.pointer none))), (3, .ptr 4 0 0), (9, .fn (Fn.func 109) [] [.ptr 5 0 0, .ptr 6 0 0])]) (σ' := [.cells [.row 1, .row 2], .row 1 (List.map strD ks) false, .row 1 (List.map intD V2) false, .cells [.ex 1 [], .ex 1 []], .cells [.ptr 3 0 0], .cells [.ptr 0 0 0], .cells [.fn (Fn.func 98) [] []]]) (by kernel_rfl) ?_
  refine .virtX 3 0 1 rfl rfl ?_
  refine .virtX 3 1 1 rfl rfl ?_
  refine .raise 7 rfl rfl ?_
  refine .raise 8 rfl rfl ?_
  refine .rangeH (first := []) (cap := [.ptr 5 0 0, .ptr 6 0 0]) (List.range 11) [.yield 10, .ptr 5 0 0, .ptr 6 0 0] (S69 ks V2 0 .ready) F109 (by kernel_rfl) (T' := cgo 19 [] [Item.code B69]) (by kernel_rfl) (by kernel_rfl) (it69 ks V2 hr hl hv) (by kernel_rfl) (by kernel_rfl) (by refine ⟨rfl, by kernel_rfl, ?_⟩; kernel_rfl) ?_
  rintro r σc' ⟨rfl, rfl⟩
  refine ⟨.tuple [], .ready, (mk 17 [(2, V.d (D.raw (Value.pointer none))), (3, V.ptr 4 0 0), (9, V.fn (Fn.func 109) [] [V.ptr 5 0 0, V.ptr 6 0 0])]), rfPs (cgo 18 [] [Item.code B69]), rfAs (cgo 18 [] [Item.code B69]), rfBd (cgo 18 [] [Item.code B69]), 69, rfl, by simp, by kernel_rfl, ?_⟩
  have e1 : ks.take ks.length = ks := List.take_length
  have e2 : V2.take ks.length = V2 := by rw [← hv]; exact List.take_length
  refine .seg 6 [2] (T' := cgo 25 [] [.code B69]) (tm' := mk 17 [(2, .ptr 3 0 0)]) (σ' := [.cells [.row 1, .row 2], .row 1 (List.map strD ks) false, .row 1 (List.map intD V2) false, .cells [.row 7, .row 8], .cells [.ptr 3 0 0], .cells [.ptr 0 0 0], .cells [.fn (Fn.func 98) [] []], .row 1 (List.map strD (List.take ks.length ks)) true, .row 1 (List.map intD (List.take ks.length V2)) true, .defd, lp (cgo 18 [] [.code B69]) 69 (mk 17 [(2, .d (.raw (Value.pointer none))), (3, .ptr 4 0 0), (9, .fn (Fn.func 109) [] [.ptr 5 0 0, .ptr 6 0 0])]) LoopState.exhausted]) (by kernel_rfl) ?_
  refine .retX (v := V.ptr 3 0 0) [0, 1, 2, 3, 7, 8] (V.ptr 3 0 0) F69 (by kernel_rfl) ⟨by kernel_rfl, by kernel_rfl⟩ (σ1 := [O.cells [V.row 1, V.row 2], O.row 1 (List.map strD ks) false, O.row 1 (List.map intD V2) false, O.cells [V.row 7, V.row 8], O.cells [V.ptr 3 0 0], O.cells [V.ptr 0 0 0], O.cells [V.fn (Fn.func 98) [] []], O.row 1 (List.map strD (List.take ks.length ks)) true, O.row 1 (List.map intD (List.take ks.length V2)) true, O.dead, lp (cgo 18 [] [Item.code B69]) 69 (mk 17 [(2, V.d (D.raw (Value.pointer none))), (3, V.ptr 4 0 0), (9, V.fn (Fn.func 109) [] [V.ptr 5 0 0, V.ptr 6 0 0])]) LoopState.exhausted]) (by kernel_rfl) (by kernel_rfl) (σ2 := [O.cells [V.row 1, V.row 2], O.row 1 (List.map strD ks) false, O.row 1 (List.map intD V2) false, O.cells [V.row 4, V.row 5], O.row 1 (List.map strD (List.take ks.length ks)) true, O.row 1 (List.map intD (List.take ks.length V2)) true]) ⟨rfl, rfl, by kernel_rfl⟩ (by kernel_rfl) ⟨by simp, by kernel_rfl⟩ (by kernel_rfl) ?_
  simp_all
end Go.Proofs.Ytoelkgbeefoplaa
namespace Go.Proofs.Ytoelkgbeefoplaa
open Go Go.Br Go.Proofs
noncomputable def B64 : Code := (Try.f64.body).getD .skip
theorem F64 : Fnc Try.prog 64 Try.f64 B64 := ⟨Try.func64, by kernel_rfl, by kernel_rfl⟩
theorem lo64 (b : Dk) (N : Nat) (h : b.Ok N) (there : Bool) (names : List ByteArray) (hn : names ≠ []) (hs : ∀ s ∈ names, s.size < 1000000000) (hn2 : names.length < 1000000) (ho : b.off = false) : ∀ (m i : Nat), i + m = names.length → (∀ s ∈ names.take i, mayName s = true) →
    AW Try.prog 64 none 7 (cgo 22 [false] [Item.code B64]) (mk 35 [(0, V.ptr 0 0 0), (1, V.d (D.bool there)), (2, V.row 6), (14, V.row 6), (15, V.d (D.int IntKind.i64 (names.length : Nat))), (16, V.d (D.int IntKind.i64 (i : Nat)))]) (SD b false ++ [.row 1 (names.map strD) false]) [] fun r σ' => r = .ret (.d (.int .i64 (b.err there names))) ∧ σ' = SD b false ++ [.row 1 (names.map strD) false] := by
  have q1 := h.nr
  have q2 := h.nl
  have q3 := h.nkl
  have q4 := h.nb
  have q5 : ∀ x k, look b.nk b.nv x = some k → 0 ≤ k ∧ k < b.files.length := fun x k hk => h.nn k (look_mem hk)
  intro m
  induction m with
  | zero =>
    intro i hi hm
    have hi : i = names.length := by omega
    subst hi
    rw [List.take_length] at hm
    have hal : names.all mayName = true := List.all_eq_true.2 hm
    have h0 : 0 < names.length := List.length_pos_iff.2 hn
    obtain ⟨x, hx⟩ := get_some (l := names) (i := 0) h0
    have hd : names.headD default = x := by
      cases names with
      | nil => simp at h0
      | cons a l => simpa using hx
    have q6 := q5 x
    cases hk : look b.nk b.nv x with
    | none =>
      refine .sg0 5 [0, 1, 2, 14, 15, 16, 17] (cgo 27 [false] [.code B64]) [(17, .d (.bool (decide ((↑names.length : Int) < (↑names.length : Int)))))] ?_
      refine .if' (decide ((↑names.length : Int) < (↑names.length : Int))) (cgo 28 [false, true] [.code B64]) (cgo 28 [false, false] [.code B64]) (fun h1 => ?_) (fun h1 => ?_)
      · simp only [bsX] at h1
        omega
      · simp only [bsX] at h1
        refine .sg0 6 [0, 2, 24] (cgo 34 [false, false] [.code B64]) [(24, .d (.bool there))] ?_
        refine .if' (there) (cgo 35 [false, false, true] [.code B64]) (cgo 35 [false, false, false] [.code B64]) (fun h2 => ?_) (fun h2 => ?_)
        · refine .sg0 4 [0, 2, 26, 27] (cgo 39 [false, false, true] [.code B64]) [(26, .ptr 0 0 0), (27, .row 6)] ?_
          refine .op' (cgo 40 [false, false, true] [.code B64]) (ixRow_ok (t := 66) (x := (.tmp 27)) (i := (.const (Value.int IntKind.i64 0))) (k := IntKind.i64) (n := 0) (l := 6) (sz := 1) (xs := List.map strD names) (mv := false) (by kernel_rfl) (by kernel_rfl) (by kernel_rfl) (by kernel_rfl) (by kernel_rfl) (by omega) (by simp <;> omega)) ?_
          refine .op' (cgo 41 [false, false, true] [.code B64]) (ldRow_ok (t := 9) (x := (.tmp 28)) (l := 6) (i := 0) (s := 0) (sz := 1) (xs := List.map strD names) (mv := false) (d := strD x) (v := .d (.str x)) (by kernel_rfl) (by kernel_rfl) (by kernel_rfl) (map_get hx) (by kernel_rfl)) ?_
          refine .ca [0, 1, 2, 3, 4, 5] (cgo 42 [false, false, true] [.code B64]) F65 (@spec_65 (b) (x) (none) (by assumption) (by assumption) (by assumption) (by omega) (by assumption)) ?_
          rintro r2 s2 ⟨rfl, rfl⟩
          refine ⟨_, rfl, ?_⟩
          refine .seg 16 [6] (T' := cgo 58 [false, false, true, true] [.code B64]) (tm' := mk 35 [(6, .d (.int .i64 3))]) (σ' := [.cells [.row 1, .ptr 2 0 0, .ep 2 (D.agg [D.list 1 (List.map strD b.sk), D.list 1 (List.map intD b.sv)]) 0, .row 5, .d (.int .i64 b.quota), .d (.bool b.full), .d (.bool b.off), .d (.int .i64 b.stop), .d (.int .i64 b.calls)], .row 2 (List.map fileD b.files) false, .cells [.row 3, .row 4], .row 1 (List.map strD b.nk) false, .row 1 (List.map intD b.nv) false, .row 3 (List.map chD b.ch) false, .row 1 (List.map strD names) false]) (by kernel_rfl) ?_
          refine .retH F64 (v := V.d (D.int IntKind.i64 3)) (by kernel_rfl) (by kernel_rfl) ?_
          simp_all [Dk.err, SD, dirD]
        · refine .seg 5 [6] (T' := cgo 40 [false, false, false] [.code B64]) (tm' := mk 35 [(6, .d (.int .i64 0))]) (σ' := [.cells [.row 1, .ptr 2 0 0, .ep 2 (D.agg [D.list 1 (List.map strD b.sk), D.list 1 (List.map intD b.sv)]) 0, .row 5, .d (.int .i64 b.quota), .d (.bool b.full), .d (.bool b.off), .d (.int .i64 b.stop), .d (.int .i64 b.calls)], .row 2 (List.map fileD b.files) false, .cells [.row 3, .row 4], .row 1 (List.map strD b.nk) false, .row 1 (List.map intD b.nv) false, .row 3 (List.map chD b.ch) false, .row 1 (List.map strD names) false]) (by kernel_rfl) ?_
          refine .retH F64 (v := V.d (D.int IntKind.i64 0)) (by kernel_rfl) (by kernel_rfl) ?_
          simp_all [Dk.err, SD, dirD]
    | some k =>
      refine .sg0 5 [0, 1, 2, 14, 15, 16, 17] (cgo 27 [false] [.code B64]) [(17, .d (.bool (decide ((↑names.length : Int) < (↑names.length : Int)))))] ?_
      refine .if' (decide ((↑names.length : Int) < (↑names.length : Int))) (cgo 28 [false, true] [.code B64]) (cgo 28 [false, false] [.code B64]) (fun h1 => ?_) (fun h1 => ?_)
      · simp only [bsX] at h1
        omega
      · simp only [bsX] at h1
        refine .sg0 6 [0, 2, 24] (cgo 34 [false, false] [.code B64]) [(24, .d (.bool there))] ?_
        refine .if' (there) (cgo 35 [false, false, true] [.code B64]) (cgo 35 [false, false, false] [.code B64]) (fun h2 => ?_) (fun h2 => ?_)
        · refine .sg0 4 [0, 2, 26, 27] (cgo 39 [false, false, true] [.code B64]) [(26, .ptr 0 0 0), (27, .row 6)] ?_
          refine .op' (cgo 40 [false, false, true] [.code B64]) (ixRow_ok (t := 66) (x := (.tmp 27)) (i := (.const (Value.int IntKind.i64 0))) (k := IntKind.i64) (n := 0) (l := 6) (sz := 1) (xs := List.map strD names) (mv := false) (by kernel_rfl) (by kernel_rfl) (by kernel_rfl) (by kernel_rfl) (by kernel_rfl) (by omega) (by simp <;> omega)) ?_
          refine .op' (cgo 41 [false, false, true] [.code B64]) (ldRow_ok (t := 9) (x := (.tmp 28)) (l := 6) (i := 0) (s := 0) (sz := 1) (xs := List.map strD names) (mv := false) (d := strD x) (v := .d (.str x)) (by kernel_rfl) (by kernel_rfl) (by kernel_rfl) (map_get hx) (by kernel_rfl)) ?_
          refine .ca [0, 1, 2, 3, 4, 5] (cgo 42 [false, false, true] [.code B64]) F65 (@spec_65 (b) (x) (some k) (by assumption) (by assumption) (by assumption) (by omega) (by assumption)) ?_
          rintro r2 s2 ⟨rfl, rfl⟩
          refine ⟨_, rfl, ?_⟩
          refine .seg 17 [6] (T' := cgo 59 [false, false, true, false] [.code B64]) (tm' := mk 35 [(6, .d (.int .i64 0))]) (σ' := [.cells [.row 1, .ptr 2 0 0, .ep 2 (D.agg [D.list 1 (List.map strD b.sk), D.list 1 (List.map intD b.sv)]) 0, .row 5, .d (.int .i64 b.quota), .d (.bool b.full), .d (.bool b.off), .d (.int .i64 b.stop), .d (.int .i64 b.calls)], .row 2 (List.map fileD b.files) false, .cells [.row 3, .row 4], .row 1 (List.map strD b.nk) false, .row 1 (List.map intD b.nv) false, .row 3 (List.map chD b.ch) false, .row 1 (List.map strD names) false]) (by kernel_rfl) ?_
          refine .retH F64 (v := V.d (D.int IntKind.i64 0)) (by kernel_rfl) (by kernel_rfl) ?_
          simp_all [Dk.err, SD, dirD]
        · refine .seg 5 [6] (T' := cgo 40 [false, false, false] [.code B64]) (tm' := mk 35 [(6, .d (.int .i64 0))]) (σ' := [.cells [.row 1, .ptr 2 0 0, .ep 2 (D.agg [D.list 1 (List.map strD b.sk), D.list 1 (List.map intD b.sv)]) 0, .row 5, .d (.int .i64 b.quota), .d (.bool b.full), .d (.bool b.off), .d (.int .i64 b.stop), .d (.int .i64 b.calls)], .row 2 (List.map fileD b.files) false, .cells [.row 3, .row 4], .row 1 (List.map strD b.nk) false, .row 1 (List.map intD b.nv) false, .row 3 (List.map chD b.ch) false, .row 1 (List.map strD names) false]) (by kernel_rfl) ?_
          refine .retH F64 (v := V.d (D.int IntKind.i64 0)) (by kernel_rfl) (by kernel_rfl) ?_
          simp_all [Dk.err, SD, dirD]
  | succ m ih =>
    intro i hi hm
    obtain ⟨x, hx⟩ := get_some (l := names) (i := i) (by omega)
    have hxs : x.size < 9223372036854775807 := by have := hs x (List.mem_of_getElem? hx); omega
    have hno : mayName x = false → b.err there names = 1 := fun e => by
      have : names.all mayName = false := by
        rw [List.all_eq_false]
        exact ⟨x, List.mem_of_getElem? hx, by simp [e]⟩
      unfold Dk.err
      rw [if_neg (by simp [ho]), if_neg (by rw [this]; simp)]
    have hyes : mayName x = true → ∀ s ∈ names.take (i + 1), mayName s = true := fun e s hsm => by
      obtain ⟨hi', rfl⟩ := List.getElem?_eq_some_iff.1 hx
      rw [List.take_succ_eq_append_getElem hi'] at hsm
      rcases List.mem_append.1 hsm with h1 | h1
      · exact hm s h1
      · rw [List.mem_singleton.1 h1]; exact e
    refine .sg0 5 [0, 1, 2, 14, 15, 16, 17] (cgo 27 [false] [.code B64]) [(17, .d (.bool (decide ((↑i : Int) < (↑names.length : Int)))))] ?_
    refine .if' (decide ((↑i : Int) < (↑names.length : Int))) (cgo 28 [false, true] [.code B64]) (cgo 28 [false, false] [.code B64]) (fun h1 => ?_) (fun h1 => ?_)
    · simp only [bsX] at h1
      refine .sg0 5 [0, 1, 2, 14, 15, 16, 17] (cgo 33 [false, true] [.code B64]) [] ?_
      refine .op' (cgo 34 [false, true] [.code B64]) (ixRow_ok (t := 66) (x := (.tmp 14)) (i := (.tmp 16)) (k := IntKind.i64) (n := (↑i : Int)) (l := 6) (sz := 1) (xs := List.map strD names) (mv := false) (by kernel_rfl) (by kernel_rfl) (by kernel_rfl) (by kernel_rfl) (by kernel_rfl) (by omega) (by simp <;> omega)) ?_
      refine .op' (cgo 35 [false, true] [.code B64]) (ldRow_ok (t := 9) (x := (.tmp 18)) (l := 6) (i := (↑i : Int).toNat) (s := 0) (sz := 1) (xs := List.map strD names) (mv := false) (d := strD x) (v := .d (.str x)) (by kernel_rfl) (by kernel_rfl) (by kernel_rfl) (map_get hx) (by kernel_rfl)) ?_
      refine .sg0 5 [0, 1, 2, 8, 14, 15, 16, 17, 18, 19, 20] (cgo 40 [false, true] [.code B64]) [(8, .d (.str x)), (20, .d (.str x))] ?_
      refine .semH (o := (opOf (cgo 40 [false, true] [Item.code B64])).getD default) (v := .d (.bool (mayName x))) (σ' := [.cells [.row 1, .ptr 2 0 0, .ep 2 (D.agg [D.list 1 (List.map strD b.sk), D.list 1 (List.map intD b.sv)]) 0, .row 5, .d (.int .i64 b.quota), .d (.bool b.full), .d (.bool b.off), .d (.int .i64 b.stop), .d (.int .i64 b.calls)], .row 2 (List.map fileD b.files) false, .cells [.row 3, .row 4], .row 1 (List.map strD b.nk) false, .row 1 (List.map intD b.nv) false, .row 3 (List.map chD b.ch) false, .row 1 (List.map strD names) false]) (by kernel_rfl) (by kernel_rfl) (T' := cgo 41 [false, true] [Item.code B64]) (by kernel_rfl) (fun kz => sem_data0 (x := (.func 28)) (args := #[(.tmp 20)]) (ts := #[9]) (first := []) (cap := []) (ds := [.d (.str x)]) (v := .d (.bool (mayName x))) F28 (@spec_28 (x) (by assumption)) (by kernel_rfl) (by kernel_rfl) (by kernel_rfl) (by kernel_rfl) (by kernel_rfl) (by kernel_rfl) _) ?_
      refine .sg0 2 [0, 1, 2, 8, 14, 15, 16, 17, 18, 19, 20, 21, 22] (cgo 43 [false, true] [.code B64]) [(22, .d (.bool !mayName x))] ?_
      refine .if' (!mayName x) (cgo 44 [false, true, true] [.code B64]) (cgo 44 [false, true, false] [.code B64]) (fun h2 => ?_) (fun h2 => ?_)
      · simp only [bsX] at h2
        refine .seg 4 [0, 1, 2, 6, 8, 14, 15, 16, 17, 18, 19, 20, 21, 22] (T' := cgo 48 [false, true, true] [.code B64]) (tm' := mk 35 [(0, .ptr 0 0 0), (1, .d (.bool there)), (2, .row 6), (6, .d (.int .i64 1)), (8, .d (.str x)), (14, .row 6), (15, .d (.int .i64 (↑names.length : Int))), (16, .d (.int .i64 (↑i : Int))), (17, .d (.bool (decide ((↑i : Int) < (↑names.length : Int))))), (18, .ptr 6 (↑i : Int).toNat 0), (19, .d (.str x)), (20, .d (.str x)), (21, .d (.bool (mayName x))), (22, .d (.bool !mayName x))]) (σ' := [.cells [.row 1, .ptr 2 0 0, .ep 2 (D.agg [D.list 1 (List.map strD b.sk), D.list 1 (List.map intD b.sv)]) 0, .row 5, .d (.int .i64 b.quota), .d (.bool b.full), .d (.bool b.off), .d (.int .i64 b.stop), .d (.int .i64 b.calls)], .row 2 (List.map fileD b.files) false, .cells [.row 3, .row 4], .row 1 (List.map strD b.nk) false, .row 1 (List.map intD b.nv) false, .row 3 (List.map chD b.ch) false, .row 1 (List.map strD names) false]) (by kernel_rfl) ?_
        refine .retH F64 (v := V.d (D.int IntKind.i64 1)) (by kernel_rfl) (by kernel_rfl) ?_
        simp_all [SD, dirD]
      · simp only [bsX] at h2
        refine .seg 6 [0, 1, 2, 8, 14, 15, 16, 17, 18, 19, 20, 21, 22, 23] (T' := cgo 50 [false, true, false] [.code B64]) (tm' := mk 35 [(0, .ptr 0 0 0), (1, .d (.bool there)), (2, .row 6), (8, .d (.str x)), (14, .row 6), (15, .d (.int .i64 (↑names.length : Int))), (16, .d (.int .i64 (IntKind.i64.wrap ((↑i : Int) + 1)))), (17, .d (.bool (decide ((↑i : Int) < (↑names.length : Int))))), (18, .ptr 6 (↑i : Int).toNat 0), (19, .d (.str x)), (20, .d (.str x)), (21, .d (.bool (mayName x))), (22, .d (.bool !mayName x)), (23, .d (.int .i64 (IntKind.i64.wrap ((↑i : Int) + 1))))]) (σ' := [.cells [.row 1, .ptr 2 0 0, .ep 2 (D.agg [D.list 1 (List.map strD b.sk), D.list 1 (List.map intD b.sv)]) 0, .row 5, .d (.int .i64 b.quota), .d (.bool b.full), .d (.bool b.off), .d (.int .i64 b.stop), .d (.int .i64 b.calls)], .row 2 (List.map fileD b.files) false, .cells [.row 3, .row 4], .row 1 (List.map strD b.nk) false, .row 1 (List.map intD b.nv) false, .row 3 (List.map chD b.ch) false, .row 1 (List.map strD names) false]) (by kernel_rfl) ?_
        simp (disch := omega) only [wrap_i64, wrap_u64s, wrap_u32s, wrap_u8s, wrap_i32s, iadd_i64, isub_i64, irem_n, iquo_n, tdiv_nn, tmod_nn]
        exact .seg 1 [0, 1, 2, 14, 15, 16] (by kernel_rfl) (ih (i + 1) (by omega) (hyes (by assumption)))
    · simp only [bsX] at h1
      omega
theorem check64 (d : Dk) (N : Nat) (h : d.Ok N) (there : Bool) (names : List ByteArray) (hn : names ≠ []) (hs : ∀ s ∈ names, s.size < 1000000000) (hn2 : names.length < 1000000) (hN : N + 1 ≤ 50000) :
    CallsA Try.prog 64 [.ptr 0 0 0, .d (.bool there), .row 6] (SD d false ++ [.row 1 (names.map strD) false]) fun r σ' => r = .ret (.d (.int .i64 (d.begun.err there names))) ∧ σ' = SD d.begun false ++ [.row 1 (names.map strD) false] := by
  have hc := h.c0
  have hc' := h.cl
  have hs1 := h.s0
  have hs2 := h.s1
  refine CallsA.start F64 (tm := mk (Try.f64.ntmps) [(0, .ptr 0 0 0), (1, .d (.bool there)), (2, .row 6)]) (by kernel_rfl) ?_
  have hk := Dk.begun_ok h hN
  refine .sg0 8 [0, 1, 2, 6, 11] (cgo 8 [] [.code B64]) [(6, .d (.int .i64 0)), (11, .ptr 0 0 0)] ?_
  refine .ca [0, 1, 2, 3, 4, 5] (cgo 9 [] [.code B64]) F94 (@spec_94 (d) (by assumption) (by omega) (by assumption) (by assumption)) ?_
  rintro r0 s0 ⟨rfl, rfl⟩
  refine ⟨_, rfl, ?_⟩
  refine .sg0 2 [0, 1, 2, 6, 13] (cgo 11 [] [.code B64]) [(13, .d (.bool !!d.begun.off))] ?_
  refine .if' (!!d.begun.off) (cgo 12 [true] [.code B64]) (cgo 12 [false] [.code B64]) (fun h2 => ?_) (fun h2 => ?_)
  · simp only [bsX] at h2
    refine .seg 4 [0, 1, 2, 6] (T' := cgo 16 [true] [.code B64]) (tm' := mk 35 [(0, .ptr 0 0 0), (1, .d (.bool there)), (2, .row 6), (6, .d (.int .i64 5))]) (σ' := [.cells [.row 1, .ptr 2 0 0, .ep 2 (D.agg [D.list 1 (List.map strD d.begun.sk), D.list 1 (List.map intD d.begun.sv)]) 0, .row 5, .d (.int .i64 d.begun.quota), .d (.bool d.begun.full), .d (.bool d.begun.off), .d (.int .i64 d.begun.stop), .d (.int .i64 d.begun.calls)], .row 2 (List.map fileD d.begun.files) false, .cells [.row 3, .row 4], .row 1 (List.map strD d.begun.nk) false, .row 1 (List.map intD d.begun.nv) false, .row 3 (List.map chD d.begun.ch) false, .row 1 (List.map strD names) false]) (by kernel_rfl) ?_
    refine .retH F64 (v := V.d (D.int IntKind.i64 5)) (by kernel_rfl) (by kernel_rfl) ?_
    simp_all [Dk.err, SD, dirD]
  · simp only [bsX] at h2
    refine .seg 9 [0, 1, 2, 6, 14, 15, 16] (T' := cgo 21 [false] [.code B64]) (tm' := mk 35 [(0, .ptr 0 0 0), (1, .d (.bool there)), (2, .row 6), (6, .d (.int .i64 0)), (14, .row 6), (15, .d (.int .i64 (↑(List.map strD names).length : Int))), (16, .d (.int .i64 0))]) (σ' := [.cells [.row 1, .ptr 2 0 0, .ep 2 (D.agg [D.list 1 (List.map strD d.begun.sk), D.list 1 (List.map intD d.begun.sv)]) 0, .row 5, .d (.int .i64 d.begun.quota), .d (.bool d.begun.full), .d (.bool d.begun.off), .d (.int .i64 d.begun.stop), .d (.int .i64 d.begun.calls)], .row 2 (List.map fileD d.begun.files) false, .cells [.row 3, .row 4], .row 1 (List.map strD d.begun.nk) false, .row 1 (List.map intD d.begun.nv) false, .row 3 (List.map chD d.begun.ch) false, .row 1 (List.map strD names) false]) (by kernel_rfl) ?_
    simp only [List.length_map]
    exact .seg 1 [0, 1, 2, 14, 15, 16] (by kernel_rfl) (lo64 d.begun (N + 1) hk there names hn hs hn2 (by simp_all) names.length 0 (by omega) (by simp))
theorem spec_64b (d : Dk) (N : Nat) (h : d.Ok N) (there : Bool) (names : List ByteArray) (ds : List D) (hds : ds = names.map strD) (hn : names ≠ []) (hs : ∀ s ∈ names, s.size < 1000000000) (hn2 : names.length < 1000000) (hN : N + 1 ≤ 50000) :
    CallsA Try.prog 64 [.ptr 0 0 0, .d (.bool there), .row 6] (SD d false ++ [.row 1 ds false]) fun r σ' => r = .ret (.d (.int .i64 (d.begun.err there names))) ∧ σ' = SD d.begun false ++ [.row 1 ds false] := by
  subst hds
  exact check64 d N h there names hn hs hn2 hN
theorem lo64n (b : Dk) (ho : b.off = false) :
    AW Try.prog 64 none 6 (cgo 22 [false] [Item.code B64]) (mk 35 [(0, V.ptr 0 0 0), (1, V.d (D.bool false)), (2, V.d (D.list 1 [])), (14, V.d (D.list 1 [])), (15, V.d (D.int IntKind.i64 0)), (16, V.d (D.int IntKind.i64 0))]) (SD b false) [] fun r σ' => r = .ret (.d (.int .i64 (b.err false []))) ∧ σ' = SD b false := by
  have e2 : b.err false [] = 0 := by simp [Dk.err, ho]
  refine .seg 18 [6] (T' := cgo 40 [false, false, false] [.code B64]) (tm' := mk 35 [(6, .d (.int .i64 0))]) (σ' := [.cells [.row 1, .ptr 2 0 0, .ep 2 (D.agg [D.list 1 (List.map strD b.sk), D.list 1 (List.map intD b.sv)]) 0, .row 5, .d (.int .i64 b.quota), .d (.bool b.full), .d (.bool b.off), .d (.int .i64 b.stop), .d (.int .i64 b.calls)], .row 2 (List.map fileD b.files) false, .cells [.row 3, .row 4], .row 1 (List.map strD b.nk) false, .row 1 (List.map intD b.nv) false, .row 3 (List.map chD b.ch) false]) (by kernel_rfl) ?_
  refine .retH F64 (v := V.d (D.int IntKind.i64 0)) (by kernel_rfl) (by kernel_rfl) ?_
  simp_all [SD, dirD]
theorem spec_64 (d : Dk) (N : Nat) (h : d.Ok N) (hN : N + 1 ≤ 50000) :
    CallsA Try.prog 64 [.ptr 0 0 0, .d (.bool false), .d (.list 1 [])] (SD d false) fun r σ' => r = .ret (.d (.int .i64 (d.begun.err false []))) ∧ σ' = SD d.begun false := by
  have hc := h.c0
  have hc' := h.cl
  have hs1 := h.s0
  have hs2 := h.s1
  refine CallsA.start F64 (tm := mk (Try.f64.ntmps) [(0, .ptr 0 0 0), (1, .d (.bool false)), (2, .d (.list 1 []))]) (by kernel_rfl) ?_
  have e1 : d.begun.off = true → d.begun.err false [] = 5 := fun e => by simp [Dk.err, e]
  refine .sg0 8 [0, 1, 2, 6, 11] (cgo 8 [] [.code B64]) [(6, .d (.int .i64 0)), (11, .ptr 0 0 0)] ?_
  refine .ca [0, 1, 2, 3, 4, 5] (cgo 9 [] [.code B64]) F94 (@spec_94 (d) (by assumption) (by omega) (by assumption) (by assumption)) ?_
  rintro r0 s0 ⟨rfl, rfl⟩
  refine ⟨_, rfl, ?_⟩
  refine .sg0 2 [0, 1, 2, 6, 13] (cgo 11 [] [.code B64]) [(13, .d (.bool !!d.begun.off))] ?_
  refine .if' (!!d.begun.off) (cgo 12 [true] [.code B64]) (cgo 12 [false] [.code B64]) (fun h2 => ?_) (fun h2 => ?_)
  · simp only [bsX] at h2
    refine .seg 4 [0, 1, 2, 6] (T' := cgo 16 [true] [.code B64]) (tm' := mk 35 [(0, .ptr 0 0 0), (1, .d (.bool false)), (2, .d (.list 1 [])), (6, .d (.int .i64 5))]) (σ' := [.cells [.row 1, .ptr 2 0 0, .ep 2 (D.agg [D.list 1 (List.map strD d.begun.sk), D.list 1 (List.map intD d.begun.sv)]) 0, .row 5, .d (.int .i64 d.begun.quota), .d (.bool d.begun.full), .d (.bool d.begun.off), .d (.int .i64 d.begun.stop), .d (.int .i64 d.begun.calls)], .row 2 (List.map fileD d.begun.files) false, .cells [.row 3, .row 4], .row 1 (List.map strD d.begun.nk) false, .row 1 (List.map intD d.begun.nv) false, .row 3 (List.map chD d.begun.ch) false]) (by kernel_rfl) ?_
    refine .retH F64 (v := V.d (D.int IntKind.i64 5)) (by kernel_rfl) (by kernel_rfl) ?_
    simp_all [SD, dirD]
  · simp only [bsX] at h2
    refine .seg 9 [0, 1, 2, 6, 14, 15, 16] (T' := cgo 21 [false] [.code B64]) (tm' := mk 35 [(0, .ptr 0 0 0), (1, .d (.bool false)), (2, .d (.list 1 [])), (6, .d (.int .i64 0)), (14, .d (.list 1 [])), (15, .d (.int .i64 0)), (16, .d (.int .i64 0))]) (σ' := [.cells [.row 1, .ptr 2 0 0, .ep 2 (D.agg [D.list 1 (List.map strD d.begun.sk), D.list 1 (List.map intD d.begun.sv)]) 0, .row 5, .d (.int .i64 d.begun.quota), .d (.bool d.begun.full), .d (.bool d.begun.off), .d (.int .i64 d.begun.stop), .d (.int .i64 d.begun.calls)], .row 2 (List.map fileD d.begun.files) false, .cells [.row 3, .row 4], .row 1 (List.map strD d.begun.nk) false, .row 1 (List.map intD d.begun.nv) false, .row 3 (List.map chD d.begun.ch) false]) (by kernel_rfl) ?_
    exact .seg 1 [0, 1, 2, 14, 15, 16] (by kernel_rfl) (lo64n d.begun (by simp_all))
end Go.Proofs.Ytoelkgbeefoplaa
namespace Go.Proofs.Ytoelkgbeefoplaa
open Go Go.Br Go.Proofs
noncomputable def B68 : Code := (Try.f68.body).getD .skip
theorem F68 : Fnc Try.prog 68 Try.f68 B68 := ⟨Try.func68, by kernel_rfl, by kernel_rfl⟩
def Dk.acc (d : Dk) (i : Nat) : Nat := ((d.nv.take i).map fun k => (d.file k.toNat).1.length).sum
theorem Dk.acc_succ {d : Dk} {i : Nat} {v : Int} {f : List UInt8 × Nat} (hy : d.nv[i]? = some v) (hf : d.files[v.toNat]? = some f) : d.acc (i + 1) = d.acc i + f.1.length := by
  obtain ⟨hi, rfl⟩ := List.getElem?_eq_some_iff.1 hy
  unfold Dk.acc
  rw [List.take_succ_eq_append_getElem hi, List.map_append, List.sum_append]
  simp [Dk.file, List.getD_eq_getElem?_getD, hf]
theorem Dk.acc_le {d : Dk} {N : Nat} (h : d.Ok N) : ∀ i, d.acc i ≤ i * 1048576
  | 0 => by simp [Dk.acc]
  | i + 1 => by
    have ih := Dk.acc_le h i
    cases hy : d.nv[i]? with
    | none =>
      have := List.getElem?_eq_none_iff.1 hy
      have e : d.nv.take (i + 1) = d.nv.take i := by rw [List.take_of_length_le this, List.take_of_length_le (by omega)]
      have : d.acc (i + 1) = d.acc i := by unfold Dk.acc; rw [e]
      omega
    | some v =>
      have hv := h.nn v (List.mem_of_getElem? hy)
      have hlt : v.toNat < d.files.length := by omega
      have hf := List.getElem?_eq_getElem hlt
      have hm := h.fs _ (List.getElem_mem hlt)
      rw [Dk.acc_succ hy hf]; omega
noncomputable def R68 : List Item := [.code (rfAs (cgo 26 [true] [Item.code B68])), .beginRound, .code (rfBd (cgo 26 [true] [Item.code B68]))]
noncomputable def S68 (d : Dk) (i : Nat) (st : LoopState) : Store :=
  [.cells [.row 1, .ptr 2 0 0, .ep 2 (dirD d.sk d.sv) 0, .row 5, .d (.int .i64 d.quota), .d (.bool d.full), .d (.bool d.off), .d (.int .i64 d.stop), .d (.int .i64 d.calls)], .row 2 (d.files.map fileD) false, .cells [.row 3, .row 4], .row 1 (d.nk.map strD) false, .row 1 (d.nv.map intD) false, .row 3 (d.ch.map chD) false,
    .cells [.ptr 0 0 0], .cells [.d (.int .i64 (d.acc i : Nat))], .cells [.ptr 2 0 0], .cells [.fn (.func 98) [] []], .defd, lp (cgo 26 [true] [Item.code B68]) 68 (mk 27 [(1, V.ptr 6 0 0), (2, V.d (D.int IntKind.i64 0)), (3, V.ptr 7 0 0), (12, V.fn (Fn.func 109) [] [V.ptr 8 0 0, V.ptr 9 0 0])]) st]
theorem body68 (d : Dk) (N : Nat) (h : d.Ok N) (i : Nat) (x : ByteArray) (v : Int) (hx : d.nk[i]? = some x) (hy : d.nv[i]? = some v) :
    AW Try.prog 68 (some 11) 12 R68 (mk 27 [(1, V.ptr 6 0 0), (2, V.d (D.int IntKind.i64 0)), (3, V.ptr 7 0 0), (12, V.fn (Fn.func 109) [] [V.ptr 8 0 0, V.ptr 9 0 0]), (13, .d (.str x)), (14, .d (.int .i64 v))]) (S68 d i .ready) [] fun a σ' => a = .ret (.d (.bool true)) ∧ σ' = S68 d (i + 1) .ready := by
  refine .at (T' := cgo 0 [] R68) rfl ?_
  have hi := (List.getElem?_eq_some_iff.1 hx).1
  have hv := h.nn v (List.mem_of_getElem? hy)
  have hlt : v.toNat < d.files.length := by omega
  obtain ⟨f, hf⟩ := get_some (l := d.files) (i := v.toNat) hlt
  have hm := h.fs f (List.mem_of_getElem? hf)
  have ha := Dk.acc_le h i
  have hb := h.nkl
  have hc := h.nb
  have he := Dk.acc_succ hy hf
  have hv1 := hv.1
  have hv2 := hv.2
  have hw : IntKind.i64.wrap ((d.acc i : Int) + (f.1.length : Int)) = ((d.acc (i + 1) : Nat) : Int) := by
    rw [wrap_i64 (by omega) (by omega), he]; omega
  refine .sg0 3 [1, 2, 3, 5, 12, 14] (cgo 3 [] R68) [(5, .d (.int .i64 v))] ?_
  refine .beginL (T0 := cgo 26 [true] [Item.code B68]) (fn := 68) (tml := (mk 27 [(1, V.ptr 6 0 0), (2, V.d (D.int IntKind.i64 0)), (3, V.ptr 7 0 0), (12, V.fn (Fn.func 109) [] [V.ptr 8 0 0, V.ptr 9 0 0])])) (by kernel_rfl) (T' := cgo 4 [] R68) (by kernel_rfl) (σ' := (SP 1 2 d false [.cells [.ptr 0 0 0], .cells [.d (.int .i64 (↑(d.acc i) : Int))], .cells [.ptr 2 0 0], .cells [.fn (Fn.func 98) [] []], .defd, lp (cgo 26 [true] [Item.code B68]) 68 (mk 27 [(1, .ptr 6 0 0), (2, .d (.int .i64 0)), (3, .ptr 7 0 0), (12, .fn (Fn.func 109) [] [.ptr 8 0 0, .ptr 9 0 0])]) LoopState.busy])) (by kernel_rfl) (by kernel_rfl) ?_
  refine .sg0 1 [1, 2, 3, 5] (cgo 5 [] R68) [] ?_
  refine .dr (cgo 6 [] R68) [(15, .d (.int .i64 (↑(d.acc i) : Int))), (16, .ptr 0 0 0), (17, .ptr 0 0 0), (18, .ptr 0 0 0), (19, .row 1), (20, .d (.int .i64 v)), (21, .ptr 1 v.toNat 0), (22, .ptr 1 v.toNat 0), (23, .d (.list 1 (List.map u8 f.fst))), (24, .d (.int .i64 (↑(List.map u8 f.fst).length : Int))), (25, .d (.int .i64 (IntKind.i64.wrap ((↑(d.acc i) : Int) + (↑(List.map u8 f.fst).length : Int)))))] [(7, .cells [.d (.int .i64 (IntKind.i64.wrap ((↑(d.acc i) : Int) + (↑(List.map u8 f.fst).length : Int))))])] (fun kz L hL => ?_) ?_
  · refine ⟨[⟨[7], [], [], [], [7], [], true, false⟩, ⟨[6], [], [], [0], [6, 0], [], true, false⟩, ⟨[], [], [], [0], [0], [0], true, false⟩, ⟨[], [], [], [0], [0], [0], true, false⟩, ⟨[0], [], [], [1], [0, 1, 2, 5], [], true, false⟩, ⟨[], [], [], [], [], [], true, false⟩, ⟨[1], [], [], [1], [1], [], true, false⟩, ⟨[], [], [], [1], [1], [1], true, false⟩, ⟨[1], [], [], [], [1], [], true, false⟩, ⟨[], [], [], [], [], [], true, false⟩, ⟨[], [], [], [], [], [], true, false⟩, ⟨[7], [7], [], [], [7], [], true, false⟩], run_amongF hL _ [] [0, 1, 2, 3, 4, 5, 6, 7, 8, 9, 10, 11] (by intro p hp; cases hp) (by kernel_rfl) ?_⟩
    refine Run.ap [0, 1, 2, 3, 4, 5] [(15, .d (.int .i64 (↑(d.acc i) : Int))), (16, .ptr 0 0 0), (17, .ptr 0 0 0), (18, .ptr 0 0 0), (19, .row 1), (20, .d (.int .i64 v))] [] ?_
    refine Run.one (StepF.look (o := ((drawOf (cgo 5 [] R68))[6]?).getD default) (v := .ptr 1 v.toNat 0) [(.tmp 19), (.tmp 20)] (by kernel_rfl) rfl (by kernel_rfl) (by kernel_rfl) (by kernel_rfl) (by kernel_rfl) (by kernel_rfl) (fun tm' σ2 hv hr => ixRow_ok (t := 105) (x := (.tmp 19)) (i := (.tmp 20)) (k := IntKind.i64) (n := v) (l := 1) (sz := 2) (xs := List.map fileD d.files) (mv := false) (by kernel_rfl) (by rw [hv _ (by simp)]; kernel_rfl) (by rw [hv _ (by simp)]; kernel_rfl) ((hr _ (inK_iff.1 (by kernel_rfl))).trans (by kernel_rfl)) (by kernel_rfl) (by assumption) (by simp <;> omega))) ?_
    refine Run.ap [7] [(22, .ptr 1 v.toNat 0)] [] ?_
    refine Run.one (StepF.look (o := ((drawOf (cgo 5 [] R68))[8]?).getD default) (v := .d (.list 1 (List.map u8 f.fst))) [(.tmp 22)] (by kernel_rfl) rfl (by kernel_rfl) (by kernel_rfl) (by kernel_rfl) (by kernel_rfl) (by kernel_rfl) (fun tm' σ2 hv hr => ldRow_ok (t := 22) (x := (.tmp 22)) (l := 1) (i := v.toNat) (s := 0) (sz := 2) (xs := List.map fileD d.files) (mv := false) (d := fileD f) (v := .d (.list 1 (List.map u8 f.fst))) (by kernel_rfl) (by rw [hv _ (by simp)]; kernel_rfl) ((hr _ (inK_iff.1 (by kernel_rfl))).trans (by kernel_rfl)) (map_get hf) (by kernel_rfl))) ?_
    exact Run.fin
  refine .sg0 1 [2] (cgo 7 [] R68) [] ?_
  simp only [List.length_map]
  simp (disch := omega) only [wrap_i64, wrap_u64s, wrap_u32s, wrap_u8s, wrap_i32s, iadd_i64, isub_i64, irem_n, iquo_n, tdiv_nn, tmod_nn]
  refine .roundEndL (T0 := cgo 26 [true] [Item.code B68]) (fn := 68) (tml := (mk 27 [(1, V.ptr 6 0 0), (2, V.d (D.int IntKind.i64 0)), (3, V.ptr 7 0 0), (12, V.fn (Fn.func 109) [] [V.ptr 8 0 0, V.ptr 9 0 0])])) (st := LoopState.busy) (by kernel_rfl) (by kernel_rfl) (σ' := (SP 1 2 d false [.cells [.ptr 0 0 0], .cells [.d (.int .i64 ((↑(d.acc i) : Int) + (↑f.fst.length : Int)))], .cells [.ptr 2 0 0], .cells [.fn (Fn.func 98) [] []], .defd, lp (cgo 26 [true] [Item.code B68]) 68 (mk 27 [(1, .ptr 6 0 0), (2, .d (.int .i64 0)), (3, .ptr 7 0 0), (12, .fn (Fn.func 109) [] [.ptr 8 0 0, .ptr 9 0 0])]) LoopState.ready])) (by kernel_rfl) ?_
  simp_all [S68, dirD]
theorem lo68 (d : Dk) (N : Nat) (h : d.Ok N) (hl : d.nk.length < 60000) (hv : d.nv.length = d.nk.length) : ∀ (m i : Nat), i + m = (d.nk).length →
    AW Try.prog 109 none 12 (cgo 24 [false] [Item.code B109]) (mk 43 [(0, V.yield 11), (5, V.d (.list 1 ((d.nk).map strD))), (6, V.d (.list 1 ((d.nv).map intD))), (27, V.d (.int .i64 ((d.nk).length : Nat))), (28, V.d (.int .i64 (i : Nat)))]) (S68 d i .ready) [] fun r σ' => r = .ret (.tuple []) ∧ σ' = S68 d (d.nk).length .ready := by
  intro m
  induction m with
  | zero =>
    intro i hi
    have hi : i = (d.nk).length := by omega
    subst hi
    refine .sg0 5 [0, 5, 6, 27, 28, 29] (cgo 29 [false] [.code B109]) [(29, .d (.bool (decide ((↑d.nk.length : Int) < (↑d.nk.length : Int)))))] ?_
    refine .if' (decide ((↑d.nk.length : Int) < (↑d.nk.length : Int))) (cgo 30 [false, true] [.code B109]) (cgo 30 [false, false] [.code B109]) (fun h1 => ?_) (fun h1 => ?_)
    · simp only [bsX] at h1
      omega
    · simp only [bsX] at h1
      refine .seg 1 [] (T' := cgo 31 [false, false] [.code B109]) (tm' := mk 43 []) (σ' := [.cells [.row 1, .ptr 2 0 0, .ep 2 (D.agg [D.list 1 (List.map strD d.sk), D.list 1 (List.map intD d.sv)]) 0, .row 5, .d (.int .i64 d.quota), .d (.bool d.full), .d (.bool d.off), .d (.int .i64 d.stop), .d (.int .i64 d.calls)], .row 2 (List.map fileD d.files) false, .cells [.row 3, .row 4], .row 1 (List.map strD d.nk) false, .row 1 (List.map intD d.nv) false, .row 3 (List.map chD d.ch) false, .cells [.ptr 0 0 0], .cells [.d (.int .i64 (↑(d.acc d.nk.length) : Int))], .cells [.ptr 2 0 0], .cells [.fn (Fn.func 98) [] []], .defd, lp (cgo 26 [true] [.code B68]) 68 (mk 27 [(1, .ptr 6 0 0), (2, .d (.int .i64 0)), (3, .ptr 7 0 0), (12, .fn (Fn.func 109) [] [.ptr 8 0 0, .ptr 9 0 0])]) LoopState.ready]) (by kernel_rfl) ?_
      refine .retH F109 (v := V.tuple []) (by kernel_rfl) (by kernel_rfl) ?_
      exact ⟨rfl, rfl⟩
  | succ m ih =>
    intro i hi
    obtain ⟨x, hx⟩ := get_some (l := d.nk) (i := i) (by omega)
    obtain ⟨v, hy⟩ := get_some (l := d.nv) (i := i) (by omega)
    have hYi := body68 d N h i x v hx hy
    refine .sg0 5 [0, 5, 6, 27, 28, 29] (cgo 29 [false] [.code B109]) [(29, .d (.bool (decide ((↑i : Int) < (↑d.nk.length : Int)))))] ?_
    refine .if' (decide ((↑i : Int) < (↑d.nk.length : Int))) (cgo 30 [false, true] [.code B109]) (cgo 30 [false, false] [.code B109]) (fun h1 => ?_) (fun h1 => ?_)
    · simp only [bsX] at h1
      refine .sg0 9 [0, 5, 6, 7, 27, 28, 29, 30] (cgo 39 [false, true] [.code B109]) [(7, .d (.int .i64 (↑i : Int))), (30, .d (.int .i64 (↑i : Int)))] ?_
      refine .dr (cgo 40 [false, true] [.code B109]) [(31, .yield 11), (32, .d (.list 1 (List.map strD d.nk))), (33, .d (.int .i64 (↑i : Int))), (34, .ep 1 (D.str x) 0), (35, .d (.str x)), (36, .d (.list 1 (List.map intD d.nv))), (37, .d (.int .i64 (↑i : Int))), (38, .ep 1 (D.int IntKind.i64 v) 0), (39, .d (.int .i64 v)), (40, .d (.bool true)), (41, .d (.bool false))] [(7, .cells [.d (.int .i64 (↑(d.acc (i + 1)) : Int))])] (fun kz L hL => ?_) ?_
      · refine ⟨[⟨[], [], [], [11], [11], [], true, false⟩, ⟨[], [], [], [], [], [], true, false⟩, ⟨[], [], [], [], [], [], true, false⟩, ⟨[], [], [], [], [], [], true, false⟩, ⟨[], [], [], [], [], [], true, false⟩, ⟨[], [], [], [], [], [], true, false⟩, ⟨[], [], [], [], [], [], true, false⟩, ⟨[], [], [], [], [], [], true, false⟩, ⟨[], [], [], [], [], [], true, false⟩, ⟨[], [], [], [], [], [], false, true⟩, ⟨[], [], [], [], [], [], true, false⟩], run_amongF hL _ [] [0, 1, 2, 3, 4, 5, 6, 7, 8, 9, 10] (by intro p hp; cases hp) (by kernel_rfl) ?_⟩
        refine Run.ap [0, 1, 2] [(31, .yield 11), (32, .d (.list 1 (List.map strD d.nk))), (33, .d (.int .i64 (↑i : Int)))] [] ?_
        refine Run.one (StepF.look (o := ((drawOf (cgo 39 [false, true] [.code B109]))[3]?).getD default) (v := .ep 1 (D.str x) 0) [(.tmp 32), (.tmp 33)] (by kernel_rfl) rfl (by kernel_rfl) (by kernel_rfl) (by kernel_rfl) (by kernel_rfl) (by kernel_rfl) (fun tm' σ2 hv hr => ixData_ok (t := 66) (x := (.tmp 32)) (i := (.tmp 33)) (k := IntKind.i64) (n := (↑i : Int)) (sz := 1) (xs := List.map strD d.nk) (d := strD x) (by kernel_rfl) (by rw [hv _ (by simp)]; kernel_rfl) (by rw [hv _ (by simp)]; kernel_rfl) (by kernel_rfl) (by omega) (map_get hx))) ?_
        refine Run.ap [4, 5, 6] [(35, .d (.str x)), (36, .d (.list 1 (List.map intD d.nv))), (37, .d (.int .i64 (↑i : Int)))] [] ?_
        refine Run.one (StepF.look (o := ((drawOf (cgo 39 [false, true] [.code B109]))[7]?).getD default) (v := .ep 1 (D.int IntKind.i64 v) 0) [(.tmp 36), (.tmp 37)] (by kernel_rfl) rfl (by kernel_rfl) (by kernel_rfl) (by kernel_rfl) (by kernel_rfl) (by kernel_rfl) (fun tm' σ2 hv hr => ixData_ok (t := 46) (x := (.tmp 36)) (i := (.tmp 37)) (k := IntKind.i64) (n := (↑i : Int)) (sz := 1) (xs := List.map intD d.nv) (d := intD v) (by kernel_rfl) (by rw [hv _ (by simp)]; kernel_rfl) (by rw [hv _ (by simp)]; kernel_rfl) (by kernel_rfl) (by omega) (map_get hy))) ?_
        refine Run.ap [8] [(39, .d (.int .i64 v))] [] ?_
        refine Run.one (s1 := (mk 43 [(0, .yield 11), (5, .d (.list 1 (List.map strD d.nk))), (6, .d (.list 1 (List.map intD d.nv))), (7, .d (.int .i64 (↑i : Int))), (27, .d (.int .i64 (↑d.nk.length : Int))), (28, .d (.int .i64 (↑i : Int))), (29, .d (.bool (decide ((↑i : Int) < (↑d.nk.length : Int))))), (30, .d (.int .i64 (↑i : Int))), (31, .yield 11), (32, .d (.list 1 (List.map strD d.nk))), (33, .d (.int .i64 (↑i : Int))), (34, .ep 1 (D.str x) 0), (35, .d (.str x)), (36, .d (.list 1 (List.map intD d.nv))), (37, .d (.int .i64 (↑i : Int))), (38, .ep 1 (D.int IntKind.i64 v) 0), (39, .d (.int .i64 v)), (40, .d (.bool true))], [.cells [.row 1, .ptr 2 0 0, .ep 2 (D.agg [D.list 1 (List.map strD d.sk), D.list 1 (List.map intD d.sv)]) 0, .row 5, .d (.int .i64 d.quota), .d (.bool d.full), .d (.bool d.off), .d (.int .i64 d.stop), .d (.int .i64 d.calls)], .row 2 (List.map fileD d.files) false, .cells [.row 3, .row 4], .row 1 (List.map strD d.nk) false, .row 1 (List.map intD d.nv) false, .row 3 (List.map chD d.ch) false, .cells [.ptr 0 0 0], .cells [.d (.int .i64 (↑(d.acc (i + 1)) : Int))], .cells [.ptr 2 0 0], .cells [.fn (Fn.func 98) [] []], .defd, lp (cgo 26 [true] [Item.code B68]) 68 (mk 27 [(1, .ptr 6 0 0), (2, .d (.int .i64 0)), (3, .ptr 7 0 0), (12, .fn (Fn.func 109) [] [.ptr 8 0 0, .ptr 9 0 0])]) LoopState.ready])) (StepF.all (o := ((drawOf (cgo 39 [false, true] [Item.code B109]))[9]?).getD default) (by kernel_rfl) (by kernel_rfl) fun rest hn => AW.yieldD (T0 := cgo 26 [true] [Item.code B68]) (x := (.tmp 31)) (args := #[(.tmp 35), (.tmp 39)]) (ts := #[9, 3]) (l := 11) (st := LoopState.ready) (fn := 68) (tml := (mk 27 [(1, .ptr 6 0 0), (2, .d (.int .i64 0)), (3, .ptr 7 0 0), (12, .fn (Fn.func 109) [] [.ptr 8 0 0, .ptr 9 0 0])])) (R := R68) (o := ((drawOf (cgo 39 [false, true] [Item.code B109]))[9]?).getD default) (N := 12) (by kernel_rfl) (by kernel_rfl) (by kernel_rfl) (by kernel_rfl) (by kernel_rfl) (by kernel_rfl) (by kernel_rfl) (by kernel_rfl) (by kernel_rfl) hYi (by rintro r s ⟨rfl, rfl⟩; exact ⟨_, rfl, AW.as (by kernel_rfl) (by kernel_rfl) hn⟩)) ?_
        exact Run.fin
      refine .seg 7 [0, 5, 6, 7, 27, 28, 29, 30, 31, 32, 33, 34, 35, 36, 37, 38, 39, 40, 41, 42] (T' := cgo 47 [false, true, false] [.code B109]) (tm' := mk 43 [(0, .yield 11), (5, .d (.list 1 (List.map strD d.nk))), (6, .d (.list 1 (List.map intD d.nv))), (7, .d (.int .i64 (↑i : Int))), (27, .d (.int .i64 (↑d.nk.length : Int))), (28, .d (.int .i64 (IntKind.i64.wrap ((↑i : Int) + 1)))), (29, .d (.bool (decide ((↑i : Int) < (↑d.nk.length : Int))))), (30, .d (.int .i64 (↑i : Int))), (31, .yield 11), (32, .d (.list 1 (List.map strD d.nk))), (33, .d (.int .i64 (↑i : Int))), (34, .ep 1 (D.str x) 0), (35, .d (.str x)), (36, .d (.list 1 (List.map intD d.nv))), (37, .d (.int .i64 (↑i : Int))), (38, .ep 1 (D.int IntKind.i64 v) 0), (39, .d (.int .i64 v)), (40, .d (.bool true)), (41, .d (.bool false)), (42, .d (.int .i64 (IntKind.i64.wrap ((↑i : Int) + 1))))]) (σ' := [.cells [.row 1, .ptr 2 0 0, .ep 2 (D.agg [D.list 1 (List.map strD d.sk), D.list 1 (List.map intD d.sv)]) 0, .row 5, .d (.int .i64 d.quota), .d (.bool d.full), .d (.bool d.off), .d (.int .i64 d.stop), .d (.int .i64 d.calls)], .row 2 (List.map fileD d.files) false, .cells [.row 3, .row 4], .row 1 (List.map strD d.nk) false, .row 1 (List.map intD d.nv) false, .row 3 (List.map chD d.ch) false, .cells [.ptr 0 0 0], .cells [.d (.int .i64 (↑(d.acc (i + 1)) : Int))], .cells [.ptr 2 0 0], .cells [.fn (Fn.func 98) [] []], .defd, lp (cgo 26 [true] [.code B68]) 68 (mk 27 [(1, .ptr 6 0 0), (2, .d (.int .i64 0)), (3, .ptr 7 0 0), (12, .fn (Fn.func 109) [] [.ptr 8 0 0, .ptr 9 0 0])]) LoopState.ready]) (by kernel_rfl) ?_
      simp (disch := omega) only [wrap_i64, wrap_u64s, wrap_u32s, wrap_u8s, wrap_i32s, iadd_i64, isub_i64, irem_n, iquo_n, tdiv_nn, tmod_nn]
      exact .seg 1 [0, 5, 6, 27, 28] (by kernel_rfl) (ih (i + 1) (by omega))
    · simp only [bsX] at h1
      omega
theorem it68 (d : Dk) (N : Nat) (h : d.Ok N) : CallsA Try.prog 109 [.yield 11, .ptr 8 0 0, .ptr 9 0 0] (S68 d 0 .ready) fun r σ' => r = .ret (.tuple []) ∧ σ' = S68 d (d.nk).length .ready := by
  have hl : d.nk.length < 60000 := by have := h.nkl; have := h.nb; omega
  have hv := h.nl
  refine CallsA.start F109 (tm := mk (Try.f109.ntmps) [(0, .yield 11), (1, .ptr 8 0 0), (2, .ptr 9 0 0)]) (by kernel_rfl) ?_
  refine .sg0 11 [0, 1, 2, 10] (cgo 11 [false] [.code B109]) [(10, .fn (Fn.func 98) [] [])] ?_
  refine .semH (o := (opOf (cgo 11 [false] [Item.code B109])).getD default) (v := .d (.int .i64 0)) (σ' := [.cells [.row 1, .ptr 2 0 0, .ep 2 (D.agg [D.list 1 (List.map strD d.sk), D.list 1 (List.map intD d.sv)]) 0, .row 5, .d (.int .i64 d.quota), .d (.bool d.full), .d (.bool d.off), .d (.int .i64 d.stop), .d (.int .i64 d.calls)], .row 2 (List.map fileD d.files) false, .cells [.row 3, .row 4], .row 1 (List.map strD d.nk) false, .row 1 (List.map intD d.nv) false, .row 3 (List.map chD d.ch) false, .cells [.ptr 0 0 0], .cells [.d (.int .i64 (↑(d.acc 0) : Int))], .cells [.ptr 2 0 0], .cells [.fn (Fn.func 98) [] []], .defd, lp (cgo 26 [true] [Item.code B68]) 68 (mk 27 [(1, .ptr 6 0 0), (2, .d (.int .i64 0)), (3, .ptr 7 0 0), (12, .fn (Fn.func 109) [] [.ptr 8 0 0, .ptr 9 0 0])]) LoopState.ready]) (by kernel_rfl) (by kernel_rfl) (T' := cgo 12 [false] [Item.code B109]) (by kernel_rfl) (fun kz => sem_data0 (x := (.tmp 10)) (args := #[]) (ts := #[]) (first := []) (cap := []) (ds := []) (v := .d (.int .i64 0)) F98 (@spec_98) (by kernel_rfl) (by kernel_rfl) (by kernel_rfl) (by kernel_rfl) (by kernel_rfl) (by kernel_rfl) _) ?_
  refine .sg0 3 [0, 1, 4] (cgo 15 [false] [.code B109]) [(4, .d (.int .i64 0))] ?_
  refine .dr (cgo 16 [false] [.code B109]) [(5, .d (.list 1 (List.take ((List.map strD d.nk).length - 0) (List.drop 0 (List.map strD d.nk))))), (6, .d (.list 1 (List.take ((List.map intD d.nv).length - 0) (List.drop 0 (List.map intD d.nv))))), (12, .ptr 2 0 0), (13, .ptr 2 0 0), (14, .ptr 2 0 0), (15, .row 3), (16, .d (.int .i64 0)), (17, .sl 3 0 ((List.map strD d.nk).length - 0) none), (18, .d (.list 1 (List.take ((List.map strD d.nk).length - 0) (List.drop 0 (List.map strD d.nk))))), (19, .ptr 2 0 0), (20, .ptr 2 0 0), (21, .ptr 2 0 1), (22, .row 4), (23, .d (.int .i64 0)), (24, .sl 4 0 ((List.map intD d.nv).length - 0) none), (25, .d (.list 1 (List.take ((List.map intD d.nv).length - 0) (List.drop 0 (List.map intD d.nv)))))] [] (fun kz L hL => ?_) ?_
  · refine ⟨[⟨[8], [], [], [2], [8, 2], [], true, false⟩, ⟨[], [], [], [2], [2], [2], true, false⟩, ⟨[], [], [], [2], [2], [2], true, false⟩, ⟨[2], [], [], [3], [2, 3, 4], [], true, false⟩, ⟨[], [], [], [], [], [], true, false⟩, ⟨[3], [], [], [3], [3], [], true, false⟩, ⟨[3], [3], [], [], [3], [], true, false⟩, ⟨[8], [], [], [2], [8, 2], [], true, false⟩, ⟨[], [], [], [2], [2], [2], true, false⟩, ⟨[], [], [], [2], [2], [2], true, false⟩, ⟨[2], [], [], [4], [2, 3, 4], [], true, false⟩, ⟨[], [], [], [], [], [], true, false⟩, ⟨[4], [], [], [4], [4], [], true, false⟩, ⟨[4], [], [], [], [4], [], true, false⟩, ⟨[], [], [], [], [], [], true, false⟩, ⟨[], [], [], [], [], [], true, false⟩], run_amongF hL _ [] [0, 1, 2, 3, 4, 5, 7, 8, 9, 10, 11, 12, 6, 13, 14, 15] (by intro p hp; cases hp) (by kernel_rfl) ?_⟩
    refine Run.ap [0, 1, 2, 3, 4] [(12, .ptr 2 0 0), (13, .ptr 2 0 0), (14, .ptr 2 0 0), (15, .row 3), (16, .d (.int .i64 0))] [] ?_
    refine Run.one (StepF.look (o := ((drawOf (cgo 15 [false] [.code B109]))[5]?).getD default) (v := .sl 3 0 ((List.map strD d.nk).length - 0) none) [(.tmp 15), (.tmp 16)] (by kernel_rfl) rfl (by kernel_rfl) (by kernel_rfl) (by kernel_rfl) (by kernel_rfl) (by kernel_rfl) (fun tm' σ2 hv hr => slRow_ok (t := 66) (x := (.tmp 15)) (lo := (some (.tmp 16))) (hi := none) (lc := 3) (sz := 1) (xs := List.map strD d.nk) (mv := false) (0) ((List.map strD d.nk).length) (by kernel_rfl) (by rw [hv _ (by simp)]; kernel_rfl) ((hr _ (inK_iff.1 (by kernel_rfl))).trans (by kernel_rfl)) (by kernel_rfl) (bnd_some (k := IntKind.i64) (i := 0) (by rw [hv _ (by simp)]; kernel_rfl) (by omega) (by rfl)) rfl (by omega) (by omega))) ?_
    refine Run.ap [7, 8, 9, 10, 11] [(19, .ptr 2 0 0), (20, .ptr 2 0 0), (21, .ptr 2 0 1), (22, .row 4), (23, .d (.int .i64 0))] [] ?_
    refine Run.one (StepF.look (o := ((drawOf (cgo 15 [false] [.code B109]))[12]?).getD default) (v := .sl 4 0 ((List.map intD d.nv).length - 0) none) [(.tmp 22), (.tmp 23)] (by kernel_rfl) rfl (by kernel_rfl) (by kernel_rfl) (by kernel_rfl) (by kernel_rfl) (by kernel_rfl) (fun tm' σ2 hv hr => slRow_ok (t := 46) (x := (.tmp 22)) (lo := (some (.tmp 23))) (hi := none) (lc := 4) (sz := 1) (xs := List.map intD d.nv) (mv := false) (0) ((List.map intD d.nv).length) (by kernel_rfl) (by rw [hv _ (by simp)]; kernel_rfl) ((hr _ (inK_iff.1 (by kernel_rfl))).trans (by kernel_rfl)) (by kernel_rfl) (bnd_some (k := IntKind.i64) (i := 0) (by rw [hv _ (by simp)]; kernel_rfl) (by omega) (by rfl)) rfl (by omega) (by omega))) ?_
    refine Run.one (StepF.call (o := ((drawOf (cgo 15 [false] [.code B109]))[6]?).getD default) (x := (.func 110)) (args := #[(.tmp 17)]) (ts := #[66]) (first := []) (cap := []) [3] [.sl 0 0 ((List.map strD d.nk).length - 0) none] [.row 1 (List.map strD d.nk) false] [.row 1 (List.map strD d.nk) false] (v := .d (.list 1 (List.take ((List.map strD d.nk).length - 0) (List.drop 0 (List.map strD d.nk))))) (by kernel_rfl) rfl (by kernel_rfl) (by kernel_rfl) F110 (@spec_110b (List.map strD d.nk) (0) ((List.map strD d.nk).length - 0) (none) (by omega) (by simp <;> omega)) (by kernel_rfl) (by kernel_rfl) (by kernel_rfl) (by kernel_rfl) ⟨rfl, rfl, by kernel_rfl⟩ (by kernel_rfl) (by kernel_rfl) (by kernel_rfl) (by kernel_rfl) (by kernel_rfl) rfl rfl) ?_
    refine Run.one (StepF.callLook (o := ((drawOf (cgo 15 [false] [.code B109]))[13]?).getD default) (x := (.func 111)) (args := #[(.tmp 24)]) (ts := #[46]) (first := []) (cap := []) [4] [.sl 0 0 ((List.map intD d.nv).length - 0) none] [.row 1 (List.map intD d.nv) false] (v := .d (.list 1 (List.take ((List.map intD d.nv).length - 0) (List.drop 0 (List.map intD d.nv))))) (by kernel_rfl) rfl (by kernel_rfl) (by kernel_rfl) F111 (@spec_111b (List.map intD d.nv) (0) ((List.map intD d.nv).length - 0) (none) (by omega) (by simp <;> omega)) (by kernel_rfl) (by kernel_rfl) (by kernel_rfl) (by kernel_rfl) ⟨rfl, rfl, by kernel_rfl⟩ (by kernel_rfl) (by kernel_rfl) (by kernel_rfl) (by kernel_rfl) (by kernel_rfl)) ?_
    exact Run.fin
  refine .seg 7 [0, 5, 6, 27, 28] (T' := cgo 23 [false] [.code B109]) (tm' := mk 43 [(0, .yield 11), (5, .d (.list 1 (List.take ((List.map strD d.nk).length - 0) (List.drop 0 (List.map strD d.nk))))), (6, .d (.list 1 (List.take ((List.map intD d.nv).length - 0) (List.drop 0 (List.map intD d.nv))))), (27, .d (.int .i64 (↑(List.take ((List.map strD d.nk).length - 0) (List.drop 0 (List.map strD d.nk))).length : Int))), (28, .d (.int .i64 0))]) (σ' := [.cells [.row 1, .ptr 2 0 0, .ep 2 (D.agg [D.list 1 (List.map strD d.sk), D.list 1 (List.map intD d.sv)]) 0, .row 5, .d (.int .i64 d.quota), .d (.bool d.full), .d (.bool d.off), .d (.int .i64 d.stop), .d (.int .i64 d.calls)], .row 2 (List.map fileD d.files) false, .cells [.row 3, .row 4], .row 1 (List.map strD d.nk) false, .row 1 (List.map intD d.nv) false, .row 3 (List.map chD d.ch) false, .cells [.ptr 0 0 0], .cells [.d (.int .i64 (↑(d.acc 0) : Int))], .cells [.ptr 2 0 0], .cells [.fn (Fn.func 98) [] []], .defd, lp (cgo 26 [true] [.code B68]) 68 (mk 27 [(1, .ptr 6 0 0), (2, .d (.int .i64 0)), (3, .ptr 7 0 0), (12, .fn (Fn.func 109) [] [.ptr 8 0 0, .ptr 9 0 0])]) LoopState.ready]) (by kernel_rfl) ?_
  simp only [List.length_map]
  rw [show List.take ((d.nk).length - 0) (List.drop 0 (List.map strD (d.nk))) = List.map strD (d.nk) by rw [Nat.sub_zero, List.drop_zero, List.take_of_length_le (by simp)], show List.take ((d.nv).length - 0) (List.drop 0 (List.map intD (d.nv))) = List.map intD (d.nv) by rw [Nat.sub_zero, List.drop_zero, List.take_of_length_le (by simp)], List.length_map]
  exact .seg 1 [0, 5, 6, 27, 28] (by kernel_rfl) (lo68 d N h hl hv (d.nk).length 0 (by omega))
theorem spec_68 (d : Dk) (N : Nat) (h : d.Ok N) :
    CallsA Try.prog 68 [.ptr 0 0 0] (SD d false) fun r σ' => r = .ret (.d (.int .i64 (d.used : Nat))) ∧ σ' = SD d false := by
  refine CallsA.start F68 (tm := mk (Try.f68.ntmps) [(0, .ptr 0 0 0)]) (by kernel_rfl) ?_
  refine .sg 23 [1, 2, 3, 8, 9, 10, 11] (cgo 23 [true] [.code B68]) [(1, .ptr 6 0 0), (2, .d (.int .i64 0)), (3, .ptr 7 0 0), (8, .ptr 0 0 0), (9, .ptr 0 0 0), (10, .ptr 0 0 1), (11, .ptr 2 0 0)] [(6, .cells [.ptr 0 0 0]), (7, .cells [.d (.int .i64 0)])] ?_
  refine .ca [2, 3, 4] (cgo 24 [true] [.code B68]) F72 (@spec_72 (List.map strD d.nk) (List.map intD d.nv)) ?_
  rintro r0 s0 ⟨rfl, rfl⟩
  refine ⟨_, rfl, ?_⟩
  refine .sg0 2 [1, 2, 3, 12] (cgo 26 [true] [.code B68]) [] ?_
  refine .rangeH (first := []) (cap := [.ptr 8 0 0, .ptr 9 0 0]) (List.range 12) [.yield 11, .ptr 8 0 0, .ptr 9 0 0] (S68 d 0 .ready) F109 (by kernel_rfl) (T' := cgo 27 [true] [Item.code B68]) (by kernel_rfl) (by kernel_rfl) (it68 d N h) (by kernel_rfl) (by kernel_rfl) (by refine ⟨rfl, by kernel_rfl, ?_⟩; kernel_rfl) ?_
  rintro r σc' ⟨rfl, rfl⟩
  refine ⟨.tuple [], .ready, (mk 27 [(1, V.ptr 6 0 0), (2, V.d (D.int IntKind.i64 0)), (3, V.ptr 7 0 0), (12, V.fn (Fn.func 109) [] [V.ptr 8 0 0, V.ptr 9 0 0])]), rfPs (cgo 26 [true] [Item.code B68]), rfAs (cgo 26 [true] [Item.code B68]), rfBd (cgo 26 [true] [Item.code B68]), 68, rfl, by simp, by kernel_rfl, ?_⟩
  have e1 : d.acc d.nk.length = d.used := by unfold Dk.acc Dk.used; rw [← h.nl, List.take_length]
  refine .seg 6 [2] (T' := cgo 33 [true] [.code B68]) (tm' := mk 27 [(2, .d (.int .i64 (↑(d.acc d.nk.length) : Int)))]) (σ' := [.cells [.row 1, .ptr 2 0 0, .ep 2 (D.agg [D.list 1 (List.map strD d.sk), D.list 1 (List.map intD d.sv)]) 0, .row 5, .d (.int .i64 d.quota), .d (.bool d.full), .d (.bool d.off), .d (.int .i64 d.stop), .d (.int .i64 d.calls)], .row 2 (List.map fileD d.files) false, .cells [.row 3, .row 4], .row 1 (List.map strD d.nk) false, .row 1 (List.map intD d.nv) false, .row 3 (List.map chD d.ch) false, .cells [.ptr 0 0 0], .cells [.d (.int .i64 (↑(d.acc d.nk.length) : Int))], .cells [.ptr 2 0 0], .cells [.fn (Fn.func 98) [] []], .defd, lp (cgo 26 [true] [.code B68]) 68 (mk 27 [(1, .ptr 6 0 0), (2, .d (.int .i64 0)), (3, .ptr 7 0 0), (12, .fn (Fn.func 109) [] [.ptr 8 0 0, .ptr 9 0 0])]) LoopState.exhausted]) (by kernel_rfl) ?_
  refine .retX (v := V.d (D.int IntKind.i64 (↑(d.acc d.nk.length) : Int))) [0, 1, 2, 3, 4, 5] (V.d (D.int IntKind.i64 (↑(d.acc d.nk.length) : Int))) F68 (by kernel_rfl) ⟨by kernel_rfl, by kernel_rfl⟩ (σ1 := (SP 1 2 d false [O.cells [V.ptr 0 0 0], O.cells [V.d (D.int IntKind.i64 (↑(d.acc d.nk.length) : Int))], O.cells [V.ptr 2 0 0], O.cells [V.fn (Fn.func 98) [] []], O.dead, lp (cgo 26 [true] [Item.code B68]) 68 (mk 27 [(1, V.ptr 6 0 0), (2, V.d (D.int IntKind.i64 0)), (3, V.ptr 7 0 0), (12, V.fn (Fn.func 109) [] [V.ptr 8 0 0, V.ptr 9 0 0])]) LoopState.exhausted])) (by kernel_rfl) (by kernel_rfl) (σ2 := (SP 1 2 d false [])) ⟨rfl, rfl, by kernel_rfl⟩ (by kernel_rfl) ⟨Nat.le_of_ble_eq_true (by kernel_rfl), by kernel_rfl⟩ (by kernel_rfl) ?_
  simp_all [SD, dirD]
end Go.Proofs.Ytoelkgbeefoplaa
namespace Go.Proofs.Ytoelkgbeefoplaa
open Go Go.Br Go.Proofs
noncomputable def B67 : Code := (Try.f67.body).getD .skip
theorem F67 : Fnc Try.prog 67 Try.f67 B67 := ⟨Try.func67, by kernel_rfl, by kernel_rfl⟩
theorem spec_67 (fs : List D) (su : D) (ch : List D) (nk : List ByteArray) (nv : List Int) (q s c : Int) (fu off : Bool) (g n : ByteArray) (k : Int) (h1 : Rising nk) (h2 : nv.length = nk.length) (h3 : nk.length < 60000) (h4 : ch.length < 60000) :
    CallsA Try.prog 67 [.ptr 0 0 0, .d (.agg [.str g, .str n, .int .i64 k])] [.cells [.row 1, .ptr 2 0 0, .ep 2 su 0, .row 5, .d (.int .i64 q), .d (.bool fu), .d (.bool off), .d (.int .i64 s), .d (.int .i64 c)], .row 2 fs false, .cells [.row 3, .row 4], .row 1 (nk.map strD) false, .row 1 (nv.map intD) false, .row 3 ch false] fun r σ' => r = .ret (.tuple []) ∧ σ' = [.cells [.row 1, .ptr 2 0 0, .ep 2 su 0, .row 5, .d (.int .i64 q), .d (.bool fu), .d (.bool off), .d (.int .i64 s), .d (.int .i64 c)], .row 2 fs false, .cells [.row 3, .row 4], .row 1 ((kapply nk nv g n k).1.map strD) true, .row 1 ((kapply nk nv g n k).2.map intD) true, .row 3 (ch ++ [.agg [.str g, .str n, .int .i64 k]]) true] := by
  refine CallsA.start F67 (tm := mk (Try.f67.ntmps) [(0, .ptr 0 0 0), (1, .d (.agg [.str g, .str n, .int .i64 k]))]) (by kernel_rfl) ?_
  refine .sg 5 [0, 3] (cgo 5 [] [.code B67]) [(3, .ptr 6 0 0)] [(6, .cells [.d (.str g), .d (.str n), .d (.int .i64 k)])] ?_
  refine .dr (cgo 6 [] [.code B67]) [(4, .ptr 0 0 0), (5, .ptr 0 0 0), (6, .ptr 0 0 1), (7, .ptr 2 0 0), (8, .d (.agg [D.str g, D.str n, D.int IntKind.i64 k])), (9, .tuple [])] [(3, .row 1 (List.map strD (kapply nk nv g n k).fst) true), (4, .row 1 (List.map intD (kapply nk nv g n k).snd) true)] (fun kz L hL => ?_) ?_
  · refine ⟨[⟨[], [], [], [0], [0], [], true, false⟩, ⟨[], [], [], [0], [0], [0], true, false⟩, ⟨[], [], [], [0], [0], [0], true, false⟩, ⟨[0], [], [], [2], [0, 1, 2, 5], [], true, false⟩, ⟨[6], [], [], [], [6], [], true, false⟩, ⟨[2, 3, 4], [2, 3, 4], [3, 4], [3, 4], [2, 3, 4], [], true, false⟩], run_amongF hL _ [] [0, 1, 2, 3, 4, 5] (by intro p hp; cases hp) (by kernel_rfl) ?_⟩
    refine Run.ap [0, 1, 2, 3, 4] [(4, .ptr 0 0 0), (5, .ptr 0 0 0), (6, .ptr 0 0 1), (7, .ptr 2 0 0), (8, .d (.agg [D.str g, D.str n, D.int IntKind.i64 k]))] [] ?_
    refine Run.one (StepF.call (o := ((drawOf (cgo 5 [] [.code B67]))[5]?).getD default) (x := (.func 71)) (args := #[(.tmp 7), (.tmp 8)]) (ts := #[102, 117]) (first := []) (cap := []) [2, 3, 4] [.ptr 0 0 0, .d (.agg [D.str g, D.str n, D.int IntKind.i64 k])] [.cells [.row 1, .row 2], .row 1 (List.map strD nk) false, .row 1 (List.map intD nv) false] [.cells [.row 1, .row 2], .row 1 (List.map strD (kapply nk nv g n k).fst) true, .row 1 (List.map intD (kapply nk nv g n k).snd) true] (v := .tuple []) (by kernel_rfl) rfl (by kernel_rfl) (by kernel_rfl) F71 (@spec_71 (nk) (nv) (g) (n) (k) (by assumption) (by omega) (by assumption)) (by kernel_rfl) (by kernel_rfl) (by kernel_rfl) (by kernel_rfl) ⟨rfl, rfl, by kernel_rfl⟩ (by kernel_rfl) (by kernel_rfl) (by kernel_rfl) (by kernel_rfl) (by kernel_rfl) rfl rfl) ?_
    exact Run.fin
  refine .newVirt 3 ?_
  refine .dr (cgo 7 [] [.code B67]) [(10, .ptr 0 0 0), (11, .ptr 0 0 0), (12, .ptr 0 0 0), (13, .ptr 0 0 3), (15, .d (.agg [D.str g, D.str n, D.int IntKind.i64 k])), (16, .row 7), (17, .row 5), (18, .ptr 0 0 0), (19, .ptr 0 0 3)] [(5, .row 3 (ch ++ [D.agg [D.str g, D.str n, D.int IntKind.i64 k]]) true), (7, .row 3 [D.agg [D.str g, D.str n, D.int IntKind.i64 k]] true)] (fun kz L hL => ?_) ?_
  · refine ⟨[⟨[], [], [], [0], [0], [], true, false⟩, ⟨[], [], [], [0], [0], [], true, false⟩, ⟨[], [], [], [0], [0], [0], true, false⟩, ⟨[], [], [], [0], [0], [0], true, false⟩, ⟨[0], [], [], [5], [0, 1, 2, 5], [], true, false⟩, ⟨[6], [], [], [], [6], [], true, false⟩, ⟨[7], [7], [7], [7], [], [], true, false⟩, ⟨[5, 7], [5], [5], [5], [5, 7], [], true, false⟩, ⟨[], [], [], [0], [0], [0], true, false⟩, ⟨[], [], [], [0], [0], [0], true, false⟩, ⟨[0], [0], [], [1, 2, 5], [0, 5, 1, 2], [], false, false⟩], run_amongF hL _ [] [0, 1, 2, 3, 4, 5, 6, 7, 8, 9, 10] (by intro p hp; cases hp) (by kernel_rfl) ?_⟩
    refine Run.ap [0, 1, 2, 3, 4, 5] [(10, .ptr 0 0 0), (11, .ptr 0 0 0), (12, .ptr 0 0 0), (13, .ptr 0 0 3), (14, .row 5), (15, .d (.agg [D.str g, D.str n, D.int IntKind.i64 k]))] [] ?_
    refine Run.one (StepF.build (o := ((drawOf (cgo 6 [] [.code B67]))[6]?).getD default) (t := 106) (len := 1) (parts := #[(0, (.tmp 15))]) (l := 7) (ds := [D.agg [D.str g, D.str n, D.int IntKind.i64 k]]) (sz := 3) (mv := false) (by kernel_rfl) rfl (by kernel_rfl) (by kernel_rfl) (by kernel_rfl) (by kernel_rfl) (by kernel_rfl) (by kernel_rfl) (by kernel_rfl) (by kernel_rfl)) ?_
    refine Run.one (StepF.moves (o := ((drawOf (cgo 6 [] [.code B67]))[7]?).getD default) (v := .row 5) [(.tmp 14), (.tmp 16)] 5 (.row 3 (ch ++ [D.agg [D.str g, D.str n, D.int IntKind.i64 k]]) true) (by kernel_rfl) rfl (by kernel_rfl) (by kernel_rfl) (by kernel_rfl) (by kernel_rfl) (by kernel_rfl) (by kernel_rfl) (fun tm' σ2 hv hr => appRow_ok (s := (.tmp 14)) (x := (.tmp 16)) (t := 106) (t2 := 106) (sz := 3) (by' := 40) (ys := [D.agg [D.str g, D.str n, D.int IntKind.i64 k]]) (l := 5) (xs := ch) (mv := false) (by kernel_rfl) (by rw [hv _ (by simp)]; kernel_rfl) ((hr _ (inK_iff.1 (by kernel_rfl))).trans (by kernel_rfl)) (by rw [hv _ (by simp)]; exact (cont_at fun l hl => hr l (subB_in (by kernel_rfl) hl)).trans (by kernel_rfl)) (by kernel_rfl) (by kernel_rfl) (by simp <;> omega) (by first | (simp [maxLen] <;> omega) | omega))) ?_
    exact Run.fin
  refine .kp [] ?_
  refine .su [0, 1, 2, 3, 4, 5] (mk 20 []) [.cells [.row 1, .ptr 2 0 0, .ep 2 su 0, .row 5, .d (.int .i64 q), .d (.bool fu), .d (.bool off), .d (.int .i64 s), .d (.int .i64 c)], .row 2 fs false, .cells [.row 3, .row 4], .row 1 (List.map strD (kapply nk nv g n k).fst) true, .row 1 (List.map intD (kapply nk nv g n k).snd) true, .row 3 (ch ++ [D.agg [D.str g, D.str n, D.int IntKind.i64 k]]) true] ?_
  refine .retH F67 (v := V.tuple []) (by kernel_rfl) (by kernel_rfl) ?_
  exact ⟨rfl, rfl⟩
end Go.Proofs.Ytoelkgbeefoplaa
namespace Go.Proofs.Ytoelkgbeefoplaa
open Go Go.Br Go.Proofs
noncomputable def B26 : Code := (Try.f26.body).getD .skip
theorem F26 : Fnc Try.prog 26 Try.f26 B26 := ⟨Try.func26, by kernel_rfl, by kernel_rfl⟩
theorem spec_26 (d : Dk) (N : Nat) (h : d.Ok N) (hN : N + 2 ≤ 50000) (x : ByteArray) (hx : x.size < 1000000000) :
    CallsA Try.prog 26 [.ptr 0 0 0, .d (.str x)] (SD d false) fun r σ' => r = .ret (.d (.int .i64 (d.begun.createE x))) ∧ σ' = SD (d.begun.createD x) true := by
  refine CallsA.start F26 (tm := mk (Try.f26.ntmps) [(0, .ptr 0 0 0), (1, .d (.str x))]) (by kernel_rfl) ?_
  have hk := Dk.begun_ok h (by omega : N + 1 ≤ 50000)
  have q1 := hk.nr
  have q2 := hk.nl
  have q3 := hk.nkl
  have q4 := hk.nb
  have q7 := hk.chl
  have q8 := hk.fl
  have q5 : ∀ k, look d.begun.nk d.begun.nv x = some k → 0 ≤ k ∧ k < d.begun.files.length := fun k hk' => hk.nn k (look_mem hk')
  have hn1 : [D.str x] = List.map strD [x] := rfl
  cases hl : look d.begun.nk d.begun.nv x with
  | none =>
    refine .sg 10 [0, 1, 4, 8, 9, 10] (cgo 10 [] [.code B26]) [(4, .d (.int .i64 0)), (8, .ptr 0 0 0), (9, .d (.str x)), (10, .row 6)] [(6, .row 1 [D.str x] false)] ?_
    refine .ca [0, 1, 2, 3, 4, 5, 6] (cgo 11 [] [.code B26]) F64 (@spec_64b (d) (N) (by assumption) (false) ([x]) ([D.str x]) (by assumption) (by simp; done) (by simp <;> omega) (by simp; done) (by assumption)) ?_
    rintro r0 s0 ⟨rfl, rfl⟩
    refine ⟨_, rfl, ?_⟩
    refine .sg0 7 [0, 1, 4, 5, 13] (cgo 18 [] [.code B26]) [(5, .d (.int .i64 (d.begun.err false [x]))), (13, .d (.bool (d.begun.err false [x] != 0)))] ?_
    refine .if' (d.begun.err false [x] != 0) (cgo 19 [true] [.code B26]) (cgo 19 [false] [.code B26]) (fun h2 => ?_) (fun h2 => ?_)
    · simp only [bsX] at h2
      refine .sg0 5 [0, 1, 4] (cgo 24 [true] [.code B26]) [(4, .d (.int .i64 (d.begun.err false [x])))] ?_
      refine .raises [1, 3, 4, 5] ?_
      refine .kp [4] ?_
      refine .su [0, 1, 2, 3, 4, 5] (mk 51 [(4, .d (.int .i64 (d.begun.err false [x])))]) [.cells [.row 1, .ptr 2 0 0, .ep 2 (D.agg [D.list 1 (List.map strD d.begun.sk), D.list 1 (List.map intD d.begun.sv)]) 0, .row 5, .d (.int .i64 d.begun.quota), .d (.bool d.begun.full), .d (.bool d.begun.off), .d (.int .i64 d.begun.stop), .d (.int .i64 d.begun.calls)], .row 2 (List.map fileD d.begun.files) true, .cells [.row 3, .row 4], .row 1 (List.map strD d.begun.nk) true, .row 1 (List.map intD d.begun.nv) true, .row 3 (List.map chD d.begun.ch) true] ?_
      refine .retH F26 (v := V.d (D.int IntKind.i64 (d.begun.err false [x]))) (by kernel_rfl) (by kernel_rfl) ?_
      simp_all [SD, dirD, Dk.createE, Dk.createD, Dk.turn, fileD, chD, bsD, noName, i64]
    · simp only [bsX] at h2
      refine .sg0 6 [0, 1, 4, 16, 17] (cgo 25 [false] [.code B26]) [(16, .ptr 0 0 0), (17, .d (.str x))] ?_
      refine .ca [0, 1, 2, 3, 4, 5] (cgo 26 [false] [.code B26]) F65 (@spec_65 (d.begun) (x) (none) (by assumption) (by assumption) (by assumption) (by omega) (by assumption)) ?_
      rintro r2 s2 ⟨rfl, rfl⟩
      refine ⟨_, rfl, ?_⟩
      refine .sg0 15 [0, 1, 4, 7, 21, 22, 23, 24, 25, 26, 27] (cgo 41 [false] [.code B26]) [(7, .d (.bool false)), (21, .d (.bool false)), (22, .d (.bool true)), (23, .d (.bool true)), (24, .ptr 0 0 0), (25, .ptr 0 0 0), (26, .ptr 0 0 1), (27, .ptr 2 0 0)] ?_
      refine .ca [2, 3, 4] (cgo 42 [false] [.code B26]) F66 (@spec_66 (d.begun.nk) (d.begun.nv)) ?_
      rintro r3 s3 ⟨rfl, rfl⟩
      refine ⟨_, rfl, ?_⟩
      refine .sg0 3 [0, 1, 4, 30] (cgo 45 [false] [.code B26]) [(30, .d (.bool (decide ((↑d.begun.nk.length : Int) ≥ 1024))))] ?_
      refine .if' (decide ((↑d.begun.nk.length : Int) ≥ 1024)) (cgo 46 [false, true] [.code B26]) (cgo 46 [false, false] [.code B26]) (fun h5 => ?_) (fun h5 => ?_)
      · simp only [bsX] at h5
        refine .sg0 4 [0, 1, 4] (cgo 50 [false, true] [.code B26]) [(4, .d (.int .i64 2))] ?_
        refine .raises [1, 3, 4, 5] ?_
        refine .kp [4] ?_
        refine .su [0, 1, 2, 3, 4, 5] (mk 51 [(4, .d (.int .i64 2))]) [.cells [.row 1, .ptr 2 0 0, .ep 2 (D.agg [D.list 1 (List.map strD d.begun.sk), D.list 1 (List.map intD d.begun.sv)]) 0, .row 5, .d (.int .i64 d.begun.quota), .d (.bool d.begun.full), .d (.bool d.begun.off), .d (.int .i64 d.begun.stop), .d (.int .i64 d.begun.calls)], .row 2 (List.map fileD d.begun.files) true, .cells [.row 3, .row 4], .row 1 (List.map strD d.begun.nk) true, .row 1 (List.map intD d.begun.nv) true, .row 3 (List.map chD d.begun.ch) true] ?_
        refine .retH F26 (v := V.d (D.int IntKind.i64 2)) (by kernel_rfl) (by kernel_rfl) ?_
        have e : d.begun.createE x = 2 := by simp [Dk.createE, h2, hl]; omega
        have e' : d.begun.createD x = d.begun := by simp [Dk.createD, e]
        exact ⟨by rw [e], by rw [e']; rfl⟩
      · simp only [bsX] at h5
        refine .sg 10 [0, 1, 4, 31, 32, 33, 34, 35, 36, 37] (cgo 56 [false, false] [.code B26]) [(31, .ptr 0 0 0), (32, .ptr 0 0 0), (33, .ptr 0 0 0), (34, .ptr 0 0 0), (35, .row 1), (36, .agg [.ex 1 [], .d (.int .i64 0)]), (37, .row 7)] [(7, .row 2 [D.agg [D.list 1 [], D.int IntKind.i64 0]] false)] ?_
        refine .op' (cgo 57 [false, false] [.code B26]) (appRow_ok (s := (.tmp 35)) (x := (.tmp 37)) (t := 105) (t2 := 105) (sz := 2) (by' := 32) (ys := [D.agg [D.list 1 [], D.int IntKind.i64 0]]) (l := 1) (xs := List.map fileD d.begun.files) (mv := false) (by kernel_rfl) (by kernel_rfl) (by kernel_rfl) (by kernel_rfl) (by kernel_rfl) (by kernel_rfl) (by simp <;> omega) (by first | (simp [maxLen] <;> omega) | omega)) ?_
        refine .sg 15 [0, 1, 4, 41, 42, 43, 44, 45, 46, 47, 48, 49] (cgo 72 [false, false] [.code B26]) [(41, .ptr 0 0 0), (42, .d (.str x)), (43, .ptr 0 0 0), (44, .ptr 0 0 0), (45, .ptr 0 0 0), (46, .row 1), (47, .d (.int .i64 (↑(List.map fileD d.begun.files ++ [D.agg [D.list 1 [], D.int IntKind.i64 0]]).length : Int))), (48, .d (.int .i64 (IntKind.i64.wrap ((↑(List.map fileD d.begun.files ++ [D.agg [D.list 1 [], D.int IntKind.i64 0]]).length : Int) - 1)))), (49, .d (.agg [D.str (ByteArray.mk #[]), D.str x, D.int IntKind.i64 (IntKind.i64.wrap ((↑(List.map fileD d.begun.files ++ [D.agg [D.list 1 [], D.int IntKind.i64 0]]).length : Int) - 1))]))] [(0, .cells [.row 1, .ptr 2 0 0, .ep 2 (D.agg [D.list 1 (List.map strD d.begun.sk), D.list 1 (List.map intD d.begun.sv)]) 0, .row 5, .d (.int .i64 d.begun.quota), .d (.bool d.begun.full), .d (.bool d.begun.off), .d (.int .i64 d.begun.stop), .d (.int .i64 d.begun.calls)])] ?_
        refine .ca [0, 1, 2, 3, 4, 5] (cgo 73 [false, false] [.code B26]) F67 (@spec_67 (List.map fileD d.begun.files ++ [D.agg [D.list 1 [], D.int IntKind.i64 0]]) (D.agg [D.list 1 (List.map strD d.begun.sk), D.list 1 (List.map intD d.begun.sv)]) (List.map chD d.begun.ch) (d.begun.nk) (d.begun.nv) (d.begun.quota) (d.begun.stop) (d.begun.calls) (d.begun.full) (d.begun.off) (ByteArray.mk #[]) (x) (IntKind.i64.wrap ((↑(List.map fileD d.begun.files ++ [D.agg [D.list 1 [], D.int IntKind.i64 0]]).length : Int) - 1)) (by assumption) (by assumption) (by omega) (by simp <;> omega)) ?_
        rintro r5 s5 ⟨rfl, rfl⟩
        refine ⟨_, rfl, ?_⟩
        refine .sg0 5 [4] (cgo 78 [false, false] [.code B26]) [] ?_
        refine .kp [4] ?_
        refine .su [0, 1, 2, 3, 4, 5] (mk 51 [(4, .d (.int .i64 0))]) [.cells [.row 1, .ptr 2 0 0, .ep 2 (D.agg [D.list 1 (List.map strD d.begun.sk), D.list 1 (List.map intD d.begun.sv)]) 0, .row 5, .d (.int .i64 d.begun.quota), .d (.bool d.begun.full), .d (.bool d.begun.off), .d (.int .i64 d.begun.stop), .d (.int .i64 d.begun.calls)], .row 2 (List.map fileD d.begun.files ++ [D.agg [D.list 1 [], D.int IntKind.i64 0]]) true, .cells [.row 3, .row 4], .row 1 (List.map strD (kapply d.begun.nk d.begun.nv (ByteArray.mk #[]) x (IntKind.i64.wrap ((↑(List.map fileD d.begun.files ++ [D.agg [D.list 1 [], D.int IntKind.i64 0]]).length : Int) - 1))).fst) true, .row 1 (List.map intD (kapply d.begun.nk d.begun.nv (ByteArray.mk #[]) x (IntKind.i64.wrap ((↑(List.map fileD d.begun.files ++ [D.agg [D.list 1 [], D.int IntKind.i64 0]]).length : Int) - 1))).snd) true, .row 3 (List.map chD d.begun.ch ++ [D.agg [D.str (ByteArray.mk #[]), D.str x, D.int IntKind.i64 (IntKind.i64.wrap ((↑(List.map fileD d.begun.files ++ [D.agg [D.list 1 [], D.int IntKind.i64 0]]).length : Int) - 1))]]) true] ?_
        refine .retH F26 (v := V.d (D.int IntKind.i64 0)) (by kernel_rfl) (by kernel_rfl) ?_
        have e : d.begun.createE x = 0 := by simp [Dk.createE, h2, hl]; omega
        have hw : IntKind.i64.wrap (((List.map fileD d.begun.files ++ [D.agg [D.list 1 [], D.int IntKind.i64 0]]).length : Int) - 1) = (d.begun.files.length : Int) := by rw [wrap_i64 (by simp <;> omega) (by simp <;> omega)]; simp
        rw [hw]
        exact ⟨by rw [e], by simp [SD, dirD, Dk.createD, e, Dk.turn, fileD, chD, bsD, noName, i64]⟩
  | some k =>
    refine .sg 10 [0, 1, 4, 8, 9, 10] (cgo 10 [] [.code B26]) [(4, .d (.int .i64 0)), (8, .ptr 0 0 0), (9, .d (.str x)), (10, .row 6)] [(6, .row 1 [D.str x] false)] ?_
    refine .ca [0, 1, 2, 3, 4, 5, 6] (cgo 11 [] [.code B26]) F64 (@spec_64b (d) (N) (by assumption) (false) ([x]) ([D.str x]) (by assumption) (by simp; done) (by simp <;> omega) (by simp; done) (by assumption)) ?_
    rintro r0 s0 ⟨rfl, rfl⟩
    refine ⟨_, rfl, ?_⟩
    refine .sg0 7 [0, 1, 4, 5, 13] (cgo 18 [] [.code B26]) [(5, .d (.int .i64 (d.begun.err false [x]))), (13, .d (.bool (d.begun.err false [x] != 0)))] ?_
    refine .if' (d.begun.err false [x] != 0) (cgo 19 [true] [.code B26]) (cgo 19 [false] [.code B26]) (fun h2 => ?_) (fun h2 => ?_)
    · simp only [bsX] at h2
      refine .sg0 5 [0, 1, 4] (cgo 24 [true] [.code B26]) [(4, .d (.int .i64 (d.begun.err false [x])))] ?_
      refine .raises [1, 3, 4, 5] ?_
      refine .kp [4] ?_
      refine .su [0, 1, 2, 3, 4, 5] (mk 51 [(4, .d (.int .i64 (d.begun.err false [x])))]) [.cells [.row 1, .ptr 2 0 0, .ep 2 (D.agg [D.list 1 (List.map strD d.begun.sk), D.list 1 (List.map intD d.begun.sv)]) 0, .row 5, .d (.int .i64 d.begun.quota), .d (.bool d.begun.full), .d (.bool d.begun.off), .d (.int .i64 d.begun.stop), .d (.int .i64 d.begun.calls)], .row 2 (List.map fileD d.begun.files) true, .cells [.row 3, .row 4], .row 1 (List.map strD d.begun.nk) true, .row 1 (List.map intD d.begun.nv) true, .row 3 (List.map chD d.begun.ch) true] ?_
      refine .retH F26 (v := V.d (D.int IntKind.i64 (d.begun.err false [x]))) (by kernel_rfl) (by kernel_rfl) ?_
      simp_all [SD, dirD, Dk.createE, Dk.createD, Dk.turn, fileD, chD, bsD, noName, i64]
    · simp only [bsX] at h2
      refine .sg0 6 [0, 1, 4, 16, 17] (cgo 25 [false] [.code B26]) [(16, .ptr 0 0 0), (17, .d (.str x))] ?_
      refine .ca [0, 1, 2, 3, 4, 5] (cgo 26 [false] [.code B26]) F65 (@spec_65 (d.begun) (x) (some k) (by assumption) (by assumption) (by assumption) (by omega) (by assumption)) ?_
      rintro r2 s2 ⟨rfl, rfl⟩
      refine ⟨_, rfl, ?_⟩
      refine .sg 30 [0, 1, 4, 31, 32, 33, 34, 35, 36, 37] (cgo 56 [false, false] [.code B26]) [(31, .ptr 0 0 0), (32, .ptr 0 0 0), (33, .ptr 0 0 0), (34, .ptr 0 0 0), (35, .row 1), (36, .agg [.ex 1 [], .d (.int .i64 0)]), (37, .row 7)] [(7, .row 2 [D.agg [D.list 1 [], D.int IntKind.i64 0]] false)] ?_
      refine .op' (cgo 57 [false, false] [.code B26]) (appRow_ok (s := (.tmp 35)) (x := (.tmp 37)) (t := 105) (t2 := 105) (sz := 2) (by' := 32) (ys := [D.agg [D.list 1 [], D.int IntKind.i64 0]]) (l := 1) (xs := List.map fileD d.begun.files) (mv := false) (by kernel_rfl) (by kernel_rfl) (by kernel_rfl) (by kernel_rfl) (by kernel_rfl) (by kernel_rfl) (by simp <;> omega) (by first | (simp [maxLen] <;> omega) | omega)) ?_
      refine .sg 15 [0, 1, 4, 41, 42, 43, 44, 45, 46, 47, 48, 49] (cgo 72 [false, false] [.code B26]) [(41, .ptr 0 0 0), (42, .d (.str x)), (43, .ptr 0 0 0), (44, .ptr 0 0 0), (45, .ptr 0 0 0), (46, .row 1), (47, .d (.int .i64 (↑(List.map fileD d.begun.files ++ [D.agg [D.list 1 [], D.int IntKind.i64 0]]).length : Int))), (48, .d (.int .i64 (IntKind.i64.wrap ((↑(List.map fileD d.begun.files ++ [D.agg [D.list 1 [], D.int IntKind.i64 0]]).length : Int) - 1)))), (49, .d (.agg [D.str (ByteArray.mk #[]), D.str x, D.int IntKind.i64 (IntKind.i64.wrap ((↑(List.map fileD d.begun.files ++ [D.agg [D.list 1 [], D.int IntKind.i64 0]]).length : Int) - 1))]))] [(0, .cells [.row 1, .ptr 2 0 0, .ep 2 (D.agg [D.list 1 (List.map strD d.begun.sk), D.list 1 (List.map intD d.begun.sv)]) 0, .row 5, .d (.int .i64 d.begun.quota), .d (.bool d.begun.full), .d (.bool d.begun.off), .d (.int .i64 d.begun.stop), .d (.int .i64 d.begun.calls)])] ?_
      refine .ca [0, 1, 2, 3, 4, 5] (cgo 73 [false, false] [.code B26]) F67 (@spec_67 (List.map fileD d.begun.files ++ [D.agg [D.list 1 [], D.int IntKind.i64 0]]) (D.agg [D.list 1 (List.map strD d.begun.sk), D.list 1 (List.map intD d.begun.sv)]) (List.map chD d.begun.ch) (d.begun.nk) (d.begun.nv) (d.begun.quota) (d.begun.stop) (d.begun.calls) (d.begun.full) (d.begun.off) (ByteArray.mk #[]) (x) (IntKind.i64.wrap ((↑(List.map fileD d.begun.files ++ [D.agg [D.list 1 [], D.int IntKind.i64 0]]).length : Int) - 1)) (by assumption) (by assumption) (by omega) (by simp <;> omega)) ?_
      rintro r3 s3 ⟨rfl, rfl⟩
      refine ⟨_, rfl, ?_⟩
      refine .sg0 5 [4] (cgo 78 [false, false] [.code B26]) [] ?_
      refine .kp [4] ?_
      refine .su [0, 1, 2, 3, 4, 5] (mk 51 [(4, .d (.int .i64 0))]) [.cells [.row 1, .ptr 2 0 0, .ep 2 (D.agg [D.list 1 (List.map strD d.begun.sk), D.list 1 (List.map intD d.begun.sv)]) 0, .row 5, .d (.int .i64 d.begun.quota), .d (.bool d.begun.full), .d (.bool d.begun.off), .d (.int .i64 d.begun.stop), .d (.int .i64 d.begun.calls)], .row 2 (List.map fileD d.begun.files ++ [D.agg [D.list 1 [], D.int IntKind.i64 0]]) true, .cells [.row 3, .row 4], .row 1 (List.map strD (kapply d.begun.nk d.begun.nv (ByteArray.mk #[]) x (IntKind.i64.wrap ((↑(List.map fileD d.begun.files ++ [D.agg [D.list 1 [], D.int IntKind.i64 0]]).length : Int) - 1))).fst) true, .row 1 (List.map intD (kapply d.begun.nk d.begun.nv (ByteArray.mk #[]) x (IntKind.i64.wrap ((↑(List.map fileD d.begun.files ++ [D.agg [D.list 1 [], D.int IntKind.i64 0]]).length : Int) - 1))).snd) true, .row 3 (List.map chD d.begun.ch ++ [D.agg [D.str (ByteArray.mk #[]), D.str x, D.int IntKind.i64 (IntKind.i64.wrap ((↑(List.map fileD d.begun.files ++ [D.agg [D.list 1 [], D.int IntKind.i64 0]]).length : Int) - 1))]]) true] ?_
      refine .retH F26 (v := V.d (D.int IntKind.i64 0)) (by kernel_rfl) (by kernel_rfl) ?_
      have e : d.begun.createE x = 0 := by simp [Dk.createE, h2, hl]
      have hw : IntKind.i64.wrap (((List.map fileD d.begun.files ++ [D.agg [D.list 1 [], D.int IntKind.i64 0]]).length : Int) - 1) = (d.begun.files.length : Int) := by rw [wrap_i64 (by simp <;> omega) (by simp <;> omega)]; simp
      rw [hw]
      exact ⟨by rw [e], by simp [SD, dirD, Dk.createD, e, Dk.turn, fileD, chD, bsD, noName, i64]⟩
end Go.Proofs.Ytoelkgbeefoplaa
namespace Go.Proofs.Ytoelkgbeefoplaa
open Go Go.Br Go.Proofs
theorem Dk.err4 (d : Dk) (b : Bool) (l : List ByteArray) : d.err b l ≠ 4 := by
  unfold Dk.err
  split
  · simp
  · split
    · split <;> simp
    · simp
theorem Dk.used_le {d : Dk} {N : Nat} (h : d.Ok N) : d.used ≤ 52428800000 := by
  have e1 : d.acc d.nk.length = d.used := by unfold Dk.acc Dk.used; rw [← h.nl, List.take_length]
  have h2 := Dk.acc_le h d.nk.length
  have h3 := h.nkl
  have h4 := h.nb
  rw [e1] at h2
  omega
noncomputable def B31 : Code := (Try.f31.body).getD .skip
theorem F31 : Fnc Try.prog 31 Try.f31 B31 := ⟨Try.func31, by kernel_rfl, by kernel_rfl⟩
theorem spec_31 (d : Dk) (N : Nat) (h : d.Ok N) (hN : N + 2 ≤ 50000) (x : ByteArray) (hx : x.size < 1000000000) (bs : List UInt8) (hb : bs.length < 1000000000) :
    CallsA Try.prog 31 [.ptr 0 0 0, .d (.str x), .d (bsD bs)] (SD d false) fun r σ' => r = .ret (.d (.int .i64 (d.begun.appendE x bs))) ∧ σ' = SD (d.begun.appendD x bs) true := by
  refine CallsA.start F31 (tm := mk (Try.f31.ntmps) [(0, .ptr 0 0 0), (1, .d (.str x)), (2, .d (bsD bs))]) (by kernel_rfl) ?_
  have hk := Dk.begun_ok h (by omega : N + 1 ≤ 50000)
  have q1 := hk.nr
  have q2 := hk.nl
  have q3 := hk.nkl
  have q4 := hk.nb
  have q7 := hk.chl
  have q8 := hk.fl
  have q5 : ∀ k, look d.begun.nk d.begun.nv x = some k → 0 ≤ k ∧ k < d.begun.files.length := fun k hk' => hk.nn k (look_mem hk')
  have hn1 : [D.str x] = List.map strD [x] := rfl
  cases hl : look d.begun.nk d.begun.nv x with
  | none =>
    have he : d.begun.err true [x] ≠ 0 := by
      unfold Dk.err
      split
      · simp
      · split <;> simp [hl]
    refine .sg 10 [0, 1, 2, 6, 10, 11, 12] (cgo 10 [] [.code B31]) [(6, .d (.int .i64 0)), (10, .ptr 0 0 0), (11, .d (.str x)), (12, .row 6)] [(6, .row 1 [D.str x] false)] ?_
    refine .ca [0, 1, 2, 3, 4, 5, 6] (cgo 11 [] [.code B31]) F64 (@spec_64b (d) (N) (by assumption) (true) ([x]) ([D.str x]) (by assumption) (by simp; done) (by simp <;> omega) (by simp; done) (by assumption)) ?_
    rintro r0 s0 ⟨rfl, rfl⟩
    refine ⟨_, rfl, ?_⟩
    refine .sg0 7 [0, 1, 2, 6, 7, 15] (cgo 18 [] [.code B31]) [(7, .d (.int .i64 (d.begun.err true [x]))), (15, .d (.bool (d.begun.err true [x] != 0)))] ?_
    refine .if' (d.begun.err true [x] != 0) (cgo 19 [true] [.code B31]) (cgo 19 [false] [.code B31]) (fun h2 => ?_) (fun h2 => ?_)
    · simp only [bsX] at h2
      refine .sg0 5 [0, 1, 2, 6] (cgo 24 [true] [.code B31]) [(6, .d (.int .i64 (d.begun.err true [x])))] ?_
      refine .raises [1, 3, 4, 5] ?_
      refine .kp [6] ?_
      refine .su [0, 1, 2, 3, 4, 5] (mk 67 [(6, .d (.int .i64 (d.begun.err true [x])))]) [.cells [.row 1, .ptr 2 0 0, .ep 2 (D.agg [D.list 1 (List.map strD d.begun.sk), D.list 1 (List.map intD d.begun.sv)]) 0, .row 5, .d (.int .i64 d.begun.quota), .d (.bool d.begun.full), .d (.bool d.begun.off), .d (.int .i64 d.begun.stop), .d (.int .i64 d.begun.calls)], .row 2 (List.map fileD d.begun.files) true, .cells [.row 3, .row 4], .row 1 (List.map strD d.begun.nk) true, .row 1 (List.map intD d.begun.nv) true, .row 3 (List.map chD d.begun.ch) true] ?_
      refine .retH F31 (v := V.d (D.int IntKind.i64 (d.begun.err true [x]))) (by kernel_rfl) (by kernel_rfl) ?_
      have e : d.begun.appendE x bs = d.begun.err true [x] := by simp [Dk.appendE, h2]
      have e4 := d.begun.err4 true [x]
      have e' : d.begun.appendD x bs = d.begun := by simp [Dk.appendD, e, h2, e4]
      exact ⟨by rw [e], by rw [e']; rfl⟩
    · simp only [bsX] at h2
      omega
  | some k =>
    have q6 := q5 k hl
    have q61 := q6.1
    have hlt : k.toNat < d.begun.files.length := by omega
    obtain ⟨f, hf⟩ := get_some (l := d.begun.files) (i := k.toNat) hlt
    have hm := hk.fs f (List.mem_of_getElem? hf)
    have hfile : d.begun.file (d.begun.num x) = f := by simp [Dk.file, Dk.num, hl, List.getD_eq_getElem?_getD, hf]
    have hnum : d.begun.num x = k.toNat := by simp [Dk.num, hl]
    refine .sg 10 [0, 1, 2, 6, 10, 11, 12] (cgo 10 [] [.code B31]) [(6, .d (.int .i64 0)), (10, .ptr 0 0 0), (11, .d (.str x)), (12, .row 6)] [(6, .row 1 [D.str x] false)] ?_
    refine .ca [0, 1, 2, 3, 4, 5, 6] (cgo 11 [] [.code B31]) F64 (@spec_64b (d) (N) (by assumption) (true) ([x]) ([D.str x]) (by assumption) (by simp; done) (by simp <;> omega) (by simp; done) (by assumption)) ?_
    rintro r0 s0 ⟨rfl, rfl⟩
    refine ⟨_, rfl, ?_⟩
    refine .sg0 7 [0, 1, 2, 6, 7, 15] (cgo 18 [] [.code B31]) [(7, .d (.int .i64 (d.begun.err true [x]))), (15, .d (.bool (d.begun.err true [x] != 0)))] ?_
    refine .if' (d.begun.err true [x] != 0) (cgo 19 [true] [.code B31]) (cgo 19 [false] [.code B31]) (fun h2 => ?_) (fun h2 => ?_)
    · simp only [bsX] at h2
      refine .sg0 5 [0, 1, 2, 6] (cgo 24 [true] [.code B31]) [(6, .d (.int .i64 (d.begun.err true [x])))] ?_
      refine .raises [1, 3, 4, 5] ?_
      refine .kp [6] ?_
      refine .su [0, 1, 2, 3, 4, 5] (mk 67 [(6, .d (.int .i64 (d.begun.err true [x])))]) [.cells [.row 1, .ptr 2 0 0, .ep 2 (D.agg [D.list 1 (List.map strD d.begun.sk), D.list 1 (List.map intD d.begun.sv)]) 0, .row 5, .d (.int .i64 d.begun.quota), .d (.bool d.begun.full), .d (.bool d.begun.off), .d (.int .i64 d.begun.stop), .d (.int .i64 d.begun.calls)], .row 2 (List.map fileD d.begun.files) true, .cells [.row 3, .row 4], .row 1 (List.map strD d.begun.nk) true, .row 1 (List.map intD d.begun.nv) true, .row 3 (List.map chD d.begun.ch) true] ?_
      refine .retH F31 (v := V.d (D.int IntKind.i64 (d.begun.err true [x]))) (by kernel_rfl) (by kernel_rfl) ?_
      have e : d.begun.appendE x bs = d.begun.err true [x] := by simp [Dk.appendE, h2]
      have e4 := d.begun.err4 true [x]
      have e' : d.begun.appendD x bs = d.begun := by simp [Dk.appendD, e, h2, e4]
      exact ⟨by rw [e], by rw [e']; rfl⟩
    · simp only [bsX] at h2
      refine .sg0 5 [0, 1, 2, 6, 18, 19] (cgo 24 [false] [.code B31]) [(18, .ptr 0 0 0), (19, .d (.str x))] ?_
      refine .ca [0, 1, 2, 3, 4, 5] (cgo 25 [false] [.code B31]) F65 (@spec_65 (d.begun) (x) (some k) (by assumption) (by assumption) (by assumption) (by omega) (by assumption)) ?_
      rintro r2 s2 ⟨rfl, rfl⟩
      refine ⟨_, rfl, ?_⟩
      refine .sg0 15 [0, 2, 6, 8, 24, 25, 26, 27, 28] (cgo 40 [false] [.code B31]) [(8, .ptr 1 k.toNat 0), (24, .d (.list 1 (List.map u8 bs))), (25, .d (.int .i64 (↑(List.map u8 bs).length : Int))), (26, .ptr 1 k.toNat 0), (27, .ptr 1 k.toNat 0), (28, .ptr 1 k.toNat 0)] ?_
      simp only [List.length_map]
      refine .op' (cgo 41 [false] [.code B31]) (ldRow_ok (t := 22) (x := (.tmp 28)) (l := 1) (i := k.toNat) (s := 0) (sz := 2) (xs := List.map fileD d.begun.files) (mv := false) (d := fileD f) (v := .d (.list 1 (List.map u8 f.fst))) (by kernel_rfl) (by kernel_rfl) (by kernel_rfl) (map_get hf) (by kernel_rfl)) ?_
      refine .sg0 5 [0, 2, 6, 8, 23] (cgo 46 [false] [.code B31]) [(23, .d (.bool (decide ((↑bs.length : Int) > IntKind.i64.wrap (1048576 - (↑(List.map u8 f.fst).length : Int))))))] ?_
      simp only [List.length_map]
      simp (disch := omega) only [wrap_i64, wrap_u64s, wrap_u32s, wrap_u8s, wrap_i32s, iadd_i64, isub_i64, irem_n, iquo_n, tdiv_nn, tmod_nn]
      refine .if' (decide ((↑bs.length : Int) > 1048576 - (↑f.fst.length : Int))) (cgo 47 [false, true] [.code B31]) (cgo 47 [false, false] [.code B31]) (fun h4 => ?_) (fun h4 => ?_)
      · simp only [bsX] at h4
        refine .sg0 4 [2, 6, 8] (cgo 51 [false, true] [.code B31]) [(6, .d (.int .i64 2))] ?_
        refine .raises [1, 3, 4, 5] ?_
        refine .kp [6] ?_
        refine .su [0, 1, 2, 3, 4, 5] (mk 67 [(6, .d (.int .i64 2))]) [.cells [.row 1, .ptr 2 0 0, .ep 2 (D.agg [D.list 1 (List.map strD d.begun.sk), D.list 1 (List.map intD d.begun.sv)]) 0, .row 5, .d (.int .i64 d.begun.quota), .d (.bool d.begun.full), .d (.bool d.begun.off), .d (.int .i64 d.begun.stop), .d (.int .i64 d.begun.calls)], .row 2 (List.map fileD d.begun.files) true, .cells [.row 3, .row 4], .row 1 (List.map strD d.begun.nk) true, .row 1 (List.map intD d.begun.nv) true, .row 3 (List.map chD d.begun.ch) true] ?_
        refine .retH F31 (v := V.d (D.int IntKind.i64 2)) (by kernel_rfl) (by kernel_rfl) ?_
        simp_all [SD, dirD, Dk.appendE, Dk.appendD]
      · simp only [bsX] at h4
        refine .sg0 1 [0, 2, 6, 8] (cgo 48 [false, false] [.code B31]) [] ?_
        refine .dr (cgo 49 [false, false] [.code B31]) [(33, .d (.bool (decide ((↑(List.map u8 bs).length : Int) > IntKind.i64.wrap (d.begun.quota - (↑d.begun.used : Int)))))), (34, .d (.list 1 (List.map u8 bs))), (35, .d (.int .i64 (↑(List.map u8 bs).length : Int))), (36, .ptr 0 0 0), (37, .ptr 0 0 0), (38, .ptr 0 0 4), (39, .d (.int .i64 d.begun.quota)), (40, .ptr 0 0 0), (41, .d (.int .i64 (↑d.begun.used : Int))), (42, .d (.int .i64 (IntKind.i64.wrap (d.begun.quota - (↑d.begun.used : Int))))), (43, .d (.bool (decide ((↑(List.map u8 bs).length : Int) > IntKind.i64.wrap (d.begun.quota - (↑d.begun.used : Int))))))] [] (fun kz L hL => ?_) ?_
        · refine ⟨[⟨[], [], [], [], [], [], true, false⟩, ⟨[], [], [], [], [], [], true, false⟩, ⟨[], [], [], [0], [0], [], true, false⟩, ⟨[], [], [], [0], [0], [0], true, false⟩, ⟨[], [], [], [0], [0], [0], true, false⟩, ⟨[0], [], [], [], [0, 1, 2, 5], [], true, false⟩, ⟨[], [], [], [0], [0], [], true, false⟩, ⟨[0, 1, 2, 3, 4, 5], [], [], [], [0, 1, 2, 5, 3, 4], [], true, false⟩, ⟨[], [], [], [], [], [], true, false⟩, ⟨[], [], [], [], [], [], true, false⟩, ⟨[], [], [], [], [], [], true, false⟩], run_amongF hL _ [] [0, 2, 3, 4, 5, 6, 1, 7, 8, 9, 10] (by intro p hp; cases hp) (by kernel_rfl) ?_⟩
          refine Run.ap [0, 2, 3, 4, 5, 6, 1] [(34, .d (.list 1 (List.map u8 bs))), (35, .d (.int .i64 (↑(List.map u8 bs).length : Int))), (36, .ptr 0 0 0), (37, .ptr 0 0 0), (38, .ptr 0 0 4), (39, .d (.int .i64 d.begun.quota)), (40, .ptr 0 0 0)] [] ?_
          refine Run.one (StepF.callLook (o := ((drawOf (cgo 48 [false, false] [.code B31]))[7]?).getD default) (x := (.func 68)) (args := #[(.tmp 40)]) (ts := #[40]) (first := []) (cap := []) [0, 1, 2, 3, 4, 5] [.ptr 0 0 0] [.cells [.row 1, .ptr 2 0 0, .ep 2 (D.agg [D.list 1 (List.map strD d.begun.sk), D.list 1 (List.map intD d.begun.sv)]) 0, .row 5, .d (.int .i64 d.begun.quota), .d (.bool d.begun.full), .d (.bool d.begun.off), .d (.int .i64 d.begun.stop), .d (.int .i64 d.begun.calls)], .row 2 (List.map fileD d.begun.files) false, .cells [.row 3, .row 4], .row 1 (List.map strD d.begun.nk) false, .row 1 (List.map intD d.begun.nv) false, .row 3 (List.map chD d.begun.ch) false] (v := .d (.int .i64 (↑d.begun.used : Int))) (by kernel_rfl) rfl (by kernel_rfl) (by kernel_rfl) F68 (@spec_68 (d.begun) (N + 1) (by assumption)) (by kernel_rfl) (by kernel_rfl) (by kernel_rfl) (by kernel_rfl) ⟨rfl, rfl, by kernel_rfl⟩ (by kernel_rfl) (by kernel_rfl) (by kernel_rfl) (by kernel_rfl) (by kernel_rfl)) ?_
          exact Run.fin
        refine .if' (decide ((↑(List.map u8 bs).length : Int) > IntKind.i64.wrap (d.begun.quota - (↑d.begun.used : Int)))) (cgo 50 [false, false, true] [.code B31]) (cgo 50 [false, false, false] [.code B31]) (fun h8 => ?_) (fun h8 => ?_)
        · simp only [bsX] at h8
          refine .sg 11 [2, 6, 8] (cgo 61 [false, false, true] [.code B31]) [(6, .d (.int .i64 4))] [(0, .cells [.row 1, .ptr 2 0 0, .ep 2 (D.agg [D.list 1 (List.map strD d.begun.sk), D.list 1 (List.map intD d.begun.sv)]) 0, .row 5, .d (.int .i64 d.begun.quota), .d (.bool true), .d (.bool d.begun.off), .d (.int .i64 d.begun.stop), .d (.int .i64 d.begun.calls)])] ?_
          refine .raises [1, 3, 4, 5] ?_
          refine .kp [6] ?_
          refine .su [0, 1, 2, 3, 4, 5] (mk 67 [(6, .d (.int .i64 4))]) [.cells [.row 1, .ptr 2 0 0, .ep 2 (D.agg [D.list 1 (List.map strD d.begun.sk), D.list 1 (List.map intD d.begun.sv)]) 0, .row 5, .d (.int .i64 d.begun.quota), .d (.bool true), .d (.bool d.begun.off), .d (.int .i64 d.begun.stop), .d (.int .i64 d.begun.calls)], .row 2 (List.map fileD d.begun.files) true, .cells [.row 3, .row 4], .row 1 (List.map strD d.begun.nk) true, .row 1 (List.map intD d.begun.nv) true, .row 3 (List.map chD d.begun.ch) true] ?_
          refine .retH F31 (v := V.d (D.int IntKind.i64 4)) (by kernel_rfl) (by kernel_rfl) ?_
          have hu := Dk.used_le hk
          have hq0 := hk.q0
          have hq1 := hk.q1
          have hw : IntKind.i64.wrap (d.begun.quota - (d.begun.used : Int)) = d.begun.quota - (d.begun.used : Int) := wrap_i64 (by omega) (by omega)
          rw [hw, List.length_map] at h8
          have e : d.begun.appendE x bs = 4 := by
            unfold Dk.appendE
            rw [if_neg (by simp [h2]), hfile, if_neg (by omega), if_pos (by omega)]
          have e' : d.begun.appendD x bs = { d.begun with full := true } := by simp [Dk.appendD, e]
          exact ⟨by rw [e], by rw [e']; rfl⟩
        · simp only [bsX] at h8
          refine .sg0 3 [2, 6, 8] (cgo 53 [false, false, false] [.code B31]) [] ?_
          refine .dr (cgo 54 [false, false, false] [.code B31]) [(47, .ptr 1 k.toNat 0), (48, .ptr 1 k.toNat 0), (49, .ptr 1 k.toNat 0), (50, .ptr 1 k.toNat 0), (51, .d (.list 1 (List.map u8 f.fst))), (52, .ptr 1 k.toNat 0), (53, .ptr 1 k.toNat 0), (54, .ptr 1 k.toNat 0), (55, .d (.list 1 (List.map u8 f.fst))), (56, .d (.int .i64 (↑(List.map u8 f.fst).length : Int))), (57, .ptr 1 k.toNat 0), (58, .ptr 1 k.toNat 0), (59, .ptr 1 k.toNat 0), (60, .d (.list 1 (List.map u8 f.fst))), (61, .d (.int .i64 (↑(List.map u8 f.fst).length : Int))), (62, .ex 1 (List.drop 0 (List.take (List.map u8 f.fst).length (List.map u8 f.fst)))), (63, .d (.list 1 (List.map u8 bs))), (64, .d (.list 1 (List.drop 0 (List.take (List.map u8 f.fst).length (List.map u8 f.fst)) ++ List.map u8 bs))), (65, .ptr 1 k.toNat 0), (66, .ptr 1 k.toNat 0)] [(1, .row 2 ((List.map fileD d.begun.files).set k.toNat (D.agg [D.list 1 (List.drop 0 (List.take (List.map u8 f.fst).length (List.map u8 f.fst)) ++ List.map u8 bs), D.int IntKind.i64 (↑f.snd : Int)])) false)] (fun kz L hL => ?_) ?_
          · refine ⟨[⟨[], [], [], [1], [1], [], true, false⟩, ⟨[], [], [], [1], [1], [], true, false⟩, ⟨[], [], [], [1], [1], [1], true, false⟩, ⟨[], [], [], [1], [1], [1], true, false⟩, ⟨[1], [], [], [], [1], [], true, false⟩, ⟨[], [], [], [1], [1], [], true, false⟩, ⟨[], [], [], [1], [1], [1], true, false⟩, ⟨[], [], [], [1], [1], [1], true, false⟩, ⟨[1], [], [], [], [1], [], true, false⟩, ⟨[], [], [], [], [], [], true, false⟩, ⟨[], [], [], [1], [1], [], true, false⟩, ⟨[], [], [], [1], [1], [1], true, false⟩, ⟨[], [], [], [1], [1], [1], true, false⟩, ⟨[1], [], [], [], [1], [], true, false⟩, ⟨[], [], [], [], [], [], true, false⟩, ⟨[], [], [], [], [], [], true, false⟩, ⟨[], [], [], [], [], [], true, false⟩, ⟨[], [], [], [], [], [], true, false⟩, ⟨[], [], [], [1], [1], [1], true, false⟩, ⟨[], [], [], [1], [1], [1], true, false⟩, ⟨[1], [1], [], [], [1], [], true, false⟩], run_amongF hL _ [] [0, 1, 2, 3, 4, 5, 6, 7, 8, 10, 11, 12, 13, 16, 9, 14, 15, 17, 18, 19, 20] (by intro p hp; cases hp) (by kernel_rfl) ?_⟩
            refine Run.ap [0, 1, 2, 3] [(47, .ptr 1 k.toNat 0), (48, .ptr 1 k.toNat 0), (49, .ptr 1 k.toNat 0), (50, .ptr 1 k.toNat 0)] [] ?_
            refine Run.one (StepF.look (o := ((drawOf (cgo 53 [false, false, false] [.code B31]))[4]?).getD default) (v := .d (.list 1 (List.map u8 f.fst))) [(.tmp 50)] (by kernel_rfl) rfl (by kernel_rfl) (by kernel_rfl) (by kernel_rfl) (by kernel_rfl) (by kernel_rfl) (fun tm' σ2 hv hr => ldRow_ok (t := 22) (x := (.tmp 50)) (l := 1) (i := k.toNat) (s := 0) (sz := 2) (xs := List.map fileD d.begun.files) (mv := false) (d := fileD f) (v := .d (.list 1 (List.map u8 f.fst))) (by kernel_rfl) (by rw [hv _ (by simp)]; kernel_rfl) ((hr _ (inK_iff.1 (by kernel_rfl))).trans (by kernel_rfl)) (map_get hf) (by kernel_rfl))) ?_
            refine Run.ap [5, 6, 7] [(52, .ptr 1 k.toNat 0), (53, .ptr 1 k.toNat 0), (54, .ptr 1 k.toNat 0)] [] ?_
            refine Run.one (StepF.look (o := ((drawOf (cgo 53 [false, false, false] [.code B31]))[8]?).getD default) (v := .d (.list 1 (List.map u8 f.fst))) [(.tmp 54)] (by kernel_rfl) rfl (by kernel_rfl) (by kernel_rfl) (by kernel_rfl) (by kernel_rfl) (by kernel_rfl) (fun tm' σ2 hv hr => ldRow_ok (t := 22) (x := (.tmp 54)) (l := 1) (i := k.toNat) (s := 0) (sz := 2) (xs := List.map fileD d.begun.files) (mv := false) (d := fileD f) (v := .d (.list 1 (List.map u8 f.fst))) (by kernel_rfl) (by rw [hv _ (by simp)]; kernel_rfl) ((hr _ (inK_iff.1 (by kernel_rfl))).trans (by kernel_rfl)) (map_get hf) (by kernel_rfl))) ?_
            refine Run.ap [10, 11, 12] [(57, .ptr 1 k.toNat 0), (58, .ptr 1 k.toNat 0), (59, .ptr 1 k.toNat 0)] [] ?_
            refine Run.one (StepF.look (o := ((drawOf (cgo 53 [false, false, false] [.code B31]))[13]?).getD default) (v := .d (.list 1 (List.map u8 f.fst))) [(.tmp 59)] (by kernel_rfl) rfl (by kernel_rfl) (by kernel_rfl) (by kernel_rfl) (by kernel_rfl) (by kernel_rfl) (fun tm' σ2 hv hr => ldRow_ok (t := 22) (x := (.tmp 59)) (l := 1) (i := k.toNat) (s := 0) (sz := 2) (xs := List.map fileD d.begun.files) (mv := false) (d := fileD f) (v := .d (.list 1 (List.map u8 f.fst))) (by kernel_rfl) (by rw [hv _ (by simp)]; kernel_rfl) ((hr _ (inK_iff.1 (by kernel_rfl))).trans (by kernel_rfl)) (map_get hf) (by kernel_rfl))) ?_
            refine Run.ap [16, 9, 14] [(56, .d (.int .i64 (↑(List.map u8 f.fst).length : Int))), (61, .d (.int .i64 (↑(List.map u8 f.fst).length : Int))), (63, .d (.list 1 (List.map u8 bs)))] [] ?_
            refine Run.one (StepF.look (o := ((drawOf (cgo 53 [false, false, false] [.code B31]))[15]?).getD default) (v := .ex 1 (List.drop 0 (List.take (List.map u8 f.fst).length (List.map u8 f.fst)))) [(.tmp 51), (.tmp 56), (.tmp 61)] (by kernel_rfl) rfl (by kernel_rfl) (by kernel_rfl) (by kernel_rfl) (by kernel_rfl) (by kernel_rfl) (fun tm' σ2 hv hr => sl3Data_ok (t := 22) (x := (.tmp 51)) (lo := none) (y := (.tmp 56)) (z := (.tmp 61)) (sz := 1) (xs := List.map u8 f.fst) (0) ((List.map u8 f.fst).length) (by kernel_rfl) (by rw [hv _ (by simp)]; kernel_rfl) (by kernel_rfl) rfl (bnd_some (k := IntKind.i64) (i := (↑(List.map u8 f.fst).length : Int)) (by rw [hv _ (by simp)]; kernel_rfl) (by omega) (by rfl)) (bnd_some (k := IntKind.i64) (i := (↑(List.map u8 f.fst).length : Int)) (by rw [hv _ (by simp)]; kernel_rfl) (by omega) (by rfl)) (by omega) (by omega))) ?_
            refine Run.one (StepF.look (o := ((drawOf (cgo 53 [false, false, false] [.code B31]))[17]?).getD default) (v := .d (.list 1 (List.drop 0 (List.take (List.map u8 f.fst).length (List.map u8 f.fst)) ++ List.map u8 bs))) [(.tmp 62), (.tmp 63)] (by kernel_rfl) rfl (by kernel_rfl) (by kernel_rfl) (by kernel_rfl) (by kernel_rfl) (by kernel_rfl) (fun tm' σ2 hv hr => appExD_ok (s := (.tmp 62)) (x := (.tmp 63)) (t := 22) (t2 := 22) (sz := 1) (by' := 1) (ys := List.map u8 bs) (xs := List.drop 0 (List.take (List.map u8 f.fst).length (List.map u8 f.fst))) (by kernel_rfl) (by rw [hv _ (by simp)]; kernel_rfl) (by rw [hv _ (by simp)]; exact (cont_at fun l hl => hr l (subB_in (by kernel_rfl) hl)).trans (by kernel_rfl)) (by kernel_rfl) (by kernel_rfl) (by simp <;> omega) (by first | (simp [maxLen] <;> omega) | omega))) ?_
            refine Run.ap [18, 19] [(65, .ptr 1 k.toNat 0), (66, .ptr 1 k.toNat 0)] [] ?_
            refine Run.one (StepF.sets (o := ((drawOf (cgo 53 [false, false, false] [.code B31]))[20]?).getD default) (v := .undef) [(.tmp 66), (.tmp 64)] 1 (.row 2 ((List.map fileD d.begun.files).set k.toNat (D.agg [D.list 1 (List.drop 0 (List.take (List.map u8 f.fst).length (List.map u8 f.fst)) ++ List.map u8 bs), D.int IntKind.i64 (↑f.snd : Int)])) false) (by kernel_rfl) rfl (by kernel_rfl) (by kernel_rfl) (by kernel_rfl) (by kernel_rfl) (by kernel_rfl) (fun tm' σ2 hv hr => stRow_ok (t := 22) (x := (.tmp 66)) (y := (.tmp 64)) (l := 1) (i := k.toNat) (s := 0) (sz := 2) (xs := List.map fileD d.begun.files) (mv := false) (d := fileD f) (d' := D.agg [D.list 1 (List.drop 0 (List.take (List.map u8 f.fst).length (List.map u8 f.fst)) ++ List.map u8 bs), D.int IntKind.i64 (↑f.snd : Int)]) (by kernel_rfl) (by rw [hv _ (by simp)]; kernel_rfl) ((hr _ (inK_iff.1 (by kernel_rfl))).trans (by kernel_rfl)) (map_get hf) (by unfold storeE; rw [hv _ (by simp)]; kernel_rfl))) ?_
            exact Run.fin
          refine .sg0 4 [6] (cgo 58 [false, false, false] [.code B31]) [] ?_
          simp only [List.length_map]
          refine .raises [1, 3, 4, 5] ?_
          refine .kp [6] ?_
          refine .su [0, 1, 2, 3, 4, 5] (mk 67 [(6, .d (.int .i64 0))]) [.cells [.row 1, .ptr 2 0 0, .ep 2 (D.agg [D.list 1 (List.map strD d.begun.sk), D.list 1 (List.map intD d.begun.sv)]) 0, .row 5, .d (.int .i64 d.begun.quota), .d (.bool d.begun.full), .d (.bool d.begun.off), .d (.int .i64 d.begun.stop), .d (.int .i64 d.begun.calls)], .row 2 ((List.map fileD d.begun.files).set k.toNat (D.agg [D.list 1 (List.drop 0 (List.take f.fst.length (List.map u8 f.fst)) ++ List.map u8 bs), D.int IntKind.i64 (↑f.snd : Int)])) true, .cells [.row 3, .row 4], .row 1 (List.map strD d.begun.nk) true, .row 1 (List.map intD d.begun.nv) true, .row 3 (List.map chD d.begun.ch) true] ?_
          refine .retH F31 (v := V.d (D.int IntKind.i64 0)) (by kernel_rfl) (by kernel_rfl) ?_
          have hu := Dk.used_le hk
          have hq0 := hk.q0
          have hq1 := hk.q1
          have hw : IntKind.i64.wrap (d.begun.quota - (d.begun.used : Int)) = d.begun.quota - (d.begun.used : Int) := wrap_i64 (by omega) (by omega)
          rw [hw, List.length_map] at h8
          have e : d.begun.appendE x bs = 0 := by
            unfold Dk.appendE
            rw [if_neg (by simp [h2]), hfile, if_neg (by omega), if_neg (by omega)]
          have hf2 : d.begun.file k.toNat = f := by rw [← hnum]; exact hfile
          have e' : d.begun.appendD x bs = { d.begun with files := d.begun.files.set k.toNat (f.1 ++ bs, f.2) } := by simp [Dk.appendD, e, hf2, hnum]
          have e3 : List.take f.1.length (List.map u8 f.1) = List.map u8 f.1 := List.take_of_length_le (by simp)
          refine ⟨by rw [e], ?_⟩
          rw [e', e3]
          simp [SD, dirD, List.map_set, fileD, bsD, i64]
end Go.Proofs.Ytoelkgbeefoplaa
namespace Go.Proofs.Ytoelkgbeefoplaa
open Go Go.Br Go.Proofs
noncomputable def B32 : Code := (Try.f32.body).getD .skip
theorem F32 : Fnc Try.prog 32 Try.f32 B32 := ⟨Try.func32, by kernel_rfl, by kernel_rfl⟩
noncomputable def B34 : Code := (Try.f34.body).getD .skip
theorem F34 : Fnc Try.prog 34 Try.f34 B34 := ⟨Try.func34, by kernel_rfl, by kernel_rfl⟩
noncomputable def B78 : Code := (Try.f78.body).getD .skip
theorem F78 : Fnc Try.prog 78 Try.f78 B78 := ⟨Try.func78, by kernel_rfl, by kernel_rfl⟩
theorem spec_32 (d : Dk) (N : Nat) (h : d.Ok N) (hN : N + 2 ≤ 50000) (x : ByteArray) (hx : x.size < 1000000000) :
    CallsA Try.prog 32 [.ptr 0 0 0, .d (.str x)] (SD d false) fun r σ' => r = .ret (.d (.int .i64 (d.begun.err true [x]))) ∧ σ' = SD (d.begun.syncD x) true := by
  refine CallsA.start F32 (tm := mk (Try.f32.ntmps) [(0, .ptr 0 0 0), (1, .d (.str x))]) (by kernel_rfl) ?_
  have hk := Dk.begun_ok h (by omega : N + 1 ≤ 50000)
  have q1 := hk.nr
  have q2 := hk.nl
  have q3 := hk.nkl
  have q4 := hk.nb
  have q7 := hk.chl
  have q8 := hk.fl
  have q5 : ∀ k, look d.begun.nk d.begun.nv x = some k → 0 ≤ k ∧ k < d.begun.files.length := fun k hk' => hk.nn k (look_mem hk')
  have hn1 : [D.str x] = List.map strD [x] := rfl
  cases hl : look d.begun.nk d.begun.nv x with
  | none =>
    have he : d.begun.err true [x] ≠ 0 := by
      unfold Dk.err
      split
      · simp
      · split <;> simp [hl]
    refine .sg 10 [0, 1, 4, 8, 9, 10] (cgo 10 [] [.code B32]) [(4, .d (.int .i64 0)), (8, .ptr 0 0 0), (9, .d (.str x)), (10, .row 6)] [(6, .row 1 [D.str x] false)] ?_
    refine .ca [0, 1, 2, 3, 4, 5, 6] (cgo 11 [] [.code B32]) F64 (@spec_64b (d) (N) (by assumption) (true) ([x]) ([D.str x]) (by assumption) (by simp; done) (by simp <;> omega) (by simp; done) (by assumption)) ?_
    rintro r0 s0 ⟨rfl, rfl⟩
    refine ⟨_, rfl, ?_⟩
    refine .sg0 7 [0, 1, 4, 5, 13] (cgo 18 [] [.code B32]) [(5, .d (.int .i64 (d.begun.err true [x]))), (13, .d (.bool (d.begun.err true [x] != 0)))] ?_
    refine .if' (d.begun.err true [x] != 0) (cgo 19 [true] [.code B32]) (cgo 19 [false] [.code B32]) (fun h2 => ?_) (fun h2 => ?_)
    · simp only [bsX] at h2
      refine .sg0 5 [0, 1, 4] (cgo 24 [true] [.code B32]) [(4, .d (.int .i64 (d.begun.err true [x])))] ?_
      refine .raises [1, 3, 4, 5] ?_
      refine .kp [4] ?_
      refine .su [0, 1, 2, 3, 4, 5] (mk 29 [(4, .d (.int .i64 (d.begun.err true [x])))]) [.cells [.row 1, .ptr 2 0 0, .ep 2 (D.agg [D.list 1 (List.map strD d.begun.sk), D.list 1 (List.map intD d.begun.sv)]) 0, .row 5, .d (.int .i64 d.begun.quota), .d (.bool d.begun.full), .d (.bool d.begun.off), .d (.int .i64 d.begun.stop), .d (.int .i64 d.begun.calls)], .row 2 (List.map fileD d.begun.files) true, .cells [.row 3, .row 4], .row 1 (List.map strD d.begun.nk) true, .row 1 (List.map intD d.begun.nv) true, .row 3 (List.map chD d.begun.ch) true] ?_
      refine .retH F32 (v := V.d (D.int IntKind.i64 (d.begun.err true [x]))) (by kernel_rfl) (by kernel_rfl) ?_
      simp_all [SD, dirD, Dk.syncD]
    · simp only [bsX] at h2
      omega
  | some k =>
    have q6 := q5 k hl
    have q61 := q6.1
    have hlt : k.toNat < d.begun.files.length := by omega
    obtain ⟨f, hf⟩ := get_some (l := d.begun.files) (i := k.toNat) hlt
    have hm := hk.fs f (List.mem_of_getElem? hf)
    have hfile : d.begun.file (d.begun.num x) = f := by simp [Dk.file, Dk.num, hl, List.getD_eq_getElem?_getD, hf]
    have hnum : d.begun.num x = k.toNat := by simp [Dk.num, hl]
    refine .sg 10 [0, 1, 4, 8, 9, 10] (cgo 10 [] [.code B32]) [(4, .d (.int .i64 0)), (8, .ptr 0 0 0), (9, .d (.str x)), (10, .row 6)] [(6, .row 1 [D.str x] false)] ?_
    refine .ca [0, 1, 2, 3, 4, 5, 6] (cgo 11 [] [.code B32]) F64 (@spec_64b (d) (N) (by assumption) (true) ([x]) ([D.str x]) (by assumption) (by simp; done) (by simp <;> omega) (by simp; done) (by assumption)) ?_
    rintro r0 s0 ⟨rfl, rfl⟩
    refine ⟨_, rfl, ?_⟩
    refine .sg0 7 [0, 1, 4, 5, 13] (cgo 18 [] [.code B32]) [(5, .d (.int .i64 (d.begun.err true [x]))), (13, .d (.bool (d.begun.err true [x] != 0)))] ?_
    refine .if' (d.begun.err true [x] != 0) (cgo 19 [true] [.code B32]) (cgo 19 [false] [.code B32]) (fun h2 => ?_) (fun h2 => ?_)
    · simp only [bsX] at h2
      refine .sg0 5 [0, 1, 4] (cgo 24 [true] [.code B32]) [(4, .d (.int .i64 (d.begun.err true [x])))] ?_
      refine .raises [1, 3, 4, 5] ?_
      refine .kp [4] ?_
      refine .su [0, 1, 2, 3, 4, 5] (mk 29 [(4, .d (.int .i64 (d.begun.err true [x])))]) [.cells [.row 1, .ptr 2 0 0, .ep 2 (D.agg [D.list 1 (List.map strD d.begun.sk), D.list 1 (List.map intD d.begun.sv)]) 0, .row 5, .d (.int .i64 d.begun.quota), .d (.bool d.begun.full), .d (.bool d.begun.off), .d (.int .i64 d.begun.stop), .d (.int .i64 d.begun.calls)], .row 2 (List.map fileD d.begun.files) true, .cells [.row 3, .row 4], .row 1 (List.map strD d.begun.nk) true, .row 1 (List.map intD d.begun.nv) true, .row 3 (List.map chD d.begun.ch) true] ?_
      refine .retH F32 (v := V.d (D.int IntKind.i64 (d.begun.err true [x]))) (by kernel_rfl) (by kernel_rfl) ?_
      simp_all [SD, dirD, Dk.syncD, fileD, bsD, i64]
    · simp only [bsX] at h2
      refine .sg0 5 [0, 1, 4, 16, 17] (cgo 24 [false] [.code B32]) [(16, .ptr 0 0 0), (17, .d (.str x))] ?_
      refine .ca [0, 1, 2, 3, 4, 5] (cgo 25 [false] [.code B32]) F65 (@spec_65 (d.begun) (x) (some k) (by assumption) (by assumption) (by assumption) (by omega) (by assumption)) ?_
      rintro r2 s2 ⟨rfl, rfl⟩
      refine ⟨_, rfl, ?_⟩
      refine .sg0 12 [4, 6, 21, 22, 23, 24] (cgo 37 [false] [.code B32]) [(6, .ptr 1 k.toNat 0), (21, .ptr 1 k.toNat 0), (22, .ptr 1 k.toNat 0), (23, .ptr 1 k.toNat 0), (24, .ptr 1 k.toNat 0)] ?_
      refine .op' (cgo 38 [false] [.code B32]) (ldRow_ok (t := 22) (x := (.tmp 24)) (l := 1) (i := k.toNat) (s := 0) (sz := 2) (xs := List.map fileD d.begun.files) (mv := false) (d := fileD f) (v := .d (.list 1 (List.map u8 f.fst))) (by kernel_rfl) (by kernel_rfl) (by kernel_rfl) (map_get hf) (by kernel_rfl)) ?_
      refine .sg0 3 [4, 6, 21, 22, 23, 24, 25, 26, 27, 28] (cgo 41 [false] [.code B32]) [(26, .d (.int .i64 (↑(List.map u8 f.fst).length : Int))), (27, .ptr 1 k.toNat 0), (28, .ptr 1 k.toNat 1)] ?_
      simp only [List.length_map]
      refine .op' (cgo 42 [false] [.code B32]) (stRow_ok (t := 3) (x := (.tmp 28)) (y := (.tmp 26)) (l := 1) (i := k.toNat) (s := 1) (sz := 2) (xs := List.map fileD d.begun.files) (mv := false) (d := fileD f) (d' := D.agg [D.list 1 (List.map u8 f.fst), D.int IntKind.i64 (↑f.fst.length : Int)]) (by kernel_rfl) (by kernel_rfl) (by kernel_rfl) (map_get hf) (by kernel_rfl)) ?_
      refine .sg0 5 [4] (cgo 47 [false] [.code B32]) [] ?_
      refine .raises [1, 3, 4, 5] ?_
      refine .kp [4] ?_
      refine .su [0, 1, 2, 3, 4, 5] (mk 29 [(4, .d (.int .i64 0))]) [.cells [.row 1, .ptr 2 0 0, .ep 2 (D.agg [D.list 1 (List.map strD d.begun.sk), D.list 1 (List.map intD d.begun.sv)]) 0, .row 5, .d (.int .i64 d.begun.quota), .d (.bool d.begun.full), .d (.bool d.begun.off), .d (.int .i64 d.begun.stop), .d (.int .i64 d.begun.calls)], .row 2 ((List.map fileD d.begun.files).set k.toNat (D.agg [D.list 1 (List.map u8 f.fst), D.int IntKind.i64 (↑f.fst.length : Int)])) true, .cells [.row 3, .row 4], .row 1 (List.map strD d.begun.nk) true, .row 1 (List.map intD d.begun.nv) true, .row 3 (List.map chD d.begun.ch) true] ?_
      refine .retH F32 (v := V.d (D.int IntKind.i64 0)) (by kernel_rfl) (by kernel_rfl) ?_
      simp_all [SD, dirD, Dk.syncD, fileD, bsD, i64]
theorem spec_34 (d : Dk) (N : Nat) (h : d.Ok N) (hN : N + 2 ≤ 50000) (x y : ByteArray) (hx : x.size < 1000000000) (hy : y.size < 1000000000) :
    CallsA Try.prog 34 [.ptr 0 0 0, .d (.str x), .d (.str y)] (SD d false) fun r σ' => r = .ret (.d (.int .i64 (d.begun.err true [x, y]))) ∧ σ' = SD (d.begun.renameD x y) true := by
  refine CallsA.start F34 (tm := mk (Try.f34.ntmps) [(0, .ptr 0 0 0), (1, .d (.str x)), (2, .d (.str y))]) (by kernel_rfl) ?_
  have hk := Dk.begun_ok h (by omega : N + 1 ≤ 50000)
  have q1 := hk.nr
  have q2 := hk.nl
  have q3 := hk.nkl
  have q4 := hk.nb
  have q7 := hk.chl
  have q8 := hk.fl
  have q5 : ∀ k, look d.begun.nk d.begun.nv x = some k → 0 ≤ k ∧ k < d.begun.files.length := fun k hk' => hk.nn k (look_mem hk')
  have hn1 : [D.str x, D.str y] = List.map strD [x, y] := rfl
  cases hl : look d.begun.nk d.begun.nv x with
  | none =>
    have he : d.begun.err true [x, y] ≠ 0 := by
      unfold Dk.err
      split
      · simp
      · split <;> simp [hl]
    refine .sg 11 [0, 1, 2, 6, 10, 11, 12, 13] (cgo 11 [] [.code B34]) [(6, .d (.int .i64 0)), (10, .ptr 0 0 0), (11, .d (.str x)), (12, .d (.str y)), (13, .row 6)] [(6, .row 1 [D.str x, D.str y] false)] ?_
    refine .ca [0, 1, 2, 3, 4, 5, 6] (cgo 12 [] [.code B34]) F64 (@spec_64b (d) (N) (by assumption) (true) ([x, y]) ([D.str x, D.str y]) (by assumption) (by simp; done) (by simp <;> omega) (by simp; done) (by assumption)) ?_
    rintro r0 s0 ⟨rfl, rfl⟩
    refine ⟨_, rfl, ?_⟩
    refine .sg0 7 [0, 1, 2, 6, 7, 16] (cgo 19 [] [.code B34]) [(7, .d (.int .i64 (d.begun.err true [x, y]))), (16, .d (.bool (d.begun.err true [x, y] != 0)))] ?_
    refine .if' (d.begun.err true [x, y] != 0) (cgo 20 [true] [.code B34]) (cgo 20 [false] [.code B34]) (fun h2 => ?_) (fun h2 => ?_)
    · simp only [bsX] at h2
      refine .sg0 5 [0, 1, 2, 6] (cgo 25 [true] [.code B34]) [(6, .d (.int .i64 (d.begun.err true [x, y])))] ?_
      refine .raises [1, 3, 4, 5] ?_
      refine .kp [6] ?_
      refine .su [0, 1, 2, 3, 4, 5] (mk 33 [(6, .d (.int .i64 (d.begun.err true [x, y])))]) [.cells [.row 1, .ptr 2 0 0, .ep 2 (D.agg [D.list 1 (List.map strD d.begun.sk), D.list 1 (List.map intD d.begun.sv)]) 0, .row 5, .d (.int .i64 d.begun.quota), .d (.bool d.begun.full), .d (.bool d.begun.off), .d (.int .i64 d.begun.stop), .d (.int .i64 d.begun.calls)], .row 2 (List.map fileD d.begun.files) true, .cells [.row 3, .row 4], .row 1 (List.map strD d.begun.nk) true, .row 1 (List.map intD d.begun.nv) true, .row 3 (List.map chD d.begun.ch) true] ?_
      refine .retH F34 (v := V.d (D.int IntKind.i64 (d.begun.err true [x, y]))) (by kernel_rfl) (by kernel_rfl) ?_
      simp_all [SD, dirD, Dk.renameD]
    · simp only [bsX] at h2
      omega
  | some k =>
    have q6 := q5 k hl
    have q61 := q6.1
    have hlt : k.toNat < d.begun.files.length := by omega
    obtain ⟨f, hf⟩ := get_some (l := d.begun.files) (i := k.toNat) hlt
    have hm := hk.fs f (List.mem_of_getElem? hf)
    have hfile : d.begun.file (d.begun.num x) = f := by simp [Dk.file, Dk.num, hl, List.getD_eq_getElem?_getD, hf]
    have hnum : d.begun.num x = k.toNat := by simp [Dk.num, hl]
    refine .sg 11 [0, 1, 2, 6, 10, 11, 12, 13] (cgo 11 [] [.code B34]) [(6, .d (.int .i64 0)), (10, .ptr 0 0 0), (11, .d (.str x)), (12, .d (.str y)), (13, .row 6)] [(6, .row 1 [D.str x, D.str y] false)] ?_
    refine .ca [0, 1, 2, 3, 4, 5, 6] (cgo 12 [] [.code B34]) F64 (@spec_64b (d) (N) (by assumption) (true) ([x, y]) ([D.str x, D.str y]) (by assumption) (by simp; done) (by simp <;> omega) (by simp; done) (by assumption)) ?_
    rintro r0 s0 ⟨rfl, rfl⟩
    refine ⟨_, rfl, ?_⟩
    refine .sg0 7 [0, 1, 2, 6, 7, 16] (cgo 19 [] [.code B34]) [(7, .d (.int .i64 (d.begun.err true [x, y]))), (16, .d (.bool (d.begun.err true [x, y] != 0)))] ?_
    refine .if' (d.begun.err true [x, y] != 0) (cgo 20 [true] [.code B34]) (cgo 20 [false] [.code B34]) (fun h2 => ?_) (fun h2 => ?_)
    · simp only [bsX] at h2
      refine .sg0 5 [0, 1, 2, 6] (cgo 25 [true] [.code B34]) [(6, .d (.int .i64 (d.begun.err true [x, y])))] ?_
      refine .raises [1, 3, 4, 5] ?_
      refine .kp [6] ?_
      refine .su [0, 1, 2, 3, 4, 5] (mk 33 [(6, .d (.int .i64 (d.begun.err true [x, y])))]) [.cells [.row 1, .ptr 2 0 0, .ep 2 (D.agg [D.list 1 (List.map strD d.begun.sk), D.list 1 (List.map intD d.begun.sv)]) 0, .row 5, .d (.int .i64 d.begun.quota), .d (.bool d.begun.full), .d (.bool d.begun.off), .d (.int .i64 d.begun.stop), .d (.int .i64 d.begun.calls)], .row 2 (List.map fileD d.begun.files) true, .cells [.row 3, .row 4], .row 1 (List.map strD d.begun.nk) true, .row 1 (List.map intD d.begun.nv) true, .row 3 (List.map chD d.begun.ch) true] ?_
      refine .retH F34 (v := V.d (D.int IntKind.i64 (d.begun.err true [x, y]))) (by kernel_rfl) (by kernel_rfl) ?_
      simp_all [SD, dirD, Dk.renameD, Dk.turn, chD]
    · simp only [bsX] at h2
      refine .sg0 8 [0, 1, 2, 6, 19, 20, 21, 22, 23] (cgo 28 [false] [.code B34]) [(19, .ptr 0 0 0), (20, .ptr 0 0 0), (21, .ptr 0 0 1), (22, .ptr 2 0 0), (23, .d (.str x))] ?_
      refine .ca [2, 3, 4] (cgo 29 [false] [.code B34]) F70 (@spec_70 (d.begun.nk) (x) (d.begun.nv) (by assumption) (by omega) (by assumption)) ?_
      rintro r2 s2 ⟨rfl, rfl⟩
      refine ⟨_, rfl, ?_⟩
      refine .sg0 13 [0, 1, 2, 6, 8, 27, 28, 29, 30, 31] (cgo 42 [false] [.code B34]) [(8, .d (.int .i64 ((look d.begun.nk d.begun.nv x).getD 0))), (27, .ptr 0 0 0), (28, .d (.str x)), (29, .d (.str y)), (30, .d (.int .i64 ((look d.begun.nk d.begun.nv x).getD 0))), (31, .d (.agg [D.str x, D.str y, D.int IntKind.i64 ((look d.begun.nk d.begun.nv x).getD 0)]))] ?_
      refine .ca [0, 1, 2, 3, 4, 5] (cgo 43 [false] [.code B34]) F67 (@spec_67 (List.map fileD d.begun.files) (D.agg [D.list 1 (List.map strD d.begun.sk), D.list 1 (List.map intD d.begun.sv)]) (List.map chD d.begun.ch) (d.begun.nk) (d.begun.nv) (d.begun.quota) (d.begun.stop) (d.begun.calls) (d.begun.full) (d.begun.off) (x) (y) ((look d.begun.nk d.begun.nv x).getD 0) (by assumption) (by assumption) (by omega) (by simp <;> omega)) ?_
      rintro r3 s3 ⟨rfl, rfl⟩
      refine ⟨_, rfl, ?_⟩
      refine .sg0 5 [6] (cgo 48 [false] [.code B34]) [] ?_
      refine .raises [1] ?_
      refine .kp [6] ?_
      refine .su [0, 1, 2, 3, 4, 5] (mk 33 [(6, .d (.int .i64 0))]) [.cells [.row 1, .ptr 2 0 0, .ep 2 (D.agg [D.list 1 (List.map strD d.begun.sk), D.list 1 (List.map intD d.begun.sv)]) 0, .row 5, .d (.int .i64 d.begun.quota), .d (.bool d.begun.full), .d (.bool d.begun.off), .d (.int .i64 d.begun.stop), .d (.int .i64 d.begun.calls)], .row 2 (List.map fileD d.begun.files) true, .cells [.row 3, .row 4], .row 1 (List.map strD (kapply d.begun.nk d.begun.nv x y ((look d.begun.nk d.begun.nv x).getD 0)).fst) true, .row 1 (List.map intD (kapply d.begun.nk d.begun.nv x y ((look d.begun.nk d.begun.nv x).getD 0)).snd) true, .row 3 (List.map chD d.begun.ch ++ [D.agg [D.str x, D.str y, D.int IntKind.i64 ((look d.begun.nk d.begun.nv x).getD 0)]]) true] ?_
      refine .retH F34 (v := V.d (D.int IntKind.i64 0)) (by kernel_rfl) (by kernel_rfl) ?_
      simp_all [SD, dirD, Dk.renameD, Dk.turn, chD]
theorem spec_78 (d : Dk) (N : Nat) (h : d.Ok N) (hN : N + 2 ≤ 50000) (x : ByteArray) (hx : x.size < 1000000000) :
    CallsA Try.prog 78 [.ptr 0 0 0, .d (.str x)] (SD d false) fun r σ' => r = .ret (.d (.int .i64 (d.begun.err true [x]))) ∧ σ' = SD (d.begun.removeD x) true := by
  refine CallsA.start F78 (tm := mk (Try.f78.ntmps) [(0, .ptr 0 0 0), (1, .d (.str x))]) (by kernel_rfl) ?_
  have hk := Dk.begun_ok h (by omega : N + 1 ≤ 50000)
  have q1 := hk.nr
  have q2 := hk.nl
  have q3 := hk.nkl
  have q4 := hk.nb
  have q7 := hk.chl
  have q8 := hk.fl
  have q5 : ∀ k, look d.begun.nk d.begun.nv x = some k → 0 ≤ k ∧ k < d.begun.files.length := fun k hk' => hk.nn k (look_mem hk')
  have hn1 : [D.str x] = List.map strD [x] := rfl
  cases hl : look d.begun.nk d.begun.nv x with
  | none =>
    have he : d.begun.err true [x] ≠ 0 := by
      unfold Dk.err
      split
      · simp
      · split <;> simp [hl]
    refine .sg 10 [0, 1, 4, 6, 7, 8] (cgo 10 [] [.code B78]) [(4, .d (.int .i64 0)), (6, .ptr 0 0 0), (7, .d (.str x)), (8, .row 6)] [(6, .row 1 [D.str x] false)] ?_
    refine .ca [0, 1, 2, 3, 4, 5, 6] (cgo 11 [] [.code B78]) F64 (@spec_64b (d) (N) (by assumption) (true) ([x]) ([D.str x]) (by assumption) (by simp; done) (by simp <;> omega) (by simp; done) (by assumption)) ?_
    rintro r0 s0 ⟨rfl, rfl⟩
    refine ⟨_, rfl, ?_⟩
    refine .sg0 7 [0, 1, 4, 5, 11] (cgo 18 [] [.code B78]) [(5, .d (.int .i64 (d.begun.err true [x]))), (11, .d (.bool (d.begun.err true [x] != 0)))] ?_
    refine .if' (d.begun.err true [x] != 0) (cgo 19 [true] [.code B78]) (cgo 19 [false] [.code B78]) (fun h2 => ?_) (fun h2 => ?_)
    · simp only [bsX] at h2
      refine .sg0 5 [0, 1, 4] (cgo 24 [true] [.code B78]) [(4, .d (.int .i64 (d.begun.err true [x])))] ?_
      refine .raises [1, 3, 4, 5] ?_
      refine .kp [4] ?_
      refine .su [0, 1, 2, 3, 4, 5] (mk 17 [(4, .d (.int .i64 (d.begun.err true [x])))]) [.cells [.row 1, .ptr 2 0 0, .ep 2 (D.agg [D.list 1 (List.map strD d.begun.sk), D.list 1 (List.map intD d.begun.sv)]) 0, .row 5, .d (.int .i64 d.begun.quota), .d (.bool d.begun.full), .d (.bool d.begun.off), .d (.int .i64 d.begun.stop), .d (.int .i64 d.begun.calls)], .row 2 (List.map fileD d.begun.files) true, .cells [.row 3, .row 4], .row 1 (List.map strD d.begun.nk) true, .row 1 (List.map intD d.begun.nv) true, .row 3 (List.map chD d.begun.ch) true] ?_
      refine .retH F78 (v := V.d (D.int IntKind.i64 (d.begun.err true [x]))) (by kernel_rfl) (by kernel_rfl) ?_
      simp_all [SD, dirD, Dk.removeD]
    · simp only [bsX] at h2
      omega
  | some k =>
    have q6 := q5 k hl
    have q61 := q6.1
    have hlt : k.toNat < d.begun.files.length := by omega
    obtain ⟨f, hf⟩ := get_some (l := d.begun.files) (i := k.toNat) hlt
    have hm := hk.fs f (List.mem_of_getElem? hf)
    have hfile : d.begun.file (d.begun.num x) = f := by simp [Dk.file, Dk.num, hl, List.getD_eq_getElem?_getD, hf]
    have hnum : d.begun.num x = k.toNat := by simp [Dk.num, hl]
    refine .sg 10 [0, 1, 4, 6, 7, 8] (cgo 10 [] [.code B78]) [(4, .d (.int .i64 0)), (6, .ptr 0 0 0), (7, .d (.str x)), (8, .row 6)] [(6, .row 1 [D.str x] false)] ?_
    refine .ca [0, 1, 2, 3, 4, 5, 6] (cgo 11 [] [.code B78]) F64 (@spec_64b (d) (N) (by assumption) (true) ([x]) ([D.str x]) (by assumption) (by simp; done) (by simp <;> omega) (by simp; done) (by assumption)) ?_
    rintro r0 s0 ⟨rfl, rfl⟩
    refine ⟨_, rfl, ?_⟩
    refine .sg0 7 [0, 1, 4, 5, 11] (cgo 18 [] [.code B78]) [(5, .d (.int .i64 (d.begun.err true [x]))), (11, .d (.bool (d.begun.err true [x] != 0)))] ?_
    refine .if' (d.begun.err true [x] != 0) (cgo 19 [true] [.code B78]) (cgo 19 [false] [.code B78]) (fun h2 => ?_) (fun h2 => ?_)
    · simp only [bsX] at h2
      refine .sg0 5 [0, 1, 4] (cgo 24 [true] [.code B78]) [(4, .d (.int .i64 (d.begun.err true [x])))] ?_
      refine .raises [1, 3, 4, 5] ?_
      refine .kp [4] ?_
      refine .su [0, 1, 2, 3, 4, 5] (mk 17 [(4, .d (.int .i64 (d.begun.err true [x])))]) [.cells [.row 1, .ptr 2 0 0, .ep 2 (D.agg [D.list 1 (List.map strD d.begun.sk), D.list 1 (List.map intD d.begun.sv)]) 0, .row 5, .d (.int .i64 d.begun.quota), .d (.bool d.begun.full), .d (.bool d.begun.off), .d (.int .i64 d.begun.stop), .d (.int .i64 d.begun.calls)], .row 2 (List.map fileD d.begun.files) true, .cells [.row 3, .row 4], .row 1 (List.map strD d.begun.nk) true, .row 1 (List.map intD d.begun.nv) true, .row 3 (List.map chD d.begun.ch) true] ?_
      refine .retH F78 (v := V.d (D.int IntKind.i64 (d.begun.err true [x]))) (by kernel_rfl) (by kernel_rfl) ?_
      simp_all [SD, dirD, Dk.removeD, Dk.turn, chD, noName]
    · simp only [bsX] at h2
      refine .sg0 6 [0, 1, 4, 13, 14, 15] (cgo 25 [false] [.code B78]) [(13, .ptr 0 0 0), (14, .d (.str x)), (15, .d (.agg [D.str x, D.str (ByteArray.mk #[]), D.int IntKind.i64 0]))] ?_
      refine .ca [0, 1, 2, 3, 4, 5] (cgo 26 [false] [.code B78]) F67 (@spec_67 (List.map fileD d.begun.files) (D.agg [D.list 1 (List.map strD d.begun.sk), D.list 1 (List.map intD d.begun.sv)]) (List.map chD d.begun.ch) (d.begun.nk) (d.begun.nv) (d.begun.quota) (d.begun.stop) (d.begun.calls) (d.begun.full) (d.begun.off) (x) (ByteArray.mk #[]) (0) (by assumption) (by assumption) (by omega) (by simp <;> omega)) ?_
      rintro r2 s2 ⟨rfl, rfl⟩
      refine ⟨_, rfl, ?_⟩
      refine .sg0 5 [4] (cgo 31 [false] [.code B78]) [] ?_
      refine .raises [1] ?_
      refine .kp [4] ?_
      refine .su [0, 1, 2, 3, 4, 5] (mk 17 [(4, .d (.int .i64 0))]) [.cells [.row 1, .ptr 2 0 0, .ep 2 (D.agg [D.list 1 (List.map strD d.begun.sk), D.list 1 (List.map intD d.begun.sv)]) 0, .row 5, .d (.int .i64 d.begun.quota), .d (.bool d.begun.full), .d (.bool d.begun.off), .d (.int .i64 d.begun.stop), .d (.int .i64 d.begun.calls)], .row 2 (List.map fileD d.begun.files) true, .cells [.row 3, .row 4], .row 1 (List.map strD (kapply d.begun.nk d.begun.nv x (ByteArray.mk #[]) 0).fst) true, .row 1 (List.map intD (kapply d.begun.nk d.begun.nv x (ByteArray.mk #[]) 0).snd) true, .row 3 (List.map chD d.begun.ch ++ [D.agg [D.str x, D.str (ByteArray.mk #[]), D.int IntKind.i64 0]]) true] ?_
      refine .retH F78 (v := V.d (D.int IntKind.i64 0)) (by kernel_rfl) (by kernel_rfl) ?_
      simp_all [SD, dirD, Dk.removeD, Dk.turn, chD, noName]
end Go.Proofs.Ytoelkgbeefoplaa
namespace Go.Proofs.Ytoelkgbeefoplaa
open Go Go.Br Go.Proofs
end Go.Proofs.Ytoelkgbeefoplaa
namespace Go.Proofs.Ytoelkgbeefoplaa
open Go Go.Br Go.Proofs
noncomputable def B33 : Code := (Try.f33.body).getD .skip
theorem F33 : Fnc Try.prog 33 Try.f33 B33 := ⟨Try.func33, by kernel_rfl, by kernel_rfl⟩
noncomputable def B27 : Code := (Try.f27.body).getD .skip
theorem F27 : Fnc Try.prog 27 Try.f27 B27 := ⟨Try.func27, by kernel_rfl, by kernel_rfl⟩
noncomputable def B25 : Code := (Try.f25.body).getD .skip
theorem F25 : Fnc Try.prog 25 Try.f25 B25 := ⟨Try.func25, by kernel_rfl, by kernel_rfl⟩
theorem spec_61 (bs : List UInt8) (hlen : bs.length ≤ 140737488355000) : Br.Pure Try.prog 61 [.d (bsD bs)] (.d (bsD bs)) := clone_pure bs hlen
theorem spec_33 (d : Dk) (N : Nat) (h : d.Ok N) (hN : N + 2 ≤ 50000) :
    CallsA Try.prog 33 [.ptr 0 0 0] (SD d false) fun r σ' => r = .ret (.d (.int .i64 (d.begun.err false []))) ∧ σ' = SD d.begun.syncDirD true := by
  refine CallsA.start F33 (tm := mk (Try.f33.ntmps) [(0, .ptr 0 0 0)]) (by kernel_rfl) ?_
  have hk := Dk.begun_ok h (by omega : N + 1 ≤ 50000)
  have q1 := hk.nr
  have q2 := hk.nl
  have q3 := hk.nkl
  have q4 := hk.nb
  refine .sg0 8 [0, 2, 4] (cgo 8 [] [.code B33]) [(2, .d (.int .i64 0)), (4, .ptr 0 0 0)] ?_
  refine .ca [0, 1, 2, 3, 4, 5] (cgo 9 [] [.code B33]) F64 (@spec_64 (d) (N) (by assumption) (by assumption)) ?_
  rintro r0 s0 ⟨rfl, rfl⟩
  refine ⟨_, rfl, ?_⟩
  refine .sg0 7 [0, 2, 3, 7] (cgo 16 [] [.code B33]) [(3, .d (.int .i64 (d.begun.err false []))), (7, .d (.bool (d.begun.err false [] != 0)))] ?_
  refine .if' (d.begun.err false [] != 0) (cgo 17 [true] [.code B33]) (cgo 17 [false] [.code B33]) (fun h2 => ?_) (fun h2 => ?_)
  · simp only [bsX] at h2
    refine .seg 5 [0, 2] (T' := cgo 22 [true] [.code B33]) (tm' := mk 20 [(0, .ptr 0 0 0), (2, .d (.int .i64 (d.begun.err false [])))]) (σ' := [.cells [.row 1, .ptr 2 0 0, .ep 2 (D.agg [D.list 1 (List.map strD d.begun.sk), D.list 1 (List.map intD d.begun.sv)]) 0, .row 5, .d (.int .i64 d.begun.quota), .d (.bool d.begun.full), .d (.bool d.begun.off), .d (.int .i64 d.begun.stop), .d (.int .i64 d.begun.calls)], .row 2 (List.map fileD d.begun.files) false, .cells [.row 3, .row 4], .row 1 (List.map strD d.begun.nk) false, .row 1 (List.map intD d.begun.nv) false, .row 3 (List.map chD d.begun.ch) false]) (by kernel_rfl) ?_
    refine .raise 1 rfl rfl ?_
    refine .raise 3 rfl rfl ?_
    refine .raise 4 rfl rfl ?_
    refine .raise 5 rfl rfl ?_
    refine .retH F33 (v := V.d (D.int IntKind.i64 (d.begun.err false []))) (by kernel_rfl) (by kernel_rfl) ?_
    have e : d.begun.off = true := by
      cases ho : d.begun.off with
      | true => rfl
      | false => simp_all [Dk.err]
    exact ⟨rfl, by simp [SD, dirD, Dk.syncDirD, e]⟩
  · simp only [bsX] at h2
    refine .sg0 9 [0, 2, 9, 10, 11, 12, 13, 14] (cgo 26 [false] [.code B33]) [(9, .ptr 0 0 0), (10, .ptr 0 0 0), (11, .ptr 0 0 0), (12, .ptr 0 0 0), (13, .ptr 0 0 1), (14, .ptr 2 0 0)] ?_
    refine .ca [2, 3, 4] (cgo 27 [false] [.code B33]) F69 (@spec_69 (d.begun.nk) (d.begun.nv) (by assumption) (by omega) (by assumption)) ?_
    rintro r2 s2 ⟨rfl, rfl⟩
    refine ⟨_, rfl, ?_⟩
    refine .seg 11 [2] (T' := cgo 38 [false] [.code B33]) (tm' := mk 20 [(2, .d (.int .i64 0))]) (σ' := [.cells [.row 1, .ptr 2 0 0, .ptr 6 0 0, .ex 3 [], .d (.int .i64 d.begun.quota), .d (.bool d.begun.full), .d (.bool d.begun.off), .d (.int .i64 d.begun.stop), .d (.int .i64 d.begun.calls)], .row 2 (List.map fileD d.begun.files) false, .cells [.row 3, .row 4], .row 1 (List.map strD d.begun.nk) false, .row 1 (List.map intD d.begun.nv) false, .row 3 (List.map chD d.begun.ch) false, .cells [.row 7, .row 8], .row 1 (List.map strD d.begun.nk) true, .row 1 (List.map intD d.begun.nv) true]) (by kernel_rfl) ?_
    refine .freeze 7 (sz := 1) (xs := List.map strD d.begun.nk) (mv := true) (by kernel_rfl) ?_
    refine .freeze 8 (sz := 1) (xs := List.map intD d.begun.nv) (mv := true) (by kernel_rfl) ?_
    refine .freezeC 6 (cs0 := [.d (.list 1 (List.map strD d.begun.nk)), .d (.list 1 (List.map intD d.begun.nv))]) (ds := [D.list 1 (List.map strD d.begun.nk), D.list 1 (List.map intD d.begun.nv)]) (by kernel_rfl) (by kernel_rfl) ?_
    refine .virtX 0 3 3 rfl rfl ?_
    refine .raises [1, 3, 4, 9] ?_
    refine .subM [0, 1, 2, 3, 4, 9] (mk 20 [(2, .d (.int .i64 0))]) [.cells [.row 1, .ptr 2 0 0, .ep 2 (dirD d.begun.nk d.begun.nv) 0, .row 5, .d (.int .i64 d.begun.quota), .d (.bool d.begun.full), .d (.bool d.begun.off), .d (.int .i64 d.begun.stop), .d (.int .i64 d.begun.calls)], .row 2 (List.map fileD d.begun.files) true, .cells [.row 3, .row 4], .row 1 (List.map strD d.begun.nk) true, .row 1 (List.map intD d.begun.nv) true, .row 3 [] true] none [] ⟨rfl, rfl, by kernel_rfl⟩ (by kernel_rfl) ⟨Nat.le_of_ble_eq_true (by kernel_rfl), by kernel_rfl⟩ (by kernel_rfl) ⟨by kernel_rfl, by kernel_rfl⟩ ⟨rfl, rfl⟩ ?_
    refine .retH F33 (v := V.d (D.int IntKind.i64 0)) (by kernel_rfl) (by kernel_rfl) ?_
    have e : d.begun.off = false := by
      cases ho : d.begun.off with
      | false => rfl
      | true => simp_all [Dk.err]
    have e2 : d.begun.err false [] = 0 := by simp [Dk.err, e]
    exact ⟨by rw [e2], by simp [SD, Dk.syncDirD, e]⟩
theorem spec_27 (d : Dk) (N : Nat) (h : d.Ok N) (x : ByteArray) :
    CallsA Try.prog 27 [.ptr 0 0 0, .d (.str x)] (SD d false) fun r σ' => r = .ret (.tuple [.d (if (look d.nk d.nv x).isSome then bsD (d.file (d.num x)).1 else .list 1 []), .d (.int .i64 (if (look d.nk d.nv x).isSome then 0 else 3))]) ∧ σ' = SD d false := by
  refine CallsA.start F27 (tm := mk (Try.f27.ntmps) [(0, .ptr 0 0 0), (1, .d (.str x))]) (by kernel_rfl) ?_
  have q1 := h.nr
  have q2 := h.nl
  have q3 := h.nkl
  have q4 := h.nb
  have q5 : ∀ k, look d.nk d.nv x = some k → 0 ≤ k ∧ k < d.files.length := fun k hk' => h.nn k (look_mem hk')
  cases hl : look d.nk d.nv x with
  | none =>
    refine .sg0 9 [0, 1, 4, 5, 9, 10] (cgo 9 [] [.code B27]) [(4, .nils), (5, .d (.int .i64 0)), (9, .ptr 0 0 0), (10, .d (.str x))] ?_
    refine .ca [0, 1, 2, 3, 4, 5] (cgo 10 [] [.code B27]) F65 (@spec_65 (d) (x) (none) (by assumption) (by assumption) (by assumption) (by omega) (by assumption)) ?_
    rintro r0 s0 ⟨rfl, rfl⟩
    refine ⟨_, rfl, ?_⟩
    refine .sg0 18 [4, 5, 6] (cgo 28 [true] [.code B27]) [(5, .d (.int .i64 3)), (6, .d (.raw (Value.pointer none)))] ?_
    refine .coerce [0, 0, 0, 0, 22, 23] ?_
    refine .retH F27 (v := V.tuple [V.d (D.list 1 []), V.d (D.int IntKind.i64 3)]) (by kernel_rfl) (by kernel_rfl) ?_
    exact ⟨rfl, rfl⟩
  | some k =>
    have q6 := q5 k hl
    have q61 := q6.1
    have hlt : k.toNat < d.files.length := by omega
    obtain ⟨f, hf⟩ := get_some (l := d.files) (i := k.toNat) hlt
    have hm := h.fs f (List.mem_of_getElem? hf)
    have hfile : d.file (d.num x) = f := by simp [Dk.file, Dk.num, hl, List.getD_eq_getElem?_getD, hf]
    have hfb : bsD f.1 = D.list 1 (List.map u8 f.1) := rfl
    refine .sg0 9 [0, 1, 4, 5, 9, 10] (cgo 9 [] [.code B27]) [(4, .nils), (5, .d (.int .i64 0)), (9, .ptr 0 0 0), (10, .d (.str x))] ?_
    refine .ca [0, 1, 2, 3, 4, 5] (cgo 10 [] [.code B27]) F65 (@spec_65 (d) (x) (some k) (by assumption) (by assumption) (by assumption) (by omega) (by assumption)) ?_
    rintro r0 s0 ⟨rfl, rfl⟩
    refine ⟨_, rfl, ?_⟩
    refine .sg0 19 [4, 5, 6, 16, 17, 18] (cgo 29 [false] [.code B27]) [(6, .ptr 1 k.toNat 0), (16, .ptr 1 k.toNat 0), (17, .ptr 1 k.toNat 0), (18, .ptr 1 k.toNat 0)] ?_
    refine .op' (cgo 30 [false] [.code B27]) (ldRow_ok (t := 22) (x := (.tmp 18)) (l := 1) (i := k.toNat) (s := 0) (sz := 2) (xs := List.map fileD d.files) (mv := false) (d := fileD f) (v := .d (.list 1 (List.map u8 f.fst))) (by kernel_rfl) (by kernel_rfl) (by kernel_rfl) (map_get hf) (by kernel_rfl)) ?_
    refine .semH (o := (opOf (cgo 30 [false] [Item.code B27])).getD default) (v := .d (.list 1 (List.map u8 f.fst))) (σ' := [.cells [.row 1, .ptr 2 0 0, .ep 2 (D.agg [D.list 1 (List.map strD d.sk), D.list 1 (List.map intD d.sv)]) 0, .row 5, .d (.int .i64 d.quota), .d (.bool d.full), .d (.bool d.off), .d (.int .i64 d.stop), .d (.int .i64 d.calls)], .row 2 (List.map fileD d.files) false, .cells [.row 3, .row 4], .row 1 (List.map strD d.nk) false, .row 1 (List.map intD d.nv) false, .row 3 (List.map chD d.ch) false]) (by kernel_rfl) (by kernel_rfl) (T' := cgo 31 [false] [Item.code B27]) (by kernel_rfl) (fun kz => sem_data0 (x := (.func 61)) (args := #[(.tmp 19)]) (ts := #[22]) (first := []) (cap := []) (ds := [.d (.list 1 (List.map u8 f.fst))]) (v := .d (.list 1 (List.map u8 f.fst))) F61 (@spec_61 (f.fst) (by omega)) (by kernel_rfl) (by kernel_rfl) (by kernel_rfl) (by kernel_rfl) (by kernel_rfl) (by kernel_rfl) _) ?_
    refine .seg 3 [4, 5] (T' := cgo 34 [false] [.code B27]) (tm' := mk 21 [(4, .d (.list 1 (List.map u8 f.fst))), (5, .d (.int .i64 0))]) (σ' := [.cells [.row 1, .ptr 2 0 0, .ep 2 (D.agg [D.list 1 (List.map strD d.sk), D.list 1 (List.map intD d.sv)]) 0, .row 5, .d (.int .i64 d.quota), .d (.bool d.full), .d (.bool d.off), .d (.int .i64 d.stop), .d (.int .i64 d.calls)], .row 2 (List.map fileD d.files) false, .cells [.row 3, .row 4], .row 1 (List.map strD d.nk) false, .row 1 (List.map intD d.nv) false, .row 3 (List.map chD d.ch) false]) (by kernel_rfl) ?_
    refine .retH F27 (v := V.tuple [V.d (D.list 1 (List.map u8 f.fst)), V.d (D.int IntKind.i64 0)]) (by kernel_rfl) (by kernel_rfl) ?_
    simp_all [SD, dirD]
theorem spec_25 (q : Int) : CallsA Try.prog 25 [.d (.int .i64 q)] [] fun r σ' => r = .ret (.ptr 0 0 0) ∧ σ' = SD (Dk.new q) true := by
  refine CallsA.start F25 (tm := mk (Try.f25.ntmps) [(0, .d (.int .i64 q))]) (by kernel_rfl) ?_
  refine .seg 16 [2] (T' := cgo 16 [] [.code B25]) (tm' := mk 11 [(2, .ptr 2 0 0)]) (σ' := [.cells [.ex 1 [], .ex 1 []], .cells [.ex 1 [], .ex 1 []], .cells [.ex 2 [], .ptr 0 0 0, .ptr 1 0 0, .ex 3 [], .d (.int .i64 (if 0 > q then 0 else q)), .d (.bool false), .d (.bool false), .d (.int .i64 (-1)), .d (.int .i64 0)]]) (by kernel_rfl) ?_
  refine .virtX 2 0 2 rfl rfl ?_
  refine .virtX 2 3 3 rfl rfl ?_
  refine .virtX 0 0 1 rfl rfl ?_
  refine .virtX 0 1 1 rfl rfl ?_
  refine .freezeC 1 (cs0 := [V.ex 1 [], V.ex 1 []]) (ds := [D.list 1 [], D.list 1 []]) (by kernel_rfl) (by kernel_rfl) ?_
  refine .raises [3, 4, 5, 6] ?_
  refine .su [2, 3, 0, 5, 6, 4] (mk 11 [(2, .ptr 0 0 0)]) (SD (Dk.new q) true) ?_
  refine .retH F25 (v := V.ptr 0 0 0) (by kernel_rfl) (by kernel_rfl) ?_
  exact ⟨rfl, rfl⟩
end Go.Proofs.Ytoelkgbeefoplaa
namespace Go.Proofs.Ytoelkgbeefoplaa
open Go Go.Br Go.Proofs
def flip (bs : List UInt8) (j b : Nat) : List UInt8 := bs.set j (bs.getD j 0 ^^^ (1 <<< UInt8.ofNat b))
def turn (A o N : Nat) (P : BitVec 32) : Nat → Nat → List UInt8 → Bool → List UInt8 × Bool
  | 0, _, row, tn => (row, tn)
  | m + 1, i, row, tn => if o + i < N then (if P.getLsbD i then turn A o N P m (i + 1) (flip row (A + 4 + (o + i) / 8) ((o + i) % 8)) true else turn A o N P m (i + 1) row tn) else (row, tn)
theorem flip_length (bs : List UInt8) (j b : Nat) : (flip bs j b).length = bs.length := by simp [flip]
section
variable {Q : AE → Store → Prop} {k : Nat}
end
end Go.Proofs.Ytoelkgbeefoplaa
namespace Go.Proofs.Ytoelkgbeefoplaa
open Go Go.Br Go.Proofs
def feed (s : BitVec 32) (bs : List UInt8) : BitVec 32 := bs.foldl crcB s
theorem and_one32 (r : BitVec 32) : r &&& 1#32 = if r.getLsbD 0 then 1#32 else 0#32 := by
  apply BitVec.eq_of_getLsbD_eq
  intro j hj
  by_cases h0 : j = 0
  · subst h0
    rw [BitVec.getLsbD_and]
    cases h : r.getLsbD 0 <;> rfl
  · cases h : r.getLsbD 0 <;> simp [h0]
theorem crc1_eq (r : BitVec 32) : crc1 r = (r >>> 1) ^^^ (if r.getLsbD 0 then 0xEDB88320#32 else 0#32) := by
  unfold crc1
  rw [and_one32]
  cases r.getLsbD 0
  · rfl
  · rfl
theorem crc1_xor (x y : BitVec 32) : crc1 (x ^^^ y) = crc1 x ^^^ crc1 y := by
  rw [crc1_eq, crc1_eq, crc1_eq, BitVec.getLsbD_xor, BitVec.ushiftRight_xor_distrib]
  generalize x >>> 1 = a
  generalize y >>> 1 = b
  generalize 0xEDB88320#32 = p
  apply BitVec.eq_of_getLsbD_eq
  intro j hj
  cases x.getLsbD 0 <;> cases y.getLsbD 0 <;> simp <;> cases a.getLsbD j <;> cases b.getLsbD j <;> cases p.getLsbD j <;> rfl
theorem crc8_xor : ∀ (n : Nat) (x y : BitVec 32), crc8 n (x ^^^ y) = crc8 n x ^^^ crc8 n y
  | 0, _, _ => rfl
  | n + 1, x, y => by rw [crc8, crc1_xor, crc8_xor n]; rfl
theorem crc8_add : ∀ (m n : Nat) (x : BitVec 32), crc8 (m + n) x = crc8 n (crc8 m x)
  | 0, n, x => by rw [Nat.zero_add]; rfl
  | m + 1, n, x => by rw [Nat.add_right_comm, crc8, crc8_add m n]; rfl
theorem crc1_shl (i : Fin 31) : crc1 (1#32 <<< (i.val + 1)) = 1#32 <<< i.val := by
  revert i; decide
theorem crc8_shl : ∀ i : Nat, i < 32 → crc8 i (1#32 <<< i) = 1#32
  | 0, _ => rfl
  | i + 1, h => by rw [crc8, crc1_shl ⟨i, by omega⟩, crc8_shl i (by omega)]
theorem zx_xor (c d : UInt8) : (c ^^^ d).toBitVec.zeroExtend 32 = c.toBitVec.zeroExtend 32 ^^^ d.toBitVec.zeroExtend 32 := by
  simp [BitVec.setWidth_xor]
theorem crcB_xor (a b : BitVec 32) (c d : UInt8) : crcB (a ^^^ b) (c ^^^ d) = crcB a c ^^^ crcB b d := by
  unfold crcB
  rw [zx_xor, ← crc8_xor]
  congr 1
  ac_rfl
theorem crcB_left (a b : BitVec 32) (c : UInt8) : crcB (a ^^^ b) c = crcB a c ^^^ crc8 8 b := by
  have := crcB_xor a b c 0
  rw [UInt8.xor_zero] at this
  rw [this]
  congr 1
  show crc8 8 (b ^^^ 0#32) = _
  rw [BitVec.xor_zero]
theorem feed_xor : ∀ (bs : List UInt8) (a b : BitVec 32), feed (a ^^^ b) bs = feed a bs ^^^ crc8 (8 * bs.length) b
  | [], _, _ => rfl
  | c :: bs, a, b => by
    show feed (crcB (a ^^^ b) c) bs = feed (crcB a c) bs ^^^ _
    rw [crcB_left, feed_xor bs, ← crc8_add, List.length_cons]
    congr 2
    omega
theorem zx_shl (b : Nat) (h : b < 8) : (1 <<< UInt8.ofNat b : UInt8).toBitVec.zeroExtend 32 = 1#32 <<< b := by
  have : b = 0 ∨ b = 1 ∨ b = 2 ∨ b = 3 ∨ b = 4 ∨ b = 5 ∨ b = 6 ∨ b = 7 := by omega
  rcases this with h | h | h | h | h | h | h | h <;> subst h <;> rfl
theorem feed_flip : ∀ (bs : List UInt8) (j b : Nat) (s : BitVec 32), j < bs.length → b < 8 → feed s (flip bs j b) = feed s bs ^^^ crc8 (8 * (bs.length - j) - b) 1#32
  | [], j, b, s, h, _ => by simp at h
  | c :: bs, 0, b, s, _, hb => by
    show feed (crcB s (c ^^^ (1 <<< UInt8.ofNat b))) bs = feed (crcB s c) bs ^^^ _
    have h1 : crcB s (c ^^^ (1 <<< UInt8.ofNat b)) = crcB s c ^^^ crc8 (8 - b) 1#32 := by
      have h2 := crcB_xor s 0#32 c (1 <<< UInt8.ofNat b)
      rw [BitVec.xor_zero] at h2
      rw [h2]
      congr 1
      rw [crcB, BitVec.zero_xor, zx_shl b hb, ← crc8_shl b (by omega), ← crc8_add, crc8_shl b (by omega)]
      congr 1
      omega
    rw [h1, feed_xor, ← crc8_add, List.length_cons]
    congr 2
    omega
  | c :: bs, j + 1, b, s, h, hb => by
    have h1 : flip (c :: bs) (j + 1) b = c :: flip bs j b := by simp [flip]
    rw [h1]
    show feed (crcB s c) (flip bs j b) = feed (crcB s c) bs ^^^ _
    rw [feed_flip bs j b _ (by simpa using h) hb, List.length_cons]
    congr 2
    omega
theorem flip_app (pre f post : List UInt8) (q b : Nat) (h : q < f.length) : flip (pre ++ f ++ post) (pre.length + q) b = pre ++ flip f q b ++ post := by
  have h1 : (pre ++ f ++ post).getD (pre.length + q) 0 = f.getD q 0 := by
    rw [List.getD_eq_getElem?_getD, List.getD_eq_getElem?_getD, List.append_assoc, List.getElem?_append_right (by omega), Nat.add_sub_cancel_left, List.getElem?_append_left h]
  unfold flip
  rw [h1, List.append_assoc, List.set_append_right _ _ (by omega), Nat.add_sub_cancel_left, List.set_append_left _ _ h, List.append_assoc]
theorem bit_ne {E : BitVec 32} {i : Nat} (hi : i < 32) (h : ∀ j, j < i + 1 → E.getLsbD j = false) : (1#32 <<< i ^^^ E) ≠ 0#32 := by
  intro he
  have := congrArg (fun z => z.getLsbD i) he
  rw [BitVec.getLsbD_xor, h i (by omega)] at this
  simp [hi] at this
theorem turn_ok (pre post : List UInt8) (M o : Nat) (P : BitVec 32) (ho : o < 8 * M) : ∀ (m i : Nat) (f : List UInt8) (tn : Bool), i + m = 32 → f.length = M + 4 →
    ∃ f' E, turn pre.length o (8 * M) P m i (pre ++ f ++ post) tn = (pre ++ f' ++ post, tn || decide (E ≠ 0#32)) ∧ f'.length = f.length ∧ f'.take 4 = f.take 4 ∧ (∀ j, j < i → E.getLsbD j = false) ∧ (E = 0#32 → f' = f) ∧ ∀ s, feed s f' = feed s f ^^^ crc8 (8 * M - o) E := by
  intro m
  have hz : ∀ n, crc8 n 0#32 = 0#32 := fun n => by have := crc8_xor n 0#32 0#32; rw [BitVec.xor_self, BitVec.xor_self] at this; exact this
  have none : ∀ (f : List UInt8) (tn : Bool) (i : Nat) (r : List UInt8 × Bool), r = (pre ++ f ++ post, tn) → ∃ f' E, r = (pre ++ f' ++ post, tn || decide (E ≠ 0#32)) ∧ f'.length = f.length ∧ f'.take 4 = f.take 4 ∧ (∀ j, j < i → E.getLsbD j = false) ∧ (E = 0#32 → f' = f) ∧ ∀ s, feed s f' = feed s f ^^^ crc8 (8 * M - o) E :=
    fun f tn i r hr => ⟨f, 0#32, by rw [hr]; simp, rfl, rfl, fun j _ => by simp, fun _ => rfl, fun s => by rw [hz, BitVec.xor_zero]⟩
  induction m with
  | zero => exact fun i f tn _ _ => none f tn i _ rfl
  | succ m ih =>
    intro i f tn hi hf
    by_cases hoi : o + i < 8 * M
    case neg => exact none f tn i _ (by rw [turn, if_neg hoi])
    rw [turn, if_pos hoi]
    by_cases hP : P.getLsbD i = true
    case neg =>
      rw [if_neg hP]
      obtain ⟨f', E, h1, h2, h3, h4, h5, h6⟩ := ih (i + 1) f tn (by omega) hf
      exact ⟨f', E, h1, h2, h3, fun j hj => h4 j (by omega), h5, h6⟩
    rw [if_pos hP, Nat.add_assoc, flip_app pre f post _ _ (by omega)]
    obtain ⟨f', E, h1, h2, h3, h4, h5, h6⟩ := ih (i + 1) (flip f (4 + (o + i) / 8) ((o + i) % 8)) true (by omega) (by rw [flip_length]; exact hf)
    have hne := bit_ne (E := E) (i := i) (by omega) h4
    refine ⟨f', 1#32 <<< i ^^^ E, by rw [h1, decide_eq_true hne]; simp, by rw [h2, flip_length], ?_, fun j hj => ?_, fun h => absurd h hne, fun s => ?_⟩
    · rw [h3, flip, List.take_set]
      rw [List.set_eq_of_length_le (by simp; omega)]
    · rw [BitVec.getLsbD_xor, h4 j (by omega)]
      simp [BitVec.getLsbD_shiftLeft, hj]
    · rw [h6, feed_flip _ _ _ _ (by omega) (by omega), crc8_xor, BitVec.xor_assoc]
      congr 2
      rw [show 8 * M - o = i + (8 * M - o - i) by omega, crc8_add, crc8_shl i (by omega)]
      congr 1
      omega
end Go.Proofs.Ytoelkgbeefoplaa
namespace Go.Proofs.Ytoelkgbeefoplaa
open Go Go.Br Go.Proofs
theorem spec_21 : Br.Pure Try.prog 21 [] (.d (.bool true)) := lives_pure
theorem spec_24 (l : List (List UInt8)) (hl : l.length < 9223372036854775807) (hs : (allOf l).length ≤ 1099511627776) : Br.Pure Try.prog 24 [.d (lsD l)] (.d (bsD (allOf l))) := all_pure l hl hs
theorem spec_17 (bs : List UInt8) (hlen : bs.length ≤ 1099511627776) : Br.Pure Try.prog 17 [.d (bsD bs)] (.tuple [.d (.list 1 ((parsed bs).map bsD)), .d (i64 (good (parsed bs)))]) := parse_pure bs hlen
theorem spec_20 (a b : List (List UInt8)) (ha : a.length < 9223372036854775807) : Br.Pure Try.prog 20 [.d (.list 1 (a.map bsD)), .d (.list 1 (b.map bsD))] (.d (.bool (decide (a = b)))) := same_pure a b ha
end Go.Proofs.Ytoelkgbeefoplaa
