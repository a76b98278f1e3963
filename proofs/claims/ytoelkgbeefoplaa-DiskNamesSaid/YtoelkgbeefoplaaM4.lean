/- Texts of this proof, part 4: DiskB, PlainB, BackB, BackC, BackD, DiskC, DkP, DiskD, DiskE, DiskF, CloneA, EachA, CopyA, CheckA, UsedA. -/
import Derived.Test.YtoelkgbeefoplaaM3
namespace Go.Proofs.Ytoelkgbeefoplaa
open Go Go.Br Go.Proofs
set_option linter.unusedSimpArgs false
noncomputable def B29 : Code := (Try.f29.body).getD .skip
theorem F29 : Fnc Try.prog 29 Try.f29 B29 := ⟨Try.func29, by kernel_rfl, by kernel_rfl⟩
theorem lp29 (s : ByteArray) (hs : s.size < 9223372036854775807) : ∀ (m i : Nat), i + m = s.size → (∀ j, ∀ _ : j < s.size, j < i → okc (s[j].toNat : Int)) →
    AW Try.prog 29 none 0 (cgo 11 [] [.code B29]) (mk (Try.f29.ntmps) [(0, .d (.str s)), (2, .d (.bool false)), (3, .d (i64 i))]) [] [] (fun r σ' => r = .ret (.d (.bool (mayName s))) ∧ σ' = []) := by
  intro m
  induction m with
  | zero =>
    intro i hi hj
    obtain rfl : i = s.size := by omega
    refine .seg 8 [0, 2, 3, 7, 8, 9, 10] (T' := cgo 19 [] [.code B29]) (tm' := mk 54 [(0, .d (.str s)), (2, .d (.bool false)), (3, .d (.int .i64 (↑s.size : Int))), (7, .d (.int .i64 (↑s.size : Int))), (8, .d (.str s)), (9, .d (.int .i64 (↑s.size : Int))), (10, .d (.bool (decide ((↑s.size : Int) < (↑s.size : Int)))))]) (σ' := []) (by kernel_rfl) ?_
    refine .ifH (b := decide ((↑s.size : Int) < (↑s.size : Int))) (by kernel_rfl) (by kernel_rfl) (T1 := cgo 20 [true] [Item.code B29]) (T2 := cgo 20 [false] [Item.code B29]) (by kernel_rfl) (by kernel_rfl) (fun h1 => ?_) (fun h1 => ?_)
    · simp only [decide_eq_true_eq, decide_eq_false_iff_not, beq_iff_eq, bne_iff_ne, beq_eq_false_iff_ne, bne_eq_false_iff_eq, Bool.not_eq_true', Bool.not_eq_false', ne_eq, Decidable.not_not, Bool.not_eq_true, Bool.not_eq_false] at h1
      omega
    · simp only [decide_eq_true_eq, decide_eq_false_iff_not, beq_iff_eq, bne_iff_ne, beq_eq_false_iff_ne, bne_eq_false_iff_eq, Bool.not_eq_true', Bool.not_eq_false', ne_eq, Decidable.not_not, Bool.not_eq_true, Bool.not_eq_false] at h1
      refine .seg 7 [0, 2, 46, 47, 48, 49] (T' := cgo 27 [false] [.code B29]) (tm' := mk 54 [(0, .d (.str s)), (2, .d (.bool false)), (46, .d (.str s)), (47, .d (.int .i64 (↑s.size : Int))), (48, .d (.bool (decide ((↑s.size : Int) > 0)))), (49, .d (.bool (decide ((↑s.size : Int) > 0))))]) (σ' := []) (by kernel_rfl) ?_
      rcases Bool.eq_false_or_eq_true (decide ((↑s.size : Int) > 0)) with h2 | h2
      · rw [h2]
        simp only [decide_eq_true_eq, decide_eq_false_iff_not, beq_iff_eq, bne_iff_ne, beq_eq_false_iff_ne, bne_eq_false_iff_eq, Bool.not_eq_true', Bool.not_eq_false', ne_eq, Decidable.not_not, Bool.not_eq_true, Bool.not_eq_false] at h2
        refine .seg 6 [2] (T' := cgo 33 [false] [.code B29]) (tm' := mk 54 [(2, .d (.bool (decide ((↑s.size : Int) < 81))))]) (σ' := []) (by kernel_rfl) ?_
        refine .retH F29 (v := V.d (D.bool (decide ((↑s.size : Int) < 81)))) (by kernel_rfl) (by kernel_rfl) ?_
        refine ⟨?_, rfl⟩
        unfold mayName
        rw [decide_eq_true (fun j h => hj j h h), Bool.true_and]
        exact congrArg (fun b => AE.ret (V.d (D.bool b))) (decide_eq_decide.2 (by omega))
      · rw [h2]
        simp only [decide_eq_true_eq, decide_eq_false_iff_not, beq_iff_eq, bne_iff_ne, beq_eq_false_iff_ne, bne_eq_false_iff_eq, Bool.not_eq_true', Bool.not_eq_false', ne_eq, Decidable.not_not, Bool.not_eq_true, Bool.not_eq_false] at h2
        refine .seg 6 [2] (T' := cgo 33 [false] [.code B29]) (tm' := mk 54 [(2, .d (.bool false))]) (σ' := []) (by kernel_rfl) ?_
        refine .retH F29 (v := V.d (D.bool false)) (by kernel_rfl) (by kernel_rfl) ?_
        simp_all [mayName]
  | succ m ih =>
    intro i hi hj
    refine .seg 8 [0, 2, 3, 7, 8, 9, 10] (T' := cgo 19 [] [.code B29]) (tm' := mk 54 [(0, .d (.str s)), (2, .d (.bool false)), (3, .d (.int .i64 (↑i : Int))), (7, .d (.int .i64 (↑i : Int))), (8, .d (.str s)), (9, .d (.int .i64 (↑s.size : Int))), (10, .d (.bool (decide ((↑i : Int) < (↑s.size : Int)))))]) (σ' := []) (by kernel_rfl) ?_
    refine .ifH (b := decide ((↑i : Int) < (↑s.size : Int))) (by kernel_rfl) (by kernel_rfl) (T1 := cgo 20 [true] [Item.code B29]) (T2 := cgo 20 [false] [Item.code B29]) (by kernel_rfl) (by kernel_rfl) (fun h1 => ?_) (fun h1 => ?_)
    · simp only [decide_eq_true_eq, decide_eq_false_iff_not, beq_iff_eq, bne_iff_ne, beq_eq_false_iff_ne, bne_eq_false_iff_eq, Bool.not_eq_true', Bool.not_eq_false', ne_eq, Decidable.not_not, Bool.not_eq_true, Bool.not_eq_false] at h1
      refine .seg 7 [0, 2, 3, 7, 8, 9, 10, 13, 14] (T' := cgo 27 [true] [.code B29]) (tm' := mk 54 [(0, .d (.str s)), (2, .d (.bool false)), (3, .d (.int .i64 (↑i : Int))), (7, .d (.int .i64 (↑i : Int))), (8, .d (.str s)), (9, .d (.int .i64 (↑s.size : Int))), (10, .d (.bool (decide ((↑i : Int) < (↑s.size : Int))))), (13, .d (.str s)), (14, .d (.int .i64 (↑i : Int)))]) (σ' := []) (by kernel_rfl) ?_
      obtain ⟨y2, hy2⟩ := str_get (s := s) (i := i) (by omega)
      refine .opH (o := (opOf (cgo 27 [true] [.code B29])).getD default) (by kernel_rfl) (by kernel_rfl) (by kernel_rfl) (T' := cgo 28 [true] [.code B29]) (by kernel_rfl) (ixStr_ok (t := 9) (x := (.tmp 13)) (i := (.tmp 14)) (k := IntKind.i64) (n := (↑i : Int)) (s := s) (b := y2) (by kernel_rfl) (by kernel_rfl) (by kernel_rfl) (by kernel_rfl) (by omega) hy2) ?_
      refine .seg 7 [0, 2, 3, 4, 7, 8, 9, 10, 13, 14, 15, 16, 17, 18] (T' := cgo 35 [true] [.code B29]) (tm' := mk 54 [(0, .d (.str s)), (2, .d (.bool false)), (3, .d (.int .i64 (↑i : Int))), (4, .d (.int .u8 (↑y2.toNat : Int))), (7, .d (.int .i64 (↑i : Int))), (8, .d (.str s)), (9, .d (.int .i64 (↑s.size : Int))), (10, .d (.bool (decide ((↑i : Int) < (↑s.size : Int))))), (13, .d (.str s)), (14, .d (.int .i64 (↑i : Int))), (15, .d (.int .u8 (↑y2.toNat : Int))), (16, .d (.int .u8 (↑y2.toNat : Int))), (17, .d (.bool (decide ((↑y2.toNat : Int) ≥ 97)))), (18, .d (.bool (decide ((↑y2.toNat : Int) ≥ 97))))]) (σ' := []) (by kernel_rfl) ?_
      rcases Bool.eq_false_or_eq_true (decide ((↑y2.toNat : Int) ≥ 97)) with h3 | h3
      · rw [h3]
        simp only [decide_eq_true_eq, decide_eq_false_iff_not, beq_iff_eq, bne_iff_ne, beq_eq_false_iff_ne, bne_eq_false_iff_eq, Bool.not_eq_true', Bool.not_eq_false', ne_eq, Decidable.not_not, Bool.not_eq_true, Bool.not_eq_false] at h3
        refine .seg 10 [0, 2, 3, 4, 5, 7, 8, 9, 10, 13, 14, 15, 16, 17, 18, 19, 20, 21, 22, 23, 24] (T' := cgo 45 [true] [.code B29]) (tm' := mk 54 [(0, .d (.str s)), (2, .d (.bool false)), (3, .d (.int .i64 (↑i : Int))), (4, .d (.int .u8 (↑y2.toNat : Int))), (5, .d (.bool (decide ((↑y2.toNat : Int) ≤ 122)))), (7, .d (.int .i64 (↑i : Int))), (8, .d (.str s)), (9, .d (.int .i64 (↑s.size : Int))), (10, .d (.bool (decide ((↑i : Int) < (↑s.size : Int))))), (13, .d (.str s)), (14, .d (.int .i64 (↑i : Int))), (15, .d (.int .u8 (↑y2.toNat : Int))), (16, .d (.int .u8 (↑y2.toNat : Int))), (17, .d (.bool true)), (18, .d (.bool true)), (19, .d (.int .u8 (↑y2.toNat : Int))), (20, .d (.bool (decide ((↑y2.toNat : Int) ≤ 122)))), (21, .d (.bool (decide ((↑y2.toNat : Int) ≤ 122)))), (22, .d (.int .u8 (↑y2.toNat : Int))), (23, .d (.bool (decide ((↑y2.toNat : Int) ≥ 48)))), (24, .d (.bool (decide ((↑y2.toNat : Int) ≥ 48))))]) (σ' := []) (by kernel_rfl) ?_
        rcases Bool.eq_false_or_eq_true (decide ((↑y2.toNat : Int) ≥ 48)) with h4 | h4
        · rw [h4]
          simp only [decide_eq_true_eq, decide_eq_false_iff_not, beq_iff_eq, bne_iff_ne, beq_eq_false_iff_ne, bne_eq_false_iff_eq, Bool.not_eq_true', Bool.not_eq_false', ne_eq, Decidable.not_not, Bool.not_eq_true, Bool.not_eq_false] at h4
          refine .seg 10 [0, 2, 3, 4, 5, 6, 7, 8, 9, 10, 13, 14, 15, 16, 17, 18, 19, 20, 21, 22, 23, 24, 25, 26, 27, 28, 29, 30] (T' := cgo 55 [true] [.code B29]) (tm' := mk 54 [(0, .d (.str s)), (2, .d (.bool false)), (3, .d (.int .i64 (↑i : Int))), (4, .d (.int .u8 (↑y2.toNat : Int))), (5, .d (.bool (decide ((↑y2.toNat : Int) ≤ 122)))), (6, .d (.bool (decide ((↑y2.toNat : Int) ≤ 57)))), (7, .d (.int .i64 (↑i : Int))), (8, .d (.str s)), (9, .d (.int .i64 (↑s.size : Int))), (10, .d (.bool (decide ((↑i : Int) < (↑s.size : Int))))), (13, .d (.str s)), (14, .d (.int .i64 (↑i : Int))), (15, .d (.int .u8 (↑y2.toNat : Int))), (16, .d (.int .u8 (↑y2.toNat : Int))), (17, .d (.bool true)), (18, .d (.bool true)), (19, .d (.int .u8 (↑y2.toNat : Int))), (20, .d (.bool (decide ((↑y2.toNat : Int) ≤ 122)))), (21, .d (.bool (decide ((↑y2.toNat : Int) ≤ 122)))), (22, .d (.int .u8 (↑y2.toNat : Int))), (23, .d (.bool true)), (24, .d (.bool true)), (25, .d (.int .u8 (↑y2.toNat : Int))), (26, .d (.bool (decide ((↑y2.toNat : Int) ≤ 57)))), (27, .d (.bool (decide ((↑y2.toNat : Int) ≤ 57)))), (28, .d (.bool (decide ((↑y2.toNat : Int) ≤ 122)))), (29, .d (.bool !decide ((↑y2.toNat : Int) ≤ 122))), (30, .d (.bool !decide ((↑y2.toNat : Int) ≤ 122)))]) (σ' := []) (by kernel_rfl) ?_
          rcases Bool.eq_false_or_eq_true (!decide ((↑y2.toNat : Int) ≤ 122)) with h5 | h5
          · rw [h5]
            simp only [decide_eq_true_eq, decide_eq_false_iff_not, beq_iff_eq, bne_iff_ne, beq_eq_false_iff_ne, bne_eq_false_iff_eq, Bool.not_eq_true', Bool.not_eq_false', ne_eq, Decidable.not_not, Bool.not_eq_true, Bool.not_eq_false] at h5
            refine .seg 4 [0, 2, 3, 4, 5, 6, 7, 8, 9, 10, 13, 14, 15, 16, 17, 18, 19, 20, 21, 22, 23, 24, 25, 26, 27, 28, 29, 30, 31, 32, 33, 34] (T' := cgo 59 [true] [.code B29]) (tm' := mk 54 [(0, .d (.str s)), (2, .d (.bool false)), (3, .d (.int .i64 (↑i : Int))), (4, .d (.int .u8 (↑y2.toNat : Int))), (5, .d (.bool (decide ((↑y2.toNat : Int) ≤ 122)))), (6, .d (.bool (decide ((↑y2.toNat : Int) ≤ 57)))), (7, .d (.int .i64 (↑i : Int))), (8, .d (.str s)), (9, .d (.int .i64 (↑s.size : Int))), (10, .d (.bool (decide ((↑i : Int) < (↑s.size : Int))))), (13, .d (.str s)), (14, .d (.int .i64 (↑i : Int))), (15, .d (.int .u8 (↑y2.toNat : Int))), (16, .d (.int .u8 (↑y2.toNat : Int))), (17, .d (.bool true)), (18, .d (.bool true)), (19, .d (.int .u8 (↑y2.toNat : Int))), (20, .d (.bool (decide ((↑y2.toNat : Int) ≤ 122)))), (21, .d (.bool (decide ((↑y2.toNat : Int) ≤ 122)))), (22, .d (.int .u8 (↑y2.toNat : Int))), (23, .d (.bool true)), (24, .d (.bool true)), (25, .d (.int .u8 (↑y2.toNat : Int))), (26, .d (.bool (decide ((↑y2.toNat : Int) ≤ 57)))), (27, .d (.bool (decide ((↑y2.toNat : Int) ≤ 57)))), (28, .d (.bool (decide ((↑y2.toNat : Int) ≤ 122)))), (29, .d (.bool true)), (30, .d (.bool true)), (31, .d (.bool (decide ((↑y2.toNat : Int) ≤ 57)))), (32, .d (.bool !decide ((↑y2.toNat : Int) ≤ 57))), (33, .d (.bool !decide ((↑y2.toNat : Int) ≤ 57))), (34, .d (.bool !decide ((↑y2.toNat : Int) ≤ 57)))]) (σ' := []) (by kernel_rfl) ?_
            rcases Bool.eq_false_or_eq_true (!decide ((↑y2.toNat : Int) ≤ 57)) with h6 | h6
            · rw [h6]
              simp only [decide_eq_true_eq, decide_eq_false_iff_not, beq_iff_eq, bne_iff_ne, beq_eq_false_iff_ne, bne_eq_false_iff_eq, Bool.not_eq_true', Bool.not_eq_false', ne_eq, Decidable.not_not, Bool.not_eq_true, Bool.not_eq_false] at h6
              refine .seg 4 [0, 2, 3, 4, 5, 6, 7, 8, 9, 10, 13, 14, 15, 16, 17, 18, 19, 20, 21, 22, 23, 24, 25, 26, 27, 28, 29, 30, 31, 32, 33, 34, 35, 36, 37, 38] (T' := cgo 63 [true] [.code B29]) (tm' := mk 54 [(0, .d (.str s)), (2, .d (.bool false)), (3, .d (.int .i64 (↑i : Int))), (4, .d (.int .u8 (↑y2.toNat : Int))), (5, .d (.bool (decide ((↑y2.toNat : Int) ≤ 122)))), (6, .d (.bool (decide ((↑y2.toNat : Int) ≤ 57)))), (7, .d (.int .i64 (↑i : Int))), (8, .d (.str s)), (9, .d (.int .i64 (↑s.size : Int))), (10, .d (.bool (decide ((↑i : Int) < (↑s.size : Int))))), (13, .d (.str s)), (14, .d (.int .i64 (↑i : Int))), (15, .d (.int .u8 (↑y2.toNat : Int))), (16, .d (.int .u8 (↑y2.toNat : Int))), (17, .d (.bool true)), (18, .d (.bool true)), (19, .d (.int .u8 (↑y2.toNat : Int))), (20, .d (.bool (decide ((↑y2.toNat : Int) ≤ 122)))), (21, .d (.bool (decide ((↑y2.toNat : Int) ≤ 122)))), (22, .d (.int .u8 (↑y2.toNat : Int))), (23, .d (.bool true)), (24, .d (.bool true)), (25, .d (.int .u8 (↑y2.toNat : Int))), (26, .d (.bool (decide ((↑y2.toNat : Int) ≤ 57)))), (27, .d (.bool (decide ((↑y2.toNat : Int) ≤ 57)))), (28, .d (.bool (decide ((↑y2.toNat : Int) ≤ 122)))), (29, .d (.bool true)), (30, .d (.bool true)), (31, .d (.bool (decide ((↑y2.toNat : Int) ≤ 57)))), (32, .d (.bool true)), (33, .d (.bool true)), (34, .d (.bool true)), (35, .d (.int .u8 (↑y2.toNat : Int))), (36, .d (.bool ((↑y2.toNat : Int) != 46))), (37, .d (.bool ((↑y2.toNat : Int) != 46))), (38, .d (.bool ((↑y2.toNat : Int) != 46)))]) (σ' := []) (by kernel_rfl) ?_
              rcases Bool.eq_false_or_eq_true ((↑y2.toNat : Int) != 46) with h7 | h7
              · rw [h7]
                simp only [decide_eq_true_eq, decide_eq_false_iff_not, beq_iff_eq, bne_iff_ne, beq_eq_false_iff_ne, bne_eq_false_iff_eq, Bool.not_eq_true', Bool.not_eq_false', ne_eq, Decidable.not_not, Bool.not_eq_true, Bool.not_eq_false] at h7
                refine .seg 4 [0, 2, 3, 4, 5, 6, 7, 8, 9, 10, 13, 14, 15, 16, 17, 18, 19, 20, 21, 22, 23, 24, 25, 26, 27, 28, 29, 30, 31, 32, 33, 34, 35, 36, 37, 38, 39, 40, 41, 42] (T' := cgo 67 [true] [.code B29]) (tm' := mk 54 [(0, .d (.str s)), (2, .d (.bool false)), (3, .d (.int .i64 (↑i : Int))), (4, .d (.int .u8 (↑y2.toNat : Int))), (5, .d (.bool (decide ((↑y2.toNat : Int) ≤ 122)))), (6, .d (.bool (decide ((↑y2.toNat : Int) ≤ 57)))), (7, .d (.int .i64 (↑i : Int))), (8, .d (.str s)), (9, .d (.int .i64 (↑s.size : Int))), (10, .d (.bool (decide ((↑i : Int) < (↑s.size : Int))))), (13, .d (.str s)), (14, .d (.int .i64 (↑i : Int))), (15, .d (.int .u8 (↑y2.toNat : Int))), (16, .d (.int .u8 (↑y2.toNat : Int))), (17, .d (.bool true)), (18, .d (.bool true)), (19, .d (.int .u8 (↑y2.toNat : Int))), (20, .d (.bool (decide ((↑y2.toNat : Int) ≤ 122)))), (21, .d (.bool (decide ((↑y2.toNat : Int) ≤ 122)))), (22, .d (.int .u8 (↑y2.toNat : Int))), (23, .d (.bool true)), (24, .d (.bool true)), (25, .d (.int .u8 (↑y2.toNat : Int))), (26, .d (.bool (decide ((↑y2.toNat : Int) ≤ 57)))), (27, .d (.bool (decide ((↑y2.toNat : Int) ≤ 57)))), (28, .d (.bool (decide ((↑y2.toNat : Int) ≤ 122)))), (29, .d (.bool true)), (30, .d (.bool true)), (31, .d (.bool (decide ((↑y2.toNat : Int) ≤ 57)))), (32, .d (.bool true)), (33, .d (.bool true)), (34, .d (.bool true)), (35, .d (.int .u8 (↑y2.toNat : Int))), (36, .d (.bool true)), (37, .d (.bool true)), (38, .d (.bool true)), (39, .d (.int .u8 (↑y2.toNat : Int))), (40, .d (.bool ((↑y2.toNat : Int) != 45))), (41, .d (.bool ((↑y2.toNat : Int) != 45))), (42, .d (.bool ((↑y2.toNat : Int) != 45)))]) (σ' := []) (by kernel_rfl) ?_
                rcases Bool.eq_false_or_eq_true ((↑y2.toNat : Int) != 45) with h8 | h8
                · rw [h8]
                  simp only [decide_eq_true_eq, decide_eq_false_iff_not, beq_iff_eq, bne_iff_ne, beq_eq_false_iff_ne, bne_eq_false_iff_eq, Bool.not_eq_true', Bool.not_eq_false', ne_eq, Decidable.not_not, Bool.not_eq_true, Bool.not_eq_false] at h8
                  refine .seg 4 [0, 2, 3, 4, 5, 6, 7, 8, 9, 10, 13, 14, 15, 16, 17, 18, 19, 20, 21, 22, 23, 24, 25, 26, 27, 28, 29, 30, 31, 32, 33, 34, 35, 36, 37, 38, 39, 40, 41, 42, 43, 44, 45] (T' := cgo 71 [true] [.code B29]) (tm' := mk 54 [(0, .d (.str s)), (2, .d (.bool false)), (3, .d (.int .i64 (↑i : Int))), (4, .d (.int .u8 (↑y2.toNat : Int))), (5, .d (.bool (decide ((↑y2.toNat : Int) ≤ 122)))), (6, .d (.bool (decide ((↑y2.toNat : Int) ≤ 57)))), (7, .d (.int .i64 (↑i : Int))), (8, .d (.str s)), (9, .d (.int .i64 (↑s.size : Int))), (10, .d (.bool (decide ((↑i : Int) < (↑s.size : Int))))), (13, .d (.str s)), (14, .d (.int .i64 (↑i : Int))), (15, .d (.int .u8 (↑y2.toNat : Int))), (16, .d (.int .u8 (↑y2.toNat : Int))), (17, .d (.bool true)), (18, .d (.bool true)), (19, .d (.int .u8 (↑y2.toNat : Int))), (20, .d (.bool (decide ((↑y2.toNat : Int) ≤ 122)))), (21, .d (.bool (decide ((↑y2.toNat : Int) ≤ 122)))), (22, .d (.int .u8 (↑y2.toNat : Int))), (23, .d (.bool true)), (24, .d (.bool true)), (25, .d (.int .u8 (↑y2.toNat : Int))), (26, .d (.bool (decide ((↑y2.toNat : Int) ≤ 57)))), (27, .d (.bool (decide ((↑y2.toNat : Int) ≤ 57)))), (28, .d (.bool (decide ((↑y2.toNat : Int) ≤ 122)))), (29, .d (.bool true)), (30, .d (.bool true)), (31, .d (.bool (decide ((↑y2.toNat : Int) ≤ 57)))), (32, .d (.bool true)), (33, .d (.bool true)), (34, .d (.bool true)), (35, .d (.int .u8 (↑y2.toNat : Int))), (36, .d (.bool true)), (37, .d (.bool true)), (38, .d (.bool true)), (39, .d (.int .u8 (↑y2.toNat : Int))), (40, .d (.bool true)), (41, .d (.bool true)), (42, .d (.bool true)), (43, .d (.int .u8 (↑y2.toNat : Int))), (44, .d (.bool ((↑y2.toNat : Int) != 95))), (45, .d (.bool ((↑y2.toNat : Int) != 95)))]) (σ' := []) (by kernel_rfl) ?_
                  refine .ifH (b := (↑y2.toNat : Int) != 95) (by kernel_rfl) (by kernel_rfl) (T1 := cgo 72 [true, true] [Item.code B29]) (T2 := cgo 72 [true, false] [Item.code B29]) (by kernel_rfl) (by kernel_rfl) (fun h9 => ?_) (fun h9 => ?_)
                  · simp only [decide_eq_true_eq, decide_eq_false_iff_not, beq_iff_eq, bne_iff_ne, beq_eq_false_iff_ne, bne_eq_false_iff_eq, Bool.not_eq_true', Bool.not_eq_false', ne_eq, Decidable.not_not, Bool.not_eq_true, Bool.not_eq_false] at h9
                    refine .seg 4 [0, 2, 3, 4, 5, 6, 7, 8, 9, 10, 13, 14, 15, 16, 17, 18, 19, 20, 21, 22, 23, 24, 25, 26, 27, 28, 29, 30, 31, 32, 33, 34, 35, 36, 37, 38, 39, 40, 41, 42, 43, 44, 45] (T' := cgo 76 [true, true] [.code B29]) (tm' := mk 54 [(0, .d (.str s)), (2, .d (.bool false)), (3, .d (.int .i64 (↑i : Int))), (4, .d (.int .u8 (↑y2.toNat : Int))), (5, .d (.bool (decide ((↑y2.toNat : Int) ≤ 122)))), (6, .d (.bool (decide ((↑y2.toNat : Int) ≤ 57)))), (7, .d (.int .i64 (↑i : Int))), (8, .d (.str s)), (9, .d (.int .i64 (↑s.size : Int))), (10, .d (.bool (decide ((↑i : Int) < (↑s.size : Int))))), (13, .d (.str s)), (14, .d (.int .i64 (↑i : Int))), (15, .d (.int .u8 (↑y2.toNat : Int))), (16, .d (.int .u8 (↑y2.toNat : Int))), (17, .d (.bool true)), (18, .d (.bool true)), (19, .d (.int .u8 (↑y2.toNat : Int))), (20, .d (.bool (decide ((↑y2.toNat : Int) ≤ 122)))), (21, .d (.bool (decide ((↑y2.toNat : Int) ≤ 122)))), (22, .d (.int .u8 (↑y2.toNat : Int))), (23, .d (.bool true)), (24, .d (.bool true)), (25, .d (.int .u8 (↑y2.toNat : Int))), (26, .d (.bool (decide ((↑y2.toNat : Int) ≤ 57)))), (27, .d (.bool (decide ((↑y2.toNat : Int) ≤ 57)))), (28, .d (.bool (decide ((↑y2.toNat : Int) ≤ 122)))), (29, .d (.bool true)), (30, .d (.bool true)), (31, .d (.bool (decide ((↑y2.toNat : Int) ≤ 57)))), (32, .d (.bool true)), (33, .d (.bool true)), (34, .d (.bool true)), (35, .d (.int .u8 (↑y2.toNat : Int))), (36, .d (.bool true)), (37, .d (.bool true)), (38, .d (.bool true)), (39, .d (.int .u8 (↑y2.toNat : Int))), (40, .d (.bool true)), (41, .d (.bool true)), (42, .d (.bool true)), (43, .d (.int .u8 (↑y2.toNat : Int))), (44, .d (.bool ((↑y2.toNat : Int) != 95))), (45, .d (.bool ((↑y2.toNat : Int) != 95)))]) (σ' := []) (by kernel_rfl) ?_
                    refine .retH F29 (v := V.d (D.bool false)) (by kernel_rfl) (by kernel_rfl) ?_
                    exact ⟨by rw [no28 hy2 (by unfold okc; omega)], rfl⟩
                  · simp only [decide_eq_true_eq, decide_eq_false_iff_not, beq_iff_eq, bne_iff_ne, beq_eq_false_iff_ne, bne_eq_false_iff_eq, Bool.not_eq_true', Bool.not_eq_false', ne_eq, Decidable.not_not, Bool.not_eq_true, Bool.not_eq_false] at h9
                    omega
                · rw [h8]
                  simp only [decide_eq_true_eq, decide_eq_false_iff_not, beq_iff_eq, bne_iff_ne, beq_eq_false_iff_ne, bne_eq_false_iff_eq, Bool.not_eq_true', Bool.not_eq_false', ne_eq, Decidable.not_not, Bool.not_eq_true, Bool.not_eq_false] at h8
                  omega
              · rw [h7]
                simp only [decide_eq_true_eq, decide_eq_false_iff_not, beq_iff_eq, bne_iff_ne, beq_eq_false_iff_ne, bne_eq_false_iff_eq, Bool.not_eq_true', Bool.not_eq_false', ne_eq, Decidable.not_not, Bool.not_eq_true, Bool.not_eq_false] at h7
                omega
            · rw [h6]
              simp only [decide_eq_true_eq, decide_eq_false_iff_not, beq_iff_eq, bne_iff_ne, beq_eq_false_iff_ne, bne_eq_false_iff_eq, Bool.not_eq_true', Bool.not_eq_false', ne_eq, Decidable.not_not, Bool.not_eq_true, Bool.not_eq_false] at h6
              omega
          · rw [h5]
            simp only [decide_eq_true_eq, decide_eq_false_iff_not, beq_iff_eq, bne_iff_ne, beq_eq_false_iff_ne, bne_eq_false_iff_eq, Bool.not_eq_true', Bool.not_eq_false', ne_eq, Decidable.not_not, Bool.not_eq_true, Bool.not_eq_false] at h5
            refine .seg 24 [0, 2, 3, 4, 5, 6, 7, 8, 9, 10, 11, 12, 13, 14, 15, 16, 17, 18, 19, 20, 21, 22, 23, 24, 25, 26, 27, 28, 29, 30, 31, 32, 33, 34, 35, 36, 37, 38, 39, 40, 41, 42, 43, 44, 45] (T' := cgo 79 [true, false] [.code B29]) (tm' := mk 54 [(0, .d (.str s)), (2, .d (.bool false)), (3, .d (.int .i64 (IntKind.i64.wrap ((↑i : Int) + 1)))), (4, .d (.int .u8 (↑y2.toNat : Int))), (5, .d (.bool (decide ((↑y2.toNat : Int) ≤ 122)))), (6, .d (.bool (decide ((↑y2.toNat : Int) ≤ 57)))), (7, .d (.int .i64 (↑i : Int))), (8, .d (.str s)), (9, .d (.int .i64 (↑s.size : Int))), (10, .d (.bool (decide ((↑i : Int) < (↑s.size : Int))))), (11, .d (.int .i64 (↑i : Int))), (12, .d (.int .i64 (IntKind.i64.wrap ((↑i : Int) + 1)))), (13, .d (.str s)), (14, .d (.int .i64 (↑i : Int))), (15, .d (.int .u8 (↑y2.toNat : Int))), (16, .d (.int .u8 (↑y2.toNat : Int))), (17, .d (.bool true)), (18, .d (.bool true)), (19, .d (.int .u8 (↑y2.toNat : Int))), (20, .d (.bool (decide ((↑y2.toNat : Int) ≤ 122)))), (21, .d (.bool (decide ((↑y2.toNat : Int) ≤ 122)))), (22, .d (.int .u8 (↑y2.toNat : Int))), (23, .d (.bool true)), (24, .d (.bool true)), (25, .d (.int .u8 (↑y2.toNat : Int))), (26, .d (.bool (decide ((↑y2.toNat : Int) ≤ 57)))), (27, .d (.bool (decide ((↑y2.toNat : Int) ≤ 57)))), (28, .d (.bool (decide ((↑y2.toNat : Int) ≤ 122)))), (29, .d (.bool false)), (30, .d (.bool false)), (31, V.tuple []), (32, V.tuple []), (33, .d (.bool false)), (34, .d (.bool false)), (35, V.tuple []), (36, V.tuple []), (37, .d (.bool false)), (38, .d (.bool false)), (39, V.tuple []), (40, V.tuple []), (41, .d (.bool false)), (42, .d (.bool false)), (43, V.tuple []), (44, V.tuple []), (45, .d (.bool false))]) (σ' := []) (by kernel_rfl) ?_
            simp (disch := omega) only [wrap_i64, wrap_u64s, wrap_u32s, wrap_u8s, wrap_i32s, iadd_i64, isub_i64, irem_n, iquo_n, tdiv_nn, tmod_nn]
            refine .seg 1 [0, 2, 3] (T' := cgo 11 [] [.code B29]) (tm' := mk 54 [(0, .d (.str s)), (2, .d (.bool false)), (3, .d (i64 (↑i + 1)))]) (σ' := []) (by kernel_rfl) ?_
            exact ih (i + 1) (by omega) (yes28 hj hy2 (by unfold okc; omega))
        · rw [h4]
          simp only [decide_eq_true_eq, decide_eq_false_iff_not, beq_iff_eq, bne_iff_ne, beq_eq_false_iff_ne, bne_eq_false_iff_eq, Bool.not_eq_true', Bool.not_eq_false', ne_eq, Decidable.not_not, Bool.not_eq_true, Bool.not_eq_false] at h4
          omega
      · rw [h3]
        simp only [decide_eq_true_eq, decide_eq_false_iff_not, beq_iff_eq, bne_iff_ne, beq_eq_false_iff_ne, bne_eq_false_iff_eq, Bool.not_eq_true', Bool.not_eq_false', ne_eq, Decidable.not_not, Bool.not_eq_true, Bool.not_eq_false] at h3
        refine .seg 10 [0, 2, 3, 4, 5, 7, 8, 9, 10, 13, 14, 15, 16, 17, 18, 19, 20, 21, 22, 23, 24] (T' := cgo 45 [true] [.code B29]) (tm' := mk 54 [(0, .d (.str s)), (2, .d (.bool false)), (3, .d (.int .i64 (↑i : Int))), (4, .d (.int .u8 (↑y2.toNat : Int))), (5, .d (.bool false)), (7, .d (.int .i64 (↑i : Int))), (8, .d (.str s)), (9, .d (.int .i64 (↑s.size : Int))), (10, .d (.bool (decide ((↑i : Int) < (↑s.size : Int))))), (13, .d (.str s)), (14, .d (.int .i64 (↑i : Int))), (15, .d (.int .u8 (↑y2.toNat : Int))), (16, .d (.int .u8 (↑y2.toNat : Int))), (17, .d (.bool false)), (18, .d (.bool false)), (19, V.tuple []), (20, V.tuple []), (21, .d (.bool false)), (22, .d (.int .u8 (↑y2.toNat : Int))), (23, .d (.bool (decide ((↑y2.toNat : Int) ≥ 48)))), (24, .d (.bool (decide ((↑y2.toNat : Int) ≥ 48))))]) (σ' := []) (by kernel_rfl) ?_
        rcases Bool.eq_false_or_eq_true (decide ((↑y2.toNat : Int) ≥ 48)) with h10 | h10
        · rw [h10]
          simp only [decide_eq_true_eq, decide_eq_false_iff_not, beq_iff_eq, bne_iff_ne, beq_eq_false_iff_ne, bne_eq_false_iff_eq, Bool.not_eq_true', Bool.not_eq_false', ne_eq, Decidable.not_not, Bool.not_eq_true, Bool.not_eq_false] at h10
          refine .seg 14 [0, 2, 3, 4, 5, 6, 7, 8, 9, 10, 13, 14, 15, 16, 17, 18, 19, 20, 21, 22, 23, 24, 25, 26, 27, 28, 29, 30, 31, 32, 33, 34] (T' := cgo 59 [true] [.code B29]) (tm' := mk 54 [(0, .d (.str s)), (2, .d (.bool false)), (3, .d (.int .i64 (↑i : Int))), (4, .d (.int .u8 (↑y2.toNat : Int))), (5, .d (.bool false)), (6, .d (.bool (decide ((↑y2.toNat : Int) ≤ 57)))), (7, .d (.int .i64 (↑i : Int))), (8, .d (.str s)), (9, .d (.int .i64 (↑s.size : Int))), (10, .d (.bool (decide ((↑i : Int) < (↑s.size : Int))))), (13, .d (.str s)), (14, .d (.int .i64 (↑i : Int))), (15, .d (.int .u8 (↑y2.toNat : Int))), (16, .d (.int .u8 (↑y2.toNat : Int))), (17, .d (.bool false)), (18, .d (.bool false)), (19, V.tuple []), (20, V.tuple []), (21, .d (.bool false)), (22, .d (.int .u8 (↑y2.toNat : Int))), (23, .d (.bool true)), (24, .d (.bool true)), (25, .d (.int .u8 (↑y2.toNat : Int))), (26, .d (.bool (decide ((↑y2.toNat : Int) ≤ 57)))), (27, .d (.bool (decide ((↑y2.toNat : Int) ≤ 57)))), (28, .d (.bool false)), (29, .d (.bool true)), (30, .d (.bool true)), (31, .d (.bool (decide ((↑y2.toNat : Int) ≤ 57)))), (32, .d (.bool !decide ((↑y2.toNat : Int) ≤ 57))), (33, .d (.bool !decide ((↑y2.toNat : Int) ≤ 57))), (34, .d (.bool !decide ((↑y2.toNat : Int) ≤ 57)))]) (σ' := []) (by kernel_rfl) ?_
          rcases Bool.eq_false_or_eq_true (!decide ((↑y2.toNat : Int) ≤ 57)) with h11 | h11
          · rw [h11]
            simp only [decide_eq_true_eq, decide_eq_false_iff_not, beq_iff_eq, bne_iff_ne, beq_eq_false_iff_ne, bne_eq_false_iff_eq, Bool.not_eq_true', Bool.not_eq_false', ne_eq, Decidable.not_not, Bool.not_eq_true, Bool.not_eq_false] at h11
            refine .seg 4 [0, 2, 3, 4, 5, 6, 7, 8, 9, 10, 13, 14, 15, 16, 17, 18, 19, 20, 21, 22, 23, 24, 25, 26, 27, 28, 29, 30, 31, 32, 33, 34, 35, 36, 37, 38] (T' := cgo 63 [true] [.code B29]) (tm' := mk 54 [(0, .d (.str s)), (2, .d (.bool false)), (3, .d (.int .i64 (↑i : Int))), (4, .d (.int .u8 (↑y2.toNat : Int))), (5, .d (.bool false)), (6, .d (.bool (decide ((↑y2.toNat : Int) ≤ 57)))), (7, .d (.int .i64 (↑i : Int))), (8, .d (.str s)), (9, .d (.int .i64 (↑s.size : Int))), (10, .d (.bool (decide ((↑i : Int) < (↑s.size : Int))))), (13, .d (.str s)), (14, .d (.int .i64 (↑i : Int))), (15, .d (.int .u8 (↑y2.toNat : Int))), (16, .d (.int .u8 (↑y2.toNat : Int))), (17, .d (.bool false)), (18, .d (.bool false)), (19, V.tuple []), (20, V.tuple []), (21, .d (.bool false)), (22, .d (.int .u8 (↑y2.toNat : Int))), (23, .d (.bool true)), (24, .d (.bool true)), (25, .d (.int .u8 (↑y2.toNat : Int))), (26, .d (.bool (decide ((↑y2.toNat : Int) ≤ 57)))), (27, .d (.bool (decide ((↑y2.toNat : Int) ≤ 57)))), (28, .d (.bool false)), (29, .d (.bool true)), (30, .d (.bool true)), (31, .d (.bool (decide ((↑y2.toNat : Int) ≤ 57)))), (32, .d (.bool true)), (33, .d (.bool true)), (34, .d (.bool true)), (35, .d (.int .u8 (↑y2.toNat : Int))), (36, .d (.bool ((↑y2.toNat : Int) != 46))), (37, .d (.bool ((↑y2.toNat : Int) != 46))), (38, .d (.bool ((↑y2.toNat : Int) != 46)))]) (σ' := []) (by kernel_rfl) ?_
            rcases Bool.eq_false_or_eq_true ((↑y2.toNat : Int) != 46) with h12 | h12
            · rw [h12]
              simp only [decide_eq_true_eq, decide_eq_false_iff_not, beq_iff_eq, bne_iff_ne, beq_eq_false_iff_ne, bne_eq_false_iff_eq, Bool.not_eq_true', Bool.not_eq_false', ne_eq, Decidable.not_not, Bool.not_eq_true, Bool.not_eq_false] at h12
              refine .seg 4 [0, 2, 3, 4, 5, 6, 7, 8, 9, 10, 13, 14, 15, 16, 17, 18, 19, 20, 21, 22, 23, 24, 25, 26, 27, 28, 29, 30, 31, 32, 33, 34, 35, 36, 37, 38, 39, 40, 41, 42] (T' := cgo 67 [true] [.code B29]) (tm' := mk 54 [(0, .d (.str s)), (2, .d (.bool false)), (3, .d (.int .i64 (↑i : Int))), (4, .d (.int .u8 (↑y2.toNat : Int))), (5, .d (.bool false)), (6, .d (.bool (decide ((↑y2.toNat : Int) ≤ 57)))), (7, .d (.int .i64 (↑i : Int))), (8, .d (.str s)), (9, .d (.int .i64 (↑s.size : Int))), (10, .d (.bool (decide ((↑i : Int) < (↑s.size : Int))))), (13, .d (.str s)), (14, .d (.int .i64 (↑i : Int))), (15, .d (.int .u8 (↑y2.toNat : Int))), (16, .d (.int .u8 (↑y2.toNat : Int))), (17, .d (.bool false)), (18, .d (.bool false)), (19, V.tuple []), (20, V.tuple []), (21, .d (.bool false)), (22, .d (.int .u8 (↑y2.toNat : Int))), (23, .d (.bool true)), (24, .d (.bool true)), (25, .d (.int .u8 (↑y2.toNat : Int))), (26, .d (.bool (decide ((↑y2.toNat : Int) ≤ 57)))), (27, .d (.bool (decide ((↑y2.toNat : Int) ≤ 57)))), (28, .d (.bool false)), (29, .d (.bool true)), (30, .d (.bool true)), (31, .d (.bool (decide ((↑y2.toNat : Int) ≤ 57)))), (32, .d (.bool true)), (33, .d (.bool true)), (34, .d (.bool true)), (35, .d (.int .u8 (↑y2.toNat : Int))), (36, .d (.bool true)), (37, .d (.bool true)), (38, .d (.bool true)), (39, .d (.int .u8 (↑y2.toNat : Int))), (40, .d (.bool ((↑y2.toNat : Int) != 45))), (41, .d (.bool ((↑y2.toNat : Int) != 45))), (42, .d (.bool ((↑y2.toNat : Int) != 45)))]) (σ' := []) (by kernel_rfl) ?_
              rcases Bool.eq_false_or_eq_true ((↑y2.toNat : Int) != 45) with h13 | h13
              · rw [h13]
                simp only [decide_eq_true_eq, decide_eq_false_iff_not, beq_iff_eq, bne_iff_ne, beq_eq_false_iff_ne, bne_eq_false_iff_eq, Bool.not_eq_true', Bool.not_eq_false', ne_eq, Decidable.not_not, Bool.not_eq_true, Bool.not_eq_false] at h13
                refine .seg 4 [0, 2, 3, 4, 5, 6, 7, 8, 9, 10, 13, 14, 15, 16, 17, 18, 19, 20, 21, 22, 23, 24, 25, 26, 27, 28, 29, 30, 31, 32, 33, 34, 35, 36, 37, 38, 39, 40, 41, 42, 43, 44, 45] (T' := cgo 71 [true] [.code B29]) (tm' := mk 54 [(0, .d (.str s)), (2, .d (.bool false)), (3, .d (.int .i64 (↑i : Int))), (4, .d (.int .u8 (↑y2.toNat : Int))), (5, .d (.bool false)), (6, .d (.bool (decide ((↑y2.toNat : Int) ≤ 57)))), (7, .d (.int .i64 (↑i : Int))), (8, .d (.str s)), (9, .d (.int .i64 (↑s.size : Int))), (10, .d (.bool (decide ((↑i : Int) < (↑s.size : Int))))), (13, .d (.str s)), (14, .d (.int .i64 (↑i : Int))), (15, .d (.int .u8 (↑y2.toNat : Int))), (16, .d (.int .u8 (↑y2.toNat : Int))), (17, .d (.bool false)), (18, .d (.bool false)), (19, V.tuple []), (20, V.tuple []), (21, .d (.bool false)), (22, .d (.int .u8 (↑y2.toNat : Int))), (23, .d (.bool true)), (24, .d (.bool true)), (25, .d (.int .u8 (↑y2.toNat : Int))), (26, .d (.bool (decide ((↑y2.toNat : Int) ≤ 57)))), (27, .d (.bool (decide ((↑y2.toNat : Int) ≤ 57)))), (28, .d (.bool false)), (29, .d (.bool true)), (30, .d (.bool true)), (31, .d (.bool (decide ((↑y2.toNat : Int) ≤ 57)))), (32, .d (.bool true)), (33, .d (.bool true)), (34, .d (.bool true)), (35, .d (.int .u8 (↑y2.toNat : Int))), (36, .d (.bool true)), (37, .d (.bool true)), (38, .d (.bool true)), (39, .d (.int .u8 (↑y2.toNat : Int))), (40, .d (.bool true)), (41, .d (.bool true)), (42, .d (.bool true)), (43, .d (.int .u8 (↑y2.toNat : Int))), (44, .d (.bool ((↑y2.toNat : Int) != 95))), (45, .d (.bool ((↑y2.toNat : Int) != 95)))]) (σ' := []) (by kernel_rfl) ?_
                refine .ifH (b := (↑y2.toNat : Int) != 95) (by kernel_rfl) (by kernel_rfl) (T1 := cgo 72 [true, true] [Item.code B29]) (T2 := cgo 72 [true, false] [Item.code B29]) (by kernel_rfl) (by kernel_rfl) (fun h14 => ?_) (fun h14 => ?_)
                · simp only [decide_eq_true_eq, decide_eq_false_iff_not, beq_iff_eq, bne_iff_ne, beq_eq_false_iff_ne, bne_eq_false_iff_eq, Bool.not_eq_true', Bool.not_eq_false', ne_eq, Decidable.not_not, Bool.not_eq_true, Bool.not_eq_false] at h14
                  refine .seg 4 [0, 2, 3, 4, 5, 6, 7, 8, 9, 10, 13, 14, 15, 16, 17, 18, 19, 20, 21, 22, 23, 24, 25, 26, 27, 28, 29, 30, 31, 32, 33, 34, 35, 36, 37, 38, 39, 40, 41, 42, 43, 44, 45] (T' := cgo 76 [true, true] [.code B29]) (tm' := mk 54 [(0, .d (.str s)), (2, .d (.bool false)), (3, .d (.int .i64 (↑i : Int))), (4, .d (.int .u8 (↑y2.toNat : Int))), (5, .d (.bool false)), (6, .d (.bool (decide ((↑y2.toNat : Int) ≤ 57)))), (7, .d (.int .i64 (↑i : Int))), (8, .d (.str s)), (9, .d (.int .i64 (↑s.size : Int))), (10, .d (.bool (decide ((↑i : Int) < (↑s.size : Int))))), (13, .d (.str s)), (14, .d (.int .i64 (↑i : Int))), (15, .d (.int .u8 (↑y2.toNat : Int))), (16, .d (.int .u8 (↑y2.toNat : Int))), (17, .d (.bool false)), (18, .d (.bool false)), (19, V.tuple []), (20, V.tuple []), (21, .d (.bool false)), (22, .d (.int .u8 (↑y2.toNat : Int))), (23, .d (.bool true)), (24, .d (.bool true)), (25, .d (.int .u8 (↑y2.toNat : Int))), (26, .d (.bool (decide ((↑y2.toNat : Int) ≤ 57)))), (27, .d (.bool (decide ((↑y2.toNat : Int) ≤ 57)))), (28, .d (.bool false)), (29, .d (.bool true)), (30, .d (.bool true)), (31, .d (.bool (decide ((↑y2.toNat : Int) ≤ 57)))), (32, .d (.bool true)), (33, .d (.bool true)), (34, .d (.bool true)), (35, .d (.int .u8 (↑y2.toNat : Int))), (36, .d (.bool true)), (37, .d (.bool true)), (38, .d (.bool true)), (39, .d (.int .u8 (↑y2.toNat : Int))), (40, .d (.bool true)), (41, .d (.bool true)), (42, .d (.bool true)), (43, .d (.int .u8 (↑y2.toNat : Int))), (44, .d (.bool ((↑y2.toNat : Int) != 95))), (45, .d (.bool ((↑y2.toNat : Int) != 95)))]) (σ' := []) (by kernel_rfl) ?_
                  refine .retH F29 (v := V.d (D.bool false)) (by kernel_rfl) (by kernel_rfl) ?_
                  exact ⟨by rw [no28 hy2 (by unfold okc; omega)], rfl⟩
                · simp only [decide_eq_true_eq, decide_eq_false_iff_not, beq_iff_eq, bne_iff_ne, beq_eq_false_iff_ne, bne_eq_false_iff_eq, Bool.not_eq_true', Bool.not_eq_false', ne_eq, Decidable.not_not, Bool.not_eq_true, Bool.not_eq_false] at h14
                  refine .seg 7 [0, 2, 3, 4, 5, 6, 7, 8, 9, 10, 11, 12, 13, 14, 15, 16, 17, 18, 19, 20, 21, 22, 23, 24, 25, 26, 27, 28, 29, 30, 31, 32, 33, 34, 35, 36, 37, 38, 39, 40, 41, 42, 43, 44, 45] (T' := cgo 79 [true, false] [.code B29]) (tm' := mk 54 [(0, .d (.str s)), (2, .d (.bool false)), (3, .d (.int .i64 (IntKind.i64.wrap ((↑i : Int) + 1)))), (4, .d (.int .u8 (↑y2.toNat : Int))), (5, .d (.bool false)), (6, .d (.bool (decide ((↑y2.toNat : Int) ≤ 57)))), (7, .d (.int .i64 (↑i : Int))), (8, .d (.str s)), (9, .d (.int .i64 (↑s.size : Int))), (10, .d (.bool (decide ((↑i : Int) < (↑s.size : Int))))), (11, .d (.int .i64 (↑i : Int))), (12, .d (.int .i64 (IntKind.i64.wrap ((↑i : Int) + 1)))), (13, .d (.str s)), (14, .d (.int .i64 (↑i : Int))), (15, .d (.int .u8 (↑y2.toNat : Int))), (16, .d (.int .u8 (↑y2.toNat : Int))), (17, .d (.bool false)), (18, .d (.bool false)), (19, V.tuple []), (20, V.tuple []), (21, .d (.bool false)), (22, .d (.int .u8 (↑y2.toNat : Int))), (23, .d (.bool true)), (24, .d (.bool true)), (25, .d (.int .u8 (↑y2.toNat : Int))), (26, .d (.bool (decide ((↑y2.toNat : Int) ≤ 57)))), (27, .d (.bool (decide ((↑y2.toNat : Int) ≤ 57)))), (28, .d (.bool false)), (29, .d (.bool true)), (30, .d (.bool true)), (31, .d (.bool (decide ((↑y2.toNat : Int) ≤ 57)))), (32, .d (.bool true)), (33, .d (.bool true)), (34, .d (.bool true)), (35, .d (.int .u8 (↑y2.toNat : Int))), (36, .d (.bool true)), (37, .d (.bool true)), (38, .d (.bool true)), (39, .d (.int .u8 (↑y2.toNat : Int))), (40, .d (.bool true)), (41, .d (.bool true)), (42, .d (.bool true)), (43, .d (.int .u8 (↑y2.toNat : Int))), (44, .d (.bool ((↑y2.toNat : Int) != 95))), (45, .d (.bool ((↑y2.toNat : Int) != 95)))]) (σ' := []) (by kernel_rfl) ?_
                  simp (disch := omega) only [wrap_i64, wrap_u64s, wrap_u32s, wrap_u8s, wrap_i32s, iadd_i64, isub_i64, irem_n, iquo_n, tdiv_nn, tmod_nn]
                  refine .seg 1 [0, 2, 3] (T' := cgo 11 [] [.code B29]) (tm' := mk 54 [(0, .d (.str s)), (2, .d (.bool false)), (3, .d (i64 (↑i + 1)))]) (σ' := []) (by kernel_rfl) ?_
                  exact ih (i + 1) (by omega) (yes28 hj hy2 (by unfold okc; omega))
              · rw [h13]
                simp only [decide_eq_true_eq, decide_eq_false_iff_not, beq_iff_eq, bne_iff_ne, beq_eq_false_iff_ne, bne_eq_false_iff_eq, Bool.not_eq_true', Bool.not_eq_false', ne_eq, Decidable.not_not, Bool.not_eq_true, Bool.not_eq_false] at h13
                omega
            · rw [h12]
              simp only [decide_eq_true_eq, decide_eq_false_iff_not, beq_iff_eq, bne_iff_ne, beq_eq_false_iff_ne, bne_eq_false_iff_eq, Bool.not_eq_true', Bool.not_eq_false', ne_eq, Decidable.not_not, Bool.not_eq_true, Bool.not_eq_false] at h12
              omega
          · rw [h11]
            simp only [decide_eq_true_eq, decide_eq_false_iff_not, beq_iff_eq, bne_iff_ne, beq_eq_false_iff_ne, bne_eq_false_iff_eq, Bool.not_eq_true', Bool.not_eq_false', ne_eq, Decidable.not_not, Bool.not_eq_true, Bool.not_eq_false] at h11
            refine .seg 20 [0, 2, 3, 4, 5, 6, 7, 8, 9, 10, 11, 12, 13, 14, 15, 16, 17, 18, 19, 20, 21, 22, 23, 24, 25, 26, 27, 28, 29, 30, 31, 32, 33, 34, 35, 36, 37, 38, 39, 40, 41, 42, 43, 44, 45] (T' := cgo 79 [true, false] [.code B29]) (tm' := mk 54 [(0, .d (.str s)), (2, .d (.bool false)), (3, .d (.int .i64 (IntKind.i64.wrap ((↑i : Int) + 1)))), (4, .d (.int .u8 (↑y2.toNat : Int))), (5, .d (.bool false)), (6, .d (.bool (decide ((↑y2.toNat : Int) ≤ 57)))), (7, .d (.int .i64 (↑i : Int))), (8, .d (.str s)), (9, .d (.int .i64 (↑s.size : Int))), (10, .d (.bool (decide ((↑i : Int) < (↑s.size : Int))))), (11, .d (.int .i64 (↑i : Int))), (12, .d (.int .i64 (IntKind.i64.wrap ((↑i : Int) + 1)))), (13, .d (.str s)), (14, .d (.int .i64 (↑i : Int))), (15, .d (.int .u8 (↑y2.toNat : Int))), (16, .d (.int .u8 (↑y2.toNat : Int))), (17, .d (.bool false)), (18, .d (.bool false)), (19, V.tuple []), (20, V.tuple []), (21, .d (.bool false)), (22, .d (.int .u8 (↑y2.toNat : Int))), (23, .d (.bool true)), (24, .d (.bool true)), (25, .d (.int .u8 (↑y2.toNat : Int))), (26, .d (.bool (decide ((↑y2.toNat : Int) ≤ 57)))), (27, .d (.bool (decide ((↑y2.toNat : Int) ≤ 57)))), (28, .d (.bool false)), (29, .d (.bool true)), (30, .d (.bool true)), (31, .d (.bool (decide ((↑y2.toNat : Int) ≤ 57)))), (32, .d (.bool false)), (33, .d (.bool false)), (34, .d (.bool false)), (35, V.tuple []), (36, V.tuple []), (37, .d (.bool false)), (38, .d (.bool false)), (39, V.tuple []), (40, V.tuple []), (41, .d (.bool false)), (42, .d (.bool false)), (43, V.tuple []), (44, V.tuple []), (45, .d (.bool false))]) (σ' := []) (by kernel_rfl) ?_
            simp (disch := omega) only [wrap_i64, wrap_u64s, wrap_u32s, wrap_u8s, wrap_i32s, iadd_i64, isub_i64, irem_n, iquo_n, tdiv_nn, tmod_nn]
            refine .seg 1 [0, 2, 3] (T' := cgo 11 [] [.code B29]) (tm' := mk 54 [(0, .d (.str s)), (2, .d (.bool false)), (3, .d (i64 (↑i + 1)))]) (σ' := []) (by kernel_rfl) ?_
            exact ih (i + 1) (by omega) (yes28 hj hy2 (by unfold okc; omega))
        · rw [h10]
          simp only [decide_eq_true_eq, decide_eq_false_iff_not, beq_iff_eq, bne_iff_ne, beq_eq_false_iff_ne, bne_eq_false_iff_eq, Bool.not_eq_true', Bool.not_eq_false', ne_eq, Decidable.not_not, Bool.not_eq_true, Bool.not_eq_false] at h10
          refine .seg 18 [0, 2, 3, 4, 5, 6, 7, 8, 9, 10, 13, 14, 15, 16, 17, 18, 19, 20, 21, 22, 23, 24, 25, 26, 27, 28, 29, 30, 31, 32, 33, 34, 35, 36, 37, 38] (T' := cgo 63 [true] [.code B29]) (tm' := mk 54 [(0, .d (.str s)), (2, .d (.bool false)), (3, .d (.int .i64 (↑i : Int))), (4, .d (.int .u8 (↑y2.toNat : Int))), (5, .d (.bool false)), (6, .d (.bool false)), (7, .d (.int .i64 (↑i : Int))), (8, .d (.str s)), (9, .d (.int .i64 (↑s.size : Int))), (10, .d (.bool (decide ((↑i : Int) < (↑s.size : Int))))), (13, .d (.str s)), (14, .d (.int .i64 (↑i : Int))), (15, .d (.int .u8 (↑y2.toNat : Int))), (16, .d (.int .u8 (↑y2.toNat : Int))), (17, .d (.bool false)), (18, .d (.bool false)), (19, V.tuple []), (20, V.tuple []), (21, .d (.bool false)), (22, .d (.int .u8 (↑y2.toNat : Int))), (23, .d (.bool false)), (24, .d (.bool false)), (25, V.tuple []), (26, V.tuple []), (27, .d (.bool false)), (28, .d (.bool false)), (29, .d (.bool true)), (30, .d (.bool true)), (31, .d (.bool false)), (32, .d (.bool true)), (33, .d (.bool true)), (34, .d (.bool true)), (35, .d (.int .u8 (↑y2.toNat : Int))), (36, .d (.bool ((↑y2.toNat : Int) != 46))), (37, .d (.bool ((↑y2.toNat : Int) != 46))), (38, .d (.bool ((↑y2.toNat : Int) != 46)))]) (σ' := []) (by kernel_rfl) ?_
          rcases Bool.eq_false_or_eq_true ((↑y2.toNat : Int) != 46) with h15 | h15
          · rw [h15]
            simp only [decide_eq_true_eq, decide_eq_false_iff_not, beq_iff_eq, bne_iff_ne, beq_eq_false_iff_ne, bne_eq_false_iff_eq, Bool.not_eq_true', Bool.not_eq_false', ne_eq, Decidable.not_not, Bool.not_eq_true, Bool.not_eq_false] at h15
            refine .seg 4 [0, 2, 3, 4, 5, 6, 7, 8, 9, 10, 13, 14, 15, 16, 17, 18, 19, 20, 21, 22, 23, 24, 25, 26, 27, 28, 29, 30, 31, 32, 33, 34, 35, 36, 37, 38, 39, 40, 41, 42] (T' := cgo 67 [true] [.code B29]) (tm' := mk 54 [(0, .d (.str s)), (2, .d (.bool false)), (3, .d (.int .i64 (↑i : Int))), (4, .d (.int .u8 (↑y2.toNat : Int))), (5, .d (.bool false)), (6, .d (.bool false)), (7, .d (.int .i64 (↑i : Int))), (8, .d (.str s)), (9, .d (.int .i64 (↑s.size : Int))), (10, .d (.bool (decide ((↑i : Int) < (↑s.size : Int))))), (13, .d (.str s)), (14, .d (.int .i64 (↑i : Int))), (15, .d (.int .u8 (↑y2.toNat : Int))), (16, .d (.int .u8 (↑y2.toNat : Int))), (17, .d (.bool false)), (18, .d (.bool false)), (19, V.tuple []), (20, V.tuple []), (21, .d (.bool false)), (22, .d (.int .u8 (↑y2.toNat : Int))), (23, .d (.bool false)), (24, .d (.bool false)), (25, V.tuple []), (26, V.tuple []), (27, .d (.bool false)), (28, .d (.bool false)), (29, .d (.bool true)), (30, .d (.bool true)), (31, .d (.bool false)), (32, .d (.bool true)), (33, .d (.bool true)), (34, .d (.bool true)), (35, .d (.int .u8 (↑y2.toNat : Int))), (36, .d (.bool true)), (37, .d (.bool true)), (38, .d (.bool true)), (39, .d (.int .u8 (↑y2.toNat : Int))), (40, .d (.bool ((↑y2.toNat : Int) != 45))), (41, .d (.bool ((↑y2.toNat : Int) != 45))), (42, .d (.bool ((↑y2.toNat : Int) != 45)))]) (σ' := []) (by kernel_rfl) ?_
            rcases Bool.eq_false_or_eq_true ((↑y2.toNat : Int) != 45) with h16 | h16
            · rw [h16]
              simp only [decide_eq_true_eq, decide_eq_false_iff_not, beq_iff_eq, bne_iff_ne, beq_eq_false_iff_ne, bne_eq_false_iff_eq, Bool.not_eq_true', Bool.not_eq_false', ne_eq, Decidable.not_not, Bool.not_eq_true, Bool.not_eq_false] at h16
              refine .seg 4 [0, 2, 3, 4, 5, 6, 7, 8, 9, 10, 13, 14, 15, 16, 17, 18, 19, 20, 21, 22, 23, 24, 25, 26, 27, 28, 29, 30, 31, 32, 33, 34, 35, 36, 37, 38, 39, 40, 41, 42, 43, 44, 45] (T' := cgo 71 [true] [.code B29]) (tm' := mk 54 [(0, .d (.str s)), (2, .d (.bool false)), (3, .d (.int .i64 (↑i : Int))), (4, .d (.int .u8 (↑y2.toNat : Int))), (5, .d (.bool false)), (6, .d (.bool false)), (7, .d (.int .i64 (↑i : Int))), (8, .d (.str s)), (9, .d (.int .i64 (↑s.size : Int))), (10, .d (.bool (decide ((↑i : Int) < (↑s.size : Int))))), (13, .d (.str s)), (14, .d (.int .i64 (↑i : Int))), (15, .d (.int .u8 (↑y2.toNat : Int))), (16, .d (.int .u8 (↑y2.toNat : Int))), (17, .d (.bool false)), (18, .d (.bool false)), (19, V.tuple []), (20, V.tuple []), (21, .d (.bool false)), (22, .d (.int .u8 (↑y2.toNat : Int))), (23, .d (.bool false)), (24, .d (.bool false)), (25, V.tuple []), (26, V.tuple []), (27, .d (.bool false)), (28, .d (.bool false)), (29, .d (.bool true)), (30, .d (.bool true)), (31, .d (.bool false)), (32, .d (.bool true)), (33, .d (.bool true)), (34, .d (.bool true)), (35, .d (.int .u8 (↑y2.toNat : Int))), (36, .d (.bool true)), (37, .d (.bool true)), (38, .d (.bool true)), (39, .d (.int .u8 (↑y2.toNat : Int))), (40, .d (.bool true)), (41, .d (.bool true)), (42, .d (.bool true)), (43, .d (.int .u8 (↑y2.toNat : Int))), (44, .d (.bool ((↑y2.toNat : Int) != 95))), (45, .d (.bool ((↑y2.toNat : Int) != 95)))]) (σ' := []) (by kernel_rfl) ?_
              refine .ifH (b := (↑y2.toNat : Int) != 95) (by kernel_rfl) (by kernel_rfl) (T1 := cgo 72 [true, true] [Item.code B29]) (T2 := cgo 72 [true, false] [Item.code B29]) (by kernel_rfl) (by kernel_rfl) (fun h17 => ?_) (fun h17 => ?_)
              · simp only [decide_eq_true_eq, decide_eq_false_iff_not, beq_iff_eq, bne_iff_ne, beq_eq_false_iff_ne, bne_eq_false_iff_eq, Bool.not_eq_true', Bool.not_eq_false', ne_eq, Decidable.not_not, Bool.not_eq_true, Bool.not_eq_false] at h17
                refine .seg 4 [0, 2, 3, 4, 5, 6, 7, 8, 9, 10, 13, 14, 15, 16, 17, 18, 19, 20, 21, 22, 23, 24, 25, 26, 27, 28, 29, 30, 31, 32, 33, 34, 35, 36, 37, 38, 39, 40, 41, 42, 43, 44, 45] (T' := cgo 76 [true, true] [.code B29]) (tm' := mk 54 [(0, .d (.str s)), (2, .d (.bool false)), (3, .d (.int .i64 (↑i : Int))), (4, .d (.int .u8 (↑y2.toNat : Int))), (5, .d (.bool false)), (6, .d (.bool false)), (7, .d (.int .i64 (↑i : Int))), (8, .d (.str s)), (9, .d (.int .i64 (↑s.size : Int))), (10, .d (.bool (decide ((↑i : Int) < (↑s.size : Int))))), (13, .d (.str s)), (14, .d (.int .i64 (↑i : Int))), (15, .d (.int .u8 (↑y2.toNat : Int))), (16, .d (.int .u8 (↑y2.toNat : Int))), (17, .d (.bool false)), (18, .d (.bool false)), (19, V.tuple []), (20, V.tuple []), (21, .d (.bool false)), (22, .d (.int .u8 (↑y2.toNat : Int))), (23, .d (.bool false)), (24, .d (.bool false)), (25, V.tuple []), (26, V.tuple []), (27, .d (.bool false)), (28, .d (.bool false)), (29, .d (.bool true)), (30, .d (.bool true)), (31, .d (.bool false)), (32, .d (.bool true)), (33, .d (.bool true)), (34, .d (.bool true)), (35, .d (.int .u8 (↑y2.toNat : Int))), (36, .d (.bool true)), (37, .d (.bool true)), (38, .d (.bool true)), (39, .d (.int .u8 (↑y2.toNat : Int))), (40, .d (.bool true)), (41, .d (.bool true)), (42, .d (.bool true)), (43, .d (.int .u8 (↑y2.toNat : Int))), (44, .d (.bool ((↑y2.toNat : Int) != 95))), (45, .d (.bool ((↑y2.toNat : Int) != 95)))]) (σ' := []) (by kernel_rfl) ?_
                refine .retH F29 (v := V.d (D.bool false)) (by kernel_rfl) (by kernel_rfl) ?_
                exact ⟨by rw [no28 hy2 (by unfold okc; omega)], rfl⟩
              · simp only [decide_eq_true_eq, decide_eq_false_iff_not, beq_iff_eq, bne_iff_ne, beq_eq_false_iff_ne, bne_eq_false_iff_eq, Bool.not_eq_true', Bool.not_eq_false', ne_eq, Decidable.not_not, Bool.not_eq_true, Bool.not_eq_false] at h17
                omega
            · rw [h16]
              simp only [decide_eq_true_eq, decide_eq_false_iff_not, beq_iff_eq, bne_iff_ne, beq_eq_false_iff_ne, bne_eq_false_iff_eq, Bool.not_eq_true', Bool.not_eq_false', ne_eq, Decidable.not_not, Bool.not_eq_true, Bool.not_eq_false] at h16
              refine .seg 12 [0, 2, 3, 4, 5, 6, 7, 8, 9, 10, 11, 12, 13, 14, 15, 16, 17, 18, 19, 20, 21, 22, 23, 24, 25, 26, 27, 28, 29, 30, 31, 32, 33, 34, 35, 36, 37, 38, 39, 40, 41, 42, 43, 44, 45] (T' := cgo 79 [true, false] [.code B29]) (tm' := mk 54 [(0, .d (.str s)), (2, .d (.bool false)), (3, .d (.int .i64 (IntKind.i64.wrap ((↑i : Int) + 1)))), (4, .d (.int .u8 (↑y2.toNat : Int))), (5, .d (.bool false)), (6, .d (.bool false)), (7, .d (.int .i64 (↑i : Int))), (8, .d (.str s)), (9, .d (.int .i64 (↑s.size : Int))), (10, .d (.bool (decide ((↑i : Int) < (↑s.size : Int))))), (11, .d (.int .i64 (↑i : Int))), (12, .d (.int .i64 (IntKind.i64.wrap ((↑i : Int) + 1)))), (13, .d (.str s)), (14, .d (.int .i64 (↑i : Int))), (15, .d (.int .u8 (↑y2.toNat : Int))), (16, .d (.int .u8 (↑y2.toNat : Int))), (17, .d (.bool false)), (18, .d (.bool false)), (19, V.tuple []), (20, V.tuple []), (21, .d (.bool false)), (22, .d (.int .u8 (↑y2.toNat : Int))), (23, .d (.bool false)), (24, .d (.bool false)), (25, V.tuple []), (26, V.tuple []), (27, .d (.bool false)), (28, .d (.bool false)), (29, .d (.bool true)), (30, .d (.bool true)), (31, .d (.bool false)), (32, .d (.bool true)), (33, .d (.bool true)), (34, .d (.bool true)), (35, .d (.int .u8 (↑y2.toNat : Int))), (36, .d (.bool true)), (37, .d (.bool true)), (38, .d (.bool true)), (39, .d (.int .u8 (↑y2.toNat : Int))), (40, .d (.bool false)), (41, .d (.bool false)), (42, .d (.bool false)), (43, V.tuple []), (44, V.tuple []), (45, .d (.bool false))]) (σ' := []) (by kernel_rfl) ?_
              simp (disch := omega) only [wrap_i64, wrap_u64s, wrap_u32s, wrap_u8s, wrap_i32s, iadd_i64, isub_i64, irem_n, iquo_n, tdiv_nn, tmod_nn]
              refine .seg 1 [0, 2, 3] (T' := cgo 11 [] [.code B29]) (tm' := mk 54 [(0, .d (.str s)), (2, .d (.bool false)), (3, .d (i64 (↑i + 1)))]) (σ' := []) (by kernel_rfl) ?_
              exact ih (i + 1) (by omega) (yes28 hj hy2 (by unfold okc; omega))
          · rw [h15]
            simp only [decide_eq_true_eq, decide_eq_false_iff_not, beq_iff_eq, bne_iff_ne, beq_eq_false_iff_ne, bne_eq_false_iff_eq, Bool.not_eq_true', Bool.not_eq_false', ne_eq, Decidable.not_not, Bool.not_eq_true, Bool.not_eq_false] at h15
            refine .seg 16 [0, 2, 3, 4, 5, 6, 7, 8, 9, 10, 11, 12, 13, 14, 15, 16, 17, 18, 19, 20, 21, 22, 23, 24, 25, 26, 27, 28, 29, 30, 31, 32, 33, 34, 35, 36, 37, 38, 39, 40, 41, 42, 43, 44, 45] (T' := cgo 79 [true, false] [.code B29]) (tm' := mk 54 [(0, .d (.str s)), (2, .d (.bool false)), (3, .d (.int .i64 (IntKind.i64.wrap ((↑i : Int) + 1)))), (4, .d (.int .u8 (↑y2.toNat : Int))), (5, .d (.bool false)), (6, .d (.bool false)), (7, .d (.int .i64 (↑i : Int))), (8, .d (.str s)), (9, .d (.int .i64 (↑s.size : Int))), (10, .d (.bool (decide ((↑i : Int) < (↑s.size : Int))))), (11, .d (.int .i64 (↑i : Int))), (12, .d (.int .i64 (IntKind.i64.wrap ((↑i : Int) + 1)))), (13, .d (.str s)), (14, .d (.int .i64 (↑i : Int))), (15, .d (.int .u8 (↑y2.toNat : Int))), (16, .d (.int .u8 (↑y2.toNat : Int))), (17, .d (.bool false)), (18, .d (.bool false)), (19, V.tuple []), (20, V.tuple []), (21, .d (.bool false)), (22, .d (.int .u8 (↑y2.toNat : Int))), (23, .d (.bool false)), (24, .d (.bool false)), (25, V.tuple []), (26, V.tuple []), (27, .d (.bool false)), (28, .d (.bool false)), (29, .d (.bool true)), (30, .d (.bool true)), (31, .d (.bool false)), (32, .d (.bool true)), (33, .d (.bool true)), (34, .d (.bool true)), (35, .d (.int .u8 (↑y2.toNat : Int))), (36, .d (.bool false)), (37, .d (.bool false)), (38, .d (.bool false)), (39, V.tuple []), (40, V.tuple []), (41, .d (.bool false)), (42, .d (.bool false)), (43, V.tuple []), (44, V.tuple []), (45, .d (.bool false))]) (σ' := []) (by kernel_rfl) ?_
            simp (disch := omega) only [wrap_i64, wrap_u64s, wrap_u32s, wrap_u8s, wrap_i32s, iadd_i64, isub_i64, irem_n, iquo_n, tdiv_nn, tmod_nn]
            refine .seg 1 [0, 2, 3] (T' := cgo 11 [] [.code B29]) (tm' := mk 54 [(0, .d (.str s)), (2, .d (.bool false)), (3, .d (i64 (↑i + 1)))]) (σ' := []) (by kernel_rfl) ?_
            exact ih (i + 1) (by omega) (yes28 hj hy2 (by unfold okc; omega))
    · simp only [decide_eq_true_eq, decide_eq_false_iff_not, beq_iff_eq, bne_iff_ne, beq_eq_false_iff_ne, bne_eq_false_iff_eq, Bool.not_eq_true', Bool.not_eq_false', ne_eq, Decidable.not_not, Bool.not_eq_true, Bool.not_eq_false] at h1
      omega
theorem spec_29 (s : ByteArray) (hs : s.size < 9223372036854775807) : Br.Pure Try.prog 29 [.d (.str s)] (.d (.bool (mayName s))) := by
  refine CallsA.start F29 (tm := mk 54 [(0, .d (.str s))]) (by kernel_rfl) ?_
  refine .seg 11 [0, 2, 3] (T' := cgo 11 [] [.code B29]) (tm' := mk 54 [(0, .d (.str s)), (2, .d (.bool false)), (3, .d (i64 (0 : Nat)))]) (σ' := []) (by kernel_rfl) ?_
  exact lp29 s hs s.size 0 (by omega) fun j _ h => by omega
end Go.Proofs.Ytoelkgbeefoplaa

namespace Go.Proofs.Ytoelkgbeefoplaa
open Go Go.Br Go.Proofs

end Go.Proofs.Ytoelkgbeefoplaa

namespace Go.Proofs.Ytoelkgbeefoplaa
open Go Go.Br Go.Proofs

section
variable {Q : AE → Store → Prop}
end
end Go.Proofs.Ytoelkgbeefoplaa


namespace Go.Proofs.Ytoelkgbeefoplaa
open Go Go.Br Go.Proofs
theorem rem_ok {P : Program} {tm : List V} {σ : Store} {o : Oper} {x y : Operand} {t ty : TypeId} {k : IntKind} {a b : Int} (ho : o.op = .binOp .rem t x y ty) (hx : ev tm x = .d (.int k a)) (hy : ev tm y = .d (.int k b)) (hb : b ≠ 0) : OpOk P o tm σ (.d (.int k (irem a b))) tm σ :=
  qop_opOk (by simp [ho, qop, hx, hy, binV, intBin, hb, irem])
end Go.Proofs.Ytoelkgbeefoplaa


namespace Go.Proofs.Ytoelkgbeefoplaa
open Go Go.Br Go.Proofs
end Go.Proofs.Ytoelkgbeefoplaa

namespace Go.Proofs.Ytoelkgbeefoplaa
open Go Go.Br Go.Proofs
set_option linter.unusedSimpArgs false
/-- A disk. -/
structure Dk where
  files : List (List UInt8 × Nat)
  nk : List ByteArray
  nv : List Int
  sk : List ByteArray
  sv : List Int
  ch : List (ByteArray × ByteArray × Int)
  quota : Int
  full : Bool
  off : Bool
  stop : Int
  calls : Int
def fileD (x : List UInt8 × Nat) : D := .agg [bsD x.1, i64 x.2]
def chD (c : ByteArray × ByteArray × Int) : D := .agg [.str c.1, .str c.2.1, .int .i64 c.2.2]
/-- A directory that nobody changes any more. -/
def dirD (ks : List ByteArray) (V2 : List Int) : D := .agg [.list 1 (ks.map strD), .list 1 (V2.map intD)]
/-- A disk, as it lies in the store. -/
def SD (d : Dk) (m : Bool) : Store := [.cells [.row 1, .ptr 2 0 0, .ep 2 (dirD d.sk d.sv) 0, .row 5, .d (.int .i64 d.quota), .d (.bool d.full), .d (.bool d.off), .d (.int .i64 d.stop), .d (.int .i64 d.calls)],
  .row 2 (d.files.map fileD) m, .cells [.row 3, .row 4], .row 1 (d.nk.map strD) m, .row 1 (d.nv.map intD) m, .row 3 (d.ch.map chD) m]
/-- A disk's store, told short: its files' row, its directory's place, the disk, whether its rows may change, what follows. -/
abbrev SP (r p : Nat) (d : Dk) (m : Bool) (t : Store) : Store := .cells [.row r, .ptr p 0 0, .ep 2 (.agg [.list 1 (d.sk.map strD), .list 1 (d.sv.map intD)]) 0, .row 5, .d (.int .i64 d.quota), .d (.bool d.full), .d (.bool d.off), .d (.int .i64 d.stop), .d (.int .i64 d.calls)] ::
  .row 2 (d.files.map fileD) m :: .cells [.row 3, .row 4] :: .row 1 (d.nk.map strD) m :: .row 1 (d.nv.map intD) m :: .row 3 (d.ch.map chD) m :: t
noncomputable def B94 : Code := (Try.f94.body).getD .skip
theorem F94 : Fnc Try.prog 94 Try.f94 B94 := ⟨Try.func94, by kernel_rfl, by kernel_rfl⟩
def Dk.begun (d : Dk) : Dk := if d.off then d else { d with calls := d.calls + 1, off := decide (d.stop = 0), stop := if -1 > d.stop - 1 then -1 else d.stop - 1 }
theorem spec_94 (d : Dk) (hc : 0 ≤ d.calls) (hc' : d.calls < 1000000000) (hs : -1 ≤ d.stop) (hs' : d.stop < 9223372036854775807) :
    CallsA Try.prog 94 [.ptr 0 0 0] (SD d false) fun r σ' => r = .ret (.d (.bool (!d.begun.off))) ∧ σ' = SD d.begun false := by
  refine CallsA.start F94 (tm := mk (Try.f94.ntmps) [(0, .ptr 0 0 0)]) (by kernel_rfl) ?_
  refine .seg 16 [0, 2, 10] (T' := cgo 16 [] [.code B94]) (tm' := mk 40 [(0, .ptr 0 0 0), (2, .d (.bool false)), (10, .d (.bool d.off))]) (σ' := (SP 1 2 d false [])) (by kernel_rfl) ?_
  refine .ifH (b := d.off) (by kernel_rfl) (by kernel_rfl) (T1 := cgo 17 [true] [Item.code B94]) (T2 := cgo 17 [false] [Item.code B94]) (by kernel_rfl) (by kernel_rfl) (fun h1 => ?_) (fun h1 => ?_)
  · refine .seg 4 [0, 2] (T' := cgo 21 [true] [.code B94]) (tm' := mk 40 [(0, .ptr 0 0 0), (2, .d (.bool false))]) (σ' := (SP 1 2 d false [])) (by kernel_rfl) ?_
    refine .retH F94 (v := V.d (D.bool false)) (by kernel_rfl) (by kernel_rfl) ?_
    simp_all [Dk.begun, SD, dirD]
  · refine .seg 21 [0, 2, 22] (T' := cgo 38 [false] [.code B94]) (tm' := mk 40 [(0, .ptr 0 0 0), (2, .d (.bool false)), (22, .d (.bool (d.stop == 0)))]) (σ' := [.cells [.row 1, .ptr 2 0 0, .ep 2 (D.agg [D.list 1 (List.map strD d.sk), D.list 1 (List.map intD d.sv)]) 0, .row 5, .d (.int .i64 d.quota), .d (.bool d.full), .d (.bool d.off), .d (.int .i64 d.stop), .d (.int .i64 (IntKind.i64.wrap (d.calls + 1)))], .row 2 (List.map fileD d.files) false, .cells [.row 3, .row 4], .row 1 (List.map strD d.nk) false, .row 1 (List.map intD d.nv) false, .row 3 (List.map chD d.ch) false]) (by kernel_rfl) ?_
    simp (disch := omega) only [wrap_i64, wrap_u64s, wrap_u32s, wrap_u8s, wrap_i32s, iadd_i64, isub_i64, irem_n, iquo_n, tdiv_nn, tmod_nn]
    refine .ifH (b := d.stop == 0) (by kernel_rfl) (by kernel_rfl) (T1 := cgo 39 [false, true] [Item.code B94]) (T2 := cgo 39 [false, false] [Item.code B94]) (by kernel_rfl) (by kernel_rfl) (fun h2 => ?_) (fun h2 => ?_)
    · simp only [decide_eq_true_eq, decide_eq_false_iff_not, beq_iff_eq, bne_iff_ne, beq_eq_false_iff_ne, bne_eq_false_iff_eq, Bool.not_eq_true', Bool.not_eq_false', ne_eq, Decidable.not_not, Bool.not_eq_true, Bool.not_eq_false] at h2
      refine .seg 28 [2] (T' := cgo 67 [false, true] [.code B94]) (tm' := mk 40 [(2, .d (.bool false))]) (σ' := [.cells [.row 1, .ptr 2 0 0, .ep 2 (D.agg [D.list 1 (List.map strD d.sk), D.list 1 (List.map intD d.sv)]) 0, .row 5, .d (.int .i64 d.quota), .d (.bool d.full), .d (.bool true), .d (.int .i64 (if -1 > IntKind.i64.wrap (d.stop - 1) then -1 else IntKind.i64.wrap (d.stop - 1))), .d (.int .i64 (d.calls + 1))], .row 2 (List.map fileD d.files) false, .cells [.row 3, .row 4], .row 1 (List.map strD d.nk) false, .row 1 (List.map intD d.nv) false, .row 3 (List.map chD d.ch) false]) (by kernel_rfl) ?_
      simp (disch := omega) only [wrap_i64, wrap_u64s, wrap_u32s, wrap_u8s, wrap_i32s, iadd_i64, isub_i64, irem_n, iquo_n, tdiv_nn, tmod_nn]
      refine .retH F94 (v := V.d (D.bool false)) (by kernel_rfl) (by kernel_rfl) ?_
      simp_all [Dk.begun, SD, dirD]
    · simp only [decide_eq_true_eq, decide_eq_false_iff_not, beq_iff_eq, bne_iff_ne, beq_eq_false_iff_ne, bne_eq_false_iff_eq, Bool.not_eq_true', Bool.not_eq_false', ne_eq, Decidable.not_not, Bool.not_eq_true, Bool.not_eq_false] at h2
      refine .seg 23 [2] (T' := cgo 62 [false, false] [.code B94]) (tm' := mk 40 [(2, .d (.bool !d.off))]) (σ' := [.cells [.row 1, .ptr 2 0 0, .ep 2 (D.agg [D.list 1 (List.map strD d.sk), D.list 1 (List.map intD d.sv)]) 0, .row 5, .d (.int .i64 d.quota), .d (.bool d.full), .d (.bool d.off), .d (.int .i64 (if -1 > IntKind.i64.wrap (d.stop - 1) then -1 else IntKind.i64.wrap (d.stop - 1))), .d (.int .i64 (d.calls + 1))], .row 2 (List.map fileD d.files) false, .cells [.row 3, .row 4], .row 1 (List.map strD d.nk) false, .row 1 (List.map intD d.nv) false, .row 3 (List.map chD d.ch) false]) (by kernel_rfl) ?_
      simp (disch := omega) only [wrap_i64, wrap_u64s, wrap_u32s, wrap_u8s, wrap_i32s, iadd_i64, isub_i64, irem_n, iquo_n, tdiv_nn, tmod_nn]
      refine .retH F94 (v := V.d (D.bool !d.off)) (by kernel_rfl) (by kernel_rfl) ?_
      simp_all [Dk.begun, SD, dirD]
end Go.Proofs.Ytoelkgbeefoplaa

namespace Go.Proofs.Ytoelkgbeefoplaa
open Go Go.Br Go.Proofs
/-- A disk on which nothing is. -/
def Dk.new (q : Int) : Dk := { files := [], nk := [], nv := [], sk := [], sv := [], ch := [], quota := if 0 > q then 0 else q, full := false, off := false, stop := -1, calls := 0 }
/-- What the check ahead of a call says, behind 'begin'. -/
def Dk.err (b : Dk) (there : Bool) (names : List ByteArray) : Int :=
  if b.off then 5 else if names.all mayName then (if there && (look b.nk b.nv (names.headD default)).isNone then 3 else 0) else 1
def Dk.turn (d : Dk) (g n : ByteArray) (k : Int) : Dk := { d with nk := (kapply d.nk d.nv g n k).1, nv := (kapply d.nk d.nv g n k).2, ch := d.ch ++ [(g, n, k)] }
def Dk.num (d : Dk) (x : ByteArray) : Nat := ((look d.nk d.nv x).getD 0).toNat
def Dk.file (d : Dk) (k : Nat) : List UInt8 × Nat := d.files.getD k ([], 0)
def Dk.used (d : Dk) : Nat := (d.nv.map fun k => (d.file k.toNat).1.length).sum
def noName : ByteArray := ⟨#[]⟩
def Dk.createE (b : Dk) (x : ByteArray) : Int :=
  if b.err false [x] ≠ 0 then b.err false [x] else if (look b.nk b.nv x).isNone ∧ 1024 ≤ b.nk.length then 2 else 0
def Dk.createD (b : Dk) (x : ByteArray) : Dk := if b.createE x = 0 then ({ b with files := b.files ++ [([], 0)] } : Dk).turn noName x b.files.length else b
def Dk.appendE (b : Dk) (x : ByteArray) (bs : List UInt8) : Int :=
  if b.err true [x] ≠ 0 then b.err true [x] else if 1048576 - ((b.file (b.num x)).1.length : Int) < bs.length then 2 else if b.quota - (b.used : Int) < bs.length then 4 else 0
def Dk.appendD (b : Dk) (x : ByteArray) (bs : List UInt8) : Dk :=
  if b.appendE x bs = 0 then { b with files := b.files.set (b.num x) ((b.file (b.num x)).1 ++ bs, (b.file (b.num x)).2) } else if b.appendE x bs = 4 then { b with full := true } else b
def Dk.syncD (b : Dk) (x : ByteArray) : Dk := if b.err true [x] = 0 then { b with files := b.files.set (b.num x) ((b.file (b.num x)).1, (b.file (b.num x)).1.length) } else b
def Dk.syncDirD (b : Dk) : Dk := if b.off then b else { b with sk := b.nk, sv := b.nv, ch := [] }
/-- How many of a file's bytes a loss of power leaves. -/
def leftOf (f : List UInt8 × Nat) (i : Nat) (keep : List Int) : Nat :=
  if keep = [] then f.2 else f.2 + (min (keep.getD (i % keep.length) 0) ((f.1.length : Int) - f.2)).toNat
/-- The directory behind changes. -/
def kfold : List (ByteArray × ByteArray × Int) → List ByteArray × List Int → List ByteArray × List Int
  | [], p => p
  | c :: cs, p => kfold cs (kapply p.1 p.2 c.1 c.2.1 c.2.2)
/-- The files that names have, by number, from a number on; 'm': how many of them are kept already. -/
def kept (has : Nat → Bool) (keep : List Int) : Nat → List (List UInt8 × Nat) → List (List UInt8 × Nat)
  | _, [] => []
  | i, f :: fs => if has i then (f.1.take (leftOf f i keep), leftOf f i keep) :: kept has keep (i + 1) fs else kept has keep (i + 1) fs
/-- Which number a file gets. -/
def rank (has : Nat → Bool) (k : Nat) : Nat := ((List.range k).filter has).length
def Dk.names (d : Dk) (dir : Int) : List ByteArray × List Int := kfold (d.ch.take (min dir d.ch.length).toNat) (d.sk, d.sv)
def Dk.has (d : Dk) (dir : Int) (i : Nat) : Bool := decide ((i : Int) ∈ (d.names dir).2)
def Dk.crash (d : Dk) (dir : Int) (keep : List Int) : Dk :=
  let v := (d.names dir).2.map fun k => (rank (d.has dir) k.toNat : Int)
  { d with files := kept (d.has dir) keep 0 d.files, nk := (d.names dir).1, nv := v, sk := (d.names dir).1, sv := v, ch := [], off := false, stop := -1, full := false }
/-- The numbers of a directory are those of files. -/
def numsOk (n : Nat) (vs : List Int) : Prop := ∀ v ∈ vs, 0 ≤ v ∧ v < n
/-- A disk that may be. -/
structure Dk.Ok (d : Dk) (N : Nat) : Prop where
  nr : Rising d.nk
  sr : Rising d.sk
  nl : d.nv.length = d.nk.length
  sl : d.sv.length = d.sk.length
  nn : numsOk d.files.length d.nv
  sn : numsOk d.files.length d.sv
  cn : ∀ c ∈ d.ch, 0 ≤ c.2.2 ∧ (c.2.1.size ≠ 0 → c.2.2 < d.files.length)
  fs : ∀ f ∈ d.files, f.2 ≤ f.1.length ∧ f.1.length ≤ 1048576
  fl : d.files.length ≤ N
  chl : d.ch.length ≤ N
  nkl : d.nk.length ≤ N
  skl : d.sk.length ≤ N
  skc : d.sk.length + d.ch.length ≤ N
  c0 : 0 ≤ d.calls
  cl : d.calls ≤ N
  s0 : -1 ≤ d.stop
  s1 : d.stop < 9223372036854775807
  q0 : 0 ≤ d.quota
  q1 : d.quota < 9223372036854775808
  nb : N ≤ 50000
theorem Dk.Ok.mono {d : Dk} {N M : Nat} (h : d.Ok N) (hm : N ≤ M) (hb : M ≤ 50000) : d.Ok M :=
  ⟨h.nr, h.sr, h.nl, h.sl, h.nn, h.sn, h.cn, h.fs, by have := h.fl; omega, by have := h.chl; omega, by have := h.nkl; omega, by have := h.skl; omega, by have := h.skc; omega, h.c0, by have := h.cl; omega, h.s0, h.s1, h.q0, h.q1, hb⟩
theorem Dk.new_ok {q : Int} (h : q < 9223372036854775808) : (Dk.new q).Ok 0 := by
  refine ⟨List.Pairwise.nil, List.Pairwise.nil, rfl, rfl, ?_, ?_, ?_, ?_, ?_, ?_, ?_, ?_, ?_, ?_, ?_, ?_, ?_, ?_, ?_, ?_⟩ <;> simp [Dk.new, numsOk]
  · split <;> omega
  · split <;> omega
theorem Dk.begun_ok {d : Dk} {N : Nat} (h : d.Ok N) (hb : N + 1 ≤ 50000) : d.begun.Ok (N + 1) := by
  unfold Dk.begun
  split
  · exact h.mono (by omega) hb
  · have := h.cl; have := h.c0; have := h.s0; have := h.s1
    have := h.fl; have := h.chl; have := h.nkl; have := h.skl; have := h.skc
    refine ⟨h.nr, h.sr, h.nl, h.sl, h.nn, h.sn, h.cn, h.fs, ?_, ?_, ?_, ?_, ?_, ?_, ?_, ?_, ?_, h.q0, h.q1, hb⟩ <;> (dsimp only; first | omega | (split <;> omega))
theorem look_mem {ks : List ByteArray} {V2 : List Int} {x : ByteArray} {k : Int} (h : look ks V2 x = some k) : k ∈ V2 := by
  unfold look at h
  split at h
  · exact List.mem_of_getElem? h
  · cases h
theorem numsOk.more {n m : Nat} {vs : List Int} (h : numsOk n vs) (hm : n ≤ m) : numsOk m vs := fun v hv => ⟨(h v hv).1, by have := (h v hv).2; omega⟩
theorem kput_mem {ks : List ByteArray} {V2 : List Int} {x : ByteArray} {y : Int} : ∀ v ∈ (kput ks V2 x y).2, v ∈ V2 ∨ v = y := by
  intro v hv
  unfold kput at hv
  split at hv
  · exact List.mem_or_eq_of_mem_set hv
  · simp only [List.mem_append, List.mem_cons] at hv
    rcases hv with h | h | h
    · exact .inl (List.mem_of_mem_take h)
    · exact .inr h
    · exact .inl (List.mem_of_mem_drop h)
theorem kdrop_mem {ks : List ByteArray} {V2 : List Int} {x : ByteArray} : ∀ v ∈ (kdrop ks V2 x).2, v ∈ V2 := by
  intro v hv
  unfold kdrop at hv
  split at hv
  · exact List.mem_of_mem_eraseIdx hv
  · exact hv
theorem kapply_mem {ks : List ByteArray} {V2 : List Int} {g n : ByteArray} {k : Int} : ∀ v ∈ (kapply ks V2 g n k).2, v ∈ V2 ∨ (n.size ≠ 0 ∧ v = k) := by
  intro v hv
  unfold kapply at hv
  dsimp only at hv
  split at hv <;> split at hv <;> rename_i h1 h2
  · exact .inl hv
  · exact .inl (kdrop_mem v hv)
  · exact (kput_mem v hv).imp id fun h => ⟨h1, h⟩
  · exact ((kput_mem v hv).imp (kdrop_mem v) fun h => ⟨h1, h⟩)
theorem Dk.createD_ok {b : Dk} {N : Nat} (h : b.Ok N) (hb : N + 1 ≤ 50000) (x : ByteArray) : (b.createD x).Ok (N + 1) := by
  unfold Dk.createD
  split
  · have h' : ({ b with files := b.files ++ [([], 0)] } : Dk).turn noName x b.files.length = ({ (b.turn noName x b.files.length) with files := b.files ++ [([], 0)] } : Dk) := rfl
    have := h.cl; have := h.chl; have := h.nkl; have := h.skl; have := h.skc; have := h.fl
    have hle := @kapply_le b.nk b.nv noName x b.files.length
    rw [h']
    refine ⟨kapply_rising h.nr, h.sr, kapply_len h.nl, h.sl, fun v hv => ?_, h.sn.more (by simp [Dk.turn]), fun c hc => ?_, fun f hf => ?_, ?_, ?_, ?_, ?_, ?_, h.c0, ?_, h.s0, h.s1, h.q0, h.q1, hb⟩
    · rcases kapply_mem v hv with h1 | ⟨h1, rfl⟩
      · exact (h.nn.more (by simp)) v h1
      · simp; omega
    · simp only [Dk.turn, List.mem_append, List.mem_singleton] at hc
      rcases hc with h1 | rfl
      · exact ⟨(h.cn c h1).1, fun hs => by have := (h.cn c h1).2 hs; simp only [List.length_append, List.length_singleton]; omega⟩
      · refine ⟨by simp, fun _ => by simp; omega⟩
    · simp only [List.mem_append, List.mem_singleton] at hf
      rcases hf with h1 | rfl
      · exact h.fs f h1
      · simp
    all_goals simp only [Dk.turn, List.length_append, List.length_singleton]; omega
  · exact h.mono (by omega) hb
theorem Dk.num_lt {d : Dk} {N : Nat} (h : d.Ok N) {x : ByteArray} (hx : (look d.nk d.nv x).isSome) : d.num x < d.files.length := by
  obtain ⟨k, hk⟩ := Option.isSome_iff_exists.1 hx
  have := h.nn k (look_mem hk)
  simp only [Dk.num, hk, Option.getD_some]; omega
theorem Dk.file_mem {d : Dk} {k : Nat} (h : k < d.files.length) : d.file k ∈ d.files := by
  unfold Dk.file
  rw [List.getD_eq_getElem?_getD, List.getElem?_eq_getElem h]; simp
theorem Dk.err_there {d : Dk} {x : ByteArray} {l : List ByteArray} (h : d.err true (x :: l) = 0) : (look d.nk d.nv x).isSome ∧ d.off = false ∧ (x :: l).all mayName = true := by
  unfold Dk.err at h
  split at h
  · cases h
  · split at h
    · split at h
      · cases h
      · rename_i h1 h2 h3
        simp only [List.headD_cons, Bool.true_and] at h3
        exact ⟨by cases hl : look d.nk d.nv x <;> simp_all, by simpa using h1, h2⟩
    · cases h
theorem Dk.set_ok {b : Dk} {N : Nat} (h : b.Ok N) (k : Nat) (f : List UInt8 × Nat) (hf : f.2 ≤ f.1.length ∧ f.1.length ≤ 1048576) : ({ b with files := b.files.set k f } : Dk).Ok N := by
  refine ⟨h.nr, h.sr, h.nl, h.sl, ?_, ?_, ?_, ?_, ?_, h.chl, h.nkl, h.skl, h.skc, h.c0, h.cl, h.s0, h.s1, h.q0, h.q1, h.nb⟩
  · simpa using h.nn
  · simpa using h.sn
  · simpa using h.cn
  · intro g hg
    rcases List.mem_or_eq_of_mem_set hg with h1 | rfl
    · exact h.fs g h1
    · exact hf
  · simpa using h.fl
theorem Dk.full_ok {b : Dk} {N : Nat} (h : b.Ok N) (f : Bool) : ({ b with full := f } : Dk).Ok N := ⟨h.nr, h.sr, h.nl, h.sl, h.nn, h.sn, h.cn, h.fs, h.fl, h.chl, h.nkl, h.skl, h.skc, h.c0, h.cl, h.s0, h.s1, h.q0, h.q1, h.nb⟩
theorem Dk.err_appendE {b : Dk} {x : ByteArray} {bs : List UInt8} (h : b.appendE x bs = 0) : b.err true [x] = 0 ∧ (bs.length : Int) ≤ 1048576 - ((b.file (b.num x)).1.length : Int) ∧ (bs.length : Int) ≤ b.quota - (b.used : Int) := by
  unfold Dk.appendE at h
  split at h
  · contradiction
  · split at h
    · cases h
    · split at h
      · cases h
      · rename_i h1 h2 h3
        exact ⟨by simpa using h1, by omega, by omega⟩
theorem Dk.appendD_ok {b : Dk} {N : Nat} (h : b.Ok N) (x : ByteArray) (bs : List UInt8) : (b.appendD x bs).Ok N := by
  unfold Dk.appendD
  split
  · rename_i he
    obtain ⟨h1, h2, h3⟩ := Dk.err_appendE he
    have hm := h.fs _ (Dk.file_mem (Dk.num_lt h (Dk.err_there h1).1))
    refine Dk.set_ok h _ _ ⟨?_, ?_⟩ <;> simp <;> omega
  · split
    · exact Dk.full_ok h true
    · exact h
theorem Dk.syncD_ok {b : Dk} {N : Nat} (h : b.Ok N) (x : ByteArray) : (b.syncD x).Ok N := by
  unfold Dk.syncD
  split
  · rename_i h1
    have hm := h.fs _ (Dk.file_mem (Dk.num_lt h (Dk.err_there h1).1))
    exact Dk.set_ok h _ _ ⟨Nat.le_refl _, hm.2⟩
  · exact h
theorem Dk.syncDirD_ok {b : Dk} {N : Nat} (h : b.Ok N) : b.syncDirD.Ok N := by
  unfold Dk.syncDirD
  split
  · exact h
  · refine ⟨h.nr, h.nr, h.nl, h.nl, h.nn, h.nn, by simp, h.fs, h.fl, by simp, h.nkl, h.nkl, by simpa using h.nkl, h.c0, h.cl, h.s0, h.s1, h.q0, h.q1, h.nb⟩
theorem kfold_ok {n : Nat} : ∀ (cs : List (ByteArray × ByteArray × Int)) (p : List ByteArray × List Int), Rising p.1 → p.2.length = p.1.length → numsOk n p.2 → (∀ c ∈ cs, 0 ≤ c.2.2 ∧ (c.2.1.size ≠ 0 → c.2.2 < n)) →
    Rising (kfold cs p).1 ∧ (kfold cs p).2.length = (kfold cs p).1.length ∧ numsOk n (kfold cs p).2 ∧ (kfold cs p).1.length ≤ p.1.length + cs.length
  | [], p, h1, h2, h3, _ => ⟨h1, h2, h3, by simp [kfold]⟩
  | c :: cs, p, h1, h2, h3, h4 => by
    have hle := @kapply_le p.1 p.2 c.1 c.2.1 c.2.2
    have ih := kfold_ok cs (kapply p.1 p.2 c.1 c.2.1 c.2.2) (kapply_rising h1) (kapply_len h2) (fun v hv => by
      rcases kapply_mem v hv with h5 | ⟨h5, rfl⟩
      · exact h3 v h5
      · exact ⟨(h4 c (by simp)).1, (h4 c (by simp)).2 h5⟩) (fun c' hc => h4 c' (by simp [hc]))
    refine ⟨ih.1, ih.2.1, ih.2.2.1, ?_⟩
    have := ih.2.2.2
    simp only [kfold, List.length_cons]; omega
theorem Dk.names_ok {d : Dk} {N : Nat} (h : d.Ok N) (dir : Int) : Rising (d.names dir).1 ∧ (d.names dir).2.length = (d.names dir).1.length ∧ numsOk d.files.length (d.names dir).2 ∧ (d.names dir).1.length ≤ N := by
  obtain ⟨h1, h2, h3, h4⟩ := kfold_ok (d.ch.take (min dir d.ch.length).toNat) (d.sk, d.sv) h.sr h.sl h.sn (fun c hc => h.cn c (List.mem_of_mem_take hc))
  refine ⟨h1, h2, h3, ?_⟩
  have := h.skc
  simp only [List.length_take] at h4
  show (kfold _ _).1.length ≤ N
  omega
theorem leftOf_le {f : List UInt8 × Nat} (h : f.2 ≤ f.1.length) (i : Nat) (keep : List Int) : f.2 ≤ leftOf f i keep ∧ leftOf f i keep ≤ f.1.length := by
  unfold leftOf; split <;> omega
theorem rank_succ (has : Nat → Bool) (k : Nat) : rank has (k + 1) = rank has k + if has k then 1 else 0 := by
  unfold rank
  rw [List.range_succ, List.filter_append, List.length_append]
  congr 1
  by_cases h : has k <;> simp [h]
theorem rank_mono (has : Nat → Bool) {a b : Nat} (h : a ≤ b) : rank has a ≤ rank has b := by
  induction h with
  | refl => exact Nat.le_refl _
  | step _ ih => rw [rank_succ]; omega
theorem kept_length (has : Nat → Bool) (keep : List Int) : ∀ (fs : List (List UInt8 × Nat)) (i : Nat), (kept has keep i fs).length + rank has i = rank has (i + fs.length)
  | [], i => by simp [kept]
  | f :: fs, i => by
    have ih := kept_length has keep fs (i + 1)
    rw [rank_succ] at ih
    simp only [kept]
    rw [show i + (f :: fs).length = i + 1 + fs.length by simp; omega, ← ih]
    split <;> simp <;> omega
theorem kept_mem {has : Nat → Bool} {keep : List Int} : ∀ {fs : List (List UInt8 × Nat)} {i : Nat}, ∀ g ∈ kept has keep i fs, ∃ f ∈ fs, ∃ j, g = (f.1.take (leftOf f j keep), leftOf f j keep)
  | [], i, g, h => by simp [kept] at h
  | f :: fs, i, g, h => by
    simp only [kept] at h
    split at h
    · rcases List.mem_cons.1 h with rfl | h
      · exact ⟨f, by simp, i, rfl⟩
      · obtain ⟨f', h1, h2⟩ := kept_mem g h; exact ⟨f', by simp [h1], h2⟩
    · obtain ⟨f', h1, h2⟩ := kept_mem g h; exact ⟨f', by simp [h1], h2⟩
theorem Dk.crash_ok {d : Dk} {N : Nat} (h : d.Ok N) (dir : Int) (keep : List Int) : (d.crash dir keep).Ok N := by
  obtain ⟨h1, h2, h3, h4⟩ := d.names_ok h dir
  have hl : (kept (d.has dir) keep 0 d.files).length = rank (d.has dir) d.files.length := by
    have := kept_length (d.has dir) keep d.files 0
    simpa [rank] using this
  have hn : numsOk (kept (d.has dir) keep 0 d.files).length ((d.names dir).2.map fun k => (rank (d.has dir) k.toNat : Int)) := by
    intro v hv
    obtain ⟨k, hk, rfl⟩ := List.mem_map.1 hv
    have hk' := h3 k hk
    refine ⟨by omega, ?_⟩
    rw [hl]
    have hr := rank_mono (d.has dir) (show k.toNat + 1 ≤ d.files.length by omega)
    rw [rank_succ] at hr
    have : d.has dir k.toNat = true := by
      simp only [Dk.has, decide_eq_true_eq]
      rw [show ((k.toNat : Nat) : Int) = k by omega]; exact hk
    rw [this] at hr
    simp only [if_true] at hr
    omega
  have hrk : rank (d.has dir) d.files.length ≤ d.files.length := by
    unfold rank
    exact Nat.le_trans (List.length_filter_le _ _) (by simp)
  refine ⟨h1, h1, by simpa [Dk.crash] using h2, by simpa [Dk.crash] using h2, hn, hn, by simp [Dk.crash], fun g hg => ?_, ?_, by simp [Dk.crash], h4, h4, by simpa [Dk.crash] using h4, h.c0, h.cl, by simp [Dk.crash], by simp [Dk.crash], h.q0, h.q1, h.nb⟩
  · obtain ⟨f, hf, j, rfl⟩ := kept_mem g hg
    have hf' := h.fs f hf
    have := leftOf_le hf'.1 j keep
    simp only [List.length_take]
    omega
  · show (kept _ _ _ _).length ≤ N
    rw [hl]; have := h.fl; omega
end Go.Proofs.Ytoelkgbeefoplaa

namespace Go.Proofs.Ytoelkgbeefoplaa
open Go Go.Br Go.Proofs
set_option linter.unusedSimpArgs false
end Go.Proofs.Ytoelkgbeefoplaa

namespace Go.Proofs.Ytoelkgbeefoplaa
open Go Go.Br Go.Proofs
set_option linter.unusedSimpArgs false
noncomputable def B65 : Code := (Try.f65.body).getD .skip
theorem F65 : Fnc Try.prog 65 Try.f65 B65 := ⟨Try.func65, by kernel_rfl, by kernel_rfl⟩
/-- What 'at' hands back. -/
def atV : Option Int → V
  | some k => .tuple [.ptr 1 k.toNat 0, .d (.bool true)]
  | none => .tuple [.d (.raw (.pointer none)), .d (.bool false)]
theorem spec_65 (d : Dk) (x : ByteArray) (o : Option Int) (ho : look d.nk d.nv x = o) (h1 : Rising d.nk) (h2 : d.nv.length = d.nk.length) (h3 : d.nk.length < 4611686018427387904) (h4 : ∀ k, look d.nk d.nv x = some k → 0 ≤ k ∧ k < d.files.length) :
    CallsA Try.prog 65 [.ptr 0 0 0, .d (.str x)] (SD d false) fun r σ' => r = .ret (atV o) ∧ σ' = SD d false := by
  refine CallsA.start F65 (tm := mk (Try.f65.ntmps) [(0, .ptr 0 0 0), (1, .d (.str x))]) (by kernel_rfl) ?_
  cases o with
  | none =>
    refine .seg 20 [0, 1, 4, 5, 11, 12, 13, 14, 15] (T' := cgo 20 [false] [.code B65]) (tm' := mk 27 [(0, .ptr 0 0 0), (1, .d (.str x)), (4, .d (.raw (Value.pointer none))), (5, .d (.bool false)), (11, .ptr 0 0 0), (12, .ptr 0 0 0), (13, .ptr 0 0 1), (14, .ptr 2 0 0), (15, .d (.str x))]) (σ' := (SP 1 2 d false [])) (by kernel_rfl) ?_
    refine .callH (o := (opOf (cgo 20 [false] [.code B65])).getD default) (x := (.func 70)) (args := #[(.tmp 14), (.tmp 15)]) (ts := #[102, 9]) (first := []) (cap := []) [2, 3, 4] [.ptr 0 0 0, .d (.str x)] [.cells [.row 1, .row 2], .row 1 (List.map strD d.nk) false, .row 1 (List.map intD d.nv) false] F70 (@spec_70 (d.nk) (x) (d.nv) (by assumption) (by assumption) (by assumption)) (by kernel_rfl) (by kernel_rfl) (T' := cgo 21 [false] [.code B65]) (by kernel_rfl) (by kernel_rfl) (by kernel_rfl) (by kernel_rfl) (by kernel_rfl) ⟨rfl, rfl, by kernel_rfl⟩ ?_
    rintro r0 s0 ⟨rfl, rfl⟩
    refine ⟨_, rfl, ?_⟩
    refine .seg 12 [0, 4, 5, 6, 20] (T' := cgo 33 [false] [.code B65]) (tm' := mk 27 [(0, .ptr 0 0 0), (4, .d (.raw (Value.pointer none))), (5, .d (.bool false)), (6, .d (.int .i64 ((look d.nk d.nv x).getD 0))), (20, .d (.bool !(look d.nk d.nv x).isSome))]) (σ' := (SP 1 2 d false [])) (by kernel_rfl) ?_
    refine .ifH (b := !(look d.nk d.nv x).isSome) (by kernel_rfl) (by kernel_rfl) (T1 := cgo 34 [false, true] [Item.code B65]) (T2 := cgo 34 [false, false] [Item.code B65]) (by kernel_rfl) (by kernel_rfl) (fun h5 => ?_) (fun h5 => ?_)
    · simp only [decide_eq_true_eq, decide_eq_false_iff_not, beq_iff_eq, bne_iff_ne, beq_eq_false_iff_ne, bne_eq_false_iff_eq, Bool.not_eq_true', Bool.not_eq_false', ne_eq, Decidable.not_not, Bool.not_eq_true, Bool.not_eq_false] at h5
      refine .seg 5 [0, 4, 5, 6] (T' := cgo 39 [false, true] [.code B65]) (tm' := mk 27 [(0, .ptr 0 0 0), (4, .d (.raw (Value.pointer none))), (5, .d (.bool false)), (6, .d (.int .i64 ((look d.nk d.nv x).getD 0)))]) (σ' := (SP 1 2 d false [])) (by kernel_rfl) ?_
      refine .retH F65 (v := V.tuple [V.d (D.raw (Value.pointer none)), V.d (D.bool false)]) (by kernel_rfl) (by kernel_rfl) ?_
      exact ⟨rfl, rfl⟩
    · simp only [decide_eq_true_eq, decide_eq_false_iff_not, beq_iff_eq, bne_iff_ne, beq_eq_false_iff_ne, bne_eq_false_iff_eq, Bool.not_eq_true', Bool.not_eq_false', ne_eq, Decidable.not_not, Bool.not_eq_true, Bool.not_eq_false] at h5
      simp_all
  | some k =>
    have q := h4 k ho
    have q1 := q.1
    have q2 := q.2
    refine .seg 20 [0, 1, 4, 5, 11, 12, 13, 14, 15] (T' := cgo 20 [false] [.code B65]) (tm' := mk 27 [(0, .ptr 0 0 0), (1, .d (.str x)), (4, .d (.raw (Value.pointer none))), (5, .d (.bool false)), (11, .ptr 0 0 0), (12, .ptr 0 0 0), (13, .ptr 0 0 1), (14, .ptr 2 0 0), (15, .d (.str x))]) (σ' := (SP 1 2 d false [])) (by kernel_rfl) ?_
    refine .callH (o := (opOf (cgo 20 [false] [.code B65])).getD default) (x := (.func 70)) (args := #[(.tmp 14), (.tmp 15)]) (ts := #[102, 9]) (first := []) (cap := []) [2, 3, 4] [.ptr 0 0 0, .d (.str x)] [.cells [.row 1, .row 2], .row 1 (List.map strD d.nk) false, .row 1 (List.map intD d.nv) false] F70 (@spec_70 (d.nk) (x) (d.nv) (by assumption) (by assumption) (by assumption)) (by kernel_rfl) (by kernel_rfl) (T' := cgo 21 [false] [.code B65]) (by kernel_rfl) (by kernel_rfl) (by kernel_rfl) (by kernel_rfl) (by kernel_rfl) ⟨rfl, rfl, by kernel_rfl⟩ ?_
    rintro r0 s0 ⟨rfl, rfl⟩
    refine ⟨_, rfl, ?_⟩
    refine .seg 12 [0, 4, 5, 6, 20] (T' := cgo 33 [false] [.code B65]) (tm' := mk 27 [(0, .ptr 0 0 0), (4, .d (.raw (Value.pointer none))), (5, .d (.bool false)), (6, .d (.int .i64 ((look d.nk d.nv x).getD 0))), (20, .d (.bool !(look d.nk d.nv x).isSome))]) (σ' := (SP 1 2 d false [])) (by kernel_rfl) ?_
    refine .ifH (b := !(look d.nk d.nv x).isSome) (by kernel_rfl) (by kernel_rfl) (T1 := cgo 34 [false, true] [Item.code B65]) (T2 := cgo 34 [false, false] [Item.code B65]) (by kernel_rfl) (by kernel_rfl) (fun h5 => ?_) (fun h5 => ?_)
    · simp only [decide_eq_true_eq, decide_eq_false_iff_not, beq_iff_eq, bne_iff_ne, beq_eq_false_iff_ne, bne_eq_false_iff_eq, Bool.not_eq_true', Bool.not_eq_false', ne_eq, Decidable.not_not, Bool.not_eq_true, Bool.not_eq_false] at h5
      simp_all
    · simp only [decide_eq_true_eq, decide_eq_false_iff_not, beq_iff_eq, bne_iff_ne, beq_eq_false_iff_ne, bne_eq_false_iff_eq, Bool.not_eq_true', Bool.not_eq_false', ne_eq, Decidable.not_not, Bool.not_eq_true, Bool.not_eq_false] at h5
      refine .seg 8 [0, 4, 5, 6, 21, 22, 23, 24, 25] (T' := cgo 42 [false, false] [.code B65]) (tm' := mk 27 [(0, .ptr 0 0 0), (4, .d (.raw (Value.pointer none))), (5, .d (.bool false)), (6, .d (.int .i64 ((look d.nk d.nv x).getD 0))), (21, .ptr 0 0 0), (22, .ptr 0 0 0), (23, .ptr 0 0 0), (24, .row 1), (25, .d (.int .i64 ((look d.nk d.nv x).getD 0)))]) (σ' := (SP 1 2 d false [])) (by kernel_rfl) ?_
      refine .opH (o := (opOf (cgo 42 [false, false] [.code B65])).getD default) (by kernel_rfl) (by kernel_rfl) (by kernel_rfl) (T' := cgo 43 [false, false] [.code B65]) (by kernel_rfl) (ixRow_ok (t := 105) (x := (.tmp 24)) (i := (.tmp 25)) (k := IntKind.i64) (n := (look d.nk d.nv x).getD 0) (l := 1) (sz := 2) (xs := List.map fileD d.files) (mv := false) (by kernel_rfl) (by kernel_rfl) (by kernel_rfl) (by kernel_rfl) (by kernel_rfl) (by grind) (by grind)) ?_
      refine .seg 3 [4, 5] (T' := cgo 46 [false, false] [.code B65]) (tm' := mk 27 [(4, .ptr 1 ((look d.nk d.nv x).getD 0).toNat 0), (5, .d (.bool true))]) (σ' := (SP 1 2 d false [])) (by kernel_rfl) ?_
      refine .retH F65 (v := V.tuple [V.ptr 1 ((look d.nk d.nv x).getD 0).toNat 0, V.d (D.bool true)]) (by kernel_rfl) (by kernel_rfl) ?_
      simp_all [SD, dirD, atV]
end Go.Proofs.Ytoelkgbeefoplaa

namespace Go.Proofs.Ytoelkgbeefoplaa
open Go Go.Br Go.Proofs
set_option linter.unusedSimpArgs false
theorem emptyStr (g : ByteArray) : g.toList = (ByteArray.mk #[]).toList ↔ g.size = 0 := by
  rw [Go.ByteArray.toList_eq, Go.ByteArray.toList_eq]
  cases g with
  | mk a =>
    have h : (ByteArray.mk a).size = a.size := rfl
    rw [h]
    cases hd : a.toList with
    | nil => have : a.size = 0 := by rw [← Array.length_toList, hd]; rfl
             simp [this]
    | cons x l => have : a.size ≠ 0 := by rw [← Array.length_toList, hd]; simp
                  simp [this]
noncomputable def B71 : Code := (Try.f71.body).getD .skip
theorem F71 : Fnc Try.prog 71 Try.f71 B71 := ⟨Try.func71, by kernel_rfl, by kernel_rfl⟩
theorem spec_71 (ks : List ByteArray) (V2 : List Int) (g n : ByteArray) (k : Int) (hr : Rising ks) (hl : ks.length < 999990) (hv : V2.length = ks.length) :
    CallsA Try.prog 71 [.ptr 0 0 0, .d (.agg [.str g, .str n, .int .i64 k])] [.cells [.row 1, .row 2], .row 1 (ks.map strD) false, .row 1 (V2.map intD) false] fun r σ' => r = .ret (.tuple []) ∧ σ' = [.cells [.row 1, .row 2], .row 1 ((kapply ks V2 g n k).1.map strD) true, .row 1 ((kapply ks V2 g n k).2.map intD) true] := by
  refine CallsA.start F71 (tm := mk (Try.f71.ntmps) [(0, .ptr 0 0 0), (1, .d (.agg [.str g, .str n, .int .i64 k]))]) (by kernel_rfl) ?_
  have e1 := emptyStr g
  have e2 := emptyStr n
  have d1 := @kdrop_rising ks V2 g hr
  have d2 := @kdrop_len ks V2 g hv
  have d3 := @kdrop_le ks V2 g
  refine .seg 11 [0, 3, 6] (T' := cgo 11 [] [.code B71]) (tm' := mk 20 [(0, .ptr 0 0 0), (3, .ptr 3 0 0), (6, .d (.bool !g.toList == (ByteArray.mk #[]).toList))]) (σ' := [.cells [.row 1, .row 2], .row 1 (List.map strD ks) false, .row 1 (List.map intD V2) false, .cells [.d (.str g), .d (.str n), .d (.int .i64 k)]]) (by kernel_rfl) ?_
  refine .ifH (b := !g.toList == (ByteArray.mk #[]).toList) (by kernel_rfl) (by kernel_rfl) (T1 := cgo 12 [true] [Item.code B71]) (T2 := cgo 12 [false] [Item.code B71]) (by kernel_rfl) (by kernel_rfl) (fun h1 => ?_) (fun h1 => ?_)
  · simp only [decide_eq_true_eq, decide_eq_false_iff_not, beq_iff_eq, bne_iff_ne, beq_eq_false_iff_ne, bne_eq_false_iff_eq, Bool.not_eq_true', Bool.not_eq_false', ne_eq, Decidable.not_not, Bool.not_eq_true, Bool.not_eq_false] at h1
    refine .seg 4 [0, 3, 7, 8, 9] (T' := cgo 16 [true] [.code B71]) (tm' := mk 20 [(0, .ptr 0 0 0), (3, .ptr 3 0 0), (7, .ptr 0 0 0), (8, .ptr 3 0 0), (9, .d (.str g))]) (σ' := [.cells [.row 1, .row 2], .row 1 (List.map strD ks) false, .row 1 (List.map intD V2) false, .cells [.d (.str g), .d (.str n), .d (.int .i64 k)]]) (by kernel_rfl) ?_
    refine .callH (o := (opOf (cgo 16 [true] [.code B71])).getD default) (x := (.func 96)) (args := #[(.tmp 7), (.tmp 9)]) (ts := #[102, 9]) (first := []) (cap := []) [0, 1, 2] [.ptr 0 0 0, .d (.str g)] [.cells [.row 1, .row 2], .row 1 (List.map strD ks) false, .row 1 (List.map intD V2) false] F96 (@spec_96 (ks) (g) (V2) (by assumption) (by omega) (by assumption)) (by kernel_rfl) (by kernel_rfl) (T' := cgo 17 [true] [.code B71]) (by kernel_rfl) (by kernel_rfl) (by kernel_rfl) (by kernel_rfl) (by kernel_rfl) ⟨rfl, rfl, by kernel_rfl⟩ ?_
    rintro r1 s1 ⟨rfl, rfl⟩
    refine ⟨_, rfl, ?_⟩
    refine .seg 7 [0, 3, 13] (T' := cgo 24 [true] [.code B71]) (tm' := mk 20 [(0, .ptr 0 0 0), (3, .ptr 3 0 0), (13, .d (.bool !n.toList == (ByteArray.mk #[]).toList))]) (σ' := [.cells [.row 1, .row 2], .row 1 (List.map strD (kdrop ks V2 g).fst) true, .row 1 (List.map intD (kdrop ks V2 g).snd) true, .cells [.d (.str g), .d (.str n), .d (.int .i64 k)]]) (by kernel_rfl) ?_
    refine .ifH (b := !n.toList == (ByteArray.mk #[]).toList) (by kernel_rfl) (by kernel_rfl) (T1 := cgo 25 [true, true] [Item.code B71]) (T2 := cgo 25 [true, false] [Item.code B71]) (by kernel_rfl) (by kernel_rfl) (fun h3 => ?_) (fun h3 => ?_)
    · simp only [decide_eq_true_eq, decide_eq_false_iff_not, beq_iff_eq, bne_iff_ne, beq_eq_false_iff_ne, bne_eq_false_iff_eq, Bool.not_eq_true', Bool.not_eq_false', ne_eq, Decidable.not_not, Bool.not_eq_true, Bool.not_eq_false] at h3
      refine .seg 6 [0, 3, 14, 15, 16, 17, 18] (T' := cgo 31 [true, true] [.code B71]) (tm' := mk 20 [(0, .ptr 0 0 0), (3, .ptr 3 0 0), (14, .ptr 0 0 0), (15, .ptr 3 0 1), (16, .d (.str n)), (17, .ptr 3 0 2), (18, .d (.int .i64 k))]) (σ' := [.cells [.row 1, .row 2], .row 1 (List.map strD (kdrop ks V2 g).fst) true, .row 1 (List.map intD (kdrop ks V2 g).snd) true, .cells [.d (.str g), .d (.str n), .d (.int .i64 k)]]) (by kernel_rfl) ?_
      refine .callH (o := (opOf (cgo 31 [true, true] [.code B71])).getD default) (x := (.func 76)) (args := #[(.tmp 14), (.tmp 16), (.tmp 18)]) (ts := #[102, 9, 3]) (first := []) (cap := []) [0, 1, 2] [.ptr 0 0 0, .d (.str n), .d (.int .i64 k)] [.cells [.row 1, .row 2], .row 1 (List.map strD (kdrop ks V2 g).fst) false, .row 1 (List.map intD (kdrop ks V2 g).snd) false] F76 (@spec_76 ((kdrop ks V2 g).fst) (n) ((kdrop ks V2 g).snd) (k) (by assumption) (by omega) (by assumption)) (by kernel_rfl) (by kernel_rfl) (T' := cgo 32 [true, true] [.code B71]) (by kernel_rfl) (by kernel_rfl) (by kernel_rfl) (by kernel_rfl) (by kernel_rfl) ⟨rfl, rfl, by kernel_rfl⟩ ?_
      rintro r3 s3 ⟨rfl, rfl⟩
      refine ⟨_, rfl, ?_⟩
      refine .seg 1 [] (T' := cgo 33 [true, true] [.code B71]) (tm' := mk 20 []) (σ' := [.cells [.row 1, .row 2], .row 1 (List.map strD (kput (kdrop ks V2 g).fst (kdrop ks V2 g).snd n k).fst) true, .row 1 (List.map intD (kput (kdrop ks V2 g).fst (kdrop ks V2 g).snd n k).snd) true, .cells [.d (.str g), .d (.str n), .d (.int .i64 k)]]) (by kernel_rfl) ?_
      refine .keeps [] (tm' := mk 20 []) (by kernel_rfl) ?_
      refine .sub [0, 1, 2] (mk 20 []) [.cells [.row 1, .row 2], .row 1 (List.map strD (kput (kdrop ks V2 g).fst (kdrop ks V2 g).snd n k).fst) true, .row 1 (List.map intD (kput (kdrop ks V2 g).fst (kdrop ks V2 g).snd n k).snd) true] none [] ⟨rfl, rfl, by kernel_rfl⟩ (by kernel_rfl) ⟨by simp, by kernel_rfl⟩ (by kernel_rfl) ⟨by kernel_rfl, by kernel_rfl⟩ ⟨rfl, rfl⟩ ?_
      refine .retH F71 (v := V.tuple []) (by kernel_rfl) (by kernel_rfl) ?_
      simp_all [kapply]
    · simp only [decide_eq_true_eq, decide_eq_false_iff_not, beq_iff_eq, bne_iff_ne, beq_eq_false_iff_ne, bne_eq_false_iff_eq, Bool.not_eq_true', Bool.not_eq_false', ne_eq, Decidable.not_not, Bool.not_eq_true, Bool.not_eq_false] at h3
      refine .seg 1 [] (T' := cgo 26 [true, false] [.code B71]) (tm' := mk 20 []) (σ' := [.cells [.row 1, .row 2], .row 1 (List.map strD (kdrop ks V2 g).fst) true, .row 1 (List.map intD (kdrop ks V2 g).snd) true, .cells [.d (.str g), .d (.str n), .d (.int .i64 k)]]) (by kernel_rfl) ?_
      refine .keeps [] (tm' := mk 20 []) (by kernel_rfl) ?_
      refine .sub [0, 1, 2] (mk 20 []) [.cells [.row 1, .row 2], .row 1 (List.map strD (kdrop ks V2 g).fst) true, .row 1 (List.map intD (kdrop ks V2 g).snd) true] none [] ⟨rfl, rfl, by kernel_rfl⟩ (by kernel_rfl) ⟨by simp, by kernel_rfl⟩ (by kernel_rfl) ⟨by kernel_rfl, by kernel_rfl⟩ ⟨rfl, rfl⟩ ?_
      refine .retH F71 (v := V.tuple []) (by kernel_rfl) (by kernel_rfl) ?_
      simp_all [kapply]
  · simp only [decide_eq_true_eq, decide_eq_false_iff_not, beq_iff_eq, bne_iff_ne, beq_eq_false_iff_ne, bne_eq_false_iff_eq, Bool.not_eq_true', Bool.not_eq_false', ne_eq, Decidable.not_not, Bool.not_eq_true, Bool.not_eq_false] at h1
    refine .seg 7 [0, 3, 13] (T' := cgo 19 [false] [.code B71]) (tm' := mk 20 [(0, .ptr 0 0 0), (3, .ptr 3 0 0), (13, .d (.bool !n.toList == (ByteArray.mk #[]).toList))]) (σ' := [.cells [.row 1, .row 2], .row 1 (List.map strD ks) false, .row 1 (List.map intD V2) false, .cells [.d (.str g), .d (.str n), .d (.int .i64 k)]]) (by kernel_rfl) ?_
    refine .ifH (b := !n.toList == (ByteArray.mk #[]).toList) (by kernel_rfl) (by kernel_rfl) (T1 := cgo 20 [false, true] [Item.code B71]) (T2 := cgo 20 [false, false] [Item.code B71]) (by kernel_rfl) (by kernel_rfl) (fun h5 => ?_) (fun h5 => ?_)
    · simp only [decide_eq_true_eq, decide_eq_false_iff_not, beq_iff_eq, bne_iff_ne, beq_eq_false_iff_ne, bne_eq_false_iff_eq, Bool.not_eq_true', Bool.not_eq_false', ne_eq, Decidable.not_not, Bool.not_eq_true, Bool.not_eq_false] at h5
      refine .seg 6 [0, 3, 14, 15, 16, 17, 18] (T' := cgo 26 [false, true] [.code B71]) (tm' := mk 20 [(0, .ptr 0 0 0), (3, .ptr 3 0 0), (14, .ptr 0 0 0), (15, .ptr 3 0 1), (16, .d (.str n)), (17, .ptr 3 0 2), (18, .d (.int .i64 k))]) (σ' := [.cells [.row 1, .row 2], .row 1 (List.map strD ks) false, .row 1 (List.map intD V2) false, .cells [.d (.str g), .d (.str n), .d (.int .i64 k)]]) (by kernel_rfl) ?_
      refine .callH (o := (opOf (cgo 26 [false, true] [.code B71])).getD default) (x := (.func 76)) (args := #[(.tmp 14), (.tmp 16), (.tmp 18)]) (ts := #[102, 9, 3]) (first := []) (cap := []) [0, 1, 2] [.ptr 0 0 0, .d (.str n), .d (.int .i64 k)] [.cells [.row 1, .row 2], .row 1 (List.map strD ks) false, .row 1 (List.map intD V2) false] F76 (@spec_76 (ks) (n) (V2) (k) (by assumption) (by omega) (by assumption)) (by kernel_rfl) (by kernel_rfl) (T' := cgo 27 [false, true] [.code B71]) (by kernel_rfl) (by kernel_rfl) (by kernel_rfl) (by kernel_rfl) (by kernel_rfl) ⟨rfl, rfl, by kernel_rfl⟩ ?_
      rintro r5 s5 ⟨rfl, rfl⟩
      refine ⟨_, rfl, ?_⟩
      refine .seg 1 [] (T' := cgo 28 [false, true] [.code B71]) (tm' := mk 20 []) (σ' := [.cells [.row 1, .row 2], .row 1 (List.map strD (kput ks V2 n k).fst) true, .row 1 (List.map intD (kput ks V2 n k).snd) true, .cells [.d (.str g), .d (.str n), .d (.int .i64 k)]]) (by kernel_rfl) ?_
      refine .keeps [] (tm' := mk 20 []) (by kernel_rfl) ?_
      refine .sub [0, 1, 2] (mk 20 []) [.cells [.row 1, .row 2], .row 1 (List.map strD (kput ks V2 n k).fst) true, .row 1 (List.map intD (kput ks V2 n k).snd) true] none [] ⟨rfl, rfl, by kernel_rfl⟩ (by kernel_rfl) ⟨by simp, by kernel_rfl⟩ (by kernel_rfl) ⟨by kernel_rfl, by kernel_rfl⟩ ⟨rfl, rfl⟩ ?_
      refine .retH F71 (v := V.tuple []) (by kernel_rfl) (by kernel_rfl) ?_
      simp_all [kapply]
    · simp only [decide_eq_true_eq, decide_eq_false_iff_not, beq_iff_eq, bne_iff_ne, beq_eq_false_iff_ne, bne_eq_false_iff_eq, Bool.not_eq_true', Bool.not_eq_false', ne_eq, Decidable.not_not, Bool.not_eq_true, Bool.not_eq_false] at h5
      refine .seg 1 [] (T' := cgo 21 [false, false] [.code B71]) (tm' := mk 20 []) (σ' := [.cells [.row 1, .row 2], .row 1 (List.map strD ks) false, .row 1 (List.map intD V2) false, .cells [.d (.str g), .d (.str n), .d (.int .i64 k)]]) (by kernel_rfl) ?_
      refine .raise 1 rfl rfl ?_
      refine .raise 2 rfl rfl ?_
      refine .keeps [] (tm' := mk 20 []) (by kernel_rfl) ?_
      refine .sub [0, 1, 2] (mk 20 []) [.cells [.row 1, .row 2], .row 1 (List.map strD ks) true, .row 1 (List.map intD V2) true] none [] ⟨rfl, rfl, by kernel_rfl⟩ (by kernel_rfl) ⟨by simp, by kernel_rfl⟩ (by kernel_rfl) ⟨by kernel_rfl, by kernel_rfl⟩ ⟨rfl, rfl⟩ ?_
      refine .retH F71 (v := V.tuple []) (by kernel_rfl) (by kernel_rfl) ?_
      simp_all [kapply]
end Go.Proofs.Ytoelkgbeefoplaa

namespace Go.Proofs.Ytoelkgbeefoplaa
open Go Go.Br Go.Proofs
noncomputable def B110 : Code := (Try.f110.body).getD .skip
theorem F110 : Fnc Try.prog 110 Try.f110 B110 := ⟨Try.func110, by kernel_rfl, by kernel_rfl⟩
theorem spec_110 (xs : List D) (hlen : xs.length ≤ 1000000) : Br.Pure Try.prog 110 [.d (.list 1 xs)] (.d (.list 1 xs)) := by
  refine CallsA.start F110 (tm := (mk 8 [(0, .d (.list 1 xs))])) (by kernel_rfl) ?_
  refine .seg 8 [0, 3] (T' := cgo 8 [] [.code B110]) (tm' := mk 8 [(0, .d (.list 1 xs)), (3, .d (.list 1 xs))]) (σ' := []) (by kernel_rfl) ?_
  refine .anyH (o := (opOf (cgo 8 [] [.code B110])).getD default) (by kernel_rfl) (by kernel_rfl) (by kernel_rfl) (T' := (cgo 9 [] [.code B110])) (by kernel_rfl) (nilEq_ok (x := .tmp 3) (y := .const (.slice none 0 0)) (t := 66) (ty := 66) (sz := 1) (xs := xs) (neg := false) (by kernel_rfl) (by kernel_rfl) (by kernel_rfl) (by kernel_rfl)) ?_
  rintro v ⟨b, rfl, hb⟩
  cases b with
  | true =>
    have h0 : xs = [] := hb rfl
    subst h0
    refine .seg 6 [2] (T' := cgo 15 [true] [.code B110]) (tm' := mk 8 [(2, .nils)]) (σ' := []) (by kernel_rfl) ?_
    refine .coerce [66, 66, 66] ?_
    exact .retH (v := .d (.list 1 [])) F110 (by kernel_rfl) (by kernel_rfl) ⟨rfl, rfl⟩
  | false =>
    refine .seg 5 [0] (T' := cgo 14 [false] [.code B110]) (tm' := mk 8 [(0, .d (.list 1 xs))]) (σ' := []) (by kernel_rfl) ?_
    refine .opH (o := (opOf (cgo 14 [false] [.code B110])).getD default) (by kernel_rfl) (by kernel_rfl) (by kernel_rfl) (T' := cgo 15 [false] [.code B110]) (by kernel_rfl) (build0_ok (t := 66) (e := 9) (sz := 1) (sz' := 1) (by kernel_rfl) (by kernel_rfl) (by kernel_rfl)) ?_
    refine .seg 1 [5, 6] (T' := cgo 16 [false] [.code B110]) (tm' := mk 8 [(5, .ex 1 []), (6, .d (.list 1 xs))]) (σ' := []) (by kernel_rfl) ?_
    cases xs with
    | nil =>
      refine .opH (o := (opOf (cgo 16 [false] [.code B110])).getD default) (by kernel_rfl) (by kernel_rfl) (by kernel_rfl) (T' := cgo 17 [false] [.code B110]) (by kernel_rfl) (appNone_ok (s := .tmp 5) (x := .tmp 6) (t := 66) (t2 := 66) (sz := 1) (by' := 16) (xs := []) (by kernel_rfl) (by kernel_rfl) (by kernel_rfl) (by kernel_rfl) (by kernel_rfl)) ?_
      refine .seg 2 [2] (T' := cgo 19 [false] [.code B110]) (tm' := mk 8 [(2, .ex 1 [])]) (σ' := []) (by kernel_rfl) ?_
      refine .coerce [66, 66, 66] ?_
      exact .retH (v := .d (.list 1 [])) F110 (by kernel_rfl) (by kernel_rfl) ⟨rfl, rfl⟩
    | cons b bs =>
      refine .opH (o := (opOf (cgo 16 [false] [.code B110])).getD default) (by kernel_rfl) (by kernel_rfl) (by kernel_rfl) (T' := cgo 17 [false] [.code B110]) (by kernel_rfl) (appEx_ok (s := .tmp 5) (x := .tmp 6) (t := 66) (t2 := 66) (sz := 1) (by' := 16) (xs := []) (ys := b :: bs) (by kernel_rfl) (by kernel_rfl) (by kernel_rfl) (by kernel_rfl) (by kernel_rfl) (by simp) (by simp at hlen ⊢; omega) (by simp [maxLen] at hlen ⊢; omega)) ?_
      refine .seg 2 [2] (T' := cgo 19 [false] [.code B110]) (tm' := mk 8 [(2, .row 0)]) (σ' := [.row 1 (b :: bs) false]) (by kernel_rfl) ?_
      refine .freeze 0 (sz := 1) (xs := b :: bs) (mv := false) rfl ?_
      refine .sub [] ((mk 8 [(2, .d (.list 1 (b :: bs)))])) [] none [] ⟨rfl, rfl, rfl⟩ rfl ⟨by simp, rfl⟩ rfl ⟨rfl, rfl⟩ ⟨rfl, rfl⟩ ?_
      exact .retH F110 (by kernel_rfl) (by kernel_rfl) (⟨rfl, rfl⟩)
theorem spec_110b (xs : List D) (off n : Nat) (c : Option Nat) (hn : off + n ≤ xs.length) (hlen : xs.length ≤ 1000000) : CallsA Try.prog 110 [.sl 0 off n c] [.row 1 xs false] fun r σ' => r = .ret (.d (.list 1 ((xs.drop off).take n))) ∧ σ' = [.row 1 xs false] := by
  refine CallsA.start F110 (tm := (mk 8 [(0, .sl 0 off n c)])) (by kernel_rfl) ?_
  refine .seg 8 [0, 3] (T' := cgo 8 [] [.code B110]) (tm' := mk 8 [(0, .sl 0 off n c), (3, .sl 0 off n c)]) (σ' := [.row 1 xs false]) (by kernel_rfl) ?_
  refine .anyH (o := (opOf (cgo 8 [] [.code B110])).getD default) (by kernel_rfl) (by kernel_rfl) (by kernel_rfl) (T' := (cgo 9 [] [.code B110])) (by kernel_rfl) (nilEqC_ok (x := .tmp 3) (y := .const (.slice none 0 0)) (t := 66) (ty := 66) (sz := 1) (xs := (xs.drop off).take n) (neg := false) (by kernel_rfl) (by kernel_rfl) (by kernel_rfl) (by kernel_rfl) (by kernel_rfl)) ?_
  rintro v ⟨b, rfl, hb⟩
  cases b with
  | true =>
    have h0 : (xs.drop off).take n = [] := hb rfl
    refine .seg 6 [2] (T' := cgo 15 [true] [.code B110]) (tm' := mk 8 [(2, .nils)]) (σ' := [.row 1 xs false]) (by kernel_rfl) ?_
    refine .coerce [66, 66, 66] ?_
    exact .retH (v := .d (.list 1 [])) F110 (by kernel_rfl) (by kernel_rfl) ⟨by rw [h0], rfl⟩
  | false =>
    refine .seg 5 [0] (T' := cgo 14 [false] [.code B110]) (tm' := mk 8 [(0, .sl 0 off n c)]) (σ' := [.row 1 xs false]) (by kernel_rfl) ?_
    refine .opH (o := (opOf (cgo 14 [false] [.code B110])).getD default) (by kernel_rfl) (by kernel_rfl) (by kernel_rfl) (T' := cgo 15 [false] [.code B110]) (by kernel_rfl) (build0_ok (t := 66) (e := 9) (sz := 1) (sz' := 1) (by kernel_rfl) (by kernel_rfl) (by kernel_rfl)) ?_
    refine .seg 1 [5, 6] (T' := cgo 16 [false] [.code B110]) (tm' := mk 8 [(5, .ex 1 []), (6, .sl 0 off n c)]) (σ' := [.row 1 xs false]) (by kernel_rfl) ?_
    generalize hys : (xs.drop off).take n = ys
    have hl : ys.length ≤ 1000000 := by rw [← hys]; simp; omega
    have hc : cont [.row 1 xs false] (.sl 0 off n c) = some (1, ys) := by rw [← hys]; rfl
    cases ys with
    | nil =>
      refine .opH (o := (opOf (cgo 16 [false] [.code B110])).getD default) (by kernel_rfl) (by kernel_rfl) (by kernel_rfl) (T' := cgo 17 [false] [.code B110]) (by kernel_rfl) (appNone_ok (s := .tmp 5) (x := .tmp 6) (t := 66) (t2 := 66) (sz := 1) (by' := 16) (xs := []) (by kernel_rfl) (by kernel_rfl) hc (by kernel_rfl) (by kernel_rfl)) ?_
      refine .seg 2 [2] (T' := cgo 19 [false] [.code B110]) (tm' := mk 8 [(2, .ex 1 [])]) (σ' := [.row 1 xs false]) (by kernel_rfl) ?_
      refine .coerce [66, 66, 66] ?_
      exact .retH (v := .d (.list 1 [])) F110 (by kernel_rfl) (by kernel_rfl) ⟨rfl, rfl⟩
    | cons b bs =>
      refine .opH (o := (opOf (cgo 16 [false] [.code B110])).getD default) (by kernel_rfl) (by kernel_rfl) (by kernel_rfl) (T' := cgo 17 [false] [.code B110]) (by kernel_rfl) (appEx_ok (s := .tmp 5) (x := .tmp 6) (t := 66) (t2 := 66) (sz := 1) (by' := 16) (xs := []) (ys := b :: bs) (by kernel_rfl) (by kernel_rfl) hc (by kernel_rfl) (by kernel_rfl) (by simp) (by simp at hl ⊢; omega) (by simp [maxLen] at hl ⊢; omega)) ?_
      refine .seg 2 [2] (T' := cgo 19 [false] [.code B110]) (tm' := mk 8 [(2, .row 1)]) (σ' := [.row 1 xs false, .row 1 (b :: bs) false]) (by kernel_rfl) ?_
      refine .freeze 1 (sz := 1) (xs := b :: bs) (mv := false) rfl ?_
      refine .sub [0] ((mk 8 [(2, .d (.list 1 (b :: bs)))])) [.row 1 xs false] none [] ⟨rfl, rfl, rfl⟩ rfl ⟨by simp, rfl⟩ rfl ⟨rfl, rfl⟩ ⟨rfl, rfl⟩ ?_
      exact .retH F110 (by kernel_rfl) (by kernel_rfl) (⟨rfl, rfl⟩)
noncomputable def B111 : Code := (Try.f111.body).getD .skip
theorem F111 : Fnc Try.prog 111 Try.f111 B111 := ⟨Try.func111, by kernel_rfl, by kernel_rfl⟩
theorem spec_111 (xs : List D) (hlen : xs.length ≤ 1000000) : Br.Pure Try.prog 111 [.d (.list 1 xs)] (.d (.list 1 xs)) := by
  refine CallsA.start F111 (tm := (mk 8 [(0, .d (.list 1 xs))])) (by kernel_rfl) ?_
  refine .seg 8 [0, 3] (T' := cgo 8 [] [.code B111]) (tm' := mk 8 [(0, .d (.list 1 xs)), (3, .d (.list 1 xs))]) (σ' := []) (by kernel_rfl) ?_
  refine .anyH (o := (opOf (cgo 8 [] [.code B111])).getD default) (by kernel_rfl) (by kernel_rfl) (by kernel_rfl) (T' := (cgo 9 [] [.code B111])) (by kernel_rfl) (nilEq_ok (x := .tmp 3) (y := .const (.slice none 0 0)) (t := 46) (ty := 46) (sz := 1) (xs := xs) (neg := false) (by kernel_rfl) (by kernel_rfl) (by kernel_rfl) (by kernel_rfl)) ?_
  rintro v ⟨b, rfl, hb⟩
  cases b with
  | true =>
    have h0 : xs = [] := hb rfl
    subst h0
    refine .seg 6 [2] (T' := cgo 15 [true] [.code B111]) (tm' := mk 8 [(2, .nils)]) (σ' := []) (by kernel_rfl) ?_
    refine .coerce [46, 46, 46] ?_
    exact .retH (v := .d (.list 1 [])) F111 (by kernel_rfl) (by kernel_rfl) ⟨rfl, rfl⟩
  | false =>
    refine .seg 5 [0] (T' := cgo 14 [false] [.code B111]) (tm' := mk 8 [(0, .d (.list 1 xs))]) (σ' := []) (by kernel_rfl) ?_
    refine .opH (o := (opOf (cgo 14 [false] [.code B111])).getD default) (by kernel_rfl) (by kernel_rfl) (by kernel_rfl) (T' := cgo 15 [false] [.code B111]) (by kernel_rfl) (build0_ok (t := 46) (e := 3) (sz := 1) (sz' := 1) (by kernel_rfl) (by kernel_rfl) (by kernel_rfl)) ?_
    refine .seg 1 [5, 6] (T' := cgo 16 [false] [.code B111]) (tm' := mk 8 [(5, .ex 1 []), (6, .d (.list 1 xs))]) (σ' := []) (by kernel_rfl) ?_
    cases xs with
    | nil =>
      refine .opH (o := (opOf (cgo 16 [false] [.code B111])).getD default) (by kernel_rfl) (by kernel_rfl) (by kernel_rfl) (T' := cgo 17 [false] [.code B111]) (by kernel_rfl) (appNone_ok (s := .tmp 5) (x := .tmp 6) (t := 46) (t2 := 46) (sz := 1) (by' := 8) (xs := []) (by kernel_rfl) (by kernel_rfl) (by kernel_rfl) (by kernel_rfl) (by kernel_rfl)) ?_
      refine .seg 2 [2] (T' := cgo 19 [false] [.code B111]) (tm' := mk 8 [(2, .ex 1 [])]) (σ' := []) (by kernel_rfl) ?_
      refine .coerce [46, 46, 46] ?_
      exact .retH (v := .d (.list 1 [])) F111 (by kernel_rfl) (by kernel_rfl) ⟨rfl, rfl⟩
    | cons b bs =>
      refine .opH (o := (opOf (cgo 16 [false] [.code B111])).getD default) (by kernel_rfl) (by kernel_rfl) (by kernel_rfl) (T' := cgo 17 [false] [.code B111]) (by kernel_rfl) (appEx_ok (s := .tmp 5) (x := .tmp 6) (t := 46) (t2 := 46) (sz := 1) (by' := 8) (xs := []) (ys := b :: bs) (by kernel_rfl) (by kernel_rfl) (by kernel_rfl) (by kernel_rfl) (by kernel_rfl) (by simp) (by simp at hlen ⊢; omega) (by simp [maxLen] at hlen ⊢; omega)) ?_
      refine .seg 2 [2] (T' := cgo 19 [false] [.code B111]) (tm' := mk 8 [(2, .row 0)]) (σ' := [.row 1 (b :: bs) false]) (by kernel_rfl) ?_
      refine .freeze 0 (sz := 1) (xs := b :: bs) (mv := false) rfl ?_
      refine .sub [] ((mk 8 [(2, .d (.list 1 (b :: bs)))])) [] none [] ⟨rfl, rfl, rfl⟩ rfl ⟨by simp, rfl⟩ rfl ⟨rfl, rfl⟩ ⟨rfl, rfl⟩ ?_
      exact .retH F111 (by kernel_rfl) (by kernel_rfl) (⟨rfl, rfl⟩)
theorem spec_111b (xs : List D) (off n : Nat) (c : Option Nat) (hn : off + n ≤ xs.length) (hlen : xs.length ≤ 1000000) : CallsA Try.prog 111 [.sl 0 off n c] [.row 1 xs false] fun r σ' => r = .ret (.d (.list 1 ((xs.drop off).take n))) ∧ σ' = [.row 1 xs false] := by
  refine CallsA.start F111 (tm := (mk 8 [(0, .sl 0 off n c)])) (by kernel_rfl) ?_
  refine .seg 8 [0, 3] (T' := cgo 8 [] [.code B111]) (tm' := mk 8 [(0, .sl 0 off n c), (3, .sl 0 off n c)]) (σ' := [.row 1 xs false]) (by kernel_rfl) ?_
  refine .anyH (o := (opOf (cgo 8 [] [.code B111])).getD default) (by kernel_rfl) (by kernel_rfl) (by kernel_rfl) (T' := (cgo 9 [] [.code B111])) (by kernel_rfl) (nilEqC_ok (x := .tmp 3) (y := .const (.slice none 0 0)) (t := 46) (ty := 46) (sz := 1) (xs := (xs.drop off).take n) (neg := false) (by kernel_rfl) (by kernel_rfl) (by kernel_rfl) (by kernel_rfl) (by kernel_rfl)) ?_
  rintro v ⟨b, rfl, hb⟩
  cases b with
  | true =>
    have h0 : (xs.drop off).take n = [] := hb rfl
    refine .seg 6 [2] (T' := cgo 15 [true] [.code B111]) (tm' := mk 8 [(2, .nils)]) (σ' := [.row 1 xs false]) (by kernel_rfl) ?_
    refine .coerce [46, 46, 46] ?_
    exact .retH (v := .d (.list 1 [])) F111 (by kernel_rfl) (by kernel_rfl) ⟨by rw [h0], rfl⟩
  | false =>
    refine .seg 5 [0] (T' := cgo 14 [false] [.code B111]) (tm' := mk 8 [(0, .sl 0 off n c)]) (σ' := [.row 1 xs false]) (by kernel_rfl) ?_
    refine .opH (o := (opOf (cgo 14 [false] [.code B111])).getD default) (by kernel_rfl) (by kernel_rfl) (by kernel_rfl) (T' := cgo 15 [false] [.code B111]) (by kernel_rfl) (build0_ok (t := 46) (e := 3) (sz := 1) (sz' := 1) (by kernel_rfl) (by kernel_rfl) (by kernel_rfl)) ?_
    refine .seg 1 [5, 6] (T' := cgo 16 [false] [.code B111]) (tm' := mk 8 [(5, .ex 1 []), (6, .sl 0 off n c)]) (σ' := [.row 1 xs false]) (by kernel_rfl) ?_
    generalize hys : (xs.drop off).take n = ys
    have hl : ys.length ≤ 1000000 := by rw [← hys]; simp; omega
    have hc : cont [.row 1 xs false] (.sl 0 off n c) = some (1, ys) := by rw [← hys]; rfl
    cases ys with
    | nil =>
      refine .opH (o := (opOf (cgo 16 [false] [.code B111])).getD default) (by kernel_rfl) (by kernel_rfl) (by kernel_rfl) (T' := cgo 17 [false] [.code B111]) (by kernel_rfl) (appNone_ok (s := .tmp 5) (x := .tmp 6) (t := 46) (t2 := 46) (sz := 1) (by' := 8) (xs := []) (by kernel_rfl) (by kernel_rfl) hc (by kernel_rfl) (by kernel_rfl)) ?_
      refine .seg 2 [2] (T' := cgo 19 [false] [.code B111]) (tm' := mk 8 [(2, .ex 1 [])]) (σ' := [.row 1 xs false]) (by kernel_rfl) ?_
      refine .coerce [46, 46, 46] ?_
      exact .retH (v := .d (.list 1 [])) F111 (by kernel_rfl) (by kernel_rfl) ⟨rfl, rfl⟩
    | cons b bs =>
      refine .opH (o := (opOf (cgo 16 [false] [.code B111])).getD default) (by kernel_rfl) (by kernel_rfl) (by kernel_rfl) (T' := cgo 17 [false] [.code B111]) (by kernel_rfl) (appEx_ok (s := .tmp 5) (x := .tmp 6) (t := 46) (t2 := 46) (sz := 1) (by' := 8) (xs := []) (ys := b :: bs) (by kernel_rfl) (by kernel_rfl) hc (by kernel_rfl) (by kernel_rfl) (by simp) (by simp at hl ⊢; omega) (by simp [maxLen] at hl ⊢; omega)) ?_
      refine .seg 2 [2] (T' := cgo 19 [false] [.code B111]) (tm' := mk 8 [(2, .row 1)]) (σ' := [.row 1 xs false, .row 1 (b :: bs) false]) (by kernel_rfl) ?_
      refine .freeze 1 (sz := 1) (xs := b :: bs) (mv := false) rfl ?_
      refine .sub [0] ((mk 8 [(2, .d (.list 1 (b :: bs)))])) [.row 1 xs false] none [] ⟨rfl, rfl, rfl⟩ rfl ⟨by simp, rfl⟩ rfl ⟨rfl, rfl⟩ ⟨rfl, rfl⟩ ?_
      exact .retH F111 (by kernel_rfl) (by kernel_rfl) (⟨rfl, rfl⟩)
end Go.Proofs.Ytoelkgbeefoplaa


namespace Go.Proofs.Ytoelkgbeefoplaa
open Go Go.Br Go.Proofs
set_option linter.unusedSimpArgs false
noncomputable def B72 : Code := (Try.f72.body).getD .skip
theorem F72 : Fnc Try.prog 72 Try.f72 B72 := ⟨Try.func72, by kernel_rfl, by kernel_rfl⟩
noncomputable def B97 : Code := (Try.f97.body).getD .skip
theorem F97 : Fnc Try.prog 97 Try.f97 B97 := ⟨Try.func97, by kernel_rfl, by kernel_rfl⟩
noncomputable def B98 : Code := (Try.f98.body).getD .skip
theorem F98 : Fnc Try.prog 98 Try.f98 B98 := ⟨Try.func98, by kernel_rfl, by kernel_rfl⟩
noncomputable def B109 : Code := (Try.f109.body).getD .skip
theorem F109 : Fnc Try.prog 109 Try.f109 B109 := ⟨Try.func109, by kernel_rfl, by kernel_rfl⟩
theorem spec_98 : Br.Pure Try.prog 98 [] (.d (.int .i64 0)) := by
  refine CallsA.start F98 (tm := mk (Try.f98.ntmps) []) (by kernel_rfl) ?_
  refine .seg 8 [0] (T' := cgo 8 [] [.code B98]) (tm' := mk 1 [(0, .d (.int .i64 0))]) (σ' := []) (by kernel_rfl) ?_
  refine .retH F98 (v := V.d (D.int IntKind.i64 0)) (by kernel_rfl) (by kernel_rfl) ?_
  exact ⟨rfl, rfl⟩
theorem spec_97 (ks V2 : List D) : CallsA Try.prog 97 [.ptr 0 0 0, .fn (.func 98) [] []] [.cells [.row 1, .row 2], .row 1 ks false, .row 1 V2 false] fun r σ' => r = .ret (.fn (.func 109) [] [.ptr 3 0 0, .ptr 4 0 0]) ∧ σ' = [.cells [.row 1, .row 2], .row 1 ks false, .row 1 V2 false, .cells [.ptr 0 0 0], .cells [.fn (.func 98) [] []]] := by
  refine CallsA.start F97 (tm := mk (Try.f97.ntmps) [(0, .ptr 0 0 0), (1, .fn (.func 98) [] [])]) (by kernel_rfl) ?_
  refine .seg 11 [4] (T' := cgo 11 [] [.code B97]) (tm' := mk 6 [(4, .fn (Fn.func 109) [] [.ptr 3 0 0, .ptr 4 0 0])]) (σ' := [.cells [.row 1, .row 2], .row 1 ks false, .row 1 V2 false, .cells [.ptr 0 0 0], .cells [.fn (Fn.func 98) [] []]]) (by kernel_rfl) ?_
  refine .retH F97 (v := V.fn (Fn.func 109) [] [V.ptr 3 0 0, V.ptr 4 0 0]) (by kernel_rfl) (by kernel_rfl) ?_
  exact ⟨rfl, rfl⟩
theorem spec_72 (ks V2 : List D) : CallsA Try.prog 72 [.ptr 0 0 0] [.cells [.row 1, .row 2], .row 1 ks false, .row 1 V2 false] fun r σ' => r = .ret (.fn (.func 109) [] [.ptr 3 0 0, .ptr 4 0 0]) ∧ σ' = [.cells [.row 1, .row 2], .row 1 ks false, .row 1 V2 false, .cells [.ptr 0 0 0], .cells [.fn (.func 98) [] []]] := by
  refine CallsA.start F72 (tm := mk (Try.f72.ntmps) [(0, .ptr 0 0 0)]) (by kernel_rfl) ?_
  refine .seg 7 [0, 2, 3] (T' := cgo 7 [] [.code B72]) (tm' := mk 5 [(0, .ptr 0 0 0), (2, .d (.raw Value.nilFunc)), (3, .ptr 0 0 0)]) (σ' := [.cells [.row 1, .row 2], .row 1 ks false, .row 1 V2 false]) (by kernel_rfl) ?_
  refine .callH (o := (opOf (cgo 7 [] [.code B72])).getD default) (x := (.func 97)) (args := #[(.tmp 3), (.func 98)]) (ts := #[102, 77]) (first := []) (cap := []) [0, 1, 2] [.ptr 0 0 0, .fn (Fn.func 98) [] []] [.cells [.row 1, .row 2], .row 1 ks false, .row 1 V2 false] F97 (@spec_97 (ks) (V2)) (by kernel_rfl) (by kernel_rfl) (T' := cgo 8 [] [.code B72]) (by kernel_rfl) (by kernel_rfl) (by kernel_rfl) (by kernel_rfl) (by kernel_rfl) ⟨rfl, rfl, by kernel_rfl⟩ ?_
  rintro r0 s0 ⟨rfl, rfl⟩
  refine ⟨_, rfl, ?_⟩
  refine .seg 2 [2] (T' := cgo 10 [] [.code B72]) (tm' := mk 5 [(2, .fn (Fn.func 109) [] [.ptr 3 0 0, .ptr 4 0 0])]) (σ' := [.cells [.row 1, .row 2], .row 1 ks false, .row 1 V2 false, .cells [.ptr 0 0 0], .cells [.fn (Fn.func 98) [] []]]) (by kernel_rfl) ?_
  refine .retH F72 (v := V.fn (Fn.func 109) [] [V.ptr 3 0 0, V.ptr 4 0 0]) (by kernel_rfl) (by kernel_rfl) ?_
  exact ⟨rfl, rfl⟩
theorem eachL {α : Type} (l : List α) (g : α → D) : List.take (l.length - 0) (List.drop 0 (List.map g l)) = List.map g l := by
  rw [Nat.sub_zero, List.drop_zero, List.take_of_length_le (by simp)]
theorem eachM {α : Type} (l : List α) (g : α → D) : List.drop 0 (List.take l.length (List.map g l)) = List.map g l := by
  rw [List.drop_zero, List.take_of_length_le (by simp)]
end Go.Proofs.Ytoelkgbeefoplaa

namespace Go.Proofs.Ytoelkgbeefoplaa
open Go Go.Br Go.Proofs
set_option linter.unusedSimpArgs false
noncomputable def B69 : Code := (Try.f69.body).getD .skip
theorem F69 : Fnc Try.prog 69 Try.f69 B69 := ⟨Try.func69, by kernel_rfl, by kernel_rfl⟩
noncomputable def R69 : List Item := [.code (rfAs (cgo 18 [] [Item.code B69])), .beginRound, .code (rfBd (cgo 18 [] [Item.code B69]))]
/-- The store while a directory is copied. -/
noncomputable def S69 (ks : List ByteArray) (V2 : List Int) (i : Nat) (st : LoopState) : Store :=
  [.cells [.row 1, .row 2], .row 1 (ks.map strD) false, .row 1 (V2.map intD) false, .cells [.row 7, .row 8], .cells [.ptr 3 0 0], .cells [.ptr 0 0 0], .cells [.fn (.func 98) [] []], .row 1 ((ks.take i).map strD) true, .row 1 ((V2.take i).map intD) true, .defd,
    lp (cgo 18 [] [Item.code B69]) 69 (mk 17 [(2, V.d (D.raw (Value.pointer none))), (3, V.ptr 4 0 0), (9, V.fn (Fn.func 109) [] [V.ptr 5 0 0, V.ptr 6 0 0])]) st]
theorem body69 (ks : List ByteArray) (V2 : List Int) (hr : Rising ks) (hl : ks.length < 60000) (hv : V2.length = ks.length) (i : Nat) (x : ByteArray) (v : Int) (hx : ks[i]? = some x) (hy : V2[i]? = some v) :
    AW Try.prog 69 (some 10) 11 R69 (mk 17 [(2, V.d (D.raw (Value.pointer none))), (3, V.ptr 4 0 0), (9, V.fn (Fn.func 109) [] [V.ptr 5 0 0, V.ptr 6 0 0]), (10, .d (.str x)), (11, .d (.int .i64 v))]) (S69 ks V2 i .ready) [] fun a σ' => a = .ret (.d (.bool true)) ∧ σ' = S69 ks V2 (i + 1) .ready := by
  refine .at (T' := cgo 0 [] R69) rfl ?_
  have hi := (List.getElem?_eq_some_iff.1 hx).1
  have hk : kput (ks.take i) (V2.take i) x v = (ks.take (i + 1), V2.take (i + 1)) := by
    obtain ⟨_, rfl⟩ := List.getElem?_eq_some_iff.1 hx
    obtain ⟨_, rfl⟩ := List.getElem?_eq_some_iff.1 hy
    exact kput_next hr hv i hi
  have hr2 : Rising (ks.take i) := List.Pairwise.sublist (List.take_sublist _ _) hr
  have hl2 : (ks.take i).length < 1000000 := by simp; omega
  have hv2 : (V2.take i).length = (ks.take i).length := by simp [hv]
  refine .seg 7 [2, 3, 4, 5, 9, 10, 11] (T' := cgo 7 [] R69) (tm' := mk 17 [(2, .d (.raw (Value.pointer none))), (3, .ptr 4 0 0), (4, .d (.str x)), (5, .d (.int .i64 v)), (9, .fn (Fn.func 109) [] [.ptr 5 0 0, .ptr 6 0 0]), (10, .d (.str x)), (11, .d (.int .i64 v))]) (σ' := [.cells [.row 1, .row 2], .row 1 (List.map strD ks) false, .row 1 (List.map intD V2) false, .cells [.row 7, .row 8], .cells [.ptr 3 0 0], .cells [.ptr 0 0 0], .cells [.fn (Fn.func 98) [] []], .row 1 (List.map strD (List.take i ks)) true, .row 1 (List.map intD (List.take i V2)) true, .defd, lp (cgo 18 [] [.code B69]) 69 (mk 17 [(2, .d (.raw (Value.pointer none))), (3, .ptr 4 0 0), (9, .fn (Fn.func 109) [] [.ptr 5 0 0, .ptr 6 0 0])]) LoopState.ready]) (by kernel_rfl) ?_
  refine .beginL (T0 := cgo 18 [] [Item.code B69]) (fn := 69) (tml := (mk 17 [(2, V.d (D.raw (Value.pointer none))), (3, V.ptr 4 0 0), (9, V.fn (Fn.func 109) [] [V.ptr 5 0 0, V.ptr 6 0 0])])) (by kernel_rfl) (T' := cgo 8 [] R69) (by kernel_rfl) (σ' := [.cells [.row 1, .row 2], .row 1 (List.map strD ks) false, .row 1 (List.map intD V2) false, .cells [.row 7, .row 8], .cells [.ptr 3 0 0], .cells [.ptr 0 0 0], .cells [.fn (Fn.func 98) [] []], .row 1 (List.map strD (List.take i ks)) true, .row 1 (List.map intD (List.take i V2)) true, .defd, lp (cgo 18 [] [Item.code B69]) 69 (mk 17 [(2, .d (.raw (Value.pointer none))), (3, .ptr 4 0 0), (9, .fn (Fn.func 109) [] [.ptr 5 0 0, .ptr 6 0 0])]) LoopState.busy]) (by kernel_rfl) (by kernel_rfl) ?_
  refine .seg 5 [2, 3, 4, 5, 12, 13, 14] (T' := cgo 13 [] R69) (tm' := mk 17 [(2, .d (.raw (Value.pointer none))), (3, .ptr 4 0 0), (4, .d (.str x)), (5, .d (.int .i64 v)), (12, .ptr 3 0 0), (13, .d (.str x)), (14, .d (.int .i64 v))]) (σ' := [.cells [.row 1, .row 2], .row 1 (List.map strD ks) false, .row 1 (List.map intD V2) false, .cells [.row 7, .row 8], .cells [.ptr 3 0 0], .cells [.ptr 0 0 0], .cells [.fn (Fn.func 98) [] []], .row 1 (List.map strD (List.take i ks)) true, .row 1 (List.map intD (List.take i V2)) true, .defd, lp (cgo 18 [] [.code B69]) 69 (mk 17 [(2, .d (.raw (Value.pointer none))), (3, .ptr 4 0 0), (9, .fn (Fn.func 109) [] [.ptr 5 0 0, .ptr 6 0 0])]) LoopState.busy]) (by kernel_rfl) ?_
  refine .callH (o := (opOf (cgo 13 [] R69)).getD default) (x := (.func 76)) (args := #[(.tmp 12), (.tmp 13), (.tmp 14)]) (ts := #[102, 9, 3]) (first := []) (cap := []) [3, 7, 8] [.ptr 0 0 0, .d (.str x), .d (.int .i64 v)] [.cells [.row 1, .row 2], .row 1 (List.map strD (List.take i ks)) false, .row 1 (List.map intD (List.take i V2)) false] F76 (@spec_76 (List.take i ks) (x) (List.take i V2) (v) (by assumption) (by assumption) (by assumption)) (by kernel_rfl) (by kernel_rfl) (T' := cgo 14 [] R69) (by kernel_rfl) (by kernel_rfl) (by kernel_rfl) (by kernel_rfl) (by kernel_rfl) ⟨rfl, rfl, by kernel_rfl⟩ ?_
  rintro r0 s0 ⟨rfl, rfl⟩
  refine ⟨_, rfl, ?_⟩
  refine .seg 2 [2] (T' := cgo 16 [] R69) (tm' := mk 17 [(2, .d (.raw (Value.pointer none)))]) (σ' := [.cells [.row 1, .row 2], .row 1 (List.map strD ks) false, .row 1 (List.map intD V2) false, .cells [.row 7, .row 8], .cells [.ptr 3 0 0], .cells [.ptr 0 0 0], .cells [.fn (Fn.func 98) [] []], .row 1 (List.map strD (kput (List.take i ks) (List.take i V2) x v).fst) true, .row 1 (List.map intD (kput (List.take i ks) (List.take i V2) x v).snd) true, .defd, lp (cgo 18 [] [.code B69]) 69 (mk 17 [(2, .d (.raw (Value.pointer none))), (3, .ptr 4 0 0), (9, .fn (Fn.func 109) [] [.ptr 5 0 0, .ptr 6 0 0])]) LoopState.busy]) (by kernel_rfl) ?_
  refine .roundEndL (T0 := cgo 18 [] [Item.code B69]) (fn := 69) (tml := (mk 17 [(2, V.d (D.raw (Value.pointer none))), (3, V.ptr 4 0 0), (9, V.fn (Fn.func 109) [] [V.ptr 5 0 0, V.ptr 6 0 0])])) (st := LoopState.busy) (by kernel_rfl) (by kernel_rfl) (σ' := [.cells [.row 1, .row 2], .row 1 (List.map strD ks) false, .row 1 (List.map intD V2) false, .cells [.row 7, .row 8], .cells [.ptr 3 0 0], .cells [.ptr 0 0 0], .cells [.fn (Fn.func 98) [] []], .row 1 (List.map strD (kput (List.take i ks) (List.take i V2) x v).fst) true, .row 1 (List.map intD (kput (List.take i ks) (List.take i V2) x v).snd) true, .defd, lp (cgo 18 [] [Item.code B69]) 69 (mk 17 [(2, .d (.raw (Value.pointer none))), (3, .ptr 4 0 0), (9, .fn (Fn.func 109) [] [.ptr 5 0 0, .ptr 6 0 0])]) LoopState.ready]) (by kernel_rfl) ?_
  simp_all [S69]
theorem lo69 (ks : List ByteArray) (V2 : List Int) (hr : Rising ks) (hl : ks.length < 60000) (hv : V2.length = ks.length) : ∀ (m i : Nat), i + m = (ks).length →
    AW Try.prog 109 none 11 (cgo 24 [false] [Item.code B109]) (mk 43 [(0, V.yield 10), (5, V.d (.list 1 ((ks).map strD))), (6, V.d (.list 1 ((V2).map intD))), (27, V.d (.int .i64 ((ks).length : Nat))), (28, V.d (.int .i64 (i : Nat)))]) (S69 ks V2 i .ready) [] fun r σ' => r = .ret (.tuple []) ∧ σ' = S69 ks V2 (ks).length .ready := by
  intro m
  induction m with
  | zero =>
    intro i hi
    have hi : i = (ks).length := by omega
    subst hi
    refine .seg 5 [0, 5, 6, 27, 28, 29] (T' := cgo 29 [false] [.code B109]) (tm' := mk 43 [(0, V.yield 10), (5, .d (.list 1 (List.map strD ks))), (6, .d (.list 1 (List.map intD V2))), (27, .d (.int .i64 (↑ks.length : Int))), (28, .d (.int .i64 (↑ks.length : Int))), (29, .d (.bool (decide ((↑ks.length : Int) < (↑ks.length : Int)))))]) (σ' := [.cells [.row 1, .row 2], .row 1 (List.map strD ks) false, .row 1 (List.map intD V2) false, .cells [.row 7, .row 8], .cells [.ptr 3 0 0], .cells [.ptr 0 0 0], .cells [.fn (Fn.func 98) [] []], .row 1 (List.map strD (List.take ks.length ks)) true, .row 1 (List.map intD (List.take ks.length V2)) true, .defd, lp (cgo 18 [] [.code B69]) 69 (mk 17 [(2, .d (.raw (Value.pointer none))), (3, .ptr 4 0 0), (9, .fn (Fn.func 109) [] [.ptr 5 0 0, .ptr 6 0 0])]) LoopState.ready]) (by kernel_rfl) ?_
    refine .ifH (b := decide ((↑ks.length : Int) < (↑ks.length : Int))) (by kernel_rfl) (by kernel_rfl) (T1 := cgo 30 [false, true] [Item.code B109]) (T2 := cgo 30 [false, false] [Item.code B109]) (by kernel_rfl) (by kernel_rfl) (fun h1 => ?_) (fun h1 => ?_)
    · simp only [decide_eq_true_eq, decide_eq_false_iff_not, beq_iff_eq, bne_iff_ne, beq_eq_false_iff_ne, bne_eq_false_iff_eq, Bool.not_eq_true', Bool.not_eq_false', ne_eq, Decidable.not_not, Bool.not_eq_true, Bool.not_eq_false] at h1
      omega
    · simp only [decide_eq_true_eq, decide_eq_false_iff_not, beq_iff_eq, bne_iff_ne, beq_eq_false_iff_ne, bne_eq_false_iff_eq, Bool.not_eq_true', Bool.not_eq_false', ne_eq, Decidable.not_not, Bool.not_eq_true, Bool.not_eq_false] at h1
      refine .seg 1 [] (T' := cgo 31 [false, false] [.code B109]) (tm' := mk 43 []) (σ' := [.cells [.row 1, .row 2], .row 1 (List.map strD ks) false, .row 1 (List.map intD V2) false, .cells [.row 7, .row 8], .cells [.ptr 3 0 0], .cells [.ptr 0 0 0], .cells [.fn (Fn.func 98) [] []], .row 1 (List.map strD (List.take ks.length ks)) true, .row 1 (List.map intD (List.take ks.length V2)) true, .defd, lp (cgo 18 [] [.code B69]) 69 (mk 17 [(2, .d (.raw (Value.pointer none))), (3, .ptr 4 0 0), (9, .fn (Fn.func 109) [] [.ptr 5 0 0, .ptr 6 0 0])]) LoopState.ready]) (by kernel_rfl) ?_
      refine .retH F109 (v := V.tuple []) (by kernel_rfl) (by kernel_rfl) ?_
      exact ⟨rfl, rfl⟩
  | succ m ih =>
    intro i hi
    obtain ⟨x, hx⟩ := get_some (l := ks) (i := i) (by omega)
    obtain ⟨v, hy⟩ := get_some (l := V2) (i := i) (by omega)
    have hYi := body69 ks V2 hr hl hv i x v hx hy
    refine .seg 5 [0, 5, 6, 27, 28, 29] (T' := cgo 29 [false] [.code B109]) (tm' := mk 43 [(0, V.yield 10), (5, .d (.list 1 (List.map strD ks))), (6, .d (.list 1 (List.map intD V2))), (27, .d (.int .i64 (↑ks.length : Int))), (28, .d (.int .i64 (↑i : Int))), (29, .d (.bool (decide ((↑i : Int) < (↑ks.length : Int)))))]) (σ' := [.cells [.row 1, .row 2], .row 1 (List.map strD ks) false, .row 1 (List.map intD V2) false, .cells [.row 7, .row 8], .cells [.ptr 3 0 0], .cells [.ptr 0 0 0], .cells [.fn (Fn.func 98) [] []], .row 1 (List.map strD (List.take i ks)) true, .row 1 (List.map intD (List.take i V2)) true, .defd, lp (cgo 18 [] [.code B69]) 69 (mk 17 [(2, .d (.raw (Value.pointer none))), (3, .ptr 4 0 0), (9, .fn (Fn.func 109) [] [.ptr 5 0 0, .ptr 6 0 0])]) LoopState.ready]) (by kernel_rfl) ?_
    refine .ifH (b := decide ((↑i : Int) < (↑ks.length : Int))) (by kernel_rfl) (by kernel_rfl) (T1 := cgo 30 [false, true] [Item.code B109]) (T2 := cgo 30 [false, false] [Item.code B109]) (by kernel_rfl) (by kernel_rfl) (fun h1 => ?_) (fun h1 => ?_)
    · simp only [decide_eq_true_eq, decide_eq_false_iff_not, beq_iff_eq, bne_iff_ne, beq_eq_false_iff_ne, bne_eq_false_iff_eq, Bool.not_eq_true', Bool.not_eq_false', ne_eq, Decidable.not_not, Bool.not_eq_true, Bool.not_eq_false] at h1
      refine .seg 9 [0, 5, 6, 7, 27, 28, 29, 30] (T' := cgo 39 [false, true] [.code B109]) (tm' := mk 43 [(0, V.yield 10), (5, .d (.list 1 (List.map strD ks))), (6, .d (.list 1 (List.map intD V2))), (7, .d (.int .i64 (↑i : Int))), (27, .d (.int .i64 (↑ks.length : Int))), (28, .d (.int .i64 (↑i : Int))), (29, .d (.bool (decide ((↑i : Int) < (↑ks.length : Int))))), (30, .d (.int .i64 (↑i : Int)))]) (σ' := [.cells [.row 1, .row 2], .row 1 (List.map strD ks) false, .row 1 (List.map intD V2) false, .cells [.row 7, .row 8], .cells [.ptr 3 0 0], .cells [.ptr 0 0 0], .cells [.fn (Fn.func 98) [] []], .row 1 (List.map strD (List.take i ks)) true, .row 1 (List.map intD (List.take i V2)) true, .defd, lp (cgo 18 [] [.code B69]) 69 (mk 17 [(2, .d (.raw (Value.pointer none))), (3, .ptr 4 0 0), (9, .fn (Fn.func 109) [] [.ptr 5 0 0, .ptr 6 0 0])]) LoopState.ready]) (by kernel_rfl) ?_
      refine .drawF (T' := cgo 40 [false, true] [.code B109]) (tm' := mk 43 [(0, V.yield 10), (5, .d (.list 1 (List.map strD ks))), (6, .d (.list 1 (List.map intD V2))), (7, .d (.int .i64 (↑i : Int))), (27, .d (.int .i64 (↑ks.length : Int))), (28, .d (.int .i64 (↑i : Int))), (29, .d (.bool (decide ((↑i : Int) < (↑ks.length : Int))))), (30, .d (.int .i64 (↑i : Int))), (31, V.yield 10), (32, .d (.list 1 (List.map strD ks))), (33, .d (.int .i64 (↑i : Int))), (34, .ep 1 (D.str x) 0), (35, .d (.str x)), (36, .d (.list 1 (List.map intD V2))), (37, .d (.int .i64 (↑i : Int))), (38, .ep 1 (D.int IntKind.i64 v) 0), (39, .d (.int .i64 v)), (40, .d (.bool true)), (41, .d (.bool false))]) (σ' := [.cells [.row 1, .row 2], .row 1 (List.map strD ks) false, .row 1 (List.map intD V2) false, .cells [.row 7, .row 8], .cells [.ptr 3 0 0], .cells [.ptr 0 0 0], .cells [.fn (Fn.func 98) [] []], .row 1 (List.map strD (List.take (i + 1) ks)) true, .row 1 (List.map intD (List.take (i + 1) V2)) true, .defd, lp (cgo 18 [] [.code B69]) 69 (mk 17 [(2, .d (.raw (Value.pointer none))), (3, .ptr 4 0 0), (9, .fn (Fn.func 109) [] [.ptr 5 0 0, .ptr 6 0 0])]) LoopState.ready]) (by kernel_rfl) (by kernel_rfl) (by kernel_rfl) (by kernel_rfl) (fun kz L hL => ?_) ?_
      · refine ⟨[⟨[], [], [], [10], [10], [], true, false⟩, ⟨[], [], [], [], [], [], true, false⟩, ⟨[], [], [], [], [], [], true, false⟩, ⟨[], [], [], [], [], [], true, false⟩, ⟨[], [], [], [], [], [], true, false⟩, ⟨[], [], [], [], [], [], true, false⟩, ⟨[], [], [], [], [], [], true, false⟩, ⟨[], [], [], [], [], [], true, false⟩, ⟨[], [], [], [], [], [], true, false⟩, ⟨[], [], [], [], [], [], false, true⟩, ⟨[], [], [], [], [], [], true, false⟩], run_amongF hL _ [] [0, 1, 2, 3, 4, 5, 6, 7, 8, 9, 10] (by intro p hp; cases hp) (by kernel_rfl) ?_⟩
        refine Run.append (A := [0, 1, 2]) (srunF_ok (tm' := mk 43 [(0, V.yield 10), (5, .d (.list 1 (List.map strD ks))), (6, .d (.list 1 (List.map intD V2))), (7, .d (.int .i64 (↑i : Int))), (27, .d (.int .i64 (↑ks.length : Int))), (28, .d (.int .i64 (↑i : Int))), (29, .d (.bool (decide ((↑i : Int) < (↑ks.length : Int))))), (30, .d (.int .i64 (↑i : Int))), (31, V.yield 10), (32, .d (.list 1 (List.map strD ks))), (33, .d (.int .i64 (↑i : Int)))]) (σ' := [.cells [.row 1, .row 2], .row 1 (List.map strD ks) false, .row 1 (List.map intD V2) false, .cells [.row 7, .row 8], .cells [.ptr 3 0 0], .cells [.ptr 0 0 0], .cells [.fn (Fn.func 98) [] []], .row 1 (List.map strD (List.take i ks)) true, .row 1 (List.map intD (List.take i V2)) true, .defd, lp (cgo 18 [] [Item.code B69]) 69 (mk 17 [(2, .d (.raw (Value.pointer none))), (3, .ptr 4 0 0), (9, .fn (Fn.func 109) [] [.ptr 5 0 0, .ptr 6 0 0])]) LoopState.ready]) (by kernel_rfl)) ?_
        refine Run.one (StepF.look (o := ((drawOf (cgo 39 [false, true] [.code B109]))[3]?).getD default) (v := .ep 1 (D.str x) 0) [(.tmp 32), (.tmp 33)] (by kernel_rfl) rfl (by kernel_rfl) (by kernel_rfl) (by kernel_rfl) (by kernel_rfl) (by kernel_rfl) (fun tm' σ2 hv hr => ixData_ok (t := 66) (x := (.tmp 32)) (i := (.tmp 33)) (k := IntKind.i64) (n := (↑i : Int)) (sz := 1) (xs := List.map strD ks) (d := strD x) (by kernel_rfl) (by rw [hv _ (by simp)]; kernel_rfl) (by rw [hv _ (by simp)]; kernel_rfl) (by kernel_rfl) (by omega) (map_get hx))) ?_
        refine Run.asP (tm' := mk 43 [(0, V.yield 10), (5, .d (.list 1 (List.map strD ks))), (6, .d (.list 1 (List.map intD V2))), (7, .d (.int .i64 (↑i : Int))), (27, .d (.int .i64 (↑ks.length : Int))), (28, .d (.int .i64 (↑i : Int))), (29, .d (.bool (decide ((↑i : Int) < (↑ks.length : Int))))), (30, .d (.int .i64 (↑i : Int))), (31, V.yield 10), (32, .d (.list 1 (List.map strD ks))), (33, .d (.int .i64 (↑i : Int))), (34, .ep 1 (D.str x) 0)]) (σ' := [.cells [.row 1, .row 2], .row 1 (List.map strD ks) false, .row 1 (List.map intD V2) false, .cells [.row 7, .row 8], .cells [.ptr 3 0 0], .cells [.ptr 0 0 0], .cells [.fn (Fn.func 98) [] []], .row 1 (List.map strD (List.take i ks)) true, .row 1 (List.map intD (List.take i V2)) true, .defd, lp (cgo 18 [] [.code B69]) 69 (mk 17 [(2, .d (.raw (Value.pointer none))), (3, .ptr 4 0 0), (9, .fn (Fn.func 109) [] [.ptr 5 0 0, .ptr 6 0 0])]) LoopState.ready]) (by kernel_rfl) (by kernel_rfl) ?_
        refine Run.append (A := [4, 5, 6]) (srunF_ok (tm' := mk 43 [(0, V.yield 10), (5, .d (.list 1 (List.map strD ks))), (6, .d (.list 1 (List.map intD V2))), (7, .d (.int .i64 (↑i : Int))), (27, .d (.int .i64 (↑ks.length : Int))), (28, .d (.int .i64 (↑i : Int))), (29, .d (.bool (decide ((↑i : Int) < (↑ks.length : Int))))), (30, .d (.int .i64 (↑i : Int))), (31, V.yield 10), (32, .d (.list 1 (List.map strD ks))), (33, .d (.int .i64 (↑i : Int))), (34, .ep 1 (D.str x) 0), (35, .d (.str x)), (36, .d (.list 1 (List.map intD V2))), (37, .d (.int .i64 (↑i : Int)))]) (σ' := [.cells [.row 1, .row 2], .row 1 (List.map strD ks) false, .row 1 (List.map intD V2) false, .cells [.row 7, .row 8], .cells [.ptr 3 0 0], .cells [.ptr 0 0 0], .cells [.fn (Fn.func 98) [] []], .row 1 (List.map strD (List.take i ks)) true, .row 1 (List.map intD (List.take i V2)) true, .defd, lp (cgo 18 [] [Item.code B69]) 69 (mk 17 [(2, .d (.raw (Value.pointer none))), (3, .ptr 4 0 0), (9, .fn (Fn.func 109) [] [.ptr 5 0 0, .ptr 6 0 0])]) LoopState.ready]) (by kernel_rfl)) ?_
        refine Run.one (StepF.look (o := ((drawOf (cgo 39 [false, true] [.code B109]))[7]?).getD default) (v := .ep 1 (D.int IntKind.i64 v) 0) [(.tmp 36), (.tmp 37)] (by kernel_rfl) rfl (by kernel_rfl) (by kernel_rfl) (by kernel_rfl) (by kernel_rfl) (by kernel_rfl) (fun tm' σ2 hv hr => ixData_ok (t := 46) (x := (.tmp 36)) (i := (.tmp 37)) (k := IntKind.i64) (n := (↑i : Int)) (sz := 1) (xs := List.map intD V2) (d := intD v) (by kernel_rfl) (by rw [hv _ (by simp)]; kernel_rfl) (by rw [hv _ (by simp)]; kernel_rfl) (by kernel_rfl) (by omega) (map_get hy))) ?_
        refine Run.asP (tm' := mk 43 [(0, V.yield 10), (5, .d (.list 1 (List.map strD ks))), (6, .d (.list 1 (List.map intD V2))), (7, .d (.int .i64 (↑i : Int))), (27, .d (.int .i64 (↑ks.length : Int))), (28, .d (.int .i64 (↑i : Int))), (29, .d (.bool (decide ((↑i : Int) < (↑ks.length : Int))))), (30, .d (.int .i64 (↑i : Int))), (31, V.yield 10), (32, .d (.list 1 (List.map strD ks))), (33, .d (.int .i64 (↑i : Int))), (34, .ep 1 (D.str x) 0), (35, .d (.str x)), (36, .d (.list 1 (List.map intD V2))), (37, .d (.int .i64 (↑i : Int))), (38, .ep 1 (D.int IntKind.i64 v) 0)]) (σ' := [.cells [.row 1, .row 2], .row 1 (List.map strD ks) false, .row 1 (List.map intD V2) false, .cells [.row 7, .row 8], .cells [.ptr 3 0 0], .cells [.ptr 0 0 0], .cells [.fn (Fn.func 98) [] []], .row 1 (List.map strD (List.take i ks)) true, .row 1 (List.map intD (List.take i V2)) true, .defd, lp (cgo 18 [] [.code B69]) 69 (mk 17 [(2, .d (.raw (Value.pointer none))), (3, .ptr 4 0 0), (9, .fn (Fn.func 109) [] [.ptr 5 0 0, .ptr 6 0 0])]) LoopState.ready]) (by kernel_rfl) (by kernel_rfl) ?_
        refine Run.append (A := [8]) (srunF_ok (tm' := mk 43 [(0, V.yield 10), (5, .d (.list 1 (List.map strD ks))), (6, .d (.list 1 (List.map intD V2))), (7, .d (.int .i64 (↑i : Int))), (27, .d (.int .i64 (↑ks.length : Int))), (28, .d (.int .i64 (↑i : Int))), (29, .d (.bool (decide ((↑i : Int) < (↑ks.length : Int))))), (30, .d (.int .i64 (↑i : Int))), (31, V.yield 10), (32, .d (.list 1 (List.map strD ks))), (33, .d (.int .i64 (↑i : Int))), (34, .ep 1 (D.str x) 0), (35, .d (.str x)), (36, .d (.list 1 (List.map intD V2))), (37, .d (.int .i64 (↑i : Int))), (38, .ep 1 (D.int IntKind.i64 v) 0), (39, .d (.int .i64 v))]) (σ' := [.cells [.row 1, .row 2], .row 1 (List.map strD ks) false, .row 1 (List.map intD V2) false, .cells [.row 7, .row 8], .cells [.ptr 3 0 0], .cells [.ptr 0 0 0], .cells [.fn (Fn.func 98) [] []], .row 1 (List.map strD (List.take i ks)) true, .row 1 (List.map intD (List.take i V2)) true, .defd, lp (cgo 18 [] [Item.code B69]) 69 (mk 17 [(2, .d (.raw (Value.pointer none))), (3, .ptr 4 0 0), (9, .fn (Fn.func 109) [] [.ptr 5 0 0, .ptr 6 0 0])]) LoopState.ready]) (by kernel_rfl)) ?_
        refine Run.one (s1 := (mk 43 [(0, V.yield 10), (5, .d (.list 1 (List.map strD ks))), (6, .d (.list 1 (List.map intD V2))), (7, .d (.int .i64 (↑i : Int))), (27, .d (.int .i64 (↑ks.length : Int))), (28, .d (.int .i64 (↑i : Int))), (29, .d (.bool (decide ((↑i : Int) < (↑ks.length : Int))))), (30, .d (.int .i64 (↑i : Int))), (31, V.yield 10), (32, .d (.list 1 (List.map strD ks))), (33, .d (.int .i64 (↑i : Int))), (34, .ep 1 (D.str x) 0), (35, .d (.str x)), (36, .d (.list 1 (List.map intD V2))), (37, .d (.int .i64 (↑i : Int))), (38, .ep 1 (D.int IntKind.i64 v) 0), (39, .d (.int .i64 v)), (40, .d (.bool true))], [.cells [.row 1, .row 2], .row 1 (List.map strD ks) false, .row 1 (List.map intD V2) false, .cells [.row 7, .row 8], .cells [.ptr 3 0 0], .cells [.ptr 0 0 0], .cells [.fn (Fn.func 98) [] []], .row 1 (List.map strD (List.take (i + 1) ks)) true, .row 1 (List.map intD (List.take (i + 1) V2)) true, .defd, lp (cgo 18 [] [.code B69]) 69 (mk 17 [(2, .d (.raw (Value.pointer none))), (3, .ptr 4 0 0), (9, .fn (Fn.func 109) [] [.ptr 5 0 0, .ptr 6 0 0])]) LoopState.ready])) (StepF.all (o := ((drawOf (cgo 39 [false, true] [.code B109]))[9]?).getD default) (by kernel_rfl) (by kernel_rfl) fun rest hn => AW.yieldD (T0 := cgo 18 [] [.code B69]) (x := (.tmp 31)) (args := #[(.tmp 35), (.tmp 39)]) (ts := #[9, 3]) (l := 10) (st := LoopState.ready) (fn := 69) (tml := (mk 17 [(2, .d (.raw (Value.pointer none))), (3, .ptr 4 0 0), (9, .fn (Fn.func 109) [] [.ptr 5 0 0, .ptr 6 0 0])])) (R := R69) (o := ((drawOf (cgo 39 [false, true] [.code B109]))[9]?).getD default) (N := 11) (by kernel_rfl) (by kernel_rfl) (by kernel_rfl) (by kernel_rfl) (by kernel_rfl) (by kernel_rfl) (by kernel_rfl) (by kernel_rfl) (by kernel_rfl) hYi (by rintro r s ⟨rfl, rfl⟩; exact ⟨_, rfl, AW.as (by kernel_rfl) (by kernel_rfl) hn⟩)) ?_
        refine Run.asP (tm' := mk 43 [(0, V.yield 10), (5, .d (.list 1 (List.map strD ks))), (6, .d (.list 1 (List.map intD V2))), (7, .d (.int .i64 (↑i : Int))), (27, .d (.int .i64 (↑ks.length : Int))), (28, .d (.int .i64 (↑i : Int))), (29, .d (.bool (decide ((↑i : Int) < (↑ks.length : Int))))), (30, .d (.int .i64 (↑i : Int))), (31, V.yield 10), (32, .d (.list 1 (List.map strD ks))), (33, .d (.int .i64 (↑i : Int))), (34, .ep 1 (D.str x) 0), (35, .d (.str x)), (36, .d (.list 1 (List.map intD V2))), (37, .d (.int .i64 (↑i : Int))), (38, .ep 1 (D.int IntKind.i64 v) 0), (39, .d (.int .i64 v)), (40, .d (.bool true))]) (σ' := [.cells [.row 1, .row 2], .row 1 (List.map strD ks) false, .row 1 (List.map intD V2) false, .cells [.row 7, .row 8], .cells [.ptr 3 0 0], .cells [.ptr 0 0 0], .cells [.fn (Fn.func 98) [] []], .row 1 (List.map strD (List.take (i + 1) ks)) true, .row 1 (List.map intD (List.take (i + 1) V2)) true, .defd, lp (cgo 18 [] [.code B69]) 69 (mk 17 [(2, .d (.raw (Value.pointer none))), (3, .ptr 4 0 0), (9, .fn (Fn.func 109) [] [.ptr 5 0 0, .ptr 6 0 0])]) LoopState.ready]) (by kernel_rfl) (by kernel_rfl) ?_
        exact srunF_ok (by kernel_rfl)
      refine .seg 7 [0, 5, 6, 7, 27, 28, 29, 30, 31, 32, 33, 34, 35, 36, 37, 38, 39, 40, 41, 42] (T' := cgo 47 [false, true, false] [.code B109]) (tm' := mk 43 [(0, V.yield 10), (5, .d (.list 1 (List.map strD ks))), (6, .d (.list 1 (List.map intD V2))), (7, .d (.int .i64 (↑i : Int))), (27, .d (.int .i64 (↑ks.length : Int))), (28, .d (.int .i64 (IntKind.i64.wrap ((↑i : Int) + 1)))), (29, .d (.bool (decide ((↑i : Int) < (↑ks.length : Int))))), (30, .d (.int .i64 (↑i : Int))), (31, V.yield 10), (32, .d (.list 1 (List.map strD ks))), (33, .d (.int .i64 (↑i : Int))), (34, .ep 1 (D.str x) 0), (35, .d (.str x)), (36, .d (.list 1 (List.map intD V2))), (37, .d (.int .i64 (↑i : Int))), (38, .ep 1 (D.int IntKind.i64 v) 0), (39, .d (.int .i64 v)), (40, .d (.bool true)), (41, .d (.bool false)), (42, .d (.int .i64 (IntKind.i64.wrap ((↑i : Int) + 1))))]) (σ' := [.cells [.row 1, .row 2], .row 1 (List.map strD ks) false, .row 1 (List.map intD V2) false, .cells [.row 7, .row 8], .cells [.ptr 3 0 0], .cells [.ptr 0 0 0], .cells [.fn (Fn.func 98) [] []], .row 1 (List.map strD (List.take (i + 1) ks)) true, .row 1 (List.map intD (List.take (i + 1) V2)) true, .defd, lp (cgo 18 [] [.code B69]) 69 (mk 17 [(2, .d (.raw (Value.pointer none))), (3, .ptr 4 0 0), (9, .fn (Fn.func 109) [] [.ptr 5 0 0, .ptr 6 0 0])]) LoopState.ready]) (by kernel_rfl) ?_
      simp (disch := omega) only [wrap_i64, wrap_u64s, wrap_u32s, wrap_u8s, wrap_i32s, iadd_i64, isub_i64, irem_n, iquo_n, tdiv_nn, tmod_nn]
      exact .seg 1 [0, 5, 6, 27, 28] (by kernel_rfl) (ih (i + 1) (by omega))
    · simp only [decide_eq_true_eq, decide_eq_false_iff_not, beq_iff_eq, bne_iff_ne, beq_eq_false_iff_ne, bne_eq_false_iff_eq, Bool.not_eq_true', Bool.not_eq_false', ne_eq, Decidable.not_not, Bool.not_eq_true, Bool.not_eq_false] at h1
      omega
theorem it69 (ks : List ByteArray) (V2 : List Int) (hr : Rising ks) (hl : ks.length < 60000) (hv : V2.length = ks.length) : CallsA Try.prog 109 [.yield 10, .ptr 5 0 0, .ptr 6 0 0] (S69 ks V2 0 .ready) fun r σ' => r = .ret (.tuple []) ∧ σ' = S69 ks V2 (ks).length .ready := by
  refine CallsA.start F109 (tm := mk (Try.f109.ntmps) [(0, .yield 10), (1, .ptr 5 0 0), (2, .ptr 6 0 0)]) (by kernel_rfl) ?_
  refine .seg 11 [0, 1, 2, 10] (T' := cgo 11 [false] [.code B109]) (tm' := mk 43 [(0, V.yield 10), (1, .ptr 5 0 0), (2, .ptr 6 0 0), (10, .fn (Fn.func 98) [] [])]) (σ' := [.cells [.row 1, .row 2], .row 1 (List.map strD ks) false, .row 1 (List.map intD V2) false, .cells [.row 7, .row 8], .cells [.ptr 3 0 0], .cells [.ptr 0 0 0], .cells [.fn (Fn.func 98) [] []], .row 1 [] true, .row 1 [] true, .defd, lp (cgo 18 [] [.code B69]) 69 (mk 17 [(2, .d (.raw (Value.pointer none))), (3, .ptr 4 0 0), (9, .fn (Fn.func 109) [] [.ptr 5 0 0, .ptr 6 0 0])]) LoopState.ready]) (by kernel_rfl) ?_
  refine .semH (o := (opOf (cgo 11 [false] [Item.code B109])).getD default) (v := V.d (D.int IntKind.i64 0)) (σ' := [.cells [.row 1, .row 2], .row 1 (List.map strD ks) false, .row 1 (List.map intD V2) false, .cells [.row 7, .row 8], .cells [.ptr 3 0 0], .cells [.ptr 0 0 0], .cells [.fn (Fn.func 98) [] []], .row 1 [] true, .row 1 [] true, .defd, lp (cgo 18 [] [Item.code B69]) 69 (mk 17 [(2, .d (.raw (Value.pointer none))), (3, .ptr 4 0 0), (9, .fn (Fn.func 109) [] [.ptr 5 0 0, .ptr 6 0 0])]) LoopState.ready]) (by kernel_rfl) (by kernel_rfl) (T' := cgo 12 [false] [Item.code B109]) (by kernel_rfl) (fun kz => sem_data0 (x := (.tmp 10)) (args := #[]) (ts := #[]) (first := []) (cap := []) (ds := []) (v := V.d (D.int IntKind.i64 0)) F98 (@spec_98) (by kernel_rfl) (by kernel_rfl) (by kernel_rfl) (by kernel_rfl) (by kernel_rfl) (by kernel_rfl) _) ?_
  refine .seg 3 [0, 1, 4] (T' := cgo 15 [false] [.code B109]) (tm' := mk 43 [(0, V.yield 10), (1, .ptr 5 0 0), (4, .d (.int .i64 0))]) (σ' := [.cells [.row 1, .row 2], .row 1 (List.map strD ks) false, .row 1 (List.map intD V2) false, .cells [.row 7, .row 8], .cells [.ptr 3 0 0], .cells [.ptr 0 0 0], .cells [.fn (Fn.func 98) [] []], .row 1 [] true, .row 1 [] true, .defd, lp (cgo 18 [] [.code B69]) 69 (mk 17 [(2, .d (.raw (Value.pointer none))), (3, .ptr 4 0 0), (9, .fn (Fn.func 109) [] [.ptr 5 0 0, .ptr 6 0 0])]) LoopState.ready]) (by kernel_rfl) ?_
  refine .drawF (T' := cgo 16 [false] [.code B109]) (tm' := mk 43 [(0, V.yield 10), (1, .ptr 5 0 0), (4, .d (.int .i64 0)), (5, .d (.list 1 (List.take ((List.map strD ks).length - 0) (List.drop 0 (List.map strD ks))))), (6, .d (.list 1 (List.take ((List.map intD V2).length - 0) (List.drop 0 (List.map intD V2))))), (12, .ptr 0 0 0), (13, .ptr 0 0 0), (14, .ptr 0 0 0), (15, .row 1), (16, .d (.int .i64 0)), (17, V.sl 1 0 ((List.map strD ks).length - 0) none), (18, .d (.list 1 (List.take ((List.map strD ks).length - 0) (List.drop 0 (List.map strD ks))))), (19, .ptr 0 0 0), (20, .ptr 0 0 0), (21, .ptr 0 0 1), (22, .row 2), (23, .d (.int .i64 0)), (24, V.sl 2 0 ((List.map intD V2).length - 0) none), (25, .d (.list 1 (List.take ((List.map intD V2).length - 0) (List.drop 0 (List.map intD V2)))))]) (σ' := [.cells [.row 1, .row 2], .row 1 (List.map strD ks) false, .row 1 (List.map intD V2) false, .cells [.row 7, .row 8], .cells [.ptr 3 0 0], .cells [.ptr 0 0 0], .cells [.fn (Fn.func 98) [] []], .row 1 [] true, .row 1 [] true, .defd, lp (cgo 18 [] [.code B69]) 69 (mk 17 [(2, .d (.raw (Value.pointer none))), (3, .ptr 4 0 0), (9, .fn (Fn.func 109) [] [.ptr 5 0 0, .ptr 6 0 0])]) LoopState.ready]) (by kernel_rfl) (by kernel_rfl) (by kernel_rfl) (by kernel_rfl) (fun kz L hL => ?_) ?_
  · refine ⟨[⟨[5], [], [], [0], [5, 0], [], true, false⟩, ⟨[], [], [], [0], [0], [0], true, false⟩, ⟨[], [], [], [0], [0], [0], true, false⟩, ⟨[0], [], [], [1], [0, 1, 2], [], true, false⟩, ⟨[], [], [], [], [], [], true, false⟩, ⟨[1], [], [], [1], [1], [], true, false⟩, ⟨[1], [1], [], [], [1], [], true, false⟩, ⟨[5], [], [], [0], [5, 0], [], true, false⟩, ⟨[], [], [], [0], [0], [0], true, false⟩, ⟨[], [], [], [0], [0], [0], true, false⟩, ⟨[0], [], [], [2], [0, 1, 2], [], true, false⟩, ⟨[], [], [], [], [], [], true, false⟩, ⟨[2], [], [], [2], [2], [], true, false⟩, ⟨[2], [], [], [], [2], [], true, false⟩, ⟨[], [], [], [], [], [], true, false⟩, ⟨[], [], [], [], [], [], true, false⟩], run_amongF hL _ [] [0, 1, 2, 3, 4, 5, 7, 8, 9, 10, 11, 12, 6, 13, 14, 15] (by intro p hp; cases hp) (by kernel_rfl) ?_⟩
    refine Run.append (A := [0, 1, 2, 3, 4]) (srunF_ok (tm' := mk 43 [(0, V.yield 10), (1, .ptr 5 0 0), (4, .d (.int .i64 0)), (12, .ptr 0 0 0), (13, .ptr 0 0 0), (14, .ptr 0 0 0), (15, .row 1), (16, .d (.int .i64 0))]) (σ' := [.cells [.row 1, .row 2], .row 1 (List.map strD ks) false, .row 1 (List.map intD V2) false, .cells [.row 7, .row 8], .cells [.ptr 3 0 0], .cells [.ptr 0 0 0], .cells [.fn (Fn.func 98) [] []], .row 1 [] true, .row 1 [] true, .defd, lp (cgo 18 [] [Item.code B69]) 69 (mk 17 [(2, .d (.raw (Value.pointer none))), (3, .ptr 4 0 0), (9, .fn (Fn.func 109) [] [.ptr 5 0 0, .ptr 6 0 0])]) LoopState.ready]) (by kernel_rfl)) ?_
    refine Run.one (StepF.look (o := ((drawOf (cgo 15 [false] [.code B109]))[5]?).getD default) (v := V.sl 1 0 ((List.map strD ks).length - 0) none) [(.tmp 15), (.tmp 16)] (by kernel_rfl) rfl (by kernel_rfl) (by kernel_rfl) (by kernel_rfl) (by kernel_rfl) (by kernel_rfl) (fun tm' σ2 hv hr => slRow_ok (t := 66) (x := (.tmp 15)) (lo := (some (.tmp 16))) (hi := none) (lc := 1) (sz := 1) (xs := List.map strD ks) (mv := false) (0) ((List.map strD ks).length) (by kernel_rfl) (by rw [hv _ (by simp)]; kernel_rfl) ((hr _ (inK_iff.1 (by kernel_rfl))).trans (by kernel_rfl)) (by kernel_rfl) (bnd_some (k := IntKind.i64) (i := 0) (by rw [hv _ (by simp)]; kernel_rfl) (by omega) (by rfl)) rfl (by omega) (by omega))) ?_
    refine Run.asP (tm' := mk 43 [(0, V.yield 10), (1, .ptr 5 0 0), (4, .d (.int .i64 0)), (12, .ptr 0 0 0), (13, .ptr 0 0 0), (14, .ptr 0 0 0), (15, .row 1), (16, .d (.int .i64 0)), (17, V.sl 1 0 ((List.map strD ks).length - 0) none)]) (σ' := [.cells [.row 1, .row 2], .row 1 (List.map strD ks) false, .row 1 (List.map intD V2) false, .cells [.row 7, .row 8], .cells [.ptr 3 0 0], .cells [.ptr 0 0 0], .cells [.fn (Fn.func 98) [] []], .row 1 [] true, .row 1 [] true, .defd, lp (cgo 18 [] [.code B69]) 69 (mk 17 [(2, .d (.raw (Value.pointer none))), (3, .ptr 4 0 0), (9, .fn (Fn.func 109) [] [.ptr 5 0 0, .ptr 6 0 0])]) LoopState.ready]) (by kernel_rfl) (by kernel_rfl) ?_
    refine Run.append (A := [7, 8, 9, 10, 11]) (srunF_ok (tm' := mk 43 [(0, V.yield 10), (1, .ptr 5 0 0), (4, .d (.int .i64 0)), (12, .ptr 0 0 0), (13, .ptr 0 0 0), (14, .ptr 0 0 0), (15, .row 1), (16, .d (.int .i64 0)), (17, V.sl 1 0 ((List.map strD ks).length - 0) none), (19, .ptr 0 0 0), (20, .ptr 0 0 0), (21, .ptr 0 0 1), (22, .row 2), (23, .d (.int .i64 0))]) (σ' := [.cells [.row 1, .row 2], .row 1 (List.map strD ks) false, .row 1 (List.map intD V2) false, .cells [.row 7, .row 8], .cells [.ptr 3 0 0], .cells [.ptr 0 0 0], .cells [.fn (Fn.func 98) [] []], .row 1 [] true, .row 1 [] true, .defd, lp (cgo 18 [] [Item.code B69]) 69 (mk 17 [(2, .d (.raw (Value.pointer none))), (3, .ptr 4 0 0), (9, .fn (Fn.func 109) [] [.ptr 5 0 0, .ptr 6 0 0])]) LoopState.ready]) (by kernel_rfl)) ?_
    refine Run.one (StepF.look (o := ((drawOf (cgo 15 [false] [.code B109]))[12]?).getD default) (v := V.sl 2 0 ((List.map intD V2).length - 0) none) [(.tmp 22), (.tmp 23)] (by kernel_rfl) rfl (by kernel_rfl) (by kernel_rfl) (by kernel_rfl) (by kernel_rfl) (by kernel_rfl) (fun tm' σ2 hv hr => slRow_ok (t := 46) (x := (.tmp 22)) (lo := (some (.tmp 23))) (hi := none) (lc := 2) (sz := 1) (xs := List.map intD V2) (mv := false) (0) ((List.map intD V2).length) (by kernel_rfl) (by rw [hv _ (by simp)]; kernel_rfl) ((hr _ (inK_iff.1 (by kernel_rfl))).trans (by kernel_rfl)) (by kernel_rfl) (bnd_some (k := IntKind.i64) (i := 0) (by rw [hv _ (by simp)]; kernel_rfl) (by omega) (by rfl)) rfl (by omega) (by omega))) ?_
    refine Run.asP (tm' := mk 43 [(0, V.yield 10), (1, .ptr 5 0 0), (4, .d (.int .i64 0)), (12, .ptr 0 0 0), (13, .ptr 0 0 0), (14, .ptr 0 0 0), (15, .row 1), (16, .d (.int .i64 0)), (17, V.sl 1 0 ((List.map strD ks).length - 0) none), (19, .ptr 0 0 0), (20, .ptr 0 0 0), (21, .ptr 0 0 1), (22, .row 2), (23, .d (.int .i64 0)), (24, V.sl 2 0 ((List.map intD V2).length - 0) none)]) (σ' := [.cells [.row 1, .row 2], .row 1 (List.map strD ks) false, .row 1 (List.map intD V2) false, .cells [.row 7, .row 8], .cells [.ptr 3 0 0], .cells [.ptr 0 0 0], .cells [.fn (Fn.func 98) [] []], .row 1 [] true, .row 1 [] true, .defd, lp (cgo 18 [] [.code B69]) 69 (mk 17 [(2, .d (.raw (Value.pointer none))), (3, .ptr 4 0 0), (9, .fn (Fn.func 109) [] [.ptr 5 0 0, .ptr 6 0 0])]) LoopState.ready]) (by kernel_rfl) (by kernel_rfl) ?_
    refine Run.one (StepF.call (o := ((drawOf (cgo 15 [false] [.code B109]))[6]?).getD default) (x := (.func 110)) (args := #[(.tmp 17)]) (ts := #[66]) (first := []) (cap := []) [1] [V.sl 0 0 ((List.map strD ks).length - 0) none] [.row 1 (List.map strD ks) false] [.row 1 (List.map strD ks) false] (v := .d (.list 1 (List.take ((List.map strD ks).length - 0) (List.drop 0 (List.map strD ks))))) (tm' := mk 43 [(0, V.yield 10), (1, .ptr 5 0 0), (4, .d (.int .i64 0)), (12, .ptr 0 0 0), (13, .ptr 0 0 0), (14, .ptr 0 0 0), (15, .row 1), (16, .d (.int .i64 0)), (17, V.sl 1 0 ((List.map strD ks).length - 0) none), (18, .d (.list 1 (List.take ((List.map strD ks).length - 0) (List.drop 0 (List.map strD ks))))), (19, .ptr 0 0 0), (20, .ptr 0 0 0), (21, .ptr 0 0 1), (22, .row 2), (23, .d (.int .i64 0)), (24, V.sl 2 0 ((List.map intD V2).length - 0) none)]) (σ' := [.cells [.row 1, .row 2], .row 1 (List.map strD ks) false, .row 1 (List.map intD V2) false, .cells [.row 7, .row 8], .cells [.ptr 3 0 0], .cells [.ptr 0 0 0], .cells [.fn (Fn.func 98) [] []], .row 1 [] true, .row 1 [] true, .defd, lp (cgo 18 [] [.code B69]) 69 (mk 17 [(2, .d (.raw (Value.pointer none))), (3, .ptr 4 0 0), (9, .fn (Fn.func 109) [] [.ptr 5 0 0, .ptr 6 0 0])]) LoopState.ready]) (by kernel_rfl) rfl (by kernel_rfl) (by kernel_rfl) F110 (@spec_110b (List.map strD ks) (0) ((List.map strD ks).length - 0) (none) (by omega) (by simp <;> omega)) (by kernel_rfl) (by kernel_rfl) (by kernel_rfl) (by kernel_rfl) ⟨rfl, rfl, by kernel_rfl⟩ (by kernel_rfl) (by kernel_rfl) (by kernel_rfl) (by kernel_rfl) (by kernel_rfl) (by kernel_rfl) (by kernel_rfl)) ?_
    refine Run.asP (tm' := mk 43 [(0, V.yield 10), (1, .ptr 5 0 0), (4, .d (.int .i64 0)), (12, .ptr 0 0 0), (13, .ptr 0 0 0), (14, .ptr 0 0 0), (15, .row 1), (16, .d (.int .i64 0)), (17, V.sl 1 0 ((List.map strD ks).length - 0) none), (18, .d (.list 1 (List.take ((List.map strD ks).length - 0) (List.drop 0 (List.map strD ks))))), (19, .ptr 0 0 0), (20, .ptr 0 0 0), (21, .ptr 0 0 1), (22, .row 2), (23, .d (.int .i64 0)), (24, V.sl 2 0 ((List.map intD V2).length - 0) none)]) (σ' := [.cells [.row 1, .row 2], .row 1 (List.map strD ks) false, .row 1 (List.map intD V2) false, .cells [.row 7, .row 8], .cells [.ptr 3 0 0], .cells [.ptr 0 0 0], .cells [.fn (Fn.func 98) [] []], .row 1 [] true, .row 1 [] true, .defd, lp (cgo 18 [] [.code B69]) 69 (mk 17 [(2, .d (.raw (Value.pointer none))), (3, .ptr 4 0 0), (9, .fn (Fn.func 109) [] [.ptr 5 0 0, .ptr 6 0 0])]) LoopState.ready]) (by kernel_rfl) (by kernel_rfl) ?_
    refine Run.one (StepF.callLook (o := ((drawOf (cgo 15 [false] [.code B109]))[13]?).getD default) (x := (.func 111)) (args := #[(.tmp 24)]) (ts := #[46]) (first := []) (cap := []) [2] [V.sl 0 0 ((List.map intD V2).length - 0) none] [.row 1 (List.map intD V2) false] (v := .d (.list 1 (List.take ((List.map intD V2).length - 0) (List.drop 0 (List.map intD V2))))) (by kernel_rfl) rfl (by kernel_rfl) (by kernel_rfl) F111 (@spec_111b (List.map intD V2) (0) ((List.map intD V2).length - 0) (none) (by omega) (by simp <;> omega)) (by kernel_rfl) (by kernel_rfl) (by kernel_rfl) (by kernel_rfl) ⟨rfl, rfl, by kernel_rfl⟩ (by kernel_rfl) (by kernel_rfl) (by kernel_rfl) (by kernel_rfl) (by kernel_rfl)) ?_
    refine Run.asP (tm' := mk 43 [(0, V.yield 10), (1, .ptr 5 0 0), (4, .d (.int .i64 0)), (12, .ptr 0 0 0), (13, .ptr 0 0 0), (14, .ptr 0 0 0), (15, .row 1), (16, .d (.int .i64 0)), (17, V.sl 1 0 ((List.map strD ks).length - 0) none), (18, .d (.list 1 (List.take ((List.map strD ks).length - 0) (List.drop 0 (List.map strD ks))))), (19, .ptr 0 0 0), (20, .ptr 0 0 0), (21, .ptr 0 0 1), (22, .row 2), (23, .d (.int .i64 0)), (24, V.sl 2 0 ((List.map intD V2).length - 0) none), (25, .d (.list 1 (List.take ((List.map intD V2).length - 0) (List.drop 0 (List.map intD V2)))))]) (σ' := [.cells [.row 1, .row 2], .row 1 (List.map strD ks) false, .row 1 (List.map intD V2) false, .cells [.row 7, .row 8], .cells [.ptr 3 0 0], .cells [.ptr 0 0 0], .cells [.fn (Fn.func 98) [] []], .row 1 [] true, .row 1 [] true, .defd, lp (cgo 18 [] [.code B69]) 69 (mk 17 [(2, .d (.raw (Value.pointer none))), (3, .ptr 4 0 0), (9, .fn (Fn.func 109) [] [.ptr 5 0 0, .ptr 6 0 0])]) LoopState.ready]) (by kernel_rfl) (by kernel_rfl) ?_
    exact srunF_ok (by kernel_rfl)
  refine .seg 7 [0, 5, 6, 27, 28] (T' := cgo 23 [false] [.code B109]) (tm' := mk 43 [(0, V.yield 10), (5, .d (.list 1 (List.take ((List.map strD ks).length - 0) (List.drop 0 (List.map strD ks))))), (6, .d (.list 1 (List.take ((List.map intD V2).length - 0) (List.drop 0 (List.map intD V2))))), (27, .d (.int .i64 (↑(List.take ((List.map strD ks).length - 0) (List.drop 0 (List.map strD ks))).length : Int))), (28, .d (.int .i64 0))]) (σ' := [.cells [.row 1, .row 2], .row 1 (List.map strD ks) false, .row 1 (List.map intD V2) false, .cells [.row 7, .row 8], .cells [.ptr 3 0 0], .cells [.ptr 0 0 0], .cells [.fn (Fn.func 98) [] []], .row 1 [] true, .row 1 [] true, .defd, lp (cgo 18 [] [.code B69]) 69 (mk 17 [(2, .d (.raw (Value.pointer none))), (3, .ptr 4 0 0), (9, .fn (Fn.func 109) [] [.ptr 5 0 0, .ptr 6 0 0])]) LoopState.ready]) (by kernel_rfl) ?_
  simp only [List.length_map]
  -- STOP: code Go.Code.loop at 23
  rw [show List.take ((ks).length - 0) (List.drop 0 (List.map strD (ks))) = List.map strD (ks) by rw [Nat.sub_zero, List.drop_zero, List.take_of_length_le (by simp)], show List.take ((V2).length - 0) (List.drop 0 (List.map intD (V2))) = List.map intD (V2) by rw [Nat.sub_zero, List.drop_zero, List.take_of_length_le (by simp)], List.length_map]
  exact .seg 1 [0, 5, 6, 27, 28] (by kernel_rfl) (lo69 ks V2 hr hl hv (ks).length 0 (by omega))

theorem spec_69 (ks : List ByteArray) (V2 : List Int) (hr : Rising ks) (hl : ks.length < 60000) (hv : V2.length = ks.length) :
    CallsA Try.prog 69 [.ptr 0 0 0] [.cells [.row 1, .row 2], .row 1 (ks.map strD) false, .row 1 (V2.map intD) false] fun r σ' => r = .ret (.ptr 3 0 0) ∧ σ' = [.cells [.row 1, .row 2], .row 1 (ks.map strD) false, .row 1 (V2.map intD) false, .cells [.row 4, .row 5], .row 1 (ks.map strD) true, .row 1 (V2.map intD) true] := by
  refine CallsA.start F69 (tm := mk (Try.f69.ntmps) [(0, .ptr 0 0 0)]) (by kernel_rfl) ?_
  refine .seg 15 [0, 2, 3, 8] (T' := cgo 15 [] [.code B69]) (tm' := mk 17 [(0, .ptr 0 0 0), (2, .d (.raw (Value.pointer none))), (3, .ptr 4 0 0), (8, .ptr 0 0 0)]) (σ' := [.cells [.row 1, .row 2], .row 1 (List.map strD ks) false, .row 1 (List.map intD V2) false, .cells [V.ex 1 [], V.ex 1 []], .cells [.ptr 3 0 0]]) (by kernel_rfl) ?_
  refine .callH (o := (opOf (cgo 15 [] [.code B69])).getD default) (x := (.func 72)) (args := #[(.tmp 8)]) (ts := #[102]) (first := []) (cap := []) [0, 1, 2] [.ptr 0 0 0] [.cells [.row 1, .row 2], .row 1 (List.map strD ks) false, .row 1 (List.map intD V2) false] F72 (@spec_72 (List.map strD ks) (List.map intD V2)) (by kernel_rfl) (by kernel_rfl) (T' := cgo 16 [] [.code B69]) (by kernel_rfl) (by kernel_rfl) (by kernel_rfl) (by kernel_rfl) (by kernel_rfl) ⟨rfl, rfl, by kernel_rfl⟩ ?_
  rintro r0 s0 ⟨rfl, rfl⟩
  refine ⟨_, rfl, ?_⟩
  refine .seg 2 [2, 3, 9] (T' := cgo 18 [] [.code B69]) (tm' := mk 17 [(2, .d (.raw (Value.pointer none))), (3, .ptr 4 0 0), (9, .fn (Fn.func 109) [] [.ptr 5 0 0, .ptr 6 0 0])]) (σ' := [.cells [.row 1, .row 2], .row 1 (List.map strD ks) false, .row 1 (List.map intD V2) false, .cells [V.ex 1 [], V.ex 1 []], .cells [.ptr 3 0 0], .cells [.ptr 0 0 0], .cells [.fn (Fn.func 98) [] []]]) (by kernel_rfl) ?_
  -- STOP: range over V.fn (Fn.func 109) [] [V.ptr 5 0 0, V.ptr 6 0 0] at cgo 18 [] [Item.code B69]
  -- slots mk 17 [(2, V.d (D.raw (Value.pointer none))), (3, V.ptr 4 0 0), (9, V.fn (Fn.func 109) [] [V.ptr 5 0 0, V.ptr 6 0 0])]
  -- store [O.cells [V.row 1, V.row 2], O.row 1 (List.map strD ks) false, O.row 1 (List.map intD V2) false, O.cells [V.ex 1 [], V.ex 1 []], O.cells [V.ptr 3 0 0], O.cells [V.ptr 0 0 0], O.cells [V.fn (Fn.func 98) [] []]]
  refine .virtX 3 0 1 rfl rfl ?_
  refine .virtX 3 1 1 rfl rfl ?_
  refine .raise 7 rfl rfl ?_
  refine .raise 8 rfl rfl ?_
  refine .rangeH (first := []) (cap := [.ptr 5 0 0, .ptr 6 0 0]) (List.range 11) [.yield 10, .ptr 5 0 0, .ptr 6 0 0] (S69 ks V2 0 .ready) F109 (by kernel_rfl) (T' := cgo 19 [] [Item.code B69]) (by kernel_rfl) (by kernel_rfl) (it69 ks V2 hr hl hv) (by kernel_rfl) (by kernel_rfl) (by refine ⟨rfl, by kernel_rfl, ?_⟩; kernel_rfl) ?_
  rintro r σc' ⟨rfl, rfl⟩
  refine ⟨.tuple [], .ready, (mk 17 [(2, V.d (D.raw (Value.pointer none))), (3, V.ptr 4 0 0), (9, V.fn (Fn.func 109) [] [V.ptr 5 0 0, V.ptr 6 0 0])]), rfPs (cgo 18 [] [Item.code B69]), rfAs (cgo 18 [] [Item.code B69]), rfBd (cgo 18 [] [Item.code B69]), 69, rfl, by simp, by kernel_rfl, ?_⟩
  have e1 : ks.take ks.length = ks := List.take_length
  have e2 : V2.take ks.length = V2 := by rw [← hv]; exact List.take_length
  refine .seg 6 [2] (T' := cgo 25 [] [.code B69]) (tm' := mk 17 [(2, .ptr 3 0 0)]) (σ' := [.cells [.row 1, .row 2], .row 1 (List.map strD ks) false, .row 1 (List.map intD V2) false, .cells [.row 7, .row 8], .cells [.ptr 3 0 0], .cells [.ptr 0 0 0], .cells [.fn (Fn.func 98) [] []], .row 1 (List.map strD (List.take ks.length ks)) true, .row 1 (List.map intD (List.take ks.length V2)) true, .defd, lp (cgo 18 [] [.code B69]) 69 (mk 17 [(2, .d (.raw (Value.pointer none))), (3, .ptr 4 0 0), (9, .fn (Fn.func 109) [] [.ptr 5 0 0, .ptr 6 0 0])]) LoopState.exhausted]) (by kernel_rfl) ?_
  refine .retX (v := V.ptr 3 0 0) [0, 1, 2, 3, 7, 8] (V.ptr 3 0 0) F69 (by kernel_rfl) ⟨by kernel_rfl, by kernel_rfl⟩ (σ1 := [O.cells [V.row 1, V.row 2], O.row 1 (List.map strD ks) false, O.row 1 (List.map intD V2) false, O.cells [V.row 7, V.row 8], O.cells [V.ptr 3 0 0], O.cells [V.ptr 0 0 0], O.cells [V.fn (Fn.func 98) [] []], O.row 1 (List.map strD (List.take ks.length ks)) true, O.row 1 (List.map intD (List.take ks.length V2)) true, O.dead, lp (cgo 18 [] [Item.code B69]) 69 (mk 17 [(2, V.d (D.raw (Value.pointer none))), (3, V.ptr 4 0 0), (9, V.fn (Fn.func 109) [] [V.ptr 5 0 0, V.ptr 6 0 0])]) LoopState.exhausted]) (by kernel_rfl) (by kernel_rfl) (σ2 := [O.cells [V.row 1, V.row 2], O.row 1 (List.map strD ks) false, O.row 1 (List.map intD V2) false, O.cells [V.row 4, V.row 5], O.row 1 (List.map strD (List.take ks.length ks)) true, O.row 1 (List.map intD (List.take ks.length V2)) true]) ⟨rfl, rfl, by kernel_rfl⟩ (by kernel_rfl) ⟨by simp, by kernel_rfl⟩ (by kernel_rfl) ?_
  simp_all
end Go.Proofs.Ytoelkgbeefoplaa

namespace Go.Proofs.Ytoelkgbeefoplaa
open Go Go.Br Go.Proofs
set_option linter.unusedSimpArgs false
noncomputable def B64 : Code := (Try.f64.body).getD .skip
theorem F64 : Fnc Try.prog 64 Try.f64 B64 := ⟨Try.func64, by kernel_rfl, by kernel_rfl⟩
theorem lo64 (b : Dk) (N : Nat) (h : b.Ok N) (there : Bool) (names : List ByteArray) (hn : names ≠ []) (hs : ∀ s ∈ names, s.size < 1000000000) (hn2 : names.length < 1000000) (ho : b.off = false) : ∀ (m i : Nat), i + m = names.length → (∀ s ∈ names.take i, mayName s = true) →
    AW Try.prog 64 none 7 (cgo 22 [false] [Item.code B64]) (mk 35 [(0, V.ptr 0 0 0), (1, V.d (D.bool there)), (2, V.row 6), (14, V.row 6), (15, V.d (D.int IntKind.i64 (names.length : Nat))), (16, V.d (D.int IntKind.i64 (i : Nat)))]) (SD b false ++ [.row 1 (names.map strD) false]) [] fun r σ' => r = .ret (.d (.int .i64 (b.err there names))) ∧ σ' = SD b false ++ [.row 1 (names.map strD) false] := by
  have q1 := h.nr
  have q2 := h.nl
  have q3 := h.nkl
  have q4 := h.nb
  have q5 : ∀ x k, look b.nk b.nv x = some k → 0 ≤ k ∧ k < b.files.length := fun x k hk => h.nn k (look_mem hk)
  intro m
  induction m with
  | zero =>
    intro i hi hm
    have hi : i = names.length := by omega
    subst hi
    rw [List.take_length] at hm
    have hal : names.all mayName = true := List.all_eq_true.2 hm
    have h0 : 0 < names.length := List.length_pos_iff.2 hn
    obtain ⟨x, hx⟩ := get_some (l := names) (i := 0) h0
    have hd : names.headD default = x := by
      cases names with
      | nil => simp at h0
      | cons a l => simpa using hx
    have q6 := q5 x
    cases hk : look b.nk b.nv x with
    | none =>
      refine .seg 5 [0, 1, 2, 14, 15, 16, 17] (T' := cgo 27 [false] [.code B64]) (tm' := mk 35 [(0, .ptr 0 0 0), (1, .d (.bool there)), (2, .row 6), (14, .row 6), (15, .d (.int .i64 (↑names.length : Int))), (16, .d (.int .i64 (↑names.length : Int))), (17, .d (.bool (decide ((↑names.length : Int) < (↑names.length : Int)))))]) (σ' := (SP 1 2 b false [.row 1 (List.map strD names) false])) (by kernel_rfl) ?_
      refine .ifH (b := decide ((↑names.length : Int) < (↑names.length : Int))) (by kernel_rfl) (by kernel_rfl) (T1 := cgo 28 [false, true] [Item.code B64]) (T2 := cgo 28 [false, false] [Item.code B64]) (by kernel_rfl) (by kernel_rfl) (fun h1 => ?_) (fun h1 => ?_)
      · simp only [decide_eq_true_eq, decide_eq_false_iff_not, beq_iff_eq, bne_iff_ne, beq_eq_false_iff_ne, bne_eq_false_iff_eq, Bool.not_eq_true', Bool.not_eq_false', ne_eq, Decidable.not_not, Bool.not_eq_true, Bool.not_eq_false] at h1
        omega
      · simp only [decide_eq_true_eq, decide_eq_false_iff_not, beq_iff_eq, bne_iff_ne, beq_eq_false_iff_ne, bne_eq_false_iff_eq, Bool.not_eq_true', Bool.not_eq_false', ne_eq, Decidable.not_not, Bool.not_eq_true, Bool.not_eq_false] at h1
        refine .seg 6 [0, 2, 24] (T' := cgo 34 [false, false] [.code B64]) (tm' := mk 35 [(0, .ptr 0 0 0), (2, .row 6), (24, .d (.bool there))]) (σ' := (SP 1 2 b false [.row 1 (List.map strD names) false])) (by kernel_rfl) ?_
        refine .ifH (b := there) (by kernel_rfl) (by kernel_rfl) (T1 := cgo 35 [false, false, true] [Item.code B64]) (T2 := cgo 35 [false, false, false] [Item.code B64]) (by kernel_rfl) (by kernel_rfl) (fun h2 => ?_) (fun h2 => ?_)
        · refine .seg 4 [0, 2, 26, 27] (T' := cgo 39 [false, false, true] [.code B64]) (tm' := mk 35 [(0, .ptr 0 0 0), (2, .row 6), (26, .ptr 0 0 0), (27, .row 6)]) (σ' := (SP 1 2 b false [.row 1 (List.map strD names) false])) (by kernel_rfl) ?_
          refine .opH (o := (opOf (cgo 39 [false, false, true] [.code B64])).getD default) (by kernel_rfl) (by kernel_rfl) (by kernel_rfl) (T' := cgo 40 [false, false, true] [.code B64]) (by kernel_rfl) (ixRow_ok (t := 66) (x := (.tmp 27)) (i := (.const (Value.int IntKind.i64 0))) (k := IntKind.i64) (n := 0) (l := 6) (sz := 1) (xs := List.map strD names) (mv := false) (by kernel_rfl) (by kernel_rfl) (by kernel_rfl) (by kernel_rfl) (by kernel_rfl) (by omega) (by simp <;> omega)) ?_
          refine .opH (o := (opOf (cgo 40 [false, false, true] [.code B64])).getD default) (by kernel_rfl) (by kernel_rfl) (by kernel_rfl) (T' := cgo 41 [false, false, true] [.code B64]) (by kernel_rfl) (ldRow_ok (t := 9) (x := (.tmp 28)) (l := 6) (i := 0) (s := 0) (sz := 1) (xs := List.map strD names) (mv := false) (d := strD x) (v := .d (.str x)) (by kernel_rfl) (by kernel_rfl) (by kernel_rfl) (map_get hx) (by kernel_rfl)) ?_
          refine .callH (o := (opOf (cgo 41 [false, false, true] [.code B64])).getD default) (x := (.func 65)) (args := #[(.tmp 26), (.tmp 29)]) (ts := #[40, 9]) (first := []) (cap := []) [0, 1, 2, 3, 4, 5] [.ptr 0 0 0, .d (.str x)] (SP 1 2 b false []) F65 (@spec_65 (b) (x) (none) (by assumption) (by assumption) (by assumption) (by omega) (by assumption)) (by kernel_rfl) (by kernel_rfl) (T' := cgo 42 [false, false, true] [.code B64]) (by kernel_rfl) (by kernel_rfl) (by kernel_rfl) (by kernel_rfl) (by kernel_rfl) ⟨rfl, rfl, by kernel_rfl⟩ ?_
          rintro r2 s2 ⟨rfl, rfl⟩
          refine ⟨_, rfl, ?_⟩
          refine .seg 16 [6] (T' := cgo 58 [false, false, true, true] [.code B64]) (tm' := mk 35 [(6, .d (.int .i64 3))]) (σ' := (SP 1 2 b false [.row 1 (List.map strD names) false])) (by kernel_rfl) ?_
          refine .retH F64 (v := V.d (D.int IntKind.i64 3)) (by kernel_rfl) (by kernel_rfl) ?_
          simp_all [Dk.err, SD, dirD]
        · refine .seg 5 [6] (T' := cgo 40 [false, false, false] [.code B64]) (tm' := mk 35 [(6, .d (.int .i64 0))]) (σ' := (SP 1 2 b false [.row 1 (List.map strD names) false])) (by kernel_rfl) ?_
          refine .retH F64 (v := V.d (D.int IntKind.i64 0)) (by kernel_rfl) (by kernel_rfl) ?_
          simp_all [Dk.err, SD, dirD]
    | some k =>
      refine .seg 5 [0, 1, 2, 14, 15, 16, 17] (T' := cgo 27 [false] [.code B64]) (tm' := mk 35 [(0, .ptr 0 0 0), (1, .d (.bool there)), (2, .row 6), (14, .row 6), (15, .d (.int .i64 (↑names.length : Int))), (16, .d (.int .i64 (↑names.length : Int))), (17, .d (.bool (decide ((↑names.length : Int) < (↑names.length : Int)))))]) (σ' := (SP 1 2 b false [.row 1 (List.map strD names) false])) (by kernel_rfl) ?_
      refine .ifH (b := decide ((↑names.length : Int) < (↑names.length : Int))) (by kernel_rfl) (by kernel_rfl) (T1 := cgo 28 [false, true] [Item.code B64]) (T2 := cgo 28 [false, false] [Item.code B64]) (by kernel_rfl) (by kernel_rfl) (fun h1 => ?_) (fun h1 => ?_)
      · simp only [decide_eq_true_eq, decide_eq_false_iff_not, beq_iff_eq, bne_iff_ne, beq_eq_false_iff_ne, bne_eq_false_iff_eq, Bool.not_eq_true', Bool.not_eq_false', ne_eq, Decidable.not_not, Bool.not_eq_true, Bool.not_eq_false] at h1
        omega
      · simp only [decide_eq_true_eq, decide_eq_false_iff_not, beq_iff_eq, bne_iff_ne, beq_eq_false_iff_ne, bne_eq_false_iff_eq, Bool.not_eq_true', Bool.not_eq_false', ne_eq, Decidable.not_not, Bool.not_eq_true, Bool.not_eq_false] at h1
        refine .seg 6 [0, 2, 24] (T' := cgo 34 [false, false] [.code B64]) (tm' := mk 35 [(0, .ptr 0 0 0), (2, .row 6), (24, .d (.bool there))]) (σ' := (SP 1 2 b false [.row 1 (List.map strD names) false])) (by kernel_rfl) ?_
        refine .ifH (b := there) (by kernel_rfl) (by kernel_rfl) (T1 := cgo 35 [false, false, true] [Item.code B64]) (T2 := cgo 35 [false, false, false] [Item.code B64]) (by kernel_rfl) (by kernel_rfl) (fun h2 => ?_) (fun h2 => ?_)
        · refine .seg 4 [0, 2, 26, 27] (T' := cgo 39 [false, false, true] [.code B64]) (tm' := mk 35 [(0, .ptr 0 0 0), (2, .row 6), (26, .ptr 0 0 0), (27, .row 6)]) (σ' := (SP 1 2 b false [.row 1 (List.map strD names) false])) (by kernel_rfl) ?_
          refine .opH (o := (opOf (cgo 39 [false, false, true] [.code B64])).getD default) (by kernel_rfl) (by kernel_rfl) (by kernel_rfl) (T' := cgo 40 [false, false, true] [.code B64]) (by kernel_rfl) (ixRow_ok (t := 66) (x := (.tmp 27)) (i := (.const (Value.int IntKind.i64 0))) (k := IntKind.i64) (n := 0) (l := 6) (sz := 1) (xs := List.map strD names) (mv := false) (by kernel_rfl) (by kernel_rfl) (by kernel_rfl) (by kernel_rfl) (by kernel_rfl) (by omega) (by simp <;> omega)) ?_
          refine .opH (o := (opOf (cgo 40 [false, false, true] [.code B64])).getD default) (by kernel_rfl) (by kernel_rfl) (by kernel_rfl) (T' := cgo 41 [false, false, true] [.code B64]) (by kernel_rfl) (ldRow_ok (t := 9) (x := (.tmp 28)) (l := 6) (i := 0) (s := 0) (sz := 1) (xs := List.map strD names) (mv := false) (d := strD x) (v := .d (.str x)) (by kernel_rfl) (by kernel_rfl) (by kernel_rfl) (map_get hx) (by kernel_rfl)) ?_
          refine .callH (o := (opOf (cgo 41 [false, false, true] [.code B64])).getD default) (x := (.func 65)) (args := #[(.tmp 26), (.tmp 29)]) (ts := #[40, 9]) (first := []) (cap := []) [0, 1, 2, 3, 4, 5] [.ptr 0 0 0, .d (.str x)] (SP 1 2 b false []) F65 (@spec_65 (b) (x) (some k) (by assumption) (by assumption) (by assumption) (by omega) (by assumption)) (by kernel_rfl) (by kernel_rfl) (T' := cgo 42 [false, false, true] [.code B64]) (by kernel_rfl) (by kernel_rfl) (by kernel_rfl) (by kernel_rfl) (by kernel_rfl) ⟨rfl, rfl, by kernel_rfl⟩ ?_
          rintro r2 s2 ⟨rfl, rfl⟩
          refine ⟨_, rfl, ?_⟩
          refine .seg 17 [6] (T' := cgo 59 [false, false, true, false] [.code B64]) (tm' := mk 35 [(6, .d (.int .i64 0))]) (σ' := (SP 1 2 b false [.row 1 (List.map strD names) false])) (by kernel_rfl) ?_
          refine .retH F64 (v := V.d (D.int IntKind.i64 0)) (by kernel_rfl) (by kernel_rfl) ?_
          simp_all [Dk.err, SD, dirD]
        · refine .seg 5 [6] (T' := cgo 40 [false, false, false] [.code B64]) (tm' := mk 35 [(6, .d (.int .i64 0))]) (σ' := (SP 1 2 b false [.row 1 (List.map strD names) false])) (by kernel_rfl) ?_
          refine .retH F64 (v := V.d (D.int IntKind.i64 0)) (by kernel_rfl) (by kernel_rfl) ?_
          simp_all [Dk.err, SD, dirD]
  | succ m ih =>
    intro i hi hm
    obtain ⟨x, hx⟩ := get_some (l := names) (i := i) (by omega)
    have hxs : x.size < 9223372036854775807 := by have := hs x (List.mem_of_getElem? hx); omega
    have hno : mayName x = false → b.err there names = 1 := fun e => by
      have : names.all mayName = false := by
        rw [List.all_eq_false]
        exact ⟨x, List.mem_of_getElem? hx, by simp [e]⟩
      unfold Dk.err
      rw [if_neg (by simp [ho]), if_neg (by rw [this]; simp)]
    have hyes : mayName x = true → ∀ s ∈ names.take (i + 1), mayName s = true := fun e s hsm => by
      obtain ⟨hi', rfl⟩ := List.getElem?_eq_some_iff.1 hx
      rw [List.take_succ_eq_append_getElem hi'] at hsm
      rcases List.mem_append.1 hsm with h1 | h1
      · exact hm s h1
      · rw [List.mem_singleton.1 h1]; exact e
    refine .seg 5 [0, 1, 2, 14, 15, 16, 17] (T' := cgo 27 [false] [.code B64]) (tm' := mk 35 [(0, .ptr 0 0 0), (1, .d (.bool there)), (2, .row 6), (14, .row 6), (15, .d (.int .i64 (↑names.length : Int))), (16, .d (.int .i64 (↑i : Int))), (17, .d (.bool (decide ((↑i : Int) < (↑names.length : Int)))))]) (σ' := (SP 1 2 b false [.row 1 (List.map strD names) false])) (by kernel_rfl) ?_
    refine .ifH (b := decide ((↑i : Int) < (↑names.length : Int))) (by kernel_rfl) (by kernel_rfl) (T1 := cgo 28 [false, true] [Item.code B64]) (T2 := cgo 28 [false, false] [Item.code B64]) (by kernel_rfl) (by kernel_rfl) (fun h1 => ?_) (fun h1 => ?_)
    · simp only [decide_eq_true_eq, decide_eq_false_iff_not, beq_iff_eq, bne_iff_ne, beq_eq_false_iff_ne, bne_eq_false_iff_eq, Bool.not_eq_true', Bool.not_eq_false', ne_eq, Decidable.not_not, Bool.not_eq_true, Bool.not_eq_false] at h1
      refine .seg 5 [0, 1, 2, 14, 15, 16, 17] (T' := cgo 33 [false, true] [.code B64]) (tm' := mk 35 [(0, .ptr 0 0 0), (1, .d (.bool there)), (2, .row 6), (14, .row 6), (15, .d (.int .i64 (↑names.length : Int))), (16, .d (.int .i64 (↑i : Int))), (17, .d (.bool (decide ((↑i : Int) < (↑names.length : Int)))))]) (σ' := (SP 1 2 b false [.row 1 (List.map strD names) false])) (by kernel_rfl) ?_
      refine .opH (o := (opOf (cgo 33 [false, true] [.code B64])).getD default) (by kernel_rfl) (by kernel_rfl) (by kernel_rfl) (T' := cgo 34 [false, true] [.code B64]) (by kernel_rfl) (ixRow_ok (t := 66) (x := (.tmp 14)) (i := (.tmp 16)) (k := IntKind.i64) (n := (↑i : Int)) (l := 6) (sz := 1) (xs := List.map strD names) (mv := false) (by kernel_rfl) (by kernel_rfl) (by kernel_rfl) (by kernel_rfl) (by kernel_rfl) (by omega) (by simp <;> omega)) ?_
      refine .opH (o := (opOf (cgo 34 [false, true] [.code B64])).getD default) (by kernel_rfl) (by kernel_rfl) (by kernel_rfl) (T' := cgo 35 [false, true] [.code B64]) (by kernel_rfl) (ldRow_ok (t := 9) (x := (.tmp 18)) (l := 6) (i := (↑i : Int).toNat) (s := 0) (sz := 1) (xs := List.map strD names) (mv := false) (d := strD x) (v := .d (.str x)) (by kernel_rfl) (by kernel_rfl) (by kernel_rfl) (map_get hx) (by kernel_rfl)) ?_
      refine .seg 5 [0, 1, 2, 8, 14, 15, 16, 17, 18, 19, 20] (T' := cgo 40 [false, true] [.code B64]) (tm' := mk 35 [(0, .ptr 0 0 0), (1, .d (.bool there)), (2, .row 6), (8, .d (.str x)), (14, .row 6), (15, .d (.int .i64 (↑names.length : Int))), (16, .d (.int .i64 (↑i : Int))), (17, .d (.bool (decide ((↑i : Int) < (↑names.length : Int))))), (18, .ptr 6 (↑i : Int).toNat 0), (19, .d (.str x)), (20, .d (.str x))]) (σ' := (SP 1 2 b false [.row 1 (List.map strD names) false])) (by kernel_rfl) ?_
      refine .semH (o := (opOf (cgo 40 [false, true] [Item.code B64])).getD default) (v := V.d (D.bool (mayName x))) (σ' := (SP 1 2 b false [.row 1 (List.map strD names) false])) (by kernel_rfl) (by kernel_rfl) (T' := cgo 41 [false, true] [Item.code B64]) (by kernel_rfl) (fun kz => sem_data0 (x := (.func 28)) (args := #[(.tmp 20)]) (ts := #[9]) (first := []) (cap := []) (ds := [V.d (D.str x)]) (v := V.d (D.bool (mayName x))) F28 (@spec_28 (x) (by assumption)) (by kernel_rfl) (by kernel_rfl) (by kernel_rfl) (by kernel_rfl) (by kernel_rfl) (by kernel_rfl) _) ?_
      refine .seg 2 [0, 1, 2, 8, 14, 15, 16, 17, 18, 19, 20, 21, 22] (T' := cgo 43 [false, true] [.code B64]) (tm' := mk 35 [(0, .ptr 0 0 0), (1, .d (.bool there)), (2, .row 6), (8, .d (.str x)), (14, .row 6), (15, .d (.int .i64 (↑names.length : Int))), (16, .d (.int .i64 (↑i : Int))), (17, .d (.bool (decide ((↑i : Int) < (↑names.length : Int))))), (18, .ptr 6 (↑i : Int).toNat 0), (19, .d (.str x)), (20, .d (.str x)), (21, .d (.bool (mayName x))), (22, .d (.bool !mayName x))]) (σ' := (SP 1 2 b false [.row 1 (List.map strD names) false])) (by kernel_rfl) ?_
      refine .ifH (b := !mayName x) (by kernel_rfl) (by kernel_rfl) (T1 := cgo 44 [false, true, true] [Item.code B64]) (T2 := cgo 44 [false, true, false] [Item.code B64]) (by kernel_rfl) (by kernel_rfl) (fun h2 => ?_) (fun h2 => ?_)
      · simp only [decide_eq_true_eq, decide_eq_false_iff_not, beq_iff_eq, bne_iff_ne, beq_eq_false_iff_ne, bne_eq_false_iff_eq, Bool.not_eq_true', Bool.not_eq_false', ne_eq, Decidable.not_not, Bool.not_eq_true, Bool.not_eq_false] at h2
        refine .seg 4 [0, 1, 2, 6, 8, 14, 15, 16, 17, 18, 19, 20, 21, 22] (T' := cgo 48 [false, true, true] [.code B64]) (tm' := mk 35 [(0, .ptr 0 0 0), (1, .d (.bool there)), (2, .row 6), (6, .d (.int .i64 1)), (8, .d (.str x)), (14, .row 6), (15, .d (.int .i64 (↑names.length : Int))), (16, .d (.int .i64 (↑i : Int))), (17, .d (.bool (decide ((↑i : Int) < (↑names.length : Int))))), (18, .ptr 6 (↑i : Int).toNat 0), (19, .d (.str x)), (20, .d (.str x)), (21, .d (.bool (mayName x))), (22, .d (.bool !mayName x))]) (σ' := (SP 1 2 b false [.row 1 (List.map strD names) false])) (by kernel_rfl) ?_
        refine .retH F64 (v := V.d (D.int IntKind.i64 1)) (by kernel_rfl) (by kernel_rfl) ?_
        simp_all [SD, dirD]
      · simp only [decide_eq_true_eq, decide_eq_false_iff_not, beq_iff_eq, bne_iff_ne, beq_eq_false_iff_ne, bne_eq_false_iff_eq, Bool.not_eq_true', Bool.not_eq_false', ne_eq, Decidable.not_not, Bool.not_eq_true, Bool.not_eq_false] at h2
        refine .seg 6 [0, 1, 2, 8, 14, 15, 16, 17, 18, 19, 20, 21, 22, 23] (T' := cgo 50 [false, true, false] [.code B64]) (tm' := mk 35 [(0, .ptr 0 0 0), (1, .d (.bool there)), (2, .row 6), (8, .d (.str x)), (14, .row 6), (15, .d (.int .i64 (↑names.length : Int))), (16, .d (.int .i64 (IntKind.i64.wrap ((↑i : Int) + 1)))), (17, .d (.bool (decide ((↑i : Int) < (↑names.length : Int))))), (18, .ptr 6 (↑i : Int).toNat 0), (19, .d (.str x)), (20, .d (.str x)), (21, .d (.bool (mayName x))), (22, .d (.bool !mayName x)), (23, .d (.int .i64 (IntKind.i64.wrap ((↑i : Int) + 1))))]) (σ' := (SP 1 2 b false [.row 1 (List.map strD names) false])) (by kernel_rfl) ?_
        simp (disch := omega) only [wrap_i64, wrap_u64s, wrap_u32s, wrap_u8s, wrap_i32s, iadd_i64, isub_i64, irem_n, iquo_n, tdiv_nn, tmod_nn]
        exact .seg 1 [0, 1, 2, 14, 15, 16] (by kernel_rfl) (ih (i + 1) (by omega) (hyes (by assumption)))
    · simp only [decide_eq_true_eq, decide_eq_false_iff_not, beq_iff_eq, bne_iff_ne, beq_eq_false_iff_ne, bne_eq_false_iff_eq, Bool.not_eq_true', Bool.not_eq_false', ne_eq, Decidable.not_not, Bool.not_eq_true, Bool.not_eq_false] at h1
      omega
theorem check64 (d : Dk) (N : Nat) (h : d.Ok N) (there : Bool) (names : List ByteArray) (hn : names ≠ []) (hs : ∀ s ∈ names, s.size < 1000000000) (hn2 : names.length < 1000000) (hN : N + 1 ≤ 50000) :
    CallsA Try.prog 64 [.ptr 0 0 0, .d (.bool there), .row 6] (SD d false ++ [.row 1 (names.map strD) false]) fun r σ' => r = .ret (.d (.int .i64 (d.begun.err there names))) ∧ σ' = SD d.begun false ++ [.row 1 (names.map strD) false] := by
  have hc := h.c0
  have hc' := h.cl
  have hs1 := h.s0
  have hs2 := h.s1
  refine CallsA.start F64 (tm := mk (Try.f64.ntmps) [(0, .ptr 0 0 0), (1, .d (.bool there)), (2, .row 6)]) (by kernel_rfl) ?_
  have hk := Dk.begun_ok h hN
  refine .seg 8 [0, 1, 2, 6, 11] (T' := cgo 8 [] [.code B64]) (tm' := mk 35 [(0, .ptr 0 0 0), (1, .d (.bool there)), (2, .row 6), (6, .d (.int .i64 0)), (11, .ptr 0 0 0)]) (σ' := (SP 1 2 d false [.row 1 (List.map strD names) false])) (by kernel_rfl) ?_
  refine .callH (o := (opOf (cgo 8 [] [.code B64])).getD default) (x := (.func 94)) (args := #[(.tmp 11)]) (ts := #[40]) (first := []) (cap := []) [0, 1, 2, 3, 4, 5] [.ptr 0 0 0] (SP 1 2 d false []) F94 (@spec_94 (d) (by assumption) (by omega) (by assumption) (by assumption)) (by kernel_rfl) (by kernel_rfl) (T' := cgo 9 [] [.code B64]) (by kernel_rfl) (by kernel_rfl) (by kernel_rfl) (by kernel_rfl) (by kernel_rfl) ⟨rfl, rfl, by kernel_rfl⟩ ?_
  rintro r0 s0 ⟨rfl, rfl⟩
  refine ⟨_, rfl, ?_⟩
  refine .seg 2 [0, 1, 2, 6, 13] (T' := cgo 11 [] [.code B64]) (tm' := mk 35 [(0, .ptr 0 0 0), (1, .d (.bool there)), (2, .row 6), (6, .d (.int .i64 0)), (13, .d (.bool !!d.begun.off))]) (σ' := (SP 1 2 d.begun false [.row 1 (List.map strD names) false])) (by kernel_rfl) ?_
  refine .ifH (b := !!d.begun.off) (by kernel_rfl) (by kernel_rfl) (T1 := cgo 12 [true] [Item.code B64]) (T2 := cgo 12 [false] [Item.code B64]) (by kernel_rfl) (by kernel_rfl) (fun h2 => ?_) (fun h2 => ?_)
  · simp only [decide_eq_true_eq, decide_eq_false_iff_not, beq_iff_eq, bne_iff_ne, beq_eq_false_iff_ne, bne_eq_false_iff_eq, Bool.not_eq_true', Bool.not_eq_false', ne_eq, Decidable.not_not, Bool.not_eq_true, Bool.not_eq_false] at h2
    refine .seg 4 [0, 1, 2, 6] (T' := cgo 16 [true] [.code B64]) (tm' := mk 35 [(0, .ptr 0 0 0), (1, .d (.bool there)), (2, .row 6), (6, .d (.int .i64 5))]) (σ' := (SP 1 2 d.begun false [.row 1 (List.map strD names) false])) (by kernel_rfl) ?_
    refine .retH F64 (v := V.d (D.int IntKind.i64 5)) (by kernel_rfl) (by kernel_rfl) ?_
    simp_all [Dk.err, SD, dirD]
  · simp only [decide_eq_true_eq, decide_eq_false_iff_not, beq_iff_eq, bne_iff_ne, beq_eq_false_iff_ne, bne_eq_false_iff_eq, Bool.not_eq_true', Bool.not_eq_false', ne_eq, Decidable.not_not, Bool.not_eq_true, Bool.not_eq_false] at h2
    refine .seg 9 [0, 1, 2, 6, 14, 15, 16] (T' := cgo 21 [false] [.code B64]) (tm' := mk 35 [(0, .ptr 0 0 0), (1, .d (.bool there)), (2, .row 6), (6, .d (.int .i64 0)), (14, .row 6), (15, .d (.int .i64 (↑(List.map strD names).length : Int))), (16, .d (.int .i64 0))]) (σ' := (SP 1 2 d.begun false [.row 1 (List.map strD names) false])) (by kernel_rfl) ?_
    simp only [List.length_map]
    exact .seg 1 [0, 1, 2, 14, 15, 16] (by kernel_rfl) (lo64 d.begun (N + 1) hk there names hn hs hn2 (by simp_all) names.length 0 (by omega) (by simp))
theorem spec_64b (d : Dk) (N : Nat) (h : d.Ok N) (there : Bool) (names : List ByteArray) (ds : List D) (hds : ds = names.map strD) (hn : names ≠ []) (hs : ∀ s ∈ names, s.size < 1000000000) (hn2 : names.length < 1000000) (hN : N + 1 ≤ 50000) :
    CallsA Try.prog 64 [.ptr 0 0 0, .d (.bool there), .row 6] (SD d false ++ [.row 1 ds false]) fun r σ' => r = .ret (.d (.int .i64 (d.begun.err there names))) ∧ σ' = SD d.begun false ++ [.row 1 ds false] := by
  subst hds
  exact check64 d N h there names hn hs hn2 hN
theorem lo64n (b : Dk) (ho : b.off = false) :
    AW Try.prog 64 none 6 (cgo 22 [false] [Item.code B64]) (mk 35 [(0, V.ptr 0 0 0), (1, V.d (D.bool false)), (2, V.d (D.list 1 [])), (14, V.d (D.list 1 [])), (15, V.d (D.int IntKind.i64 0)), (16, V.d (D.int IntKind.i64 0))]) (SD b false) [] fun r σ' => r = .ret (.d (.int .i64 (b.err false []))) ∧ σ' = SD b false := by
  have e2 : b.err false [] = 0 := by simp [Dk.err, ho]
  refine .seg 18 [6] (T' := cgo 40 [false, false, false] [.code B64]) (tm' := mk 35 [(6, .d (.int .i64 0))]) (σ' := (SP 1 2 b false [])) (by kernel_rfl) ?_
  refine .retH F64 (v := V.d (D.int IntKind.i64 0)) (by kernel_rfl) (by kernel_rfl) ?_
  simp_all [SD, dirD]
theorem spec_64 (d : Dk) (N : Nat) (h : d.Ok N) (hN : N + 1 ≤ 50000) :
    CallsA Try.prog 64 [.ptr 0 0 0, .d (.bool false), .d (.list 1 [])] (SD d false) fun r σ' => r = .ret (.d (.int .i64 (d.begun.err false []))) ∧ σ' = SD d.begun false := by
  have hc := h.c0
  have hc' := h.cl
  have hs1 := h.s0
  have hs2 := h.s1
  refine CallsA.start F64 (tm := mk (Try.f64.ntmps) [(0, .ptr 0 0 0), (1, .d (.bool false)), (2, .d (.list 1 []))]) (by kernel_rfl) ?_
  have e1 : d.begun.off = true → d.begun.err false [] = 5 := fun e => by simp [Dk.err, e]
  refine .seg 8 [0, 1, 2, 6, 11] (T' := cgo 8 [] [.code B64]) (tm' := mk 35 [(0, .ptr 0 0 0), (1, .d (.bool false)), (2, .d (.list 1 [])), (6, .d (.int .i64 0)), (11, .ptr 0 0 0)]) (σ' := (SP 1 2 d false [])) (by kernel_rfl) ?_
  refine .callH (o := (opOf (cgo 8 [] [.code B64])).getD default) (x := (.func 94)) (args := #[(.tmp 11)]) (ts := #[40]) (first := []) (cap := []) [0, 1, 2, 3, 4, 5] [.ptr 0 0 0] (SP 1 2 d false []) F94 (@spec_94 (d) (by assumption) (by omega) (by assumption) (by assumption)) (by kernel_rfl) (by kernel_rfl) (T' := cgo 9 [] [.code B64]) (by kernel_rfl) (by kernel_rfl) (by kernel_rfl) (by kernel_rfl) (by kernel_rfl) ⟨rfl, rfl, by kernel_rfl⟩ ?_
  rintro r0 s0 ⟨rfl, rfl⟩
  refine ⟨_, rfl, ?_⟩
  refine .seg 2 [0, 1, 2, 6, 13] (T' := cgo 11 [] [.code B64]) (tm' := mk 35 [(0, .ptr 0 0 0), (1, .d (.bool false)), (2, .d (.list 1 [])), (6, .d (.int .i64 0)), (13, .d (.bool !!d.begun.off))]) (σ' := (SP 1 2 d.begun false [])) (by kernel_rfl) ?_
  refine .ifH (b := !!d.begun.off) (by kernel_rfl) (by kernel_rfl) (T1 := cgo 12 [true] [Item.code B64]) (T2 := cgo 12 [false] [Item.code B64]) (by kernel_rfl) (by kernel_rfl) (fun h2 => ?_) (fun h2 => ?_)
  · simp only [decide_eq_true_eq, decide_eq_false_iff_not, beq_iff_eq, bne_iff_ne, beq_eq_false_iff_ne, bne_eq_false_iff_eq, Bool.not_eq_true', Bool.not_eq_false', ne_eq, Decidable.not_not, Bool.not_eq_true, Bool.not_eq_false] at h2
    refine .seg 4 [0, 1, 2, 6] (T' := cgo 16 [true] [.code B64]) (tm' := mk 35 [(0, .ptr 0 0 0), (1, .d (.bool false)), (2, .d (.list 1 [])), (6, .d (.int .i64 5))]) (σ' := (SP 1 2 d.begun false [])) (by kernel_rfl) ?_
    refine .retH F64 (v := V.d (D.int IntKind.i64 5)) (by kernel_rfl) (by kernel_rfl) ?_
    simp_all [SD, dirD]
  · simp only [decide_eq_true_eq, decide_eq_false_iff_not, beq_iff_eq, bne_iff_ne, beq_eq_false_iff_ne, bne_eq_false_iff_eq, Bool.not_eq_true', Bool.not_eq_false', ne_eq, Decidable.not_not, Bool.not_eq_true, Bool.not_eq_false] at h2
    refine .seg 9 [0, 1, 2, 6, 14, 15, 16] (T' := cgo 21 [false] [.code B64]) (tm' := mk 35 [(0, .ptr 0 0 0), (1, .d (.bool false)), (2, .d (.list 1 [])), (6, .d (.int .i64 0)), (14, .d (.list 1 [])), (15, .d (.int .i64 0)), (16, .d (.int .i64 0))]) (σ' := (SP 1 2 d.begun false [])) (by kernel_rfl) ?_
    exact .seg 1 [0, 1, 2, 14, 15, 16] (by kernel_rfl) (lo64n d.begun (by simp_all))
end Go.Proofs.Ytoelkgbeefoplaa

namespace Go.Proofs.Ytoelkgbeefoplaa
open Go Go.Br Go.Proofs
set_option linter.unusedSimpArgs false
noncomputable def B68 : Code := (Try.f68.body).getD .skip
theorem F68 : Fnc Try.prog 68 Try.f68 B68 := ⟨Try.func68, by kernel_rfl, by kernel_rfl⟩
/-- What the first names' files hold. -/
def Dk.acc (d : Dk) (i : Nat) : Nat := ((d.nv.take i).map fun k => (d.file k.toNat).1.length).sum
theorem Dk.acc_succ {d : Dk} {i : Nat} {v : Int} {f : List UInt8 × Nat} (hy : d.nv[i]? = some v) (hf : d.files[v.toNat]? = some f) : d.acc (i + 1) = d.acc i + f.1.length := by
  obtain ⟨hi, rfl⟩ := List.getElem?_eq_some_iff.1 hy
  unfold Dk.acc
  rw [List.take_succ_eq_append_getElem hi, List.map_append, List.sum_append]
  simp [Dk.file, List.getD_eq_getElem?_getD, hf]
theorem Dk.acc_le {d : Dk} {N : Nat} (h : d.Ok N) : ∀ i, d.acc i ≤ i * 1048576
  | 0 => by simp [Dk.acc]
  | i + 1 => by
    have ih := Dk.acc_le h i
    cases hy : d.nv[i]? with
    | none =>
      have := List.getElem?_eq_none_iff.1 hy
      have e : d.nv.take (i + 1) = d.nv.take i := by rw [List.take_of_length_le this, List.take_of_length_le (by omega)]
      have : d.acc (i + 1) = d.acc i := by unfold Dk.acc; rw [e]
      omega
    | some v =>
      have hv := h.nn v (List.mem_of_getElem? hy)
      have hlt : v.toNat < d.files.length := by omega
      have hf := List.getElem?_eq_getElem hlt
      have hm := h.fs _ (List.getElem_mem hlt)
      rw [Dk.acc_succ hy hf]; omega
noncomputable def R68 : List Item := [.code (rfAs (cgo 26 [true] [Item.code B68])), .beginRound, .code (rfBd (cgo 26 [true] [Item.code B68]))]
noncomputable def S68 (d : Dk) (i : Nat) (st : LoopState) : Store :=
  [.cells [.row 1, .ptr 2 0 0, .ep 2 (dirD d.sk d.sv) 0, .row 5, .d (.int .i64 d.quota), .d (.bool d.full), .d (.bool d.off), .d (.int .i64 d.stop), .d (.int .i64 d.calls)], .row 2 (d.files.map fileD) false, .cells [.row 3, .row 4], .row 1 (d.nk.map strD) false, .row 1 (d.nv.map intD) false, .row 3 (d.ch.map chD) false,
    .cells [.ptr 0 0 0], .cells [.d (.int .i64 (d.acc i : Nat))], .cells [.ptr 2 0 0], .cells [.fn (.func 98) [] []], .defd, lp (cgo 26 [true] [Item.code B68]) 68 (mk 27 [(1, V.ptr 6 0 0), (2, V.d (D.int IntKind.i64 0)), (3, V.ptr 7 0 0), (12, V.fn (Fn.func 109) [] [V.ptr 8 0 0, V.ptr 9 0 0])]) st]
theorem body68 (d : Dk) (N : Nat) (h : d.Ok N) (i : Nat) (x : ByteArray) (v : Int) (hx : d.nk[i]? = some x) (hy : d.nv[i]? = some v) :
    AW Try.prog 68 (some 11) 12 R68 (mk 27 [(1, V.ptr 6 0 0), (2, V.d (D.int IntKind.i64 0)), (3, V.ptr 7 0 0), (12, V.fn (Fn.func 109) [] [V.ptr 8 0 0, V.ptr 9 0 0]), (13, .d (.str x)), (14, .d (.int .i64 v))]) (S68 d i .ready) [] fun a σ' => a = .ret (.d (.bool true)) ∧ σ' = S68 d (i + 1) .ready := by
  refine .at (T' := cgo 0 [] R68) rfl ?_
  have hi := (List.getElem?_eq_some_iff.1 hx).1
  have hv := h.nn v (List.mem_of_getElem? hy)
  have hlt : v.toNat < d.files.length := by omega
  obtain ⟨f, hf⟩ := get_some (l := d.files) (i := v.toNat) hlt
  have hm := h.fs f (List.mem_of_getElem? hf)
  have ha := Dk.acc_le h i
  have hb := h.nkl
  have hc := h.nb
  have he := Dk.acc_succ hy hf
  have hv1 := hv.1
  have hv2 := hv.2
  have hw : IntKind.i64.wrap ((d.acc i : Int) + (f.1.length : Int)) = ((d.acc (i + 1) : Nat) : Int) := by
    rw [wrap_i64 (by omega) (by omega), he]; omega
  refine .seg 3 [1, 2, 3, 5, 12, 14] (T' := cgo 3 [] R68) (tm' := mk 27 [(1, .ptr 6 0 0), (2, .d (.int .i64 0)), (3, .ptr 7 0 0), (5, .d (.int .i64 v)), (12, .fn (Fn.func 109) [] [.ptr 8 0 0, .ptr 9 0 0]), (14, .d (.int .i64 v))]) (σ' := (SP 1 2 d false [.cells [.ptr 0 0 0], .cells [.d (.int .i64 (↑(d.acc i) : Int))], .cells [.ptr 2 0 0], .cells [.fn (Fn.func 98) [] []], .defd, lp (cgo 26 [true] [.code B68]) 68 (mk 27 [(1, .ptr 6 0 0), (2, .d (.int .i64 0)), (3, .ptr 7 0 0), (12, .fn (Fn.func 109) [] [.ptr 8 0 0, .ptr 9 0 0])]) LoopState.ready])) (by kernel_rfl) ?_
  refine .beginL (T0 := cgo 26 [true] [Item.code B68]) (fn := 68) (tml := (mk 27 [(1, V.ptr 6 0 0), (2, V.d (D.int IntKind.i64 0)), (3, V.ptr 7 0 0), (12, V.fn (Fn.func 109) [] [V.ptr 8 0 0, V.ptr 9 0 0])])) (by kernel_rfl) (T' := cgo 4 [] R68) (by kernel_rfl) (σ' := (SP 1 2 d false [.cells [.ptr 0 0 0], .cells [.d (.int .i64 (↑(d.acc i) : Int))], .cells [.ptr 2 0 0], .cells [.fn (Fn.func 98) [] []], .defd, lp (cgo 26 [true] [Item.code B68]) 68 (mk 27 [(1, .ptr 6 0 0), (2, .d (.int .i64 0)), (3, .ptr 7 0 0), (12, .fn (Fn.func 109) [] [.ptr 8 0 0, .ptr 9 0 0])]) LoopState.busy])) (by kernel_rfl) (by kernel_rfl) ?_
  refine .seg 1 [1, 2, 3, 5] (T' := cgo 5 [] R68) (tm' := mk 27 [(1, .ptr 6 0 0), (2, .d (.int .i64 0)), (3, .ptr 7 0 0), (5, .d (.int .i64 v))]) (σ' := (SP 1 2 d false [.cells [.ptr 0 0 0], .cells [.d (.int .i64 (↑(d.acc i) : Int))], .cells [.ptr 2 0 0], .cells [.fn (Fn.func 98) [] []], .defd, lp (cgo 26 [true] [.code B68]) 68 (mk 27 [(1, .ptr 6 0 0), (2, .d (.int .i64 0)), (3, .ptr 7 0 0), (12, .fn (Fn.func 109) [] [.ptr 8 0 0, .ptr 9 0 0])]) LoopState.busy])) (by kernel_rfl) ?_
  refine .drawF (T' := cgo 6 [] R68) (tm' := mk 27 [(1, .ptr 6 0 0), (2, .d (.int .i64 0)), (3, .ptr 7 0 0), (5, .d (.int .i64 v)), (15, .d (.int .i64 (↑(d.acc i) : Int))), (16, .ptr 0 0 0), (17, .ptr 0 0 0), (18, .ptr 0 0 0), (19, .row 1), (20, .d (.int .i64 v)), (21, .ptr 1 v.toNat 0), (22, .ptr 1 v.toNat 0), (23, .d (.list 1 (List.map u8 f.fst))), (24, .d (.int .i64 (↑(List.map u8 f.fst).length : Int))), (25, .d (.int .i64 (IntKind.i64.wrap ((↑(d.acc i) : Int) + (↑(List.map u8 f.fst).length : Int)))))]) (σ' := (SP 1 2 d false [.cells [.ptr 0 0 0], .cells [.d (.int .i64 (IntKind.i64.wrap ((↑(d.acc i) : Int) + (↑(List.map u8 f.fst).length : Int))))], .cells [.ptr 2 0 0], .cells [.fn (Fn.func 98) [] []], .defd, lp (cgo 26 [true] [.code B68]) 68 (mk 27 [(1, .ptr 6 0 0), (2, .d (.int .i64 0)), (3, .ptr 7 0 0), (12, .fn (Fn.func 109) [] [.ptr 8 0 0, .ptr 9 0 0])]) LoopState.busy])) (by kernel_rfl) (by kernel_rfl) (by kernel_rfl) (by kernel_rfl) (fun kz L hL => ?_) ?_
  · refine ⟨[⟨[7], [], [], [], [7], [], true, false⟩, ⟨[6], [], [], [0], [6, 0], [], true, false⟩, ⟨[], [], [], [0], [0], [0], true, false⟩, ⟨[], [], [], [0], [0], [0], true, false⟩, ⟨[0], [], [], [1], [0, 1, 2, 5], [], true, false⟩, ⟨[], [], [], [], [], [], true, false⟩, ⟨[1], [], [], [1], [1], [], true, false⟩, ⟨[], [], [], [1], [1], [1], true, false⟩, ⟨[1], [], [], [], [1], [], true, false⟩, ⟨[], [], [], [], [], [], true, false⟩, ⟨[], [], [], [], [], [], true, false⟩, ⟨[7], [7], [], [], [7], [], true, false⟩], run_amongF hL _ [] [0, 1, 2, 3, 4, 5, 6, 7, 8, 9, 10, 11] (by intro p hp; cases hp) (by kernel_rfl) ?_⟩
    refine Run.append (A := [0, 1, 2, 3, 4, 5]) (srunF_ok (tm' := mk 27 [(1, .ptr 6 0 0), (2, .d (.int .i64 0)), (3, .ptr 7 0 0), (5, .d (.int .i64 v)), (15, .d (.int .i64 (↑(d.acc i) : Int))), (16, .ptr 0 0 0), (17, .ptr 0 0 0), (18, .ptr 0 0 0), (19, .row 1), (20, .d (.int .i64 v))]) (σ' := (SP 1 2 d false [.cells [.ptr 0 0 0], .cells [.d (.int .i64 (↑(d.acc i) : Int))], .cells [.ptr 2 0 0], .cells [.fn (Fn.func 98) [] []], .defd, lp (cgo 26 [true] [Item.code B68]) 68 (mk 27 [(1, .ptr 6 0 0), (2, .d (.int .i64 0)), (3, .ptr 7 0 0), (12, .fn (Fn.func 109) [] [.ptr 8 0 0, .ptr 9 0 0])]) LoopState.busy])) (by kernel_rfl)) ?_
    refine Run.one (StepF.look (o := ((drawOf (cgo 5 [] R68))[6]?).getD default) (v := .ptr 1 v.toNat 0) [(.tmp 19), (.tmp 20)] (by kernel_rfl) rfl (by kernel_rfl) (by kernel_rfl) (by kernel_rfl) (by kernel_rfl) (by kernel_rfl) (fun tm' σ2 hv hr => ixRow_ok (t := 105) (x := (.tmp 19)) (i := (.tmp 20)) (k := IntKind.i64) (n := v) (l := 1) (sz := 2) (xs := List.map fileD d.files) (mv := false) (by kernel_rfl) (by rw [hv _ (by simp)]; kernel_rfl) (by rw [hv _ (by simp)]; kernel_rfl) ((hr _ (inK_iff.1 (by kernel_rfl))).trans (by kernel_rfl)) (by kernel_rfl) (by assumption) (by simp <;> omega))) ?_
    refine Run.asP (tm' := mk 27 [(1, .ptr 6 0 0), (2, .d (.int .i64 0)), (3, .ptr 7 0 0), (5, .d (.int .i64 v)), (15, .d (.int .i64 (↑(d.acc i) : Int))), (16, .ptr 0 0 0), (17, .ptr 0 0 0), (18, .ptr 0 0 0), (19, .row 1), (20, .d (.int .i64 v)), (21, .ptr 1 v.toNat 0)]) (σ' := (SP 1 2 d false [.cells [.ptr 0 0 0], .cells [.d (.int .i64 (↑(d.acc i) : Int))], .cells [.ptr 2 0 0], .cells [.fn (Fn.func 98) [] []], .defd, lp (cgo 26 [true] [.code B68]) 68 (mk 27 [(1, .ptr 6 0 0), (2, .d (.int .i64 0)), (3, .ptr 7 0 0), (12, .fn (Fn.func 109) [] [.ptr 8 0 0, .ptr 9 0 0])]) LoopState.busy])) (by kernel_rfl) (by kernel_rfl) ?_
    refine Run.append (A := [7]) (srunF_ok (tm' := mk 27 [(1, .ptr 6 0 0), (2, .d (.int .i64 0)), (3, .ptr 7 0 0), (5, .d (.int .i64 v)), (15, .d (.int .i64 (↑(d.acc i) : Int))), (16, .ptr 0 0 0), (17, .ptr 0 0 0), (18, .ptr 0 0 0), (19, .row 1), (20, .d (.int .i64 v)), (21, .ptr 1 v.toNat 0), (22, .ptr 1 v.toNat 0)]) (σ' := (SP 1 2 d false [.cells [.ptr 0 0 0], .cells [.d (.int .i64 (↑(d.acc i) : Int))], .cells [.ptr 2 0 0], .cells [.fn (Fn.func 98) [] []], .defd, lp (cgo 26 [true] [Item.code B68]) 68 (mk 27 [(1, .ptr 6 0 0), (2, .d (.int .i64 0)), (3, .ptr 7 0 0), (12, .fn (Fn.func 109) [] [.ptr 8 0 0, .ptr 9 0 0])]) LoopState.busy])) (by kernel_rfl)) ?_
    refine Run.one (StepF.look (o := ((drawOf (cgo 5 [] R68))[8]?).getD default) (v := .d (.list 1 (List.map u8 f.fst))) [(.tmp 22)] (by kernel_rfl) rfl (by kernel_rfl) (by kernel_rfl) (by kernel_rfl) (by kernel_rfl) (by kernel_rfl) (fun tm' σ2 hv hr => ldRow_ok (t := 22) (x := (.tmp 22)) (l := 1) (i := v.toNat) (s := 0) (sz := 2) (xs := List.map fileD d.files) (mv := false) (d := fileD f) (v := .d (.list 1 (List.map u8 f.fst))) (by kernel_rfl) (by rw [hv _ (by simp)]; kernel_rfl) ((hr _ (inK_iff.1 (by kernel_rfl))).trans (by kernel_rfl)) (map_get hf) (by kernel_rfl))) ?_
    refine Run.asP (tm' := mk 27 [(1, .ptr 6 0 0), (2, .d (.int .i64 0)), (3, .ptr 7 0 0), (5, .d (.int .i64 v)), (15, .d (.int .i64 (↑(d.acc i) : Int))), (16, .ptr 0 0 0), (17, .ptr 0 0 0), (18, .ptr 0 0 0), (19, .row 1), (20, .d (.int .i64 v)), (21, .ptr 1 v.toNat 0), (22, .ptr 1 v.toNat 0), (23, .d (.list 1 (List.map u8 f.fst)))]) (σ' := (SP 1 2 d false [.cells [.ptr 0 0 0], .cells [.d (.int .i64 (↑(d.acc i) : Int))], .cells [.ptr 2 0 0], .cells [.fn (Fn.func 98) [] []], .defd, lp (cgo 26 [true] [.code B68]) 68 (mk 27 [(1, .ptr 6 0 0), (2, .d (.int .i64 0)), (3, .ptr 7 0 0), (12, .fn (Fn.func 109) [] [.ptr 8 0 0, .ptr 9 0 0])]) LoopState.busy])) (by kernel_rfl) (by kernel_rfl) ?_
    exact srunF_ok (by kernel_rfl)
  refine .seg 1 [2] (T' := cgo 7 [] R68) (tm' := mk 27 [(2, .d (.int .i64 0))]) (σ' := (SP 1 2 d false [.cells [.ptr 0 0 0], .cells [.d (.int .i64 (IntKind.i64.wrap ((↑(d.acc i) : Int) + (↑(List.map u8 f.fst).length : Int))))], .cells [.ptr 2 0 0], .cells [.fn (Fn.func 98) [] []], .defd, lp (cgo 26 [true] [.code B68]) 68 (mk 27 [(1, .ptr 6 0 0), (2, .d (.int .i64 0)), (3, .ptr 7 0 0), (12, .fn (Fn.func 109) [] [.ptr 8 0 0, .ptr 9 0 0])]) LoopState.busy])) (by kernel_rfl) ?_
  simp only [List.length_map]
  simp (disch := omega) only [wrap_i64, wrap_u64s, wrap_u32s, wrap_u8s, wrap_i32s, iadd_i64, isub_i64, irem_n, iquo_n, tdiv_nn, tmod_nn]
  refine .roundEndL (T0 := cgo 26 [true] [Item.code B68]) (fn := 68) (tml := (mk 27 [(1, V.ptr 6 0 0), (2, V.d (D.int IntKind.i64 0)), (3, V.ptr 7 0 0), (12, V.fn (Fn.func 109) [] [V.ptr 8 0 0, V.ptr 9 0 0])])) (st := LoopState.busy) (by kernel_rfl) (by kernel_rfl) (σ' := (SP 1 2 d false [.cells [.ptr 0 0 0], .cells [.d (.int .i64 ((↑(d.acc i) : Int) + (↑f.fst.length : Int)))], .cells [.ptr 2 0 0], .cells [.fn (Fn.func 98) [] []], .defd, lp (cgo 26 [true] [Item.code B68]) 68 (mk 27 [(1, .ptr 6 0 0), (2, .d (.int .i64 0)), (3, .ptr 7 0 0), (12, .fn (Fn.func 109) [] [.ptr 8 0 0, .ptr 9 0 0])]) LoopState.ready])) (by kernel_rfl) ?_
  simp_all [S68, dirD]
theorem lo68 (d : Dk) (N : Nat) (h : d.Ok N) (hl : d.nk.length < 60000) (hv : d.nv.length = d.nk.length) : ∀ (m i : Nat), i + m = (d.nk).length →
    AW Try.prog 109 none 12 (cgo 24 [false] [Item.code B109]) (mk 43 [(0, V.yield 11), (5, V.d (.list 1 ((d.nk).map strD))), (6, V.d (.list 1 ((d.nv).map intD))), (27, V.d (.int .i64 ((d.nk).length : Nat))), (28, V.d (.int .i64 (i : Nat)))]) (S68 d i .ready) [] fun r σ' => r = .ret (.tuple []) ∧ σ' = S68 d (d.nk).length .ready := by
  intro m
  induction m with
  | zero =>
    intro i hi
    have hi : i = (d.nk).length := by omega
    subst hi
    refine .seg 5 [0, 5, 6, 27, 28, 29] (T' := cgo 29 [false] [.code B109]) (tm' := mk 43 [(0, V.yield 11), (5, .d (.list 1 (List.map strD d.nk))), (6, .d (.list 1 (List.map intD d.nv))), (27, .d (.int .i64 (↑d.nk.length : Int))), (28, .d (.int .i64 (↑d.nk.length : Int))), (29, .d (.bool (decide ((↑d.nk.length : Int) < (↑d.nk.length : Int)))))]) (σ' := (SP 1 2 d false [.cells [.ptr 0 0 0], .cells [.d (.int .i64 (↑(d.acc d.nk.length) : Int))], .cells [.ptr 2 0 0], .cells [.fn (Fn.func 98) [] []], .defd, lp (cgo 26 [true] [.code B68]) 68 (mk 27 [(1, .ptr 6 0 0), (2, .d (.int .i64 0)), (3, .ptr 7 0 0), (12, .fn (Fn.func 109) [] [.ptr 8 0 0, .ptr 9 0 0])]) LoopState.ready])) (by kernel_rfl) ?_
    refine .ifH (b := decide ((↑d.nk.length : Int) < (↑d.nk.length : Int))) (by kernel_rfl) (by kernel_rfl) (T1 := cgo 30 [false, true] [Item.code B109]) (T2 := cgo 30 [false, false] [Item.code B109]) (by kernel_rfl) (by kernel_rfl) (fun h1 => ?_) (fun h1 => ?_)
    · simp only [decide_eq_true_eq, decide_eq_false_iff_not, beq_iff_eq, bne_iff_ne, beq_eq_false_iff_ne, bne_eq_false_iff_eq, Bool.not_eq_true', Bool.not_eq_false', ne_eq, Decidable.not_not, Bool.not_eq_true, Bool.not_eq_false] at h1
      omega
    · simp only [decide_eq_true_eq, decide_eq_false_iff_not, beq_iff_eq, bne_iff_ne, beq_eq_false_iff_ne, bne_eq_false_iff_eq, Bool.not_eq_true', Bool.not_eq_false', ne_eq, Decidable.not_not, Bool.not_eq_true, Bool.not_eq_false] at h1
      refine .seg 1 [] (T' := cgo 31 [false, false] [.code B109]) (tm' := mk 43 []) (σ' := (SP 1 2 d false [.cells [.ptr 0 0 0], .cells [.d (.int .i64 (↑(d.acc d.nk.length) : Int))], .cells [.ptr 2 0 0], .cells [.fn (Fn.func 98) [] []], .defd, lp (cgo 26 [true] [.code B68]) 68 (mk 27 [(1, .ptr 6 0 0), (2, .d (.int .i64 0)), (3, .ptr 7 0 0), (12, .fn (Fn.func 109) [] [.ptr 8 0 0, .ptr 9 0 0])]) LoopState.ready])) (by kernel_rfl) ?_
      refine .retH F109 (v := V.tuple []) (by kernel_rfl) (by kernel_rfl) ?_
      exact ⟨rfl, rfl⟩
  | succ m ih =>
    intro i hi
    obtain ⟨x, hx⟩ := get_some (l := d.nk) (i := i) (by omega)
    obtain ⟨v, hy⟩ := get_some (l := d.nv) (i := i) (by omega)
    have hYi := body68 d N h i x v hx hy
    refine .seg 5 [0, 5, 6, 27, 28, 29] (T' := cgo 29 [false] [.code B109]) (tm' := mk 43 [(0, V.yield 11), (5, .d (.list 1 (List.map strD d.nk))), (6, .d (.list 1 (List.map intD d.nv))), (27, .d (.int .i64 (↑d.nk.length : Int))), (28, .d (.int .i64 (↑i : Int))), (29, .d (.bool (decide ((↑i : Int) < (↑d.nk.length : Int)))))]) (σ' := (SP 1 2 d false [.cells [.ptr 0 0 0], .cells [.d (.int .i64 (↑(d.acc i) : Int))], .cells [.ptr 2 0 0], .cells [.fn (Fn.func 98) [] []], .defd, lp (cgo 26 [true] [.code B68]) 68 (mk 27 [(1, .ptr 6 0 0), (2, .d (.int .i64 0)), (3, .ptr 7 0 0), (12, .fn (Fn.func 109) [] [.ptr 8 0 0, .ptr 9 0 0])]) LoopState.ready])) (by kernel_rfl) ?_
    refine .ifH (b := decide ((↑i : Int) < (↑d.nk.length : Int))) (by kernel_rfl) (by kernel_rfl) (T1 := cgo 30 [false, true] [Item.code B109]) (T2 := cgo 30 [false, false] [Item.code B109]) (by kernel_rfl) (by kernel_rfl) (fun h1 => ?_) (fun h1 => ?_)
    · simp only [decide_eq_true_eq, decide_eq_false_iff_not, beq_iff_eq, bne_iff_ne, beq_eq_false_iff_ne, bne_eq_false_iff_eq, Bool.not_eq_true', Bool.not_eq_false', ne_eq, Decidable.not_not, Bool.not_eq_true, Bool.not_eq_false] at h1
      refine .seg 9 [0, 5, 6, 7, 27, 28, 29, 30] (T' := cgo 39 [false, true] [.code B109]) (tm' := mk 43 [(0, V.yield 11), (5, .d (.list 1 (List.map strD d.nk))), (6, .d (.list 1 (List.map intD d.nv))), (7, .d (.int .i64 (↑i : Int))), (27, .d (.int .i64 (↑d.nk.length : Int))), (28, .d (.int .i64 (↑i : Int))), (29, .d (.bool (decide ((↑i : Int) < (↑d.nk.length : Int))))), (30, .d (.int .i64 (↑i : Int)))]) (σ' := (SP 1 2 d false [.cells [.ptr 0 0 0], .cells [.d (.int .i64 (↑(d.acc i) : Int))], .cells [.ptr 2 0 0], .cells [.fn (Fn.func 98) [] []], .defd, lp (cgo 26 [true] [.code B68]) 68 (mk 27 [(1, .ptr 6 0 0), (2, .d (.int .i64 0)), (3, .ptr 7 0 0), (12, .fn (Fn.func 109) [] [.ptr 8 0 0, .ptr 9 0 0])]) LoopState.ready])) (by kernel_rfl) ?_
      refine .drawF (T' := cgo 40 [false, true] [.code B109]) (tm' := mk 43 [(0, V.yield 11), (5, .d (.list 1 (List.map strD d.nk))), (6, .d (.list 1 (List.map intD d.nv))), (7, .d (.int .i64 (↑i : Int))), (27, .d (.int .i64 (↑d.nk.length : Int))), (28, .d (.int .i64 (↑i : Int))), (29, .d (.bool (decide ((↑i : Int) < (↑d.nk.length : Int))))), (30, .d (.int .i64 (↑i : Int))), (31, V.yield 11), (32, .d (.list 1 (List.map strD d.nk))), (33, .d (.int .i64 (↑i : Int))), (34, .ep 1 (D.str x) 0), (35, .d (.str x)), (36, .d (.list 1 (List.map intD d.nv))), (37, .d (.int .i64 (↑i : Int))), (38, .ep 1 (D.int IntKind.i64 v) 0), (39, .d (.int .i64 v)), (40, .d (.bool true)), (41, .d (.bool false))]) (σ' := (SP 1 2 d false [.cells [.ptr 0 0 0], .cells [.d (.int .i64 (↑(d.acc (i + 1)) : Int))], .cells [.ptr 2 0 0], .cells [.fn (Fn.func 98) [] []], .defd, lp (cgo 26 [true] [.code B68]) 68 (mk 27 [(1, .ptr 6 0 0), (2, .d (.int .i64 0)), (3, .ptr 7 0 0), (12, .fn (Fn.func 109) [] [.ptr 8 0 0, .ptr 9 0 0])]) LoopState.ready])) (by kernel_rfl) (by kernel_rfl) (by kernel_rfl) (by kernel_rfl) (fun kz L hL => ?_) ?_
      · refine ⟨[⟨[], [], [], [11], [11], [], true, false⟩, ⟨[], [], [], [], [], [], true, false⟩, ⟨[], [], [], [], [], [], true, false⟩, ⟨[], [], [], [], [], [], true, false⟩, ⟨[], [], [], [], [], [], true, false⟩, ⟨[], [], [], [], [], [], true, false⟩, ⟨[], [], [], [], [], [], true, false⟩, ⟨[], [], [], [], [], [], true, false⟩, ⟨[], [], [], [], [], [], true, false⟩, ⟨[], [], [], [], [], [], false, true⟩, ⟨[], [], [], [], [], [], true, false⟩], run_amongF hL _ [] [0, 1, 2, 3, 4, 5, 6, 7, 8, 9, 10] (by intro p hp; cases hp) (by kernel_rfl) ?_⟩
        refine Run.append (A := [0, 1, 2]) (srunF_ok (tm' := mk 43 [(0, V.yield 11), (5, .d (.list 1 (List.map strD d.nk))), (6, .d (.list 1 (List.map intD d.nv))), (7, .d (.int .i64 (↑i : Int))), (27, .d (.int .i64 (↑d.nk.length : Int))), (28, .d (.int .i64 (↑i : Int))), (29, .d (.bool (decide ((↑i : Int) < (↑d.nk.length : Int))))), (30, .d (.int .i64 (↑i : Int))), (31, V.yield 11), (32, .d (.list 1 (List.map strD d.nk))), (33, .d (.int .i64 (↑i : Int)))]) (σ' := (SP 1 2 d false [.cells [.ptr 0 0 0], .cells [.d (.int .i64 (↑(d.acc i) : Int))], .cells [.ptr 2 0 0], .cells [.fn (Fn.func 98) [] []], .defd, lp (cgo 26 [true] [Item.code B68]) 68 (mk 27 [(1, .ptr 6 0 0), (2, .d (.int .i64 0)), (3, .ptr 7 0 0), (12, .fn (Fn.func 109) [] [.ptr 8 0 0, .ptr 9 0 0])]) LoopState.ready])) (by kernel_rfl)) ?_
        refine Run.one (StepF.look (o := ((drawOf (cgo 39 [false, true] [.code B109]))[3]?).getD default) (v := .ep 1 (D.str x) 0) [(.tmp 32), (.tmp 33)] (by kernel_rfl) rfl (by kernel_rfl) (by kernel_rfl) (by kernel_rfl) (by kernel_rfl) (by kernel_rfl) (fun tm' σ2 hv hr => ixData_ok (t := 66) (x := (.tmp 32)) (i := (.tmp 33)) (k := IntKind.i64) (n := (↑i : Int)) (sz := 1) (xs := List.map strD d.nk) (d := strD x) (by kernel_rfl) (by rw [hv _ (by simp)]; kernel_rfl) (by rw [hv _ (by simp)]; kernel_rfl) (by kernel_rfl) (by omega) (map_get hx))) ?_
        refine Run.asP (tm' := mk 43 [(0, V.yield 11), (5, .d (.list 1 (List.map strD d.nk))), (6, .d (.list 1 (List.map intD d.nv))), (7, .d (.int .i64 (↑i : Int))), (27, .d (.int .i64 (↑d.nk.length : Int))), (28, .d (.int .i64 (↑i : Int))), (29, .d (.bool (decide ((↑i : Int) < (↑d.nk.length : Int))))), (30, .d (.int .i64 (↑i : Int))), (31, V.yield 11), (32, .d (.list 1 (List.map strD d.nk))), (33, .d (.int .i64 (↑i : Int))), (34, .ep 1 (D.str x) 0)]) (σ' := (SP 1 2 d false [.cells [.ptr 0 0 0], .cells [.d (.int .i64 (↑(d.acc i) : Int))], .cells [.ptr 2 0 0], .cells [.fn (Fn.func 98) [] []], .defd, lp (cgo 26 [true] [.code B68]) 68 (mk 27 [(1, .ptr 6 0 0), (2, .d (.int .i64 0)), (3, .ptr 7 0 0), (12, .fn (Fn.func 109) [] [.ptr 8 0 0, .ptr 9 0 0])]) LoopState.ready])) (by kernel_rfl) (by kernel_rfl) ?_
        refine Run.append (A := [4, 5, 6]) (srunF_ok (tm' := mk 43 [(0, V.yield 11), (5, .d (.list 1 (List.map strD d.nk))), (6, .d (.list 1 (List.map intD d.nv))), (7, .d (.int .i64 (↑i : Int))), (27, .d (.int .i64 (↑d.nk.length : Int))), (28, .d (.int .i64 (↑i : Int))), (29, .d (.bool (decide ((↑i : Int) < (↑d.nk.length : Int))))), (30, .d (.int .i64 (↑i : Int))), (31, V.yield 11), (32, .d (.list 1 (List.map strD d.nk))), (33, .d (.int .i64 (↑i : Int))), (34, .ep 1 (D.str x) 0), (35, .d (.str x)), (36, .d (.list 1 (List.map intD d.nv))), (37, .d (.int .i64 (↑i : Int)))]) (σ' := (SP 1 2 d false [.cells [.ptr 0 0 0], .cells [.d (.int .i64 (↑(d.acc i) : Int))], .cells [.ptr 2 0 0], .cells [.fn (Fn.func 98) [] []], .defd, lp (cgo 26 [true] [Item.code B68]) 68 (mk 27 [(1, .ptr 6 0 0), (2, .d (.int .i64 0)), (3, .ptr 7 0 0), (12, .fn (Fn.func 109) [] [.ptr 8 0 0, .ptr 9 0 0])]) LoopState.ready])) (by kernel_rfl)) ?_
        refine Run.one (StepF.look (o := ((drawOf (cgo 39 [false, true] [.code B109]))[7]?).getD default) (v := .ep 1 (D.int IntKind.i64 v) 0) [(.tmp 36), (.tmp 37)] (by kernel_rfl) rfl (by kernel_rfl) (by kernel_rfl) (by kernel_rfl) (by kernel_rfl) (by kernel_rfl) (fun tm' σ2 hv hr => ixData_ok (t := 46) (x := (.tmp 36)) (i := (.tmp 37)) (k := IntKind.i64) (n := (↑i : Int)) (sz := 1) (xs := List.map intD d.nv) (d := intD v) (by kernel_rfl) (by rw [hv _ (by simp)]; kernel_rfl) (by rw [hv _ (by simp)]; kernel_rfl) (by kernel_rfl) (by omega) (map_get hy))) ?_
        refine Run.asP (tm' := mk 43 [(0, V.yield 11), (5, .d (.list 1 (List.map strD d.nk))), (6, .d (.list 1 (List.map intD d.nv))), (7, .d (.int .i64 (↑i : Int))), (27, .d (.int .i64 (↑d.nk.length : Int))), (28, .d (.int .i64 (↑i : Int))), (29, .d (.bool (decide ((↑i : Int) < (↑d.nk.length : Int))))), (30, .d (.int .i64 (↑i : Int))), (31, V.yield 11), (32, .d (.list 1 (List.map strD d.nk))), (33, .d (.int .i64 (↑i : Int))), (34, .ep 1 (D.str x) 0), (35, .d (.str x)), (36, .d (.list 1 (List.map intD d.nv))), (37, .d (.int .i64 (↑i : Int))), (38, .ep 1 (D.int IntKind.i64 v) 0)]) (σ' := (SP 1 2 d false [.cells [.ptr 0 0 0], .cells [.d (.int .i64 (↑(d.acc i) : Int))], .cells [.ptr 2 0 0], .cells [.fn (Fn.func 98) [] []], .defd, lp (cgo 26 [true] [.code B68]) 68 (mk 27 [(1, .ptr 6 0 0), (2, .d (.int .i64 0)), (3, .ptr 7 0 0), (12, .fn (Fn.func 109) [] [.ptr 8 0 0, .ptr 9 0 0])]) LoopState.ready])) (by kernel_rfl) (by kernel_rfl) ?_
        refine Run.append (A := [8]) (srunF_ok (tm' := mk 43 [(0, V.yield 11), (5, .d (.list 1 (List.map strD d.nk))), (6, .d (.list 1 (List.map intD d.nv))), (7, .d (.int .i64 (↑i : Int))), (27, .d (.int .i64 (↑d.nk.length : Int))), (28, .d (.int .i64 (↑i : Int))), (29, .d (.bool (decide ((↑i : Int) < (↑d.nk.length : Int))))), (30, .d (.int .i64 (↑i : Int))), (31, V.yield 11), (32, .d (.list 1 (List.map strD d.nk))), (33, .d (.int .i64 (↑i : Int))), (34, .ep 1 (D.str x) 0), (35, .d (.str x)), (36, .d (.list 1 (List.map intD d.nv))), (37, .d (.int .i64 (↑i : Int))), (38, .ep 1 (D.int IntKind.i64 v) 0), (39, .d (.int .i64 v))]) (σ' := (SP 1 2 d false [.cells [.ptr 0 0 0], .cells [.d (.int .i64 (↑(d.acc i) : Int))], .cells [.ptr 2 0 0], .cells [.fn (Fn.func 98) [] []], .defd, lp (cgo 26 [true] [Item.code B68]) 68 (mk 27 [(1, .ptr 6 0 0), (2, .d (.int .i64 0)), (3, .ptr 7 0 0), (12, .fn (Fn.func 109) [] [.ptr 8 0 0, .ptr 9 0 0])]) LoopState.ready])) (by kernel_rfl)) ?_
        refine Run.one (s1 := (mk 43 [(0, V.yield 11), (5, .d (.list 1 (List.map strD d.nk))), (6, .d (.list 1 (List.map intD d.nv))), (7, .d (.int .i64 (↑i : Int))), (27, .d (.int .i64 (↑d.nk.length : Int))), (28, .d (.int .i64 (↑i : Int))), (29, .d (.bool (decide ((↑i : Int) < (↑d.nk.length : Int))))), (30, .d (.int .i64 (↑i : Int))), (31, V.yield 11), (32, .d (.list 1 (List.map strD d.nk))), (33, .d (.int .i64 (↑i : Int))), (34, .ep 1 (D.str x) 0), (35, .d (.str x)), (36, .d (.list 1 (List.map intD d.nv))), (37, .d (.int .i64 (↑i : Int))), (38, .ep 1 (D.int IntKind.i64 v) 0), (39, .d (.int .i64 v)), (40, .d (.bool true))], (SP 1 2 d false [.cells [.ptr 0 0 0], .cells [.d (.int .i64 (↑(d.acc (i + 1)) : Int))], .cells [.ptr 2 0 0], .cells [.fn (Fn.func 98) [] []], .defd, lp (cgo 26 [true] [.code B68]) 68 (mk 27 [(1, .ptr 6 0 0), (2, .d (.int .i64 0)), (3, .ptr 7 0 0), (12, .fn (Fn.func 109) [] [.ptr 8 0 0, .ptr 9 0 0])]) LoopState.ready]))) (StepF.all (o := ((drawOf (cgo 39 [false, true] [.code B109]))[9]?).getD default) (by kernel_rfl) (by kernel_rfl) fun rest hn => AW.yieldD (T0 := cgo 26 [true] [.code B68]) (x := (.tmp 31)) (args := #[(.tmp 35), (.tmp 39)]) (ts := #[9, 3]) (l := 11) (st := LoopState.ready) (fn := 68) (tml := (mk 27 [(1, .ptr 6 0 0), (2, .d (.int .i64 0)), (3, .ptr 7 0 0), (12, .fn (Fn.func 109) [] [.ptr 8 0 0, .ptr 9 0 0])])) (R := R68) (o := ((drawOf (cgo 39 [false, true] [.code B109]))[9]?).getD default) (N := 12) (by kernel_rfl) (by kernel_rfl) (by kernel_rfl) (by kernel_rfl) (by kernel_rfl) (by kernel_rfl) (by kernel_rfl) (by kernel_rfl) (by kernel_rfl) hYi (by rintro r s ⟨rfl, rfl⟩; exact ⟨_, rfl, AW.as (by kernel_rfl) (by kernel_rfl) hn⟩)) ?_
        refine Run.asP (tm' := mk 43 [(0, V.yield 11), (5, .d (.list 1 (List.map strD d.nk))), (6, .d (.list 1 (List.map intD d.nv))), (7, .d (.int .i64 (↑i : Int))), (27, .d (.int .i64 (↑d.nk.length : Int))), (28, .d (.int .i64 (↑i : Int))), (29, .d (.bool (decide ((↑i : Int) < (↑d.nk.length : Int))))), (30, .d (.int .i64 (↑i : Int))), (31, V.yield 11), (32, .d (.list 1 (List.map strD d.nk))), (33, .d (.int .i64 (↑i : Int))), (34, .ep 1 (D.str x) 0), (35, .d (.str x)), (36, .d (.list 1 (List.map intD d.nv))), (37, .d (.int .i64 (↑i : Int))), (38, .ep 1 (D.int IntKind.i64 v) 0), (39, .d (.int .i64 v)), (40, .d (.bool true))]) (σ' := (SP 1 2 d false [.cells [.ptr 0 0 0], .cells [.d (.int .i64 (↑(d.acc (i + 1)) : Int))], .cells [.ptr 2 0 0], .cells [.fn (Fn.func 98) [] []], .defd, lp (cgo 26 [true] [.code B68]) 68 (mk 27 [(1, .ptr 6 0 0), (2, .d (.int .i64 0)), (3, .ptr 7 0 0), (12, .fn (Fn.func 109) [] [.ptr 8 0 0, .ptr 9 0 0])]) LoopState.ready])) (by kernel_rfl) (by kernel_rfl) ?_
        exact srunF_ok (by kernel_rfl)
      refine .seg 7 [0, 5, 6, 7, 27, 28, 29, 30, 31, 32, 33, 34, 35, 36, 37, 38, 39, 40, 41, 42] (T' := cgo 47 [false, true, false] [.code B109]) (tm' := mk 43 [(0, V.yield 11), (5, .d (.list 1 (List.map strD d.nk))), (6, .d (.list 1 (List.map intD d.nv))), (7, .d (.int .i64 (↑i : Int))), (27, .d (.int .i64 (↑d.nk.length : Int))), (28, .d (.int .i64 (IntKind.i64.wrap ((↑i : Int) + 1)))), (29, .d (.bool (decide ((↑i : Int) < (↑d.nk.length : Int))))), (30, .d (.int .i64 (↑i : Int))), (31, V.yield 11), (32, .d (.list 1 (List.map strD d.nk))), (33, .d (.int .i64 (↑i : Int))), (34, .ep 1 (D.str x) 0), (35, .d (.str x)), (36, .d (.list 1 (List.map intD d.nv))), (37, .d (.int .i64 (↑i : Int))), (38, .ep 1 (D.int IntKind.i64 v) 0), (39, .d (.int .i64 v)), (40, .d (.bool true)), (41, .d (.bool false)), (42, .d (.int .i64 (IntKind.i64.wrap ((↑i : Int) + 1))))]) (σ' := (SP 1 2 d false [.cells [.ptr 0 0 0], .cells [.d (.int .i64 (↑(d.acc (i + 1)) : Int))], .cells [.ptr 2 0 0], .cells [.fn (Fn.func 98) [] []], .defd, lp (cgo 26 [true] [.code B68]) 68 (mk 27 [(1, .ptr 6 0 0), (2, .d (.int .i64 0)), (3, .ptr 7 0 0), (12, .fn (Fn.func 109) [] [.ptr 8 0 0, .ptr 9 0 0])]) LoopState.ready])) (by kernel_rfl) ?_
      simp (disch := omega) only [wrap_i64, wrap_u64s, wrap_u32s, wrap_u8s, wrap_i32s, iadd_i64, isub_i64, irem_n, iquo_n, tdiv_nn, tmod_nn]
      exact .seg 1 [0, 5, 6, 27, 28] (by kernel_rfl) (ih (i + 1) (by omega))
    · simp only [decide_eq_true_eq, decide_eq_false_iff_not, beq_iff_eq, bne_iff_ne, beq_eq_false_iff_ne, bne_eq_false_iff_eq, Bool.not_eq_true', Bool.not_eq_false', ne_eq, Decidable.not_not, Bool.not_eq_true, Bool.not_eq_false] at h1
      omega
theorem it68 (d : Dk) (N : Nat) (h : d.Ok N) : CallsA Try.prog 109 [.yield 11, .ptr 8 0 0, .ptr 9 0 0] (S68 d 0 .ready) fun r σ' => r = .ret (.tuple []) ∧ σ' = S68 d (d.nk).length .ready := by
  have hl : d.nk.length < 60000 := by have := h.nkl; have := h.nb; omega
  have hv := h.nl
  refine CallsA.start F109 (tm := mk (Try.f109.ntmps) [(0, .yield 11), (1, .ptr 8 0 0), (2, .ptr 9 0 0)]) (by kernel_rfl) ?_
  refine .seg 11 [0, 1, 2, 10] (T' := cgo 11 [false] [.code B109]) (tm' := mk 43 [(0, V.yield 11), (1, .ptr 8 0 0), (2, .ptr 9 0 0), (10, .fn (Fn.func 98) [] [])]) (σ' := (SP 1 2 d false [.cells [.ptr 0 0 0], .cells [.d (.int .i64 (↑(d.acc 0) : Int))], .cells [.ptr 2 0 0], .cells [.fn (Fn.func 98) [] []], .defd, lp (cgo 26 [true] [.code B68]) 68 (mk 27 [(1, .ptr 6 0 0), (2, .d (.int .i64 0)), (3, .ptr 7 0 0), (12, .fn (Fn.func 109) [] [.ptr 8 0 0, .ptr 9 0 0])]) LoopState.ready])) (by kernel_rfl) ?_
  refine .semH (o := (opOf (cgo 11 [false] [Item.code B109])).getD default) (v := V.d (D.int IntKind.i64 0)) (σ' := (SP 1 2 d false [.cells [.ptr 0 0 0], .cells [.d (.int .i64 (↑(d.acc 0) : Int))], .cells [.ptr 2 0 0], .cells [.fn (Fn.func 98) [] []], .defd, lp (cgo 26 [true] [Item.code B68]) 68 (mk 27 [(1, .ptr 6 0 0), (2, .d (.int .i64 0)), (3, .ptr 7 0 0), (12, .fn (Fn.func 109) [] [.ptr 8 0 0, .ptr 9 0 0])]) LoopState.ready])) (by kernel_rfl) (by kernel_rfl) (T' := cgo 12 [false] [Item.code B109]) (by kernel_rfl) (fun kz => sem_data0 (x := (.tmp 10)) (args := #[]) (ts := #[]) (first := []) (cap := []) (ds := []) (v := V.d (D.int IntKind.i64 0)) F98 (@spec_98) (by kernel_rfl) (by kernel_rfl) (by kernel_rfl) (by kernel_rfl) (by kernel_rfl) (by kernel_rfl) _) ?_
  refine .seg 3 [0, 1, 4] (T' := cgo 15 [false] [.code B109]) (tm' := mk 43 [(0, V.yield 11), (1, .ptr 8 0 0), (4, .d (.int .i64 0))]) (σ' := (SP 1 2 d false [.cells [.ptr 0 0 0], .cells [.d (.int .i64 (↑(d.acc 0) : Int))], .cells [.ptr 2 0 0], .cells [.fn (Fn.func 98) [] []], .defd, lp (cgo 26 [true] [.code B68]) 68 (mk 27 [(1, .ptr 6 0 0), (2, .d (.int .i64 0)), (3, .ptr 7 0 0), (12, .fn (Fn.func 109) [] [.ptr 8 0 0, .ptr 9 0 0])]) LoopState.ready])) (by kernel_rfl) ?_
  refine .drawF (T' := cgo 16 [false] [.code B109]) (tm' := mk 43 [(0, V.yield 11), (1, .ptr 8 0 0), (4, .d (.int .i64 0)), (5, .d (.list 1 (List.take ((List.map strD d.nk).length - 0) (List.drop 0 (List.map strD d.nk))))), (6, .d (.list 1 (List.take ((List.map intD d.nv).length - 0) (List.drop 0 (List.map intD d.nv))))), (12, .ptr 2 0 0), (13, .ptr 2 0 0), (14, .ptr 2 0 0), (15, .row 3), (16, .d (.int .i64 0)), (17, V.sl 3 0 ((List.map strD d.nk).length - 0) none), (18, .d (.list 1 (List.take ((List.map strD d.nk).length - 0) (List.drop 0 (List.map strD d.nk))))), (19, .ptr 2 0 0), (20, .ptr 2 0 0), (21, .ptr 2 0 1), (22, .row 4), (23, .d (.int .i64 0)), (24, V.sl 4 0 ((List.map intD d.nv).length - 0) none), (25, .d (.list 1 (List.take ((List.map intD d.nv).length - 0) (List.drop 0 (List.map intD d.nv)))))]) (σ' := (SP 1 2 d false [.cells [.ptr 0 0 0], .cells [.d (.int .i64 (↑(d.acc 0) : Int))], .cells [.ptr 2 0 0], .cells [.fn (Fn.func 98) [] []], .defd, lp (cgo 26 [true] [.code B68]) 68 (mk 27 [(1, .ptr 6 0 0), (2, .d (.int .i64 0)), (3, .ptr 7 0 0), (12, .fn (Fn.func 109) [] [.ptr 8 0 0, .ptr 9 0 0])]) LoopState.ready])) (by kernel_rfl) (by kernel_rfl) (by kernel_rfl) (by kernel_rfl) (fun kz L hL => ?_) ?_
  · refine ⟨[⟨[8], [], [], [2], [8, 2], [], true, false⟩, ⟨[], [], [], [2], [2], [2], true, false⟩, ⟨[], [], [], [2], [2], [2], true, false⟩, ⟨[2], [], [], [3], [2, 3, 4], [], true, false⟩, ⟨[], [], [], [], [], [], true, false⟩, ⟨[3], [], [], [3], [3], [], true, false⟩, ⟨[3], [3], [], [], [3], [], true, false⟩, ⟨[8], [], [], [2], [8, 2], [], true, false⟩, ⟨[], [], [], [2], [2], [2], true, false⟩, ⟨[], [], [], [2], [2], [2], true, false⟩, ⟨[2], [], [], [4], [2, 3, 4], [], true, false⟩, ⟨[], [], [], [], [], [], true, false⟩, ⟨[4], [], [], [4], [4], [], true, false⟩, ⟨[4], [], [], [], [4], [], true, false⟩, ⟨[], [], [], [], [], [], true, false⟩, ⟨[], [], [], [], [], [], true, false⟩], run_amongF hL _ [] [0, 1, 2, 3, 4, 5, 7, 8, 9, 10, 11, 12, 6, 13, 14, 15] (by intro p hp; cases hp) (by kernel_rfl) ?_⟩
    refine Run.append (A := [0, 1, 2, 3, 4]) (srunF_ok (tm' := mk 43 [(0, V.yield 11), (1, .ptr 8 0 0), (4, .d (.int .i64 0)), (12, .ptr 2 0 0), (13, .ptr 2 0 0), (14, .ptr 2 0 0), (15, .row 3), (16, .d (.int .i64 0))]) (σ' := (SP 1 2 d false [.cells [.ptr 0 0 0], .cells [.d (.int .i64 (↑(d.acc 0) : Int))], .cells [.ptr 2 0 0], .cells [.fn (Fn.func 98) [] []], .defd, lp (cgo 26 [true] [Item.code B68]) 68 (mk 27 [(1, .ptr 6 0 0), (2, .d (.int .i64 0)), (3, .ptr 7 0 0), (12, .fn (Fn.func 109) [] [.ptr 8 0 0, .ptr 9 0 0])]) LoopState.ready])) (by kernel_rfl)) ?_
    refine Run.one (StepF.look (o := ((drawOf (cgo 15 [false] [.code B109]))[5]?).getD default) (v := V.sl 3 0 ((List.map strD d.nk).length - 0) none) [(.tmp 15), (.tmp 16)] (by kernel_rfl) rfl (by kernel_rfl) (by kernel_rfl) (by kernel_rfl) (by kernel_rfl) (by kernel_rfl) (fun tm' σ2 hv hr => slRow_ok (t := 66) (x := (.tmp 15)) (lo := (some (.tmp 16))) (hi := none) (lc := 3) (sz := 1) (xs := List.map strD d.nk) (mv := false) (0) ((List.map strD d.nk).length) (by kernel_rfl) (by rw [hv _ (by simp)]; kernel_rfl) ((hr _ (inK_iff.1 (by kernel_rfl))).trans (by kernel_rfl)) (by kernel_rfl) (bnd_some (k := IntKind.i64) (i := 0) (by rw [hv _ (by simp)]; kernel_rfl) (by omega) (by rfl)) rfl (by omega) (by omega))) ?_
    refine Run.asP (tm' := mk 43 [(0, V.yield 11), (1, .ptr 8 0 0), (4, .d (.int .i64 0)), (12, .ptr 2 0 0), (13, .ptr 2 0 0), (14, .ptr 2 0 0), (15, .row 3), (16, .d (.int .i64 0)), (17, V.sl 3 0 ((List.map strD d.nk).length - 0) none)]) (σ' := (SP 1 2 d false [.cells [.ptr 0 0 0], .cells [.d (.int .i64 (↑(d.acc 0) : Int))], .cells [.ptr 2 0 0], .cells [.fn (Fn.func 98) [] []], .defd, lp (cgo 26 [true] [.code B68]) 68 (mk 27 [(1, .ptr 6 0 0), (2, .d (.int .i64 0)), (3, .ptr 7 0 0), (12, .fn (Fn.func 109) [] [.ptr 8 0 0, .ptr 9 0 0])]) LoopState.ready])) (by kernel_rfl) (by kernel_rfl) ?_
    refine Run.append (A := [7, 8, 9, 10, 11]) (srunF_ok (tm' := mk 43 [(0, V.yield 11), (1, .ptr 8 0 0), (4, .d (.int .i64 0)), (12, .ptr 2 0 0), (13, .ptr 2 0 0), (14, .ptr 2 0 0), (15, .row 3), (16, .d (.int .i64 0)), (17, V.sl 3 0 ((List.map strD d.nk).length - 0) none), (19, .ptr 2 0 0), (20, .ptr 2 0 0), (21, .ptr 2 0 1), (22, .row 4), (23, .d (.int .i64 0))]) (σ' := (SP 1 2 d false [.cells [.ptr 0 0 0], .cells [.d (.int .i64 (↑(d.acc 0) : Int))], .cells [.ptr 2 0 0], .cells [.fn (Fn.func 98) [] []], .defd, lp (cgo 26 [true] [Item.code B68]) 68 (mk 27 [(1, .ptr 6 0 0), (2, .d (.int .i64 0)), (3, .ptr 7 0 0), (12, .fn (Fn.func 109) [] [.ptr 8 0 0, .ptr 9 0 0])]) LoopState.ready])) (by kernel_rfl)) ?_
    refine Run.one (StepF.look (o := ((drawOf (cgo 15 [false] [.code B109]))[12]?).getD default) (v := V.sl 4 0 ((List.map intD d.nv).length - 0) none) [(.tmp 22), (.tmp 23)] (by kernel_rfl) rfl (by kernel_rfl) (by kernel_rfl) (by kernel_rfl) (by kernel_rfl) (by kernel_rfl) (fun tm' σ2 hv hr => slRow_ok (t := 46) (x := (.tmp 22)) (lo := (some (.tmp 23))) (hi := none) (lc := 4) (sz := 1) (xs := List.map intD d.nv) (mv := false) (0) ((List.map intD d.nv).length) (by kernel_rfl) (by rw [hv _ (by simp)]; kernel_rfl) ((hr _ (inK_iff.1 (by kernel_rfl))).trans (by kernel_rfl)) (by kernel_rfl) (bnd_some (k := IntKind.i64) (i := 0) (by rw [hv _ (by simp)]; kernel_rfl) (by omega) (by rfl)) rfl (by omega) (by omega))) ?_
    refine Run.asP (tm' := mk 43 [(0, V.yield 11), (1, .ptr 8 0 0), (4, .d (.int .i64 0)), (12, .ptr 2 0 0), (13, .ptr 2 0 0), (14, .ptr 2 0 0), (15, .row 3), (16, .d (.int .i64 0)), (17, V.sl 3 0 ((List.map strD d.nk).length - 0) none), (19, .ptr 2 0 0), (20, .ptr 2 0 0), (21, .ptr 2 0 1), (22, .row 4), (23, .d (.int .i64 0)), (24, V.sl 4 0 ((List.map intD d.nv).length - 0) none)]) (σ' := (SP 1 2 d false [.cells [.ptr 0 0 0], .cells [.d (.int .i64 (↑(d.acc 0) : Int))], .cells [.ptr 2 0 0], .cells [.fn (Fn.func 98) [] []], .defd, lp (cgo 26 [true] [.code B68]) 68 (mk 27 [(1, .ptr 6 0 0), (2, .d (.int .i64 0)), (3, .ptr 7 0 0), (12, .fn (Fn.func 109) [] [.ptr 8 0 0, .ptr 9 0 0])]) LoopState.ready])) (by kernel_rfl) (by kernel_rfl) ?_
    refine Run.one (StepF.call (o := ((drawOf (cgo 15 [false] [.code B109]))[6]?).getD default) (x := (.func 110)) (args := #[(.tmp 17)]) (ts := #[66]) (first := []) (cap := []) [3] [V.sl 0 0 ((List.map strD d.nk).length - 0) none] [.row 1 (List.map strD d.nk) false] [.row 1 (List.map strD d.nk) false] (v := .d (.list 1 (List.take ((List.map strD d.nk).length - 0) (List.drop 0 (List.map strD d.nk))))) (tm' := mk 43 [(0, V.yield 11), (1, .ptr 8 0 0), (4, .d (.int .i64 0)), (12, .ptr 2 0 0), (13, .ptr 2 0 0), (14, .ptr 2 0 0), (15, .row 3), (16, .d (.int .i64 0)), (17, V.sl 3 0 ((List.map strD d.nk).length - 0) none), (18, .d (.list 1 (List.take ((List.map strD d.nk).length - 0) (List.drop 0 (List.map strD d.nk))))), (19, .ptr 2 0 0), (20, .ptr 2 0 0), (21, .ptr 2 0 1), (22, .row 4), (23, .d (.int .i64 0)), (24, V.sl 4 0 ((List.map intD d.nv).length - 0) none)]) (σ' := (SP 1 2 d false [.cells [.ptr 0 0 0], .cells [.d (.int .i64 (↑(d.acc 0) : Int))], .cells [.ptr 2 0 0], .cells [.fn (Fn.func 98) [] []], .defd, lp (cgo 26 [true] [.code B68]) 68 (mk 27 [(1, .ptr 6 0 0), (2, .d (.int .i64 0)), (3, .ptr 7 0 0), (12, .fn (Fn.func 109) [] [.ptr 8 0 0, .ptr 9 0 0])]) LoopState.ready])) (by kernel_rfl) rfl (by kernel_rfl) (by kernel_rfl) F110 (@spec_110b (List.map strD d.nk) (0) ((List.map strD d.nk).length - 0) (none) (by omega) (by simp <;> omega)) (by kernel_rfl) (by kernel_rfl) (by kernel_rfl) (by kernel_rfl) ⟨rfl, rfl, by kernel_rfl⟩ (by kernel_rfl) (by kernel_rfl) (by kernel_rfl) (by kernel_rfl) (by kernel_rfl) (by kernel_rfl) (by kernel_rfl)) ?_
    refine Run.asP (tm' := mk 43 [(0, V.yield 11), (1, .ptr 8 0 0), (4, .d (.int .i64 0)), (12, .ptr 2 0 0), (13, .ptr 2 0 0), (14, .ptr 2 0 0), (15, .row 3), (16, .d (.int .i64 0)), (17, V.sl 3 0 ((List.map strD d.nk).length - 0) none), (18, .d (.list 1 (List.take ((List.map strD d.nk).length - 0) (List.drop 0 (List.map strD d.nk))))), (19, .ptr 2 0 0), (20, .ptr 2 0 0), (21, .ptr 2 0 1), (22, .row 4), (23, .d (.int .i64 0)), (24, V.sl 4 0 ((List.map intD d.nv).length - 0) none)]) (σ' := (SP 1 2 d false [.cells [.ptr 0 0 0], .cells [.d (.int .i64 (↑(d.acc 0) : Int))], .cells [.ptr 2 0 0], .cells [.fn (Fn.func 98) [] []], .defd, lp (cgo 26 [true] [.code B68]) 68 (mk 27 [(1, .ptr 6 0 0), (2, .d (.int .i64 0)), (3, .ptr 7 0 0), (12, .fn (Fn.func 109) [] [.ptr 8 0 0, .ptr 9 0 0])]) LoopState.ready])) (by kernel_rfl) (by kernel_rfl) ?_
    refine Run.one (StepF.callLook (o := ((drawOf (cgo 15 [false] [.code B109]))[13]?).getD default) (x := (.func 111)) (args := #[(.tmp 24)]) (ts := #[46]) (first := []) (cap := []) [4] [V.sl 0 0 ((List.map intD d.nv).length - 0) none] [.row 1 (List.map intD d.nv) false] (v := .d (.list 1 (List.take ((List.map intD d.nv).length - 0) (List.drop 0 (List.map intD d.nv))))) (by kernel_rfl) rfl (by kernel_rfl) (by kernel_rfl) F111 (@spec_111b (List.map intD d.nv) (0) ((List.map intD d.nv).length - 0) (none) (by omega) (by simp <;> omega)) (by kernel_rfl) (by kernel_rfl) (by kernel_rfl) (by kernel_rfl) ⟨rfl, rfl, by kernel_rfl⟩ (by kernel_rfl) (by kernel_rfl) (by kernel_rfl) (by kernel_rfl) (by kernel_rfl)) ?_
    refine Run.asP (tm' := mk 43 [(0, V.yield 11), (1, .ptr 8 0 0), (4, .d (.int .i64 0)), (12, .ptr 2 0 0), (13, .ptr 2 0 0), (14, .ptr 2 0 0), (15, .row 3), (16, .d (.int .i64 0)), (17, V.sl 3 0 ((List.map strD d.nk).length - 0) none), (18, .d (.list 1 (List.take ((List.map strD d.nk).length - 0) (List.drop 0 (List.map strD d.nk))))), (19, .ptr 2 0 0), (20, .ptr 2 0 0), (21, .ptr 2 0 1), (22, .row 4), (23, .d (.int .i64 0)), (24, V.sl 4 0 ((List.map intD d.nv).length - 0) none), (25, .d (.list 1 (List.take ((List.map intD d.nv).length - 0) (List.drop 0 (List.map intD d.nv)))))]) (σ' := (SP 1 2 d false [.cells [.ptr 0 0 0], .cells [.d (.int .i64 (↑(d.acc 0) : Int))], .cells [.ptr 2 0 0], .cells [.fn (Fn.func 98) [] []], .defd, lp (cgo 26 [true] [.code B68]) 68 (mk 27 [(1, .ptr 6 0 0), (2, .d (.int .i64 0)), (3, .ptr 7 0 0), (12, .fn (Fn.func 109) [] [.ptr 8 0 0, .ptr 9 0 0])]) LoopState.ready])) (by kernel_rfl) (by kernel_rfl) ?_
    exact srunF_ok (by kernel_rfl)
  refine .seg 7 [0, 5, 6, 27, 28] (T' := cgo 23 [false] [.code B109]) (tm' := mk 43 [(0, V.yield 11), (5, .d (.list 1 (List.take ((List.map strD d.nk).length - 0) (List.drop 0 (List.map strD d.nk))))), (6, .d (.list 1 (List.take ((List.map intD d.nv).length - 0) (List.drop 0 (List.map intD d.nv))))), (27, .d (.int .i64 (↑(List.take ((List.map strD d.nk).length - 0) (List.drop 0 (List.map strD d.nk))).length : Int))), (28, .d (.int .i64 0))]) (σ' := (SP 1 2 d false [.cells [.ptr 0 0 0], .cells [.d (.int .i64 (↑(d.acc 0) : Int))], .cells [.ptr 2 0 0], .cells [.fn (Fn.func 98) [] []], .defd, lp (cgo 26 [true] [.code B68]) 68 (mk 27 [(1, .ptr 6 0 0), (2, .d (.int .i64 0)), (3, .ptr 7 0 0), (12, .fn (Fn.func 109) [] [.ptr 8 0 0, .ptr 9 0 0])]) LoopState.ready])) (by kernel_rfl) ?_
  simp only [List.length_map]
  -- STOP: code Go.Code.loop at 23
  rw [show List.take ((d.nk).length - 0) (List.drop 0 (List.map strD (d.nk))) = List.map strD (d.nk) by rw [Nat.sub_zero, List.drop_zero, List.take_of_length_le (by simp)], show List.take ((d.nv).length - 0) (List.drop 0 (List.map intD (d.nv))) = List.map intD (d.nv) by rw [Nat.sub_zero, List.drop_zero, List.take_of_length_le (by simp)], List.length_map]
  exact .seg 1 [0, 5, 6, 27, 28] (by kernel_rfl) (lo68 d N h hl hv (d.nk).length 0 (by omega))

theorem spec_68 (d : Dk) (N : Nat) (h : d.Ok N) :
    CallsA Try.prog 68 [.ptr 0 0 0] (SD d false) fun r σ' => r = .ret (.d (.int .i64 (d.used : Nat))) ∧ σ' = SD d false := by
  refine CallsA.start F68 (tm := mk (Try.f68.ntmps) [(0, .ptr 0 0 0)]) (by kernel_rfl) ?_
  refine .seg 23 [1, 2, 3, 8, 9, 10, 11] (T' := cgo 23 [true] [.code B68]) (tm' := mk 27 [(1, .ptr 6 0 0), (2, .d (.int .i64 0)), (3, .ptr 7 0 0), (8, .ptr 0 0 0), (9, .ptr 0 0 0), (10, .ptr 0 0 1), (11, .ptr 2 0 0)]) (σ' := (SP 1 2 d false [.cells [.ptr 0 0 0], .cells [.d (.int .i64 0)]])) (by kernel_rfl) ?_
  refine .callH (o := (opOf (cgo 23 [true] [.code B68])).getD default) (x := (.func 72)) (args := #[(.tmp 11)]) (ts := #[102]) (first := []) (cap := []) [2, 3, 4] [.ptr 0 0 0] [.cells [.row 1, .row 2], .row 1 (List.map strD d.nk) false, .row 1 (List.map intD d.nv) false] F72 (@spec_72 (List.map strD d.nk) (List.map intD d.nv)) (by kernel_rfl) (by kernel_rfl) (T' := cgo 24 [true] [.code B68]) (by kernel_rfl) (by kernel_rfl) (by kernel_rfl) (by kernel_rfl) (by kernel_rfl) ⟨rfl, rfl, by kernel_rfl⟩ ?_
  rintro r0 s0 ⟨rfl, rfl⟩
  refine ⟨_, rfl, ?_⟩
  refine .seg 2 [1, 2, 3, 12] (T' := cgo 26 [true] [.code B68]) (tm' := mk 27 [(1, .ptr 6 0 0), (2, .d (.int .i64 0)), (3, .ptr 7 0 0), (12, .fn (Fn.func 109) [] [.ptr 8 0 0, .ptr 9 0 0])]) (σ' := (SP 1 2 d false [.cells [.ptr 0 0 0], .cells [.d (.int .i64 0)], .cells [.ptr 2 0 0], .cells [.fn (Fn.func 98) [] []]])) (by kernel_rfl) ?_
  -- STOP: range over V.fn (Fn.func 109) [] [V.ptr 8 0 0, V.ptr 9 0 0] at cgo 26 [true] [Item.code B68]
  -- slots mk 27 [(1, V.ptr 6 0 0), (2, V.d (D.int IntKind.i64 0)), (3, V.ptr 7 0 0), (12, V.fn (Fn.func 109) [] [V.ptr 8 0 0, V.ptr 9 0 0])]
  -- store [O.cells [V.row 1, V.ptr 2 0 0, V.ep 2 (D.agg [D.list 1 (List.map strD d.sk), D.list 1 (List.map intD d.sv)]) 0, V.row 5, V.d (D.int IntKind.i64 d.quota), V.d (D.bool d.full), V.d (D.bool d.off), V.d (D.int IntKind.i64 d.stop), V.d (D.int IntKind.i64 d.calls)], O.row 2 (List.map fileD d.files) false, O.cells [V.row 3, V.row 4], O.row 1 (List.map strD d.nk) false, O.row 1 (List.map intD d.nv) false, O.row 3 (List.map chD d.ch) false, O.cells [V.ptr 0 0 0], O.cells [V.d (D.int IntKind.i64 0)], O.cells [V.ptr 2 0 0], O.cells [V.fn (Fn.func 98) [] []]]
  refine .rangeH (first := []) (cap := [.ptr 8 0 0, .ptr 9 0 0]) (List.range 12) [.yield 11, .ptr 8 0 0, .ptr 9 0 0] (S68 d 0 .ready) F109 (by kernel_rfl) (T' := cgo 27 [true] [Item.code B68]) (by kernel_rfl) (by kernel_rfl) (it68 d N h) (by kernel_rfl) (by kernel_rfl) (by refine ⟨rfl, by kernel_rfl, ?_⟩; kernel_rfl) ?_
  rintro r σc' ⟨rfl, rfl⟩
  refine ⟨.tuple [], .ready, (mk 27 [(1, V.ptr 6 0 0), (2, V.d (D.int IntKind.i64 0)), (3, V.ptr 7 0 0), (12, V.fn (Fn.func 109) [] [V.ptr 8 0 0, V.ptr 9 0 0])]), rfPs (cgo 26 [true] [Item.code B68]), rfAs (cgo 26 [true] [Item.code B68]), rfBd (cgo 26 [true] [Item.code B68]), 68, rfl, by simp, by kernel_rfl, ?_⟩
  have e1 : d.acc d.nk.length = d.used := by unfold Dk.acc Dk.used; rw [← h.nl, List.take_length]
  refine .seg 6 [2] (T' := cgo 33 [true] [.code B68]) (tm' := mk 27 [(2, .d (.int .i64 (↑(d.acc d.nk.length) : Int)))]) (σ' := (SP 1 2 d false [.cells [.ptr 0 0 0], .cells [.d (.int .i64 (↑(d.acc d.nk.length) : Int))], .cells [.ptr 2 0 0], .cells [.fn (Fn.func 98) [] []], .defd, lp (cgo 26 [true] [.code B68]) 68 (mk 27 [(1, .ptr 6 0 0), (2, .d (.int .i64 0)), (3, .ptr 7 0 0), (12, .fn (Fn.func 109) [] [.ptr 8 0 0, .ptr 9 0 0])]) LoopState.exhausted])) (by kernel_rfl) ?_
  refine .retX (v := V.d (D.int IntKind.i64 (↑(d.acc d.nk.length) : Int))) [0, 1, 2, 3, 4, 5] (V.d (D.int IntKind.i64 (↑(d.acc d.nk.length) : Int))) F68 (by kernel_rfl) ⟨by kernel_rfl, by kernel_rfl⟩ (σ1 := (SP 1 2 d false [O.cells [V.ptr 0 0 0], O.cells [V.d (D.int IntKind.i64 (↑(d.acc d.nk.length) : Int))], O.cells [V.ptr 2 0 0], O.cells [V.fn (Fn.func 98) [] []], O.dead, lp (cgo 26 [true] [Item.code B68]) 68 (mk 27 [(1, V.ptr 6 0 0), (2, V.d (D.int IntKind.i64 0)), (3, V.ptr 7 0 0), (12, V.fn (Fn.func 109) [] [V.ptr 8 0 0, V.ptr 9 0 0])]) LoopState.exhausted])) (by kernel_rfl) (by kernel_rfl) (σ2 := (SP 1 2 d false [])) ⟨rfl, rfl, by kernel_rfl⟩ (by kernel_rfl) ⟨Nat.le_of_ble_eq_true (by kernel_rfl), by kernel_rfl⟩ (by kernel_rfl) ?_
  simp_all [SD, dirD]
end Go.Proofs.Ytoelkgbeefoplaa

