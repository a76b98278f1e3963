/- Part 15 of this proof. -/
import Derived.Test.YtoelkgbeefoplaaM14
set_option linter.unusedSimpArgs false
set_option linter.unusedVariables false
set_option linter.constructorNameAsVariable false
namespace Go.Proofs.Ytoelkgbeefoplaa
open Go Go.Br Go.Proofs
open List (map)
def qF3 : List FP := [nF, fA 3, fR 3, nF, fA 3, fR 3, nF, nF, nF, nF, nF, nF, nF, fA 6, fR 6, nF, nF, nF]
theorem lo79d (d : Rk) (N : Nat) (h : d.Ok N) (dir : Int) (keep : List Int) (hk : keep.length < 1000000000) (hk0 : 0 < keep.length) (l l' : List (ByteArray × Int)) (i : Nat) (hi : i < d.files.length) (fs : List (List UInt8 × Nat)) (f : List UInt8 × Nat) (hf1 : f.2 ≤ f.1.length) (hf2 : f.1.length ≤ 1048576)
    (v : Int) (hw : keep[(irem (i : Int) ((List.map intD keep).length : Int)).toNat]? = some v) (B : Nat) (hB : B = (min v ((f.1.length : Int) - f.2)).toNat) (Q : AE → Store → Prop)
    (hnext : AW Try.prog 79 none 3 (G79 130 [false, true, false, false, true, false]) (mk 133 [(0, .ptr 0 0 0), (3, .ptr 3 0 0), (4, .d (.list 2 (l.map nmD))), (7, .row 5), (8, .row 4), (10, .ptr 6 0 0), (14, .d (.int .i64 ((f.2 + B : Nat) : Int))), (44, .row 1), (45, .d (.int .i64 (d.files.length : Nat))), (46, .d (.int .i64 (i : Nat)))]) (S79c d dir keep l' fs f) [] Q) : ∀ (m x : Nat), x + m = B →
    AW Try.prog 79 none 3 (G79 125 [false, true, false, false, true]) (mk 133 [(0, .ptr 0 0 0), (3, .ptr 3 0 0), (4, .d (.list 2 (l.map nmD))), (7, .row 5), (8, .row 4), (9, .d (.int .i64 (i : Nat))), (10, .ptr 6 0 0), (14, .d (.int .i64 ((f.2 + x : Nat) : Int))), (15, .d (.int .i64 (x : Nat))), (44, .row 1), (45, .d (.int .i64 (d.files.length : Nat))), (46, .d (.int .i64 (i : Nat)))]) (S79c d dir keep l' fs f) [] Q := by
  have q1 := h.fl
  have q2 := h.nb
  have hq := irem_n i keep.length
  have hlt : i % keep.length < keep.length := Nat.mod_lt _ hk0
  intro m
  induction m with
  | zero =>
    intro x hx
    have hx : x = B := by omega
    subst hx
    by_cases hg : decide ((x : Int) < v) = true
    · have hx2 : ¬ f.2 + x < f.1.length := by simp only [decide_eq_true_eq] at hg; omega
      have hx3 : (List.map u8 f.1).length = f.1.length := by simp
      refine .sg0 2 [0, 3, 4, 7, 8, 9, 10, 14, 15, 44, 45, 46] (G79 127 [false, true, false, false, true]) [] ?_
      refine .dr (G79 128 [false, true, false, false, true]) [(77, .d (.int .i64 (↑x : Int))), (78, .ptr 3 0 1), (79, .d (.list 1 (map intD keep))), (80, .d (.int .i64 (↑i : Int))), (81, .ptr 3 0 1), (82, .d (.list 1 (map intD keep))), (83, .d (.int .i64 (↑(map intD keep).length : Int))), (84, .d (.int .i64 (irem (↑i : Int) (↑(map intD keep).length : Int)))), (85, .ep 1 (D.int IntKind.i64 v) 0), (86, .d (.int .i64 v)), (87, .d (.bool true)), (88, .d (.bool true)), (89, .d (.int .i64 (↑(f.snd + x) : Int))), (90, .ptr 6 0 0), (91, .d (.list 1 (map u8 f.fst))), (92, .d (.int .i64 (↑(map u8 f.fst).length : Int))), (93, .d (.bool (decide ((↑(f.snd + x) : Int) < (↑(map u8 f.fst).length : Int))))), (94, .d (.bool (decide ((↑(f.snd + x) : Int) < (↑(map u8 f.fst).length : Int)))))] [] (fun kz L hL => ?_) ?_
      · refine ⟨qF3, run_amongF hL _ [] [0, 1, 2, 3, 4, 5, 6, 7, 8, 9, 10, 11, 12, 13, 14, 15, 16, 17] (by intro p hp; cases hp) (by kernel_rfl) ?_⟩
        refine Run.ap [0, 1, 2, 3, 4, 5, 6] [(77, .d (.int .i64 (↑x : Int))), (78, .ptr 3 0 1), (79, .d (.list 1 (map intD keep))), (80, .d (.int .i64 (↑i : Int))), (81, .ptr 3 0 1), (82, .d (.list 1 (map intD keep))), (83, .d (.int .i64 (↑(map intD keep).length : Int)))] [] ?_
        refine Run.lk 7 (.d (.int .i64 (irem (↑i : Int) (↑(map intD keep).length : Int)))) [(.tmp 80), (.tmp 83)] (fun tm' σ2 hv hr => rem_ok (t := 3) (ty := 3) (x := (.tmp 80)) (y := (.tmp 83)) (k := IntKind.i64) (a := (↑i : Int)) (b := (↑(map intD keep).length : Int)) (by kernel_rfl) (evv hv) (evv hv) (by grind)) ?_
        refine Run.lk 8 (.ep 1 (D.int IntKind.i64 v) 0) [(.tmp 79), (.tmp 84)] (fun tm' σ2 hv hr => ixData_ok (t := 46) (x := (.tmp 79)) (i := (.tmp 84)) (k := IntKind.i64) (n := irem (↑i : Int) (↑(map intD keep).length : Int)) (sz := 1) (xs := map intD keep) (d := intD v) (by kernel_rfl) (evl hv) (evv hv) (by kernel_rfl) (by simp <;> omega) (map_get hw)) ?_
        refine Run.append (A := [9, 10]) (srunF_ok (tm' := mk 133 [(0, .ptr 0 0 0), (3, .ptr 3 0 0), (4, .d (.list 2 (map nmD l))), (7, .row 5), (8, .row 4), (9, .d (.int .i64 (↑i : Int))), (10, .ptr 6 0 0), (14, .d (.int .i64 (↑(f.snd + x) : Int))), (15, .d (.int .i64 (↑x : Int))), (44, .row 1), (45, .d (.int .i64 (↑d.files.length : Int))), (46, .d (.int .i64 (↑i : Int))), (77, .d (.int .i64 (↑x : Int))), (78, .ptr 3 0 1), (79, .d (.list 1 (map intD keep))), (80, .d (.int .i64 (↑i : Int))), (81, .ptr 3 0 1), (82, .d (.list 1 (map intD keep))), (83, .d (.int .i64 (↑(map intD keep).length : Int))), (84, .d (.int .i64 (irem (↑i : Int) (↑(map intD keep).length : Int)))), (85, .ep 1 (D.int IntKind.i64 v) 0), (86, .d (.int .i64 v)), (87, .d (.bool (decide ((↑x : Int) < v))))]) (σ' := (SQ d false [.cells [.d (.int .i64 dir), .d (.list 1 (map intD keep))], .row 2 (map nmD l') true, .row 2 (map fileD fs) true, .cells [.d (.list 1 (map u8 f.fst)), .d (.int .i64 (↑f.snd : Int))]])) (by kernel_rfl)) ?_
        rw [hg]
        exact Run.fin
      refine .if' (decide ((↑(f.snd + x) : Int) < (↑(map u8 f.fst).length : Int))) (G79 129 [false, true, false, false, true, true]) (G79 129 [false, true, false, false, true, false]) (fun h1 => ?_) (fun h1 => ?_)
      · simp only [bsX] at h1
        omega
      · simp only [bsX] at h1
        refine .seg 1 [0, 3, 4, 7, 8, 9, 10, 14, 15, 44, 45, 46, 77, 78, 79, 80, 81, 82, 83, 84, 85, 86, 87, 88, 89, 90, 91, 92, 93, 94] (T' := cgo 130 [false, true, false, false, true, false] [.code B79]) (tm' := mk 133 [(0, .ptr 0 0 0), (3, .ptr 3 0 0), (4, .d (.list 2 (map nmD l))), (7, .row 5), (8, .row 4), (9, .d (.int .i64 (↑i : Int))), (10, .ptr 6 0 0), (14, .d (.int .i64 (↑(f.snd + x) : Int))), (15, .d (.int .i64 (↑x : Int))), (44, .row 1), (45, .d (.int .i64 (↑d.files.length : Int))), (46, .d (.int .i64 (↑i : Int))), (77, .d (.int .i64 (↑x : Int))), (78, .ptr 3 0 1), (79, .d (.list 1 (map intD keep))), (80, .d (.int .i64 (↑i : Int))), (81, .ptr 3 0 1), (82, .d (.list 1 (map intD keep))), (83, .d (.int .i64 (↑(map intD keep).length : Int))), (84, .d (.int .i64 (irem (↑i : Int) (↑(map intD keep).length : Int)))), (85, .ep 1 (D.int IntKind.i64 v) 0), (86, .d (.int .i64 v)), (87, .d (.bool true)), (88, .d (.bool true)), (89, .d (.int .i64 (↑(f.snd + x) : Int))), (90, .ptr 6 0 0), (91, .d (.list 1 (map u8 f.fst))), (92, .d (.int .i64 (↑(map u8 f.fst).length : Int))), (93, .d (.bool (decide ((↑(f.snd + x) : Int) < (↑(map u8 f.fst).length : Int))))), (94, .d (.bool (decide ((↑(f.snd + x) : Int) < (↑(map u8 f.fst).length : Int)))))]) (σ' := (SQ d false [.cells [.d (.int .i64 dir), .d (.list 1 (map intD keep))], .row 2 (map nmD l') true, .row 2 (map fileD fs) true, .cells [.d (.list 1 (map u8 f.fst)), .d (.int .i64 (↑f.snd : Int))]])) (by kernel_rfl) ?_
        simp only [List.length_map]
        simp (disch := omega) only [bsW]
        exact .seg 0 [0, 3, 4, 7, 8, 10, 14, 44, 45, 46] (by kernel_rfl) hnext
    · have hg : decide ((x : Int) < v) = false := by simpa using hg
      refine .sg0 2 [0, 3, 4, 7, 8, 9, 10, 14, 15, 44, 45, 46] (G79 127 [false, true, false, false, true]) [] ?_
      refine .dr (G79 128 [false, true, false, false, true]) [(77, .d (.int .i64 (↑x : Int))), (78, .ptr 3 0 1), (79, .d (.list 1 (map intD keep))), (80, .d (.int .i64 (↑i : Int))), (81, .ptr 3 0 1), (82, .d (.list 1 (map intD keep))), (83, .d (.int .i64 (↑(map intD keep).length : Int))), (84, .d (.int .i64 (irem (↑i : Int) (↑(map intD keep).length : Int)))), (85, .ep 1 (D.int IntKind.i64 v) 0), (86, .d (.int .i64 v)), (87, .d (.bool false)), (88, .d (.bool false)), (89, .tuple []), (90, .tuple []), (91, .tuple []), (92, .tuple []), (93, .tuple []), (94, .d (.bool false))] [] (fun kz L hL => ?_) ?_
      · refine ⟨[nF, fA 3, fR 3, nF, fA 3, fR 3, nF, nF, nF, nF, nF, nF, nF, nF, nF, nF, nF, nF], run_amongF hL _ [] [0, 1, 2, 3, 4, 5, 6, 7, 8, 9, 10, 11, 12, 13, 14, 15, 16, 17] (by intro p hp; cases hp) (by kernel_rfl) ?_⟩
        refine Run.ap [0, 1, 2, 3, 4, 5, 6] [(77, .d (.int .i64 (↑x : Int))), (78, .ptr 3 0 1), (79, .d (.list 1 (map intD keep))), (80, .d (.int .i64 (↑i : Int))), (81, .ptr 3 0 1), (82, .d (.list 1 (map intD keep))), (83, .d (.int .i64 (↑(map intD keep).length : Int)))] [] ?_
        refine Run.lk 7 (.d (.int .i64 (irem (↑i : Int) (↑(map intD keep).length : Int)))) [(.tmp 80), (.tmp 83)] (fun tm' σ2 hv hr => rem_ok (t := 3) (ty := 3) (x := (.tmp 80)) (y := (.tmp 83)) (k := IntKind.i64) (a := (↑i : Int)) (b := (↑(map intD keep).length : Int)) (by kernel_rfl) (evv hv) (evv hv) (by grind)) ?_
        refine Run.lk 8 (.ep 1 (D.int IntKind.i64 v) 0) [(.tmp 79), (.tmp 84)] (fun tm' σ2 hv hr => ixData_ok (t := 46) (x := (.tmp 79)) (i := (.tmp 84)) (k := IntKind.i64) (n := irem (↑i : Int) (↑(map intD keep).length : Int)) (sz := 1) (xs := map intD keep) (d := intD v) (by kernel_rfl) (evl hv) (evv hv) (by kernel_rfl) (by simp <;> omega) (map_get hw)) ?_
        refine Run.append (A := [9, 10]) (srunF_ok (tm' := mk 133 [(0, .ptr 0 0 0), (3, .ptr 3 0 0), (4, .d (.list 2 (map nmD l))), (7, .row 5), (8, .row 4), (9, .d (.int .i64 (↑i : Int))), (10, .ptr 6 0 0), (14, .d (.int .i64 (↑(f.snd + x) : Int))), (15, .d (.int .i64 (↑x : Int))), (44, .row 1), (45, .d (.int .i64 (↑d.files.length : Int))), (46, .d (.int .i64 (↑i : Int))), (77, .d (.int .i64 (↑x : Int))), (78, .ptr 3 0 1), (79, .d (.list 1 (map intD keep))), (80, .d (.int .i64 (↑i : Int))), (81, .ptr 3 0 1), (82, .d (.list 1 (map intD keep))), (83, .d (.int .i64 (↑(map intD keep).length : Int))), (84, .d (.int .i64 (irem (↑i : Int) (↑(map intD keep).length : Int)))), (85, .ep 1 (D.int IntKind.i64 v) 0), (86, .d (.int .i64 v)), (87, .d (.bool (decide ((↑x : Int) < v))))]) (σ' := (SQ d false [.cells [.d (.int .i64 dir), .d (.list 1 (map intD keep))], .row 2 (map nmD l') true, .row 2 (map fileD fs) true, .cells [.d (.list 1 (map u8 f.fst)), .d (.int .i64 (↑f.snd : Int))]])) (by kernel_rfl)) ?_
        rw [hg]
        exact Run.fin
      refine .seg 2 [0, 3, 4, 7, 8, 9, 10, 14, 15, 44, 45, 46, 77, 78, 79, 80, 81, 82, 83, 84, 85, 86, 87, 88, 89, 90, 91, 92, 93, 94] (T' := cgo 130 [false, true, false, false, true, false] [.code B79]) (tm' := mk 133 [(0, .ptr 0 0 0), (3, .ptr 3 0 0), (4, .d (.list 2 (map nmD l))), (7, .row 5), (8, .row 4), (9, .d (.int .i64 (↑i : Int))), (10, .ptr 6 0 0), (14, .d (.int .i64 (↑(f.snd + x) : Int))), (15, .d (.int .i64 (↑x : Int))), (44, .row 1), (45, .d (.int .i64 (↑d.files.length : Int))), (46, .d (.int .i64 (↑i : Int))), (77, .d (.int .i64 (↑x : Int))), (78, .ptr 3 0 1), (79, .d (.list 1 (map intD keep))), (80, .d (.int .i64 (↑i : Int))), (81, .ptr 3 0 1), (82, .d (.list 1 (map intD keep))), (83, .d (.int .i64 (↑(map intD keep).length : Int))), (84, .d (.int .i64 (irem (↑i : Int) (↑(map intD keep).length : Int)))), (85, .ep 1 (D.int IntKind.i64 v) 0), (86, .d (.int .i64 v)), (87, .d (.bool false)), (88, .d (.bool false)), (89, .tuple []), (90, .tuple []), (91, .tuple []), (92, .tuple []), (93, .tuple []), (94, .d (.bool false))]) (σ' := (SQ d false [.cells [.d (.int .i64 dir), .d (.list 1 (map intD keep))], .row 2 (map nmD l') true, .row 2 (map fileD fs) true, .cells [.d (.list 1 (map u8 f.fst)), .d (.int .i64 (↑f.snd : Int))]])) (by kernel_rfl) ?_
      simp only [List.length_map]
      simp (disch := omega) only [bsW]
      exact .seg 0 [0, 3, 4, 7, 8, 10, 14, 44, 45, 46] (by kernel_rfl) hnext
  | succ m ih =>
    intro x hx
    have hg : decide ((x : Int) < v) = true := by simp only [decide_eq_true_eq]; omega
    have hx2 : f.2 + x < f.1.length := by omega
    have hx3 : (List.map u8 f.1).length = f.1.length := by simp
    clear hnext
    refine .sg0 2 [0, 3, 4, 7, 8, 9, 10, 14, 15, 44, 45, 46] (G79 127 [false, true, false, false, true]) [] ?_
    refine .dr (G79 128 [false, true, false, false, true]) [(77, .d (.int .i64 (↑x : Int))), (78, .ptr 3 0 1), (79, .d (.list 1 (map intD keep))), (80, .d (.int .i64 (↑i : Int))), (81, .ptr 3 0 1), (82, .d (.list 1 (map intD keep))), (83, .d (.int .i64 (↑(map intD keep).length : Int))), (84, .d (.int .i64 (irem (↑i : Int) (↑(map intD keep).length : Int)))), (85, .ep 1 (D.int IntKind.i64 v) 0), (86, .d (.int .i64 v)), (87, .d (.bool true)), (88, .d (.bool true)), (89, .d (.int .i64 (↑(f.snd + x) : Int))), (90, .ptr 6 0 0), (91, .d (.list 1 (map u8 f.fst))), (92, .d (.int .i64 (↑(map u8 f.fst).length : Int))), (93, .d (.bool (decide ((↑(f.snd + x) : Int) < (↑(map u8 f.fst).length : Int))))), (94, .d (.bool (decide ((↑(f.snd + x) : Int) < (↑(map u8 f.fst).length : Int)))))] [] (fun kz L hL => ?_) ?_
    · refine ⟨qF3, run_amongF hL _ [] [0, 1, 2, 3, 4, 5, 6, 7, 8, 9, 10, 11, 12, 13, 14, 15, 16, 17] (by intro p hp; cases hp) (by kernel_rfl) ?_⟩
      refine Run.ap [0, 1, 2, 3, 4, 5, 6] [(77, .d (.int .i64 (↑x : Int))), (78, .ptr 3 0 1), (79, .d (.list 1 (map intD keep))), (80, .d (.int .i64 (↑i : Int))), (81, .ptr 3 0 1), (82, .d (.list 1 (map intD keep))), (83, .d (.int .i64 (↑(map intD keep).length : Int)))] [] ?_
      refine Run.lk 7 (.d (.int .i64 (irem (↑i : Int) (↑(map intD keep).length : Int)))) [(.tmp 80), (.tmp 83)] (fun tm' σ2 hv hr => rem_ok (t := 3) (ty := 3) (x := (.tmp 80)) (y := (.tmp 83)) (k := IntKind.i64) (a := (↑i : Int)) (b := (↑(map intD keep).length : Int)) (by kernel_rfl) (evv hv) (evv hv) (by grind)) ?_
      refine Run.lk 8 (.ep 1 (D.int IntKind.i64 v) 0) [(.tmp 79), (.tmp 84)] (fun tm' σ2 hv hr => ixData_ok (t := 46) (x := (.tmp 79)) (i := (.tmp 84)) (k := IntKind.i64) (n := irem (↑i : Int) (↑(map intD keep).length : Int)) (sz := 1) (xs := map intD keep) (d := intD v) (by kernel_rfl) (evl hv) (evv hv) (by kernel_rfl) (by simp <;> omega) (map_get hw)) ?_
      refine Run.append (A := [9, 10]) (srunF_ok (tm' := mk 133 [(0, .ptr 0 0 0), (3, .ptr 3 0 0), (4, .d (.list 2 (map nmD l))), (7, .row 5), (8, .row 4), (9, .d (.int .i64 (↑i : Int))), (10, .ptr 6 0 0), (14, .d (.int .i64 (↑(f.snd + x) : Int))), (15, .d (.int .i64 (↑x : Int))), (44, .row 1), (45, .d (.int .i64 (↑d.files.length : Int))), (46, .d (.int .i64 (↑i : Int))), (77, .d (.int .i64 (↑x : Int))), (78, .ptr 3 0 1), (79, .d (.list 1 (map intD keep))), (80, .d (.int .i64 (↑i : Int))), (81, .ptr 3 0 1), (82, .d (.list 1 (map intD keep))), (83, .d (.int .i64 (↑(map intD keep).length : Int))), (84, .d (.int .i64 (irem (↑i : Int) (↑(map intD keep).length : Int)))), (85, .ep 1 (D.int IntKind.i64 v) 0), (86, .d (.int .i64 v)), (87, .d (.bool (decide ((↑x : Int) < v))))]) (σ' := (SQ d false [.cells [.d (.int .i64 dir), .d (.list 1 (map intD keep))], .row 2 (map nmD l') true, .row 2 (map fileD fs) true, .cells [.d (.list 1 (map u8 f.fst)), .d (.int .i64 (↑f.snd : Int))]])) (by kernel_rfl)) ?_
      rw [hg]
      exact Run.fin
    refine .if' (decide ((↑(f.snd + x) : Int) < (↑(map u8 f.fst).length : Int))) (G79 129 [false, true, false, false, true, true]) (G79 129 [false, true, false, false, true, false]) (fun h1 => ?_) (fun h1 => ?_)
    · simp only [bsX] at h1
      refine .sg0 14 [0, 3, 4, 7, 8, 9, 10, 14, 15, 44, 45, 46, 77, 78, 79, 80, 81, 82, 83, 84, 85, 86, 87, 88, 89, 90, 91, 92, 93, 94, 95, 96, 97, 98] (G79 143 [false, true, false, false, true, true]) [(14, .d (.int .i64 (IntKind.i64.wrap ((↑(f.snd + x) : Int) + 1)))), (15, .d (.int .i64 (IntKind.i64.wrap ((↑x : Int) + 1)))), (95, .d (.int .i64 (↑x : Int))), (96, .d (.int .i64 (IntKind.i64.wrap ((↑x : Int) + 1)))), (97, .d (.int .i64 (↑(f.snd + x) : Int))), (98, .d (.int .i64 (IntKind.i64.wrap ((↑(f.snd + x) : Int) + 1))))] ?_
      simp only [List.length_map]
      simp (disch := omega) only [bsW]
      refine .kp [0, 3, 4, 7, 8, 9, 10, 14, 15, 44, 45, 46] ?_
      refine .su [0, 1, 2, 3, 4, 5, 6] (mk 133 [(0, .ptr 0 0 0), (3, .ptr 3 0 0), (4, .d (.list 2 (l.map nmD))), (7, .row 5), (8, .row 4), (9, .d (.int .i64 (i : Nat))), (10, .ptr 6 0 0), (14, .d (.int .i64 ((f.2 + (x + 1) : Nat) : Int))), (15, .d (.int .i64 ((x + 1 : Nat) : Int))), (44, .row 1), (45, .d (.int .i64 (d.files.length : Nat))), (46, .d (.int .i64 (i : Nat)))]) (S79c d dir keep l' fs f) ?_
      exact .seg 1 [0, 3, 4, 7, 8, 9, 10, 14, 15, 44, 45, 46] (by kernel_rfl) (ih (x + 1) (by omega))
    · simp only [bsX] at h1
      omega
theorem en79 (d : Rk) (N : Nat) (h : d.Ok N) (dir : Int) (keep : List Int) (l l' : List (ByteArray × Int)) (i : Nat) (hi : i < d.files.length) (fs : List (List UInt8 × Nat)) (hfs : fs.length ≤ i) (f : List UInt8 × Nat) (hf2 : f.1.length ≤ 1048576) (n : Nat) (hn : n ≤ f.1.length) (Q : AE → Store → Prop)
  (hnext : AW Try.prog 79 none 3 (G79 58 [false]) (mk 133 [(0, .ptr 0 0 0), (3, .ptr 3 0 0), (4, .d (.list 2 (l.map nmD))), (7, .row 5), (8, .row 4), (44, .row 1), (45, .d (.int .i64 (d.files.length : Nat))), (46, .d (.int .i64 ((i + 1 : Nat) : Int)))]) (S79b d dir keep l' (fs ++ [(f.1.take n, n)])) [] Q) :
  AW Try.prog 79 none 3 (G79 130 [false, true, false, false, true, false]) (mk 133 [(0, .ptr 0 0 0), (3, .ptr 3 0 0), (4, .d (.list 2 (l.map nmD))), (7, .row 5), (8, .row 4), (10, .ptr 6 0 0), (14, .d (.int .i64 (n : Nat))), (44, .row 1), (45, .d (.int .i64 (d.files.length : Nat))), (46, .d (.int .i64 (i : Nat)))]) (S79c d dir keep l' fs f) [] Q := by
 have q1 := h.fl
 have q2 := h.nb
 refine .sge 5 [0, 3, 4, 7, 8, 10, 14, 44, 45, 46, 99, 100, 101, 102] (G79 135 [false, true, false, false, true, false]) ?_
 refine .op' (G79 136 [false, true, false, false, true, false]) (slData_ok (t := 22) (x := (.tmp 101)) (lo := none) (hi := (some (.tmp 102))) (sz := 1) (xs := map u8 f.fst) (0) (n) (by kernel_rfl) (by kernel_rfl) (by kernel_rfl) rfl (bnd_some (k := IntKind.i64) (i := (↑n : Int)) (by kernel_rfl) (by omega) (by rfl)) (by omega) (by simp <;> omega)) ?_
 simp only [List.take_length, List.drop_zero, ← List.map_take, ← List.map_drop]
 refine .sge 3 [0, 3, 4, 7, 8, 10, 14, 44, 45, 46, 99, 100, 101, 102, 103, 104, 105, 106] (G79 139 [false, true, false, false, true, false]) ?_
 refine .op' (G79 140 [false, true, false, false, true, false]) (appRow_ok (s := (.tmp 99)) (x := (.tmp 106)) (t := 68) (t2 := 68) (sz := 2) (by' := 32) (ys := [D.agg [D.list 1 (map u8 (List.take n f.fst)), D.int IntKind.i64 (↑n : Int)]]) (l := 5) (xs := map fileD fs) (mv := true) (by kernel_rfl) (by kernel_rfl) (by kernel_rfl) (by kernel_rfl) (by kernel_rfl) (by kernel_rfl) (by simp <;> omega) (by first | (simp [maxLen] <;> omega) | omega)) ?_
 refine .sg0 7 [0, 3, 4, 7, 8, 10, 14, 44, 45, 46, 100, 101, 102, 103, 104, 105, 106, 107, 108] (G79 147 [false, true, false, false, true, false]) [(7, .row 5), (46, .d (.int .i64 (IntKind.i64.wrap ((↑i : Int) + 1)))), (108, .d (.int .i64 (IntKind.i64.wrap ((↑i : Int) + 1))))] ?_
 simp (disch := omega) only [bsW]
 refine .kp [0, 3, 4, 7, 8, 44, 45, 46] ?_
 have e : List.map fileD fs ++ [D.agg [D.list 1 (List.map u8 (List.take n f.1)), D.int IntKind.i64 (↑n : Int)]] = List.map fileD (fs ++ [(f.1.take n, n)]) := by simp [fileD, bsD, i64]
 rw [e]
 refine .su [0, 1, 2, 3, 4, 5] (mk 133 [(0, .ptr 0 0 0), (3, .ptr 3 0 0), (4, .d (.list 2 (l.map nmD))), (7, .row 5), (8, .row 4), (44, .row 1), (45, .d (.int .i64 (d.files.length : Nat))), (46, .d (.int .i64 ((i + 1 : Nat) : Int)))]) (S79b d dir keep l' (fs ++ [(f.1.take n, n)])) ?_
 exact .seg 1 [0, 3, 4, 7, 8, 44, 45, 46] (by kernel_rfl) hnext
theorem sk79 (d : Rk) (N : Nat) (h : d.Ok N) (dir : Int) (keep : List Int) (l l' : List (ByteArray × Int)) (i : Nat) (hi : i < d.files.length) (fs : List (List UInt8 × Nat)) (f : List UInt8 × Nat) (Q : AE → Store → Prop)
  (hnext : AW Try.prog 79 none 3 (G79 58 [false]) (mk 133 [(0, .ptr 0 0 0), (3, .ptr 3 0 0), (4, .d (.list 2 (l.map nmD))), (7, .row 5), (8, .row 4), (44, .row 1), (45, .d (.int .i64 (d.files.length : Nat))), (46, .d (.int .i64 ((i + 1 : Nat) : Int)))]) (S79b d dir keep l' fs) [] Q) :
  AW Try.prog 79 none 3 (G79 96 [false, true, false]) (mk 133 [(0, .ptr 0 0 0), (3, .ptr 3 0 0), (4, .d (.list 2 (l.map nmD))), (7, .row 5), (8, .row 4), (9, .d (.int .i64 (i : Nat))), (10, .ptr 6 0 0), (11, .d (.bool false)), (44, .row 1), (45, .d (.int .i64 (d.files.length : Nat))), (46, .d (.int .i64 (i : Nat)))]) (S79c d dir keep l' fs f) [] Q := by
 have q1 := h.fl
 have q2 := h.nb
 refine .sg0 12 [0, 3, 4, 7, 8, 9, 10, 11, 44, 45, 46, 69, 70, 108] (G79 108 [false, true, false, true]) [(46, .d (.int .i64 (IntKind.i64.wrap ((↑i : Int) + 1)))), (69, .d (.bool false)), (70, .d (.bool true)), (108, .d (.int .i64 (IntKind.i64.wrap ((↑i : Int) + 1))))] ?_
 simp (disch := omega) only [bsW]
 refine .kp [0, 3, 4, 7, 8, 44, 45, 46] ?_
 refine .su [0, 1, 2, 3, 4, 5] (mk 133 [(0, .ptr 0 0 0), (3, .ptr 3 0 0), (4, .d (.list 2 (l.map nmD))), (7, .row 5), (8, .row 4), (44, .row 1), (45, .d (.int .i64 (d.files.length : Nat))), (46, .d (.int .i64 ((i + 1 : Nat) : Int)))]) (S79b d dir keep l' fs) ?_
 exact .seg 1 [0, 3, 4, 7, 8, 44, 45, 46] (by kernel_rfl) hnext
theorem ke79 (d : Rk) (N : Nat) (h : d.Ok N) (dir : Int) (keep : List Int) (hk : keep.length < 1000000000) (l l' : List (ByteArray × Int)) (i : Nat) (hi : i < d.files.length) (fs : List (List UInt8 × Nat)) (f : List UInt8 × Nat) (hf1 : f.2 ≤ f.1.length) (hf2 : f.1.length ≤ 1048576) (Q : AE → Store → Prop)
   (hnext : AW Try.prog 79 none 3 (G79 130 [false, true, false, false, true, false]) (mk 133 [(0, .ptr 0 0 0), (3, .ptr 3 0 0), (4, .d (.list 2 (l.map nmD))), (7, .row 5), (8, .row 4), (10, .ptr 6 0 0), (14, .d (.int .i64 (leftOf f i keep : Nat))), (44, .row 1), (45, .d (.int .i64 (d.files.length : Nat))), (46, .d (.int .i64 (i : Nat)))]) (S79c d dir keep l' fs f) [] Q) :
   AW Try.prog 79 none 3 (G79 96 [false, true, false]) (mk 133 [(0, .ptr 0 0 0), (3, .ptr 3 0 0), (4, .d (.list 2 (l.map nmD))), (7, .row 5), (8, .row 4), (9, .d (.int .i64 (i : Nat))), (10, .ptr 6 0 0), (11, .d (.bool true)), (44, .row 1), (45, .d (.int .i64 (d.files.length : Nat))), (46, .d (.int .i64 (i : Nat)))]) (S79c d dir keep l' fs f) [] Q := by
 have q1 := h.fl
 have q2 := h.nb
 by_cases hk0 : keep = []
 · subst hk0
   have e : leftOf f i [] = f.2 := by simp [leftOf]
   rw [e] at hnext
   refine .seg 24 [0, 3, 4, 7, 8, 9, 10, 11, 14, 44, 45, 46, 69, 70, 71, 72, 73, 74, 75, 76] (T' := cgo 120 [false, true, false, false, false] [.code B79]) (tm' := mk 133 [(0, .ptr 0 0 0), (3, .ptr 3 0 0), (4, .d (.list 2 (map nmD l))), (7, .row 5), (8, .row 4), (9, .d (.int .i64 (↑i : Int))), (10, .ptr 6 0 0), (11, .d (.bool true)), (14, .d (.int .i64 (↑f.snd : Int))), (44, .row 1), (45, .d (.int .i64 (↑d.files.length : Int))), (46, .d (.int .i64 (↑i : Int))), (69, .d (.bool true)), (70, .d (.bool false)), (71, .ptr 6 0 1), (72, .d (.int .i64 (↑f.snd : Int))), (73, .ptr 3 0 1), (74, .d (.list 1 [])), (75, .d (.int .i64 0)), (76, .d (.bool false))]) (σ' := (SQ d false [.cells [.d (.int .i64 dir), .d (.list 1 [])], .row 2 (map nmD l') true, .row 2 (map fileD fs) true, .cells [.d (.list 1 (map u8 f.fst)), .d (.int .i64 (↑f.snd : Int))]])) (by kernel_rfl) ?_
   exact .seg 0 [0, 3, 4, 7, 8, 10, 14, 44, 45, 46] (by kernel_rfl) hnext
 · have hpos : 0 < keep.length := List.length_pos_iff.2 hk0
   have hq := irem_n i keep.length
   have hlt : i % keep.length < keep.length := Nat.mod_lt _ hpos
   obtain ⟨v, hw⟩ := get_some (l := keep) (i := (irem (i : Int) ((List.map intD keep).length : Int)).toNat) (by rw [List.length_map, hq, Int.toNat_natCast]; exact hlt)
   have e : leftOf f i keep = f.2 + (min v ((f.1.length : Int) - f.2)).toNat := by
     have hw' := hw
     rw [List.length_map, hq, Int.toNat_natCast] at hw'
     unfold leftOf
     rw [if_neg hk0, List.getD_eq_getElem?_getD, hw']; rfl
   rw [e] at hnext
   have hnext := lo79d d N h dir keep hk hpos l l' i hi fs f hf1 hf2 v hw _ rfl Q hnext (min v ((f.1.length : Int) - f.2)).toNat 0 (by omega)
   clear e hw hq
   refine .sg0 22 [0, 3, 4, 7, 8, 9, 10, 11, 14, 44, 45, 46, 69, 70, 71, 72, 73, 74, 75, 76] (G79 118 [false, true, false, false]) [(14, .d (.int .i64 (↑f.snd : Int))), (69, .d (.bool true)), (70, .d (.bool false)), (71, .ptr 6 0 1), (72, .d (.int .i64 (↑f.snd : Int))), (73, .ptr 3 0 1), (74, .d (.list 1 (map intD keep))), (75, .d (.int .i64 (↑(map intD keep).length : Int))), (76, .d (.bool (decide ((↑(map intD keep).length : Int) > 0))))] ?_
   simp only [List.length_map]
   refine .if' (decide ((↑keep.length : Int) > 0)) (G79 119 [false, true, false, false, true]) (G79 119 [false, true, false, false, false]) (fun h1 => ?_) (fun h1 => ?_)
   · simp only [bsX] at h1
     refine .sg0 5 [0, 3, 4, 7, 8, 9, 10, 11, 14, 15, 44, 45, 46, 69, 70, 71, 72, 73, 74, 75, 76] (G79 124 [false, true, false, false, true]) [(15, .d (.int .i64 0))] ?_
     refine .seg 1 [0, 3, 4, 7, 8, 9, 10, 14, 15, 44, 45, 46] (by kernel_rfl) hnext
   · simp only [bsX] at h1
     omega
theorem fi79 (d : Rk) (dir : Int) (keep : List Int) (l : List (ByteArray × Int)) (fs : List (List UInt8 × Nat)) :
  AW Try.prog 79 none 3 (G79 65 [false, false]) (mk 133 [(0, .ptr 0 0 0), (7, .row 5), (8, .row 4)]) (S79b d dir keep l fs) [] fun r σ' => r = .ret (.tuple []) ∧ σ' = SR { files := fs, now := l, sure := l, ch := [], quota := d.quota, full := false, off := false, stop := -1, calls := d.calls } true := by
 refine .freeze 4 (sz := 2) (xs := l.map nmD) (mv := true) (by kernel_rfl) ?_
 refine .seg 51 [] (T' := cgo 116 [false, false] [.code B79]) (tm' := mk 133 []) (σ' := [.cells [.row 5, .d (.list 2 (map nmD l)), .d (.list 2 (map nmD l)), .ex 3 [], .d (.int .i64 d.quota), .d (.bool false), .d (.bool false), .d (.int .i64 (-1)), .d (.int .i64 d.calls)], .row 2 (map fileD d.files) false, .row 3 (map chD d.ch) false, .cells [.d (.int .i64 dir), .d (.list 1 (map intD keep))], O.dead, .row 2 (map fileD fs) true]) (by kernel_rfl) ?_
 refine .virtX 0 3 3 rfl rfl ?_
 refine .raises [5, 6] ?_
 refine .subM [0, 5, 6] (mk 133 []) (SR { files := fs, now := l, sure := l, ch := [], quota := d.quota, full := false, off := false, stop := -1, calls := d.calls } true) none [] ⟨rfl, by kernel_rfl, by kernel_rfl⟩ (by kernel_rfl) ⟨Nat.le_of_ble_eq_true (by kernel_rfl), by kernel_rfl⟩ (by kernel_rfl) ⟨by kernel_rfl, by kernel_rfl⟩ ⟨rfl, rfl⟩ ?_
 refine .rt F79 (V.tuple []) ?_
 exact ⟨rfl, by kernel_rfl⟩
theorem rank_le (has : Nat → Bool) (k : Nat) : rank has k ≤ k := by
 unfold rank
 exact Nat.le_trans (List.length_filter_le _ _) (by simp)
theorem lo79e (d : Rk) (N : Nat) (h : d.Ok N) (dir : Int) (keep : List Int) (hk : keep.length < 1000000000) (hkv : ∀ v ∈ keep, -9223372036854775808 ≤ v ∧ v < 9223372036854775808) (l : List (ByteArray × Int)) (hl : l.length < 1000000) (Q : AE → Store → Prop)
    (hnext : AW Try.prog 79 none 3 (G79 65 [false, false]) (mk 133 [(0, .ptr 0 0 0), (7, .row 5), (8, .row 4)]) (S79b d dir keep (l.map (reNum (hasR l) d.files.length)) (kept (hasR l) keep 0 d.files)) [] Q) : ∀ (m i : Nat), i + m = d.files.length →
    AW Try.prog 79 none 3 (G79 58 [false]) (mk 133 [(0, .ptr 0 0 0), (3, .ptr 3 0 0), (4, .d (.list 2 (l.map nmD))), (7, .row 5), (8, .row 4), (44, .row 1), (45, .d (.int .i64 (d.files.length : Nat))), (46, .d (.int .i64 (i : Nat)))]) (S79b d dir keep (l.map (reNum (hasR l) i)) (kept (hasR l) keep 0 (d.files.take i))) [] Q := by
  have q1 := h.fl
  have q2 := h.nb
  intro m
  induction m with
  | zero =>
    intro i hi
    have hi : i = d.files.length := by omega
    subst hi
    rw [List.take_length]
    refine .sge 5 [0, 3, 4, 7, 8, 44, 45, 46, 47] (G79 63 [false]) ?_
    refine .if' (decide ((↑d.files.length : Int) < (↑d.files.length : Int))) (G79 64 [false, true]) (G79 64 [false, false]) (fun h1 => ?_) (fun h1 => ?_)
    · simp only [bsX] at h1
      omega
    · simp only [bsX] at h1
      refine .seg 1 [0, 7, 8] (T' := cgo 65 [false, false] [.code B79]) (tm' := mk 133 [(0, .ptr 0 0 0), (7, .row 5), (8, .row 4)]) (σ' := (SQ d false [.cells [.d (.int .i64 dir), .d (.list 1 (map intD keep))], .row 2 (map nmD (map (reNum (hasR l) d.files.length) l)) true, .row 2 (map fileD (kept (hasR l) keep 0 d.files)) true])) (by kernel_rfl) ?_
      exact .seg 0 [0, 7, 8] (by kernel_rfl) hnext
  | succ m ih =>
    intro i hi
    obtain ⟨f, hf⟩ := get_some (l := d.files) (i := i) (by omega)
    obtain ⟨hf1, hf2⟩ := h.fs f (List.mem_of_getElem? hf)
    have hkr := kept_rank (has := hasR l) (keep := keep) (fs := d.files) (i := i) (by omega)
    have hkt := kept_take (has := hasR l) (keep := keep) hf
    have ih := ih (i + 1) (by omega)
    rw [hkt] at ih
    clear hkt hnext
    generalize kept (hasR l) keep 0 (d.files.take i) = fs at *
    refine .sge 5 [0, 3, 4, 7, 8, 44, 45, 46, 47] (G79 63 [false]) ?_
    refine .if' (decide ((↑i : Int) < (↑d.files.length : Int))) (G79 64 [false, true]) (G79 64 [false, false]) (fun h1 => ?_) (fun h1 => ?_)
    · simp only [bsX] at h1
      refine .sge 6 [0, 3, 4, 7, 8, 44, 45, 46, 47, 48] (G79 70 [false, true]) ?_
      refine .op' (G79 71 [false, true]) (ixRow_ok (t := 68) (x := (.tmp 44)) (i := (.tmp 46)) (k := IntKind.i64) (n := (↑i : Int)) (l := 1) (sz := 2) (xs := map fileD d.files) (mv := false) (by kernel_rfl) (by kernel_rfl) (by kernel_rfl) (by kernel_rfl) (by kernel_rfl) (by omega) (by simp <;> omega)) ?_
      refine .ld (G79 72 [false, true]) (xs := map fileD d.files) (map_get hf) ?_
      refine .sg 16 [0, 3, 4, 7, 8, 9, 10, 11, 44, 45, 46, 47, 48, 49, 50, 51, 52, 53] (G79 88 [false, true]) [(9, .d (.int .i64 (↑i : Int))), (10, .ptr 6 0 0), (11, .d (.bool false)), (51, .d (.list 2 (map nmD l))), (52, .d (.int .i64 (↑(map nmD l).length : Int))), (53, .d (.int .i64 0))] [(6, .cells [.d (.list 1 (map u8 f.fst)), .d (.int .i64 (↑f.snd : Int))])] ?_
      simp only [List.length_map]
      cases hh : hasR l i with
      | true =>
        rw [hh, if_pos rfl] at ih
        have hnext := ke79 d N h dir keep hk l (l.map (reNum (hasR l) (i + 1))) i (by omega) fs f hf1 hf2 Q (en79 d N h dir keep l (l.map (reNum (hasR l) (i + 1))) i (by omega) fs (by rw [hkr]; exact rank_le _ _) f hf2 (leftOf f i keep) (leftOf_le hf1 i keep).2 Q ih)
        have hnext := lo79c d N h dir keep l hl i (by omega) fs hkr f Q (by rw [hh]; exact hnext) l.length 0 (by omega)
        rw [mid_zero, seenR_zero] at hnext
        exact .seg 1 [0, 3, 4, 7, 8, 9, 10, 11, 44, 45, 46, 51, 52, 53] (by kernel_rfl) hnext
      | false =>
        rw [hh, if_neg (by simp), List.append_nil] at ih
        have hnext := sk79 d N h dir keep l (l.map (reNum (hasR l) (i + 1))) i (by omega) fs f Q ih
        have hnext := lo79c d N h dir keep l hl i (by omega) fs hkr f Q (by rw [hh]; exact hnext) l.length 0 (by omega)
        rw [mid_zero, seenR_zero] at hnext
        exact .seg 1 [0, 3, 4, 7, 8, 9, 10, 11, 44, 45, 46, 51, 52, 53] (by kernel_rfl) hnext
    · simp only [bsX] at h1
      omega
theorem spec_79 (d : Rk) (N : Nat) (h : d.Ok N) (dir : Int) (keep : List Int) (hb : ∀ i, (d.so dir i).length < 1000000) (hs : ∀ p ∈ d.lossN dir, 0 ≤ p.2) (hk : keep.length < 1000000000) (hkv : ∀ v ∈ keep, -9223372036854775808 ≤ v ∧ v < 9223372036854775808) :
  CallsA Try.prog 79 [.ptr 0 0 0, .d (.agg [.int .i64 dir, .list 1 (keep.map intD)])] (SR d false) fun r σ' => r = .ret (.tuple []) ∧ σ' = SR (d.crash dir keep) true := by
 refine CallsA.start F79 (tm := mk (Try.f79.ntmps) [(0, .ptr 0 0 0), (1, .d (.agg [.int .i64 dir, .list 1 (keep.map intD)]))]) (by kernel_rfl) ?_
 have hl : (d.lossN dir).length < 1000000 := hb d.ch.length
 have hnext := fi79 d dir keep ((d.lossN dir).map (reNum (hasR (d.lossN dir)) d.files.length)) (kept (hasR (d.lossN dir)) keep 0 d.files)
 have hnext := lo79e d N h dir keep hk hkv (d.lossN dir) hl _ hnext d.files.length 0 (by omega)
 rw [reNum_zero _ hs, List.take_zero] at hnext
 have hnext := lo79a d N h dir keep hb _ hnext d.ch.length 0 (by omega)
 rw [Rk.so_zero] at hnext
 refine .sg 23 [0, 3, 4, 23, 24, 25] (G79 23 []) [(3, .ptr 3 0 0), (4, .d (.list 2 (map nmD d.sure))), (23, .row 2), (24, .d (.int .i64 (↑(map chD d.ch).length : Int))), (25, .d (.int .i64 0))] [(3, .cells [.d (.int .i64 dir), .d (.list 1 (map intD keep))])] ?_
 simp only [List.length_map]
 refine .seg 1 [0, 3, 4, 23, 24, 25] (by kernel_rfl) hnext
theorem so_len {d : Dk} {t : Int} {N : Nat} (h : d.Ok N) (hn : d.Nm) (dir : Int) (i : Nat) : ((Rof d t).so dir i).length ≤ N := by
 unfold Rk.so
 have e : (Rof d t).sure = d.sk.zip d.sv := rfl
 rw [e, applyAll_zip _ h.sr h.sl hn.sk]
 obtain ⟨h1, h2, h3, h4⟩ := kfold_ok ((Rof d t).ch.take (min dir i).toNat) (d.sk, d.sv) h.sr h.sl h.sn (fun c hc => h.cn c (List.mem_of_mem_take hc))
 have := h.skc
 have e2 : (Rof d t).ch = d.ch := rfl
 rw [List.length_zip]
 rw [List.length_take] at h4
 rw [e2] at h4 ⊢
 simp only at h4
 omega
theorem spec_79r (d : Dk) (t : Int) (N : Nat) (h : d.Ok N) (hn : d.Nm) (ht : Rb t) (dir : Int) (keep : List Int) (hk : keep.length < 1000000000) (hkv : ∀ v ∈ keep, -9223372036854775808 ≤ v ∧ v < 9223372036854775808) :
  CallsA Try.prog 79 [.ptr 0 0 0, .d (.agg [.int .i64 dir, .list 1 (keep.map intD)])] (SR (Rof d t) false) fun r σ' => r = .ret (.tuple []) ∧ σ' = SR (Rof (d.crash dir keep) (-1)) true := by
 have hc := spec_79 (Rof d t) N (Rof_ok h ht) dir keep (fun i => by have := so_len (t := t) h hn dir i; have := h.nb; omega) (fun p hp => by
  rw [Rof_lossN h hn] at hp
  exact ((Dk.names_ok h dir).2.2.1 p.2 (List.of_mem_zip hp).2).1) hk hkv
 rw [Rof_crash h hn] at hc
 exact hc
def SXc (d0 d : Dk) (t : Int) : Store := [.cells [.row 1, .ptr 9 0 0, .ep 2 (dirD d.sk d.sv) 0, .row 5, .d (.int .i64 d.quota), .d (.bool d.full), .d (.bool d.off), .d (.int .i64 d.stop), .d (.int .i64 d.calls)],
  .row 2 (d.files.map fileD) true, .cells [.row 3, .row 4], .row 1 (d0.nk.map strD) true, .row 1 (d0.nv.map intD) true, .row 3 (d.ch.map chD) true,
  .cells [.row 7, .d (.list 2 ((Rof d t).now.map nmD)), .d (.list 2 ((Rof d t).sure.map nmD)), .row 8, .d (.int .i64 d.quota), .d (.bool d.full), .d (.bool d.off), .d (.int .i64 t), .d (.int .i64 d.calls)], .row 2 (d.files.map fileD) true, .row 3 (d.ch.map chD) true,
  .cells [.row 10, .row 11], .row 1 (d.nk.map strD) true, .row 1 (d.nv.map intD) true]
theorem do8 (d : Dk) (t : Int) (N : Nat) (h : d.Ok N) (hn : d.Nm) (ht : Rb t) (o : DOp) (hs : o.small) (hf : o.fits) (hk : o.kind % 10 = 8) :
  CallsA Try.prog 42 [.ptr 0 0 0, .ptr 6 0 0, .d (dopD o)] (SX d t false) fun r σ' => r = .ret (.d (.bool true)) ∧ σ' = SXc d (d.crash o.dir o.keep) (-1) := by
 refine CallsA.start F42 (tm := mk (Try.f42.ntmps) [(0, .ptr 0 0 0), (1, .ptr 6 0 0), (2, .d (dopD o))]) (by kernel_rfl) ?_
 have hkk := hf.k
 have hkl := hs.kl
 have hkl2 : o.keep.length < 1000000000 := by omega
 have hkv := hf.kv
 have hk2 : ((o.kind : Int) % 10) = 8 := by omega
 have hcr := spec_35 d N h o.dir o.keep hkl2 hkv
 have hcr2 := spec_79r d t N h hn ht o.dir o.keep hkl2 hkv
 clear hf
 refine .raises [3, 4] ?_
 refine .sg 13 [0, 1, 5, 6, 7, 8, 9, 10, 11] (G42 13 []) [(5, .ptr 9 0 0), (6, .d (.bool false)), (7, .d (.int .i64 (IntKind.i64.wrap ((↑o.kind : Int).tmod 10)))), (8, .ptr 9 0 0), (9, .d (.int .u64 (↑o.kind : Int))), (10, .d (.int .u64 ((↑o.kind : Int).tmod 10))), (11, .d (.int .i64 (IntKind.i64.wrap ((↑o.kind : Int).tmod 10))))] [(9, .cells [.d (.int .u64 (↑o.kind : Int)), .d (.str o.a), .d (.str o.b), .d (.list 1 (map u8 o.data)), .d (.int .i64 o.n), .d (.int .i64 o.dir), .d (.list 1 (map intD o.keep))])] ?_
 simp (disch := omega) only [bsW]
 rw [hk2]
 clear hk2 hk
 refine .sge 65 [0, 1, 5, 6, 139, 140, 141] (G42 78 [false, false, false, false, false, false, false, false, true]) ?_
 refine .ca [0, 1, 2, 3, 4, 5] (G42 79 [false, false, false, false, false, false, false, false, true]) F35 (@spec_35 (d) (N) (by assumption) (o.dir) (o.keep) (by assumption) (by assumption)) ?_
 rintro r0 s0 ⟨rfl, rfl⟩
 refine ⟨_, rfl, ?_⟩
 refine .sge 5 [1, 5, 6, 143, 144, 145] (G42 84 [false, false, false, false, false, false, false, false, true]) ?_
 refine .ca [6, 7, 8] (G42 85 [false, false, false, false, false, false, false, false, true]) F79 hcr2 ?_
 rintro r1 s1 ⟨rfl, rfl⟩
 refine ⟨_, rfl, ?_⟩
 refine .sg0 6 [6] (G42 91 [false, false, false, false, false, false, false, false, true]) [(6, .d (.bool true))] ?_
 refine .kp [6] ?_
 refine .su [0, 1, 2, 3, 4, 5, 6, 7, 8, 10, 11, 12] (mk 147 [(6, .d (.bool true))]) [.cells [.row 1, .ptr 9 0 0, .ep 2 (D.agg [D.list 1 (map strD (d.crash o.dir o.keep).sk), D.list 1 (map intD (d.crash o.dir o.keep).sv)]) 0, .row 5, .d (.int .i64 (d.crash o.dir o.keep).quota), .d (.bool false), .d (.bool false), .d (.int .i64 (d.crash o.dir o.keep).stop), .d (.int .i64 (d.crash o.dir o.keep).calls)], .row 2 (map fileD (d.crash o.dir o.keep).files) true, .cells [.row 3, .row 4], .row 1 (map strD d.nk) true, .row 1 (map intD d.nv) true, .row 3 [] true, .cells [.row 7, .d (.list 2 (map nmD (Rof (d.crash o.dir o.keep) (-1)).now)), .d (.list 2 (map nmD (Rof (d.crash o.dir o.keep) (-1)).sure)), .row 8, .d (.int .i64 (Rof (d.crash o.dir o.keep) (-1)).quota), .d (.bool false), .d (.bool false), .d (.int .i64 (Rof (d.crash o.dir o.keep) (-1)).stop), .d (.int .i64 (Rof (d.crash o.dir o.keep) (-1)).calls)], .row 2 (map fileD (Rof (d.crash o.dir o.keep) (-1)).files) true, .row 3 [] true, .cells [.row 10, .row 11], .row 1 (map strD (d.crash o.dir o.keep).nk) true, .row 1 (map intD (d.crash o.dir o.keep).nv) true] ?_
 refine .rt F42 (V.d (D.bool true)) ?_
 exact ⟨rfl, by kernel_rfl⟩
theorem do6 (d : Dk) (t : Int) (o : DOp) (hf : o.fits) (hk : o.kind % 10 = 6) :
  CallsA Try.prog 42 [.ptr 0 0 0, .ptr 6 0 0, .d (dopD o)] (SX d t false) fun r σ' => r = .ret (.d (.bool true)) ∧ σ' = SX { d with quota := if 0 > o.n then 0 else o.n, full := false } t true := by
 refine CallsA.start F42 (tm := mk (Try.f42.ntmps) [(0, .ptr 0 0 0), (1, .ptr 6 0 0), (2, .d (dopD o))]) (by kernel_rfl) ?_
 have hkk := hf.k
 have hn0 := hf.n0
 have hn1 := hf.n1
 have hk2 : ((o.kind : Int) % 10) = 6 := by omega
 clear hf
 refine .raises [1, 3, 4, 5, 7, 8] ?_
 refine .sg 13 [0, 1, 5, 6, 7, 8, 9, 10, 11] (G42 13 []) [(5, .ptr 9 0 0), (6, .d (.bool false)), (7, .d (.int .i64 (IntKind.i64.wrap ((↑o.kind : Int).tmod 10)))), (8, .ptr 9 0 0), (9, .d (.int .u64 (↑o.kind : Int))), (10, .d (.int .u64 ((↑o.kind : Int).tmod 10))), (11, .d (.int .i64 (IntKind.i64.wrap ((↑o.kind : Int).tmod 10))))] [(9, .cells [.d (.int .u64 (↑o.kind : Int)), .d (.str o.a), .d (.str o.b), .d (.list 1 (map u8 o.data)), .d (.int .i64 o.n), .d (.int .i64 o.dir), .d (.list 1 (map intD o.keep))])] ?_
 simp (disch := omega) only [bsW]
 rw [hk2]
 clear hk2 hk
 refine .sge 53 [0, 1, 5, 6, 112, 113, 114] (G42 66 [false, false, false, false, false, false, true]) ?_
 refine .ca [0, 1, 2, 3, 4, 5] (G42 67 [false, false, false, false, false, false, true]) F37 (@spec_37 (d) (o.n)) ?_
 rintro r0 s0 ⟨rfl, rfl⟩
 refine ⟨_, rfl, ?_⟩
 refine .sge 22 [6] (G42 89 [false, false, false, false, false, false, true]) ?_
 refine .kp [6] ?_
 refine .su [0, 1, 2, 3, 4, 5, 6, 7, 8] (mk 147 [(6, .d (.bool true))]) [.cells [.row 1, .ptr 2 0 0, .ep 2 (D.agg [D.list 1 (map strD d.sk), D.list 1 (map intD d.sv)]) 0, .row 5, .d (.int .i64 (if 0 > o.n then 0 else o.n)), .d (.bool false), .d (.bool d.off), .d (.int .i64 d.stop), .d (.int .i64 d.calls)], .row 2 (map fileD d.files) true, .cells [.row 3, .row 4], .row 1 (map strD d.nk) true, .row 1 (map intD d.nv) true, .row 3 (map chD d.ch) true, .cells [.row 7, .d (.list 2 (map nmD (Rof d t).now)), .d (.list 2 (map nmD (Rof d t).sure)), .row 8, .d (.int .i64 (if 0 > o.n then 0 else o.n)), .d (.bool false), .d (.bool d.off), .d (.int .i64 t), .d (.int .i64 d.calls)], .row 2 (map fileD d.files) true, .row 3 (map chD d.ch) true] ?_
 refine .rt F42 (V.d (D.bool true)) ?_
 exact ⟨rfl, by kernel_rfl⟩
theorem do7 (d : Dk) (t : Int) (o : DOp) (hf : o.fits) (hk : o.kind % 10 = 7) :
  CallsA Try.prog 42 [.ptr 0 0 0, .ptr 6 0 0, .d (dopD o)] (SX d t false) fun r σ' => r = .ret (.d (.bool true)) ∧ σ' = SX { d with stop := if -1 > o.n then -1 else o.n } (if -1 > o.n then -1 else o.n) true := by
 refine CallsA.start F42 (tm := mk (Try.f42.ntmps) [(0, .ptr 0 0 0), (1, .ptr 6 0 0), (2, .d (dopD o))]) (by kernel_rfl) ?_
 have hkk := hf.k
 have hn0 := hf.n0
 have hn1 := hf.n1
 have hk2 : ((o.kind : Int) % 10) = 7 := by omega
 clear hf
 refine .raises [1, 3, 4, 5, 7, 8] ?_
 refine .sg 13 [0, 1, 5, 6, 7, 8, 9, 10, 11] (G42 13 []) [(5, .ptr 9 0 0), (6, .d (.bool false)), (7, .d (.int .i64 (IntKind.i64.wrap ((↑o.kind : Int).tmod 10)))), (8, .ptr 9 0 0), (9, .d (.int .u64 (↑o.kind : Int))), (10, .d (.int .u64 ((↑o.kind : Int).tmod 10))), (11, .d (.int .i64 (IntKind.i64.wrap ((↑o.kind : Int).tmod 10))))] [(9, .cells [.d (.int .u64 (↑o.kind : Int)), .d (.str o.a), .d (.str o.b), .d (.list 1 (map u8 o.data)), .d (.int .i64 o.n), .d (.int .i64 o.dir), .d (.list 1 (map intD o.keep))])] ?_
 simp (disch := omega) only [bsW]
 rw [hk2]
 clear hk2 hk
 refine .sge 59 [0, 1, 5, 6, 127, 128, 129] (G42 72 [false, false, false, false, false, false, false, true]) ?_
 refine .ca [0, 1, 2, 3, 4, 5] (G42 73 [false, false, false, false, false, false, false, true]) F40 (@spec_40 (d) (o.n)) ?_
 rintro r0 s0 ⟨rfl, rfl⟩
 refine ⟨_, rfl, ?_⟩
 refine .sge 15 [6] (G42 88 [false, false, false, false, false, false, false, true]) ?_
 refine .kp [6] ?_
 refine .su [0, 1, 2, 3, 4, 5, 6, 7, 8] (mk 147 [(6, .d (.bool true))]) [.cells [.row 1, .ptr 2 0 0, .ep 2 (D.agg [D.list 1 (map strD d.sk), D.list 1 (map intD d.sv)]) 0, .row 5, .d (.int .i64 d.quota), .d (.bool d.full), .d (.bool d.off), .d (.int .i64 (if -1 > o.n then -1 else o.n)), .d (.int .i64 d.calls)], .row 2 (map fileD d.files) true, .cells [.row 3, .row 4], .row 1 (map strD d.nk) true, .row 1 (map intD d.nv) true, .row 3 (map chD d.ch) true, .cells [.row 7, .d (.list 2 (map nmD (Rof d t).now)), .d (.list 2 (map nmD (Rof d t).sure)), .row 8, .d (.int .i64 d.quota), .d (.bool d.full), .d (.bool d.off), .d (.int .i64 (if -1 > o.n then -1 else o.n)), .d (.int .i64 d.calls)], .row 2 (map fileD d.files) true, .row 3 (map chD d.ch) true] ?_
 refine .rt F42 (V.d (D.bool true)) ?_
 exact ⟨rfl, by kernel_rfl⟩
theorem do0 (d : Dk) (t : Int) (N : Nat) (h : d.Ok N) (hn : d.Nm) (hN : N + 5 ≤ 50000) (ht : Rt d t) (o : DOp) (hs : o.small) (hf : o.fits) (hk : o.kind % 10 = 0) :
   CallsA Try.prog 42 [.ptr 0 0 0, .ptr 6 0 0, .d (dopD o)] (SX d t false) fun r σ' => r = .ret (.d (.bool true)) ∧ σ' = SX (d.begun.createD o.a) (tb d t) true := by
 refine CallsA.start F42 (tm := mk (Try.f42.ntmps) [(0, .ptr 0 0 0), (1, .ptr 6 0 0), (2, .d (dopD o))]) (by kernel_rfl) ?_
 have ha := hs.a
 have hb := hs.b
 have hd := hs.d
 have hkk := hf.k
 have hk2 : ((o.kind : Int) % 10) = 0 := by omega
 clear hs hf
 refine .sg 13 [0, 1, 5, 6, 7, 8, 9, 10, 11] (G42 13 []) [(5, .ptr 9 0 0), (6, .d (.bool false)), (7, .d (.int .i64 (IntKind.i64.wrap ((↑o.kind : Int).tmod 10)))), (8, .ptr 9 0 0), (9, .d (.int .u64 (↑o.kind : Int))), (10, .d (.int .u64 ((↑o.kind : Int).tmod 10))), (11, .d (.int .i64 (IntKind.i64.wrap ((↑o.kind : Int).tmod 10))))] [(9, .cells [.d (.int .u64 (↑o.kind : Int)), .d (.str o.a), .d (.str o.b), .d (.list 1 (map u8 o.data)), .d (.int .i64 o.n), .d (.int .i64 o.dir), .d (.list 1 (map intD o.keep))])] ?_
 simp (disch := omega) only [bsW]
 rw [hk2]
 clear hk2 hk
 refine .sg0 13 [0, 1, 5, 6, 7] (G42 26 [true]) [] ?_
 refine .dr (G42 27 [true]) [(6, .d (.bool (d.begun.createE o.a == d.begun.createE o.a))), (36, .ptr 0 0 0), (37, .ptr 9 0 1), (38, .d (.str o.a)), (39, .d (.int .i64 (d.begun.createE o.a))), (40, .ptr 6 0 0), (41, .d (.int .i64 0)), (42, .ptr 9 0 1), (43, .d (.str o.a)), (44, .d (.int .i64 (d.begun.createE o.a))), (45, .d (.bool (d.begun.createE o.a == d.begun.createE o.a)))] [(0, .cells (hC 1 2 5 (d.begun.createD o.a))), (1, .row 2 (map fileD (d.begun.createD o.a).files) true), (3, .row 1 (map strD (d.begun.createD o.a).nk) true), (4, .row 1 (map intD (d.begun.createD o.a).nv) true), (5, .row 3 (map chD (d.begun.createD o.a).ch) true), (6, .cells (rC 7 8 (Rof (d.begun.createD o.a) (tb d t)))), (7, .row 2 (map fileD (Rof (d.begun.createD o.a) (tb d t)).files) true), (8, .row 3 (map chD (Rof (d.begun.createD o.a) (tb d t)).ch) true)] (fun kz L hL => ?_) ?_
 · refine ⟨[fO 0, fA 9, fR 9, fX [0, 1, 2, 3, 4, 5] [0, 1, 2, 3, 4, 5] [1, 3, 4, 5] [1, 2, 5, 3, 4] [0, 1, 2, 5, 3, 4], fO 6, nF, fA 9, fR 9, fX [6, 7, 8] [6, 7, 8] [7, 8] [7, 8] [6, 7, 8], nF, nF], run_amongF hL _ [] [0, 1, 2, 4, 5, 6, 7, 3, 8, 9, 10] (by intro p hp; cases hp) (by kernel_rfl) ?_⟩
   refine Run.ap [0, 1, 2, 4, 5, 6, 7] [(36, .ptr 0 0 0), (37, .ptr 9 0 1), (38, .d (.str o.a)), (40, .ptr 6 0 0), (41, .d (.int .i64 0)), (42, .ptr 9 0 1), (43, .d (.str o.a))] [] ?_
   refine Run.cl 3 [0, 1, 2, 3, 4, 5] F26 (@spec_26 (d) (N) (by assumption) (by omega) (o.a) (by omega)) ?_
   refine Run.cl 8 [6, 7, 8] F77 (@spec_77a (d) (t) (N) (by assumption) (by assumption) (by omega) (by assumption) (o.a) (ByteArray.mk #[]) (by omega) (.d (.list 1 []))) ?_
   exact Run.fin
 refine .kp [6] ?_
 refine .su [0, 1, 2, 3, 4, 5, 6, 7, 8] (mk 147 [(6, .d (.bool (d.begun.createE o.a == d.begun.createE o.a)))]) (SP 1 2 (d.begun.createD o.a) true [.cells (rC 7 8 (Rof (d.begun.createD o.a) (tb d t))), .row 2 (map fileD (Rof (d.begun.createD o.a) (tb d t)).files) true, .row 3 (map chD (Rof (d.begun.createD o.a) (tb d t)).ch) true]) ?_
 refine .rt F42 (V.d (D.bool (d.begun.createE o.a == d.begun.createE o.a))) ?_
 exact ⟨by simp, rfl⟩
theorem do1 (d : Dk) (t : Int) (N : Nat) (h : d.Ok N) (hn : d.Nm) (hN : N + 5 ≤ 50000) (ht : Rt d t) (o : DOp) (hs : o.small) (hf : o.fits) (hk : o.kind % 10 = 1) :
   CallsA Try.prog 42 [.ptr 0 0 0, .ptr 6 0 0, .d (dopD o)] (SX d t false) fun r σ' => r = .ret (.d (.bool true)) ∧ σ' = SX (d.begun.appendD o.a o.data) (tb d t) true := by
 refine CallsA.start F42 (tm := mk (Try.f42.ntmps) [(0, .ptr 0 0 0), (1, .ptr 6 0 0), (2, .d (dopD o))]) (by kernel_rfl) ?_
 have ha := hs.a
 have hb := hs.b
 have hd := hs.d
 have hkk := hf.k
 have hk2 : ((o.kind : Int) % 10) = 1 := by omega
 clear hs hf
 refine .sg 13 [0, 1, 5, 6, 7, 8, 9, 10, 11] (G42 13 []) [(5, .ptr 9 0 0), (6, .d (.bool false)), (7, .d (.int .i64 (IntKind.i64.wrap ((↑o.kind : Int).tmod 10)))), (8, .ptr 9 0 0), (9, .d (.int .u64 (↑o.kind : Int))), (10, .d (.int .u64 ((↑o.kind : Int).tmod 10))), (11, .d (.int .i64 (IntKind.i64.wrap ((↑o.kind : Int).tmod 10))))] [(9, .cells [.d (.int .u64 (↑o.kind : Int)), .d (.str o.a), .d (.str o.b), .d (.list 1 (map u8 o.data)), .d (.int .i64 o.n), .d (.int .i64 o.dir), .d (.list 1 (map intD o.keep))])] ?_
 simp (disch := omega) only [bsW]
 rw [hk2]
 clear hk2 hk
 refine .sg0 19 [0, 1, 5, 6, 7] (G42 32 [false, true]) [] ?_
 refine .dr (G42 33 [false, true]) [(6, .d (.bool (d.begun.appendE o.a o.data == d.begun.appendE o.a o.data))), (48, .ptr 0 0 0), (49, .ptr 9 0 1), (50, .d (.str o.a)), (51, .ptr 9 0 3), (52, .d (.list 1 (map u8 o.data))), (53, .d (.int .i64 (d.begun.appendE o.a o.data))), (54, .ptr 6 0 0), (55, .d (.int .i64 1)), (56, .ptr 9 0 1), (57, .d (.str o.a)), (58, .ptr 9 0 3), (59, .d (.list 1 (map u8 o.data))), (60, .d (.int .i64 (d.begun.appendE o.a o.data))), (61, .d (.bool (d.begun.appendE o.a o.data == d.begun.appendE o.a o.data)))] [(0, .cells (hC 1 2 5 (d.begun.appendD o.a o.data))), (1, .row 2 (map fileD (d.begun.appendD o.a o.data).files) true), (3, .row 1 (map strD (d.begun.appendD o.a o.data).nk) true), (4, .row 1 (map intD (d.begun.appendD o.a o.data).nv) true), (5, .row 3 (map chD (d.begun.appendD o.a o.data).ch) true), (6, .cells (rC 7 8 (Rof (d.begun.appendD o.a o.data) (tb d t)))), (7, .row 2 (map fileD (Rof (d.begun.appendD o.a o.data) (tb d t)).files) true), (8, .row 3 (map chD (Rof (d.begun.appendD o.a o.data) (tb d t)).ch) true)] (fun kz L hL => ?_) ?_
 · refine ⟨[fO 0, fA 9, fR 9, fA 9, fR 9, fX [0, 1, 2, 3, 4, 5] [0, 1, 2, 3, 4, 5] [1, 3, 4, 5] [1, 2, 5, 3, 4] [0, 1, 2, 5, 3, 4], fO 6, nF, fA 9, fR 9, fA 9, fR 9, fX [6, 7, 8] [6, 7, 8] [7, 8] [7, 8] [6, 7, 8], nF, nF], run_amongF hL _ [] [0, 1, 2, 3, 4, 6, 7, 8, 9, 10, 11, 5, 12, 13, 14] (by intro p hp; cases hp) (by kernel_rfl) ?_⟩
   refine Run.ap [0, 1, 2, 3, 4, 6, 7, 8, 9, 10, 11] [(48, .ptr 0 0 0), (49, .ptr 9 0 1), (50, .d (.str o.a)), (51, .ptr 9 0 3), (52, .d (.list 1 (map u8 o.data))), (54, .ptr 6 0 0), (55, .d (.int .i64 1)), (56, .ptr 9 0 1), (57, .d (.str o.a)), (58, .ptr 9 0 3), (59, .d (.list 1 (map u8 o.data)))] [] ?_
   refine Run.cl 5 [0, 1, 2, 3, 4, 5] F31 (@spec_31 (d) (N) (by assumption) (by omega) (o.a) (by omega) (o.data) (by omega)) ?_
   refine Run.cl 12 [6, 7, 8] F77 (@spec_77a2 (d) (t) (N) (by assumption) (by omega) (by assumption) (o.a) (by omega) (o.data) (by omega)) ?_
   exact Run.fin
 refine .kp [6] ?_
 refine .su [0, 1, 2, 3, 4, 5, 6, 7, 8] (mk 147 [(6, .d (.bool (d.begun.appendE o.a o.data == d.begun.appendE o.a o.data)))]) (SP 1 2 (d.begun.appendD o.a o.data) true [.cells (rC 7 8 (Rof (d.begun.appendD o.a o.data) (tb d t))), .row 2 (map fileD (Rof (d.begun.appendD o.a o.data) (tb d t)).files) true, .row 3 (map chD (Rof (d.begun.appendD o.a o.data) (tb d t)).ch) true]) ?_
 refine .rt F42 (V.d (D.bool (d.begun.appendE o.a o.data == d.begun.appendE o.a o.data))) ?_
 exact ⟨by simp, rfl⟩
theorem do2 (d : Dk) (t : Int) (N : Nat) (h : d.Ok N) (hn : d.Nm) (hN : N + 5 ≤ 50000) (ht : Rt d t) (o : DOp) (hs : o.small) (hf : o.fits) (hk : o.kind % 10 = 2) :
   CallsA Try.prog 42 [.ptr 0 0 0, .ptr 6 0 0, .d (dopD o)] (SX d t false) fun r σ' => r = .ret (.d (.bool true)) ∧ σ' = SX (d.begun.syncD o.a) (tb d t) true := by
 refine CallsA.start F42 (tm := mk (Try.f42.ntmps) [(0, .ptr 0 0 0), (1, .ptr 6 0 0), (2, .d (dopD o))]) (by kernel_rfl) ?_
 have ha := hs.a
 have hb := hs.b
 have hd := hs.d
 have hkk := hf.k
 have hk2 : ((o.kind : Int) % 10) = 2 := by omega
 clear hs hf
 refine .sg 13 [0, 1, 5, 6, 7, 8, 9, 10, 11] (G42 13 []) [(5, .ptr 9 0 0), (6, .d (.bool false)), (7, .d (.int .i64 (IntKind.i64.wrap ((↑o.kind : Int).tmod 10)))), (8, .ptr 9 0 0), (9, .d (.int .u64 (↑o.kind : Int))), (10, .d (.int .u64 ((↑o.kind : Int).tmod 10))), (11, .d (.int .i64 (IntKind.i64.wrap ((↑o.kind : Int).tmod 10))))] [(9, .cells [.d (.int .u64 (↑o.kind : Int)), .d (.str o.a), .d (.str o.b), .d (.list 1 (map u8 o.data)), .d (.int .i64 o.n), .d (.int .i64 o.dir), .d (.list 1 (map intD o.keep))])] ?_
 simp (disch := omega) only [bsW]
 rw [hk2]
 clear hk2 hk
 refine .sg0 25 [0, 1, 5, 6, 7] (G42 38 [false, false, true]) [] ?_
 refine .dr (G42 39 [false, false, true]) [(6, .d (.bool (d.begun.err true [o.a] == d.begun.err true [o.a]))), (64, .ptr 0 0 0), (65, .ptr 9 0 1), (66, .d (.str o.a)), (67, .d (.int .i64 (d.begun.err true [o.a]))), (68, .ptr 6 0 0), (69, .d (.int .i64 2)), (70, .ptr 9 0 1), (71, .d (.str o.a)), (72, .d (.int .i64 (d.begun.err true [o.a]))), (73, .d (.bool (d.begun.err true [o.a] == d.begun.err true [o.a])))] [(0, .cells (hC 1 2 5 (d.begun.syncD o.a))), (1, .row 2 (map fileD (d.begun.syncD o.a).files) true), (3, .row 1 (map strD (d.begun.syncD o.a).nk) true), (4, .row 1 (map intD (d.begun.syncD o.a).nv) true), (5, .row 3 (map chD (d.begun.syncD o.a).ch) true), (6, .cells (rC 7 8 (Rof (d.begun.syncD o.a) (tb d t)))), (7, .row 2 (map fileD (Rof (d.begun.syncD o.a) (tb d t)).files) true), (8, .row 3 (map chD (Rof (d.begun.syncD o.a) (tb d t)).ch) true)] (fun kz L hL => ?_) ?_
 · refine ⟨[fO 0, fA 9, fR 9, fX [0, 1, 2, 3, 4, 5] [0, 1, 2, 3, 4, 5] [1, 3, 4, 5] [1, 2, 5, 3, 4] [0, 1, 2, 5, 3, 4], fO 6, nF, fA 9, fR 9, fX [6, 7, 8] [6, 7, 8] [7, 8] [7, 8] [6, 7, 8], nF, nF], run_amongF hL _ [] [0, 1, 2, 4, 5, 6, 7, 3, 8, 9, 10] (by intro p hp; cases hp) (by kernel_rfl) ?_⟩
   refine Run.ap [0, 1, 2, 4, 5, 6, 7] [(64, .ptr 0 0 0), (65, .ptr 9 0 1), (66, .d (.str o.a)), (68, .ptr 6 0 0), (69, .d (.int .i64 2)), (70, .ptr 9 0 1), (71, .d (.str o.a))] [] ?_
   refine Run.cl 3 [0, 1, 2, 3, 4, 5] F32 (@spec_32 (d) (N) (by assumption) (by omega) (o.a) (by omega)) ?_
   refine Run.cl 8 [6, 7, 8] F77 (@spec_77a3 (d) (t) (N) (by assumption) (by omega) (by assumption) (o.a) (by omega) (.d (.list 1 []))) ?_
   exact Run.fin
 refine .kp [6] ?_
 refine .su [0, 1, 2, 3, 4, 5, 6, 7, 8] (mk 147 [(6, .d (.bool (d.begun.err true [o.a] == d.begun.err true [o.a])))]) (SP 1 2 (d.begun.syncD o.a) true [.cells (rC 7 8 (Rof (d.begun.syncD o.a) (tb d t))), .row 2 (map fileD (Rof (d.begun.syncD o.a) (tb d t)).files) true, .row 3 (map chD (Rof (d.begun.syncD o.a) (tb d t)).ch) true]) ?_
 refine .rt F42 (V.d (D.bool (d.begun.err true [o.a] == d.begun.err true [o.a]))) ?_
 exact ⟨by simp, rfl⟩
theorem do3 (d : Dk) (t : Int) (N : Nat) (h : d.Ok N) (hn : d.Nm) (hN : N + 5 ≤ 50000) (ht : Rt d t) (o : DOp) (hs : o.small) (hf : o.fits) (hk : o.kind % 10 = 3) :
  CallsA Try.prog 42 [.ptr 0 0 0, .ptr 6 0 0, .d (dopD o)] (SX d t false) fun r σ' => r = .ret (.d (.bool true)) ∧ σ' = SX (d.begun.syncDirD) (tb d t) true := by
 refine CallsA.start F42 (tm := mk (Try.f42.ntmps) [(0, .ptr 0 0 0), (1, .ptr 6 0 0), (2, .d (dopD o))]) (by kernel_rfl) ?_
 have ha := hs.a
 have hb := hs.b
 have hd := hs.d
 have hkk := hf.k
 have hk2 : ((o.kind : Int) % 10) = 3 := by omega
 clear hs hf
 refine .sg 13 [0, 1, 5, 6, 7, 8, 9, 10, 11] (G42 13 []) [(5, .ptr 9 0 0), (6, .d (.bool false)), (7, .d (.int .i64 (IntKind.i64.wrap ((↑o.kind : Int).tmod 10)))), (8, .ptr 9 0 0), (9, .d (.int .u64 (↑o.kind : Int))), (10, .d (.int .u64 ((↑o.kind : Int).tmod 10))), (11, .d (.int .i64 (IntKind.i64.wrap ((↑o.kind : Int).tmod 10))))] [(9, .cells [.d (.int .u64 (↑o.kind : Int)), .d (.str o.a), .d (.str o.b), .d (.list 1 (map u8 o.data)), .d (.int .i64 o.n), .d (.int .i64 o.dir), .d (.list 1 (map intD o.keep))])] ?_
 simp (disch := omega) only [bsW]
 rw [hk2]
 clear hk2 hk
 refine .sg0 33 [0, 1, 6, 7, 76] (G42 46 [false, false, false, true]) [(76, .ptr 0 0 0)] ?_
 refine .ca [0, 1, 2, 3, 4, 5] (G42 47 [false, false, false, true]) F33 (@spec_33 (d) (N) (by assumption) (by omega)) ?_
 rintro r0 s0 ⟨rfl, rfl⟩
 refine ⟨_, rfl, ?_⟩
 refine .sge 2 [0, 1, 6, 7, 76, 77, 78, 79] (G42 49 [false, false, false, true]) ?_
 refine .ca [6, 7, 8] (G42 50 [false, false, false, true]) F77 (@spec_77a4 (d) (t) (N) (by assumption) (by omega) (by assumption) (ByteArray.mk #[]) (ByteArray.mk #[]) (V.d (D.list 1 []))) ?_
 rintro r1 s1 ⟨rfl, rfl⟩
 refine ⟨_, rfl, ?_⟩
 refine .sge 3 [6] (G42 53 [false, false, false, true]) ?_
 refine .kp [6] ?_
 refine .su [0, 1, 2, 3, 4, 5, 6, 7, 8] (mk 147 [(6, .d (.bool (d.begun.err false [] == d.begun.err false [])))]) (SP 1 2 d.begun.syncDirD true [.cells (rC 7 8 (Rof d.begun.syncDirD (tb d t))), .row 2 (map fileD (Rof d.begun.syncDirD (tb d t)).files) true, .row 3 (map chD (Rof d.begun.syncDirD (tb d t)).ch) true]) ?_
 refine .rt F42 (V.d (D.bool (d.begun.err false [] == d.begun.err false []))) ?_
 exact ⟨by simp, rfl⟩
theorem do4 (d : Dk) (t : Int) (N : Nat) (h : d.Ok N) (hn : d.Nm) (hN : N + 5 ≤ 50000) (ht : Rt d t) (o : DOp) (hs : o.small) (hf : o.fits) (hk : o.kind % 10 = 4) :
   CallsA Try.prog 42 [.ptr 0 0 0, .ptr 6 0 0, .d (dopD o)] (SX d t false) fun r σ' => r = .ret (.d (.bool true)) ∧ σ' = SX (d.begun.renameD o.a o.b) (tb d t) true := by
 refine CallsA.start F42 (tm := mk (Try.f42.ntmps) [(0, .ptr 0 0 0), (1, .ptr 6 0 0), (2, .d (dopD o))]) (by kernel_rfl) ?_
 have ha := hs.a
 have hb := hs.b
 have hd := hs.d
 have hkk := hf.k
 have hk2 : ((o.kind : Int) % 10) = 4 := by omega
 clear hs hf
 refine .sg 13 [0, 1, 5, 6, 7, 8, 9, 10, 11] (G42 13 []) [(5, .ptr 9 0 0), (6, .d (.bool false)), (7, .d (.int .i64 (IntKind.i64.wrap ((↑o.kind : Int).tmod 10)))), (8, .ptr 9 0 0), (9, .d (.int .u64 (↑o.kind : Int))), (10, .d (.int .u64 ((↑o.kind : Int).tmod 10))), (11, .d (.int .i64 (IntKind.i64.wrap ((↑o.kind : Int).tmod 10))))] [(9, .cells [.d (.int .u64 (↑o.kind : Int)), .d (.str o.a), .d (.str o.b), .d (.list 1 (map u8 o.data)), .d (.int .i64 o.n), .d (.int .i64 o.dir), .d (.list 1 (map intD o.keep))])] ?_
 simp (disch := omega) only [bsW]
 rw [hk2]
 clear hk2 hk
 refine .sg0 37 [0, 1, 5, 6, 7] (G42 50 [false, false, false, false, true]) [] ?_
 refine .dr (G42 51 [false, false, false, false, true]) [(6, .d (.bool (d.begun.err true [o.a, o.b] == d.begun.err true [o.a, o.b]))), (84, .ptr 0 0 0), (85, .ptr 9 0 1), (86, .d (.str o.a)), (87, .ptr 9 0 2), (88, .d (.str o.b)), (89, .d (.int .i64 (d.begun.err true [o.a, o.b]))), (90, .ptr 6 0 0), (91, .d (.int .i64 4)), (92, .ptr 9 0 1), (93, .d (.str o.a)), (94, .ptr 9 0 2), (95, .d (.str o.b)), (96, .d (.int .i64 (d.begun.err true [o.a, o.b]))), (97, .d (.bool (d.begun.err true [o.a, o.b] == d.begun.err true [o.a, o.b])))] [(0, .cells (hC 1 2 5 (d.begun.renameD o.a o.b))), (1, .row 2 (map fileD (d.begun.renameD o.a o.b).files) true), (3, .row 1 (map strD (d.begun.renameD o.a o.b).nk) true), (4, .row 1 (map intD (d.begun.renameD o.a o.b).nv) true), (5, .row 3 (map chD (d.begun.renameD o.a o.b).ch) true), (6, .cells (rC 7 8 (Rof (d.begun.renameD o.a o.b) (tb d t)))), (7, .row 2 (map fileD (Rof (d.begun.renameD o.a o.b) (tb d t)).files) true), (8, .row 3 (map chD (Rof (d.begun.renameD o.a o.b) (tb d t)).ch) true)] (fun kz L hL => ?_) ?_
 · refine ⟨[fO 0, fA 9, fR 9, fA 9, fR 9, fX [0, 1, 2, 3, 4, 5] [0, 1, 2, 3, 4, 5] [1, 3, 4, 5] [1, 2, 5, 3, 4] [0, 1, 2, 5, 3, 4], fO 6, nF, fA 9, fR 9, fA 9, fR 9, fX [6, 7, 8] [6, 7, 8] [7, 8] [7, 8] [6, 7, 8], nF, nF], run_amongF hL _ [] [0, 1, 2, 3, 4, 6, 7, 8, 9, 10, 11, 5, 12, 13, 14] (by intro p hp; cases hp) (by kernel_rfl) ?_⟩
   refine Run.ap [0, 1, 2, 3, 4, 6, 7, 8, 9, 10, 11] [(84, .ptr 0 0 0), (85, .ptr 9 0 1), (86, .d (.str o.a)), (87, .ptr 9 0 2), (88, .d (.str o.b)), (90, .ptr 6 0 0), (91, .d (.int .i64 4)), (92, .ptr 9 0 1), (93, .d (.str o.a)), (94, .ptr 9 0 2), (95, .d (.str o.b))] [] ?_
   refine Run.cl 5 [0, 1, 2, 3, 4, 5] F34 (@spec_34 (d) (N) (by assumption) (by omega) (o.a) (o.b) (by omega) (by omega)) ?_
   refine Run.cl 12 [6, 7, 8] F77 (@spec_77a5 (d) (t) (N) (by assumption) (by assumption) (by omega) (by assumption) (o.a) (o.b) (by omega) (by omega) (.d (.list 1 []))) ?_
   exact Run.fin
 refine .kp [6] ?_
 refine .su [0, 1, 2, 3, 4, 5, 6, 7, 8] (mk 147 [(6, .d (.bool (d.begun.err true [o.a, o.b] == d.begun.err true [o.a, o.b])))]) (SP 1 2 (d.begun.renameD o.a o.b) true [.cells (rC 7 8 (Rof (d.begun.renameD o.a o.b) (tb d t))), .row 2 (map fileD (Rof (d.begun.renameD o.a o.b) (tb d t)).files) true, .row 3 (map chD (Rof (d.begun.renameD o.a o.b) (tb d t)).ch) true]) ?_
 refine .rt F42 (V.d (D.bool (d.begun.err true [o.a, o.b] == d.begun.err true [o.a, o.b]))) ?_
 exact ⟨by simp, rfl⟩
theorem do5 (d : Dk) (t : Int) (N : Nat) (h : d.Ok N) (hn : d.Nm) (hN : N + 5 ≤ 50000) (ht : Rt d t) (o : DOp) (hs : o.small) (hf : o.fits) (hk : o.kind % 10 = 5) :
   CallsA Try.prog 42 [.ptr 0 0 0, .ptr 6 0 0, .d (dopD o)] (SX d t false) fun r σ' => r = .ret (.d (.bool true)) ∧ σ' = SX (d.begun.removeD o.a) (tb d t) true := by
 refine CallsA.start F42 (tm := mk (Try.f42.ntmps) [(0, .ptr 0 0 0), (1, .ptr 6 0 0), (2, .d (dopD o))]) (by kernel_rfl) ?_
 have ha := hs.a
 have hb := hs.b
 have hd := hs.d
 have hkk := hf.k
 have hk2 : ((o.kind : Int) % 10) = 5 := by omega
 clear hs hf
 refine .sg 13 [0, 1, 5, 6, 7, 8, 9, 10, 11] (G42 13 []) [(5, .ptr 9 0 0), (6, .d (.bool false)), (7, .d (.int .i64 (IntKind.i64.wrap ((↑o.kind : Int).tmod 10)))), (8, .ptr 9 0 0), (9, .d (.int .u64 (↑o.kind : Int))), (10, .d (.int .u64 ((↑o.kind : Int).tmod 10))), (11, .d (.int .i64 (IntKind.i64.wrap ((↑o.kind : Int).tmod 10))))] [(9, .cells [.d (.int .u64 (↑o.kind : Int)), .d (.str o.a), .d (.str o.b), .d (.list 1 (map u8 o.data)), .d (.int .i64 o.n), .d (.int .i64 o.dir), .d (.list 1 (map intD o.keep))])] ?_
 simp (disch := omega) only [bsW]
 rw [hk2]
 clear hk2 hk
 refine .sg0 43 [0, 1, 5, 6, 7] (G42 56 [false, false, false, false, false, true]) [] ?_
 refine .dr (G42 57 [false, false, false, false, false, true]) [(6, .d (.bool (d.begun.err true [o.a] == d.begun.err true [o.a]))), (100, .ptr 0 0 0), (101, .ptr 9 0 1), (102, .d (.str o.a)), (103, .d (.int .i64 (d.begun.err true [o.a]))), (104, .ptr 6 0 0), (105, .d (.int .i64 5)), (106, .ptr 9 0 1), (107, .d (.str o.a)), (108, .d (.int .i64 (d.begun.err true [o.a]))), (109, .d (.bool (d.begun.err true [o.a] == d.begun.err true [o.a])))] [(0, .cells (hC 1 2 5 (d.begun.removeD o.a))), (1, .row 2 (map fileD (d.begun.removeD o.a).files) true), (3, .row 1 (map strD (d.begun.removeD o.a).nk) true), (4, .row 1 (map intD (d.begun.removeD o.a).nv) true), (5, .row 3 (map chD (d.begun.removeD o.a).ch) true), (6, .cells (rC 7 8 (Rof (d.begun.removeD o.a) (tb d t)))), (7, .row 2 (map fileD (Rof (d.begun.removeD o.a) (tb d t)).files) true), (8, .row 3 (map chD (Rof (d.begun.removeD o.a) (tb d t)).ch) true)] (fun kz L hL => ?_) ?_
 · refine ⟨[fO 0, fA 9, fR 9, fX [0, 1, 2, 3, 4, 5] [0, 1, 2, 3, 4, 5] [1, 3, 4, 5] [1, 2, 5, 3, 4] [0, 1, 2, 5, 3, 4], fO 6, nF, fA 9, fR 9, fX [6, 7, 8] [6, 7, 8] [7, 8] [7, 8] [6, 7, 8], nF, nF], run_amongF hL _ [] [0, 1, 2, 4, 5, 6, 7, 3, 8, 9, 10] (by intro p hp; cases hp) (by kernel_rfl) ?_⟩
   refine Run.ap [0, 1, 2, 4, 5, 6, 7] [(100, .ptr 0 0 0), (101, .ptr 9 0 1), (102, .d (.str o.a)), (104, .ptr 6 0 0), (105, .d (.int .i64 5)), (106, .ptr 9 0 1), (107, .d (.str o.a))] [] ?_
   refine Run.cl 3 [0, 1, 2, 3, 4, 5] F78 (@spec_78 (d) (N) (by assumption) (by omega) (o.a) (by omega)) ?_
   refine Run.cl 8 [6, 7, 8] F77 (@spec_77a6 (d) (t) (N) (by assumption) (by assumption) (by omega) (by assumption) (o.a) (by omega) (.d (.list 1 []))) ?_
   exact Run.fin
 refine .kp [6] ?_
 refine .su [0, 1, 2, 3, 4, 5, 6, 7, 8] (mk 147 [(6, .d (.bool (d.begun.err true [o.a] == d.begun.err true [o.a])))]) (SP 1 2 (d.begun.removeD o.a) true [.cells (rC 7 8 (Rof (d.begun.removeD o.a) (tb d t))), .row 2 (map fileD (Rof (d.begun.removeD o.a) (tb d t)).files) true, .row 3 (map chD (Rof (d.begun.removeD o.a) (tb d t)).ch) true]) ?_
 refine .rt F42 (V.d (D.bool (d.begun.err true [o.a] == d.begun.err true [o.a]))) ?_
 exact ⟨by simp, rfl⟩
def stepD (d : Dk) (o : DOp) : Dk :=
  if o.kind % 10 = 0 then d.begun.createD o.a else if o.kind % 10 = 1 then d.begun.appendD o.a o.data else if o.kind % 10 = 2 then d.begun.syncD o.a else if o.kind % 10 = 3 then d.begun.syncDirD else if o.kind % 10 = 4 then d.begun.renameD o.a o.b else d.begun.removeD o.a
theorem spec_42 (d : Dk) (t : Int) (N : Nat) (h : d.Ok N) (hn : d.Nm) (hN : N + 5 ≤ 50000) (ht : Rt d t) (o : DOp) (hs : o.small) (hf : o.fits) (hk : o.kind % 10 < 6) :
    CallsA Try.prog 42 [.ptr 0 0 0, .ptr 6 0 0, .d (dopD o)] (SX d t false) fun r σ' => r = .ret (.d (.bool true)) ∧ σ' = SX (stepD d o) (tb d t) true := by
  unfold stepD
  by_cases h0 : o.kind % 10 = 0
  · rw [if_pos h0]; exact do0 d t N h hn hN ht o hs hf h0
  · by_cases h1 : o.kind % 10 = 1
    · rw [if_neg h0, if_pos h1]; exact do1 d t N h hn hN ht o hs hf h1
    · by_cases h2 : o.kind % 10 = 2
      · rw [if_neg h0, if_neg h1, if_pos h2]; exact do2 d t N h hn hN ht o hs hf h2
      · by_cases h3 : o.kind % 10 = 3
        · rw [if_neg h0, if_neg h1, if_neg h2, if_pos h3]; exact do3 d t N h hn hN ht o hs hf h3
        · by_cases h4 : o.kind % 10 = 4
          · rw [if_neg h0, if_neg h1, if_neg h2, if_neg h3, if_pos h4]; exact do4 d t N h hn hN ht o hs hf h4
          · rw [if_neg h0, if_neg h1, if_neg h2, if_neg h3, if_neg h4]; exact do5 d t N h hn hN ht o hs hf (by omega)
section
variable {b : Dk} {x y : ByteArray}
end
theorem createD_end (b : Dk) (x : ByteArray) : (b.createD x).off = b.off ∧ (b.createD x).stop = b.stop ∧ (b.createD x).calls = b.calls := by
 unfold Dk.createD; split <;> exact ⟨rfl, rfl, rfl⟩
theorem appendD_end (b : Dk) (x : ByteArray) (bs : List UInt8) : (b.appendD x bs).off = b.off ∧ (b.appendD x bs).stop = b.stop ∧ (b.appendD x bs).calls = b.calls := by
 unfold Dk.appendD; split
 · exact ⟨rfl, rfl, rfl⟩
 · split <;> exact ⟨rfl, rfl, rfl⟩
theorem syncD_end (b : Dk) (x : ByteArray) : (b.syncD x).off = b.off ∧ (b.syncD x).stop = b.stop ∧ (b.syncD x).calls = b.calls := by
 unfold Dk.syncD; split <;> exact ⟨rfl, rfl, rfl⟩
theorem syncDirD_end (b : Dk) : b.syncDirD.off = b.off ∧ b.syncDirD.stop = b.stop ∧ b.syncDirD.calls = b.calls := by
 unfold Dk.syncDirD; split <;> exact ⟨rfl, rfl, rfl⟩
theorem renameD_end (b : Dk) (x y : ByteArray) : (b.renameD x y).off = b.off ∧ (b.renameD x y).stop = b.stop ∧ (b.renameD x y).calls = b.calls := by
 unfold Dk.renameD; split <;> exact ⟨rfl, rfl, rfl⟩
theorem removeD_end (b : Dk) (x : ByteArray) : (b.removeD x).off = b.off ∧ (b.removeD x).stop = b.stop ∧ (b.removeD x).calls = b.calls := by
 unfold Dk.removeD; split <;> exact ⟨rfl, rfl, rfl⟩
theorem step_end (d : Dk) (o : DOp) : (stepD d o).off = d.begun.off ∧ (stepD d o).stop = d.begun.stop ∧ (stepD d o).calls = d.begun.calls := by
 unfold stepD
 split
 · exact createD_end _ _
 split
 · exact appendD_end _ _ _
 split
 · exact syncD_end _ _
 split
 · exact syncDirD_end _
 split
 · exact renameD_end _ _ _
 · exact removeD_end _ _
theorem step_ok {d : Dk} {N : Nat} (h : d.Ok N) (hN : N + 2 ≤ 50000) (o : DOp) : (stepD d o).Ok (N + 2) := by
 have k := Dk.begun_ok h (by omega)
 unfold stepD
 split
 · exact Dk.createD_ok k (by omega) _
 split
 · exact (Dk.appendD_ok k _ _).mono (by omega) (by omega)
 split
 · exact (Dk.syncD_ok k _).mono (by omega) (by omega)
 split
 · exact (Dk.syncDirD_ok k).mono (by omega) (by omega)
 split
 · exact Dk.renameD_ok k (by omega) _ _
 · exact Dk.removeD_ok k (by omega) _
theorem file_added_ok {b : Dk} {N : Nat} (k1 : b.Ok N) (hN : N + 1 ≤ 50000) : ({ b with files := b.files ++ [([], 0)] } : Dk).Ok (N + 1) := by
 refine ⟨k1.nr, k1.sr, k1.nl, k1.sl, k1.nn.more (by simp), k1.sn.more (by simp), fun c hc => ?_, fun f hf => ?_, ?_, ?_, ?_, ?_, ?_, k1.c0, ?_, k1.s0, k1.s1, k1.q0, k1.q1, by omega⟩
 · have := k1.cn c hc
   exact ⟨this.1, fun h => by rw [List.length_append]; have := this.2 h; omega⟩
 · rcases List.mem_append.1 hf with h1 | h1
   · exact k1.fs f h1
   · rw [List.mem_singleton.1 h1]; exact ⟨Nat.le_refl _, by simp⟩
 · have := k1.fl; simp; omega
 · have := k1.chl; exact Nat.le_trans this (by omega)
 · have := k1.nkl; exact Nat.le_trans this (by omega)
 · have := k1.skl; exact Nat.le_trans this (by omega)
 · have := k1.skc; exact Nat.le_trans this (by omega)
 · have := k1.cl; exact Int.le_trans this (by omega)
theorem step_nm {d : Dk} {N : Nat} (h : d.Ok N) (hN : N + 2 ≤ 50000) (hn : d.Nm) (o : DOp) : (stepD d o).Nm := by
 have k := Dk.begun_ok h (by omega)
 have n := begun_nm hn
 unfold stepD
 split
 · unfold Dk.createD; split
   · exact turn_nm (file_added_ok k (by omega)) ⟨n.nk, n.sk⟩ _ _ _
   · exact n
 split
 · unfold Dk.appendD; split
   · exact ⟨n.nk, n.sk⟩
   · split
     · exact ⟨n.nk, n.sk⟩
     · exact n
 split
 · unfold Dk.syncD; split
   · exact ⟨n.nk, n.sk⟩
   · exact n
 split
 · unfold Dk.syncDirD; split
   · exact n
   · exact ⟨n.nk, n.nk⟩
 split
 · unfold Dk.renameD; split
   · exact turn_nm k n _ _ _
   · exact n
 · unfold Dk.removeD; split
   · exact turn_nm k n _ _ _
   · exact n
noncomputable def B38 : Code := (Try.f38.body).getD .skip
noncomputable def G38 (n l) := cgo n l [.code B38]
theorem F38 : Fnc Try.prog 38 Try.f38 B38 := ⟨Try.func38, by kernel_rfl, by kernel_rfl⟩
def DOp.ok (o : DOp) : Bool := decide (o.a.size ≤ 300) && decide (o.b.size ≤ 300) && decide (o.data.length ≤ 300) && decide (o.keep.length ≤ 300)
def cutD (l : List DOp) : List DOp := if (l.take 60).all DOp.ok then l.take 60 else []
theorem lo38 (l : List DOp) (hl : l.length ≤ 60) (Q : AE → Store → Prop) (hq1 : (∃ o ∈ l, o.ok = false) → Q (.ret (.d (.list 7 []))) []) (hq2 : (∀ o ∈ l, o.ok = true) → Q (.ret (.d (.list 7 (l.map dopD)))) []) : ∀ (m i : Nat), i + m = l.length → (∀ o ∈ l.take i, o.ok = true) →
    AW Try.prog 38 none 0 (G38 22 []) (mk 41 [(0, .d (.list 7 (l.map dopD))), (2, .nils), (10, .d (.list 7 (l.map dopD))), (11, .d (.int .i64 (l.length : Nat))), (12, .d (.int .i64 (i : Nat)))]) [] [] Q := by
  intro m
  induction m with
  | zero =>
    intro i hi hall
    have hi : i = l.length := by omega
    subst hi
    rw [List.take_length] at hall
    have hq2 := hq2 hall
    clear hq1
    refine .sge 5 [0, 2, 10, 11, 12, 13] (G38 27 []) ?_
    refine .if' (decide ((↑l.length : Int) < (↑l.length : Int))) (G38 28 [true]) (G38 28 [false]) (fun h1 => ?_) (fun h1 => ?_)
    · simp only [bsX] at h1
      omega
    · simp only [bsX] at h1
      refine .seg 6 [2] (T' := cgo 34 [false] [.code B38]) (tm' := mk 41 [(2, .d (.list 7 (map dopD l)))]) (σ' := []) (by kernel_rfl) ?_
      refine .rt F38 (V.d (D.list 7 (map dopD l))) ?_
      simp_all
  | succ m ih =>
    intro i hi hall
    obtain ⟨o, ho⟩ := get_some (l := l) (i := i) (by omega)
    have hq1 : o.ok = false → Q (.ret (.d (.list 7 []))) [] := fun h => hq1 ⟨o, List.mem_of_getElem? ho, h⟩
    have ih := fun h => ih (i + 1) (by omega) (take_more (q := fun o : DOp => o.ok = true) ho hall h)
    clear hq2 hall
    refine .sge 5 [0, 2, 10, 11, 12, 13] (G38 27 []) ?_
    refine .if' (decide ((↑i : Int) < (↑l.length : Int))) (G38 28 [true]) (G38 28 [false]) (fun h1 => ?_) (fun h1 => ?_)
    · simp only [bsX] at h1
      refine .sg0 5 [0, 2, 10, 11, 12, 13] (G38 33 [true]) [] ?_
      refine .op' (G38 34 [true]) (ixData_ok (t := 54) (x := (.tmp 10)) (i := (.tmp 12)) (k := IntKind.i64) (n := (↑i : Int)) (sz := 7) (xs := map dopD l) (d := dopD o) (by kernel_rfl) (by kernel_rfl) (by kernel_rfl) (by kernel_rfl) (by omega) (map_get ho)) ?_
      refine .sg 11 [0, 2, 4, 10, 11, 12, 13, 14, 15, 16, 17, 18, 19, 20] (G38 45 [true]) [(4, .ptr 0 0 0), (15, .d (.agg [D.int IntKind.u64 (↑o.kind : Int), D.str o.a, D.str o.b, D.list 1 (map u8 o.data), D.int IntKind.i64 o.n, D.int IntKind.i64 o.dir, D.list 1 (map intD o.keep)])), (16, .ptr 0 0 1), (17, .d (.str o.a)), (18, .d (.int .i64 (↑o.a.size : Int))), (19, .d (.bool (decide ((↑o.a.size : Int) > 300)))), (20, .d (.bool (decide ((↑o.a.size : Int) > 300))))] [(0, .cells [.d (.int .u64 (↑o.kind : Int)), .d (.str o.a), .d (.str o.b), .d (.list 1 (map u8 o.data)), .d (.int .i64 o.n), .d (.int .i64 o.dir), .d (.list 1 (map intD o.keep))])] ?_
      rcases Bool.eq_false_or_eq_true (decide ((↑o.a.size : Int) > 300)) with h2 | h2
      · rw [h2]
        simp only [bsX] at h2
        refine .sge 24 [0, 2, 4, 10, 11, 12, 13, 14, 15, 16, 17, 18, 19, 20, 21, 22, 23, 24, 25, 26, 27, 28, 29, 30, 31, 32, 33, 34, 35, 36, 37, 38] (G38 69 [true, true]) ?_
        refine .kp [2] ?_
        refine .su [] (mk 41 [(2, .nils)]) [] ?_
        refine .coerce [0, 0, 54] ?_
        refine .rt F38 (V.d (D.list 7 [])) ?_
        exact hq1 (by simp [DOp.ok]; intros; omega)
      · rw [h2]
        simp only [bsX] at h2
        refine .sg0 6 [0, 2, 4, 10, 11, 12, 13, 14, 15, 16, 17, 18, 19, 20, 21, 22, 23, 24, 25, 26] (G38 51 [true]) [(21, .ptr 0 0 2), (22, .d (.str o.b)), (23, .d (.int .i64 (↑o.b.size : Int))), (24, .d (.bool (decide ((↑o.b.size : Int) > 300)))), (25, .d (.bool (decide ((↑o.b.size : Int) > 300)))), (26, .d (.bool (decide ((↑o.b.size : Int) > 300))))] ?_
        rcases Bool.eq_false_or_eq_true (decide ((↑o.b.size : Int) > 300)) with h3 | h3
        · rw [h3]
          simp only [bsX] at h3
          refine .sge 18 [0, 2, 4, 10, 11, 12, 13, 14, 15, 16, 17, 18, 19, 20, 21, 22, 23, 24, 25, 26, 27, 28, 29, 30, 31, 32, 33, 34, 35, 36, 37, 38] (G38 69 [true, true]) ?_
          refine .kp [2] ?_
          refine .su [] (mk 41 [(2, .nils)]) [] ?_
          refine .coerce [0, 0, 54] ?_
          refine .rt F38 (V.d (D.list 7 [])) ?_
          exact hq1 (by simp [DOp.ok]; intros; omega)
        · rw [h3]
          simp only [bsX] at h3
          refine .sg0 6 [0, 2, 4, 10, 11, 12, 13, 14, 15, 16, 17, 18, 19, 20, 21, 22, 23, 24, 25, 26, 27, 28, 29, 30, 31, 32] (G38 57 [true]) [(27, .ptr 0 0 3), (28, .d (.list 1 (map u8 o.data))), (29, .d (.int .i64 (↑(map u8 o.data).length : Int))), (30, .d (.bool (decide ((↑(map u8 o.data).length : Int) > 300)))), (31, .d (.bool (decide ((↑(map u8 o.data).length : Int) > 300)))), (32, .d (.bool (decide ((↑(map u8 o.data).length : Int) > 300))))] ?_
          simp only [List.length_map]
          rcases Bool.eq_false_or_eq_true (decide ((↑o.data.length : Int) > 300)) with h4 | h4
          · rw [h4]
            simp only [bsX] at h4
            refine .sge 12 [0, 2, 4, 10, 11, 12, 13, 14, 15, 16, 17, 18, 19, 20, 21, 22, 23, 24, 25, 26, 27, 28, 29, 30, 31, 32, 33, 34, 35, 36, 37, 38] (G38 69 [true, true]) ?_
            refine .kp [2] ?_
            refine .su [] (mk 41 [(2, .nils)]) [] ?_
            refine .coerce [0, 0, 54] ?_
            refine .rt F38 (V.d (D.list 7 [])) ?_
            exact hq1 (by simp [DOp.ok]; intros; omega)
          · rw [h4]
            simp only [bsX] at h4
            refine .sg0 7 [0, 2, 4, 10, 11, 12, 13, 14, 15, 16, 17, 18, 19, 20, 21, 22, 23, 24, 25, 26, 27, 28, 29, 30, 31, 32, 33, 34, 35, 36, 37, 38] (G38 64 [true]) [(33, .ptr 0 0 5), (34, .ptr 0 0 6), (35, .d (.list 1 (map intD o.keep))), (36, .d (.int .i64 (↑(map intD o.keep).length : Int))), (37, .d (.bool (decide ((↑(map intD o.keep).length : Int) > 300)))), (38, .d (.bool (decide ((↑(map intD o.keep).length : Int) > 300))))] ?_
            simp only [List.length_map]
            refine .if' (decide ((↑o.keep.length : Int) > 300)) (G38 65 [true, true]) (G38 65 [true, false]) (fun h5 => ?_) (fun h5 => ?_)
            · simp only [bsX] at h5
              refine .sg0 4 [0, 2, 4, 10, 11, 12, 13, 14, 15, 16, 17, 18, 19, 20, 21, 22, 23, 24, 25, 26, 27, 28, 29, 30, 31, 32, 33, 34, 35, 36, 37, 38] (G38 69 [true, true]) [] ?_
              refine .kp [2] ?_
              refine .su [] (mk 41 [(2, .nils)]) [] ?_
              refine .coerce [0, 0, 54] ?_
              refine .rt F38 (V.d (D.list 7 [])) ?_
              exact hq1 (by simp [DOp.ok]; intros; omega)
            · simp only [bsX] at h5
              refine .sg0 6 [0, 2, 4, 10, 11, 12, 13, 14, 15, 16, 17, 18, 19, 20, 21, 22, 23, 24, 25, 26, 27, 28, 29, 30, 31, 32, 33, 34, 35, 36, 37, 38, 39] (G38 71 [true, false]) [(12, .d (.int .i64 (IntKind.i64.wrap ((↑i : Int) + 1)))), (39, .d (.int .i64 (IntKind.i64.wrap ((↑i : Int) + 1))))] ?_
              simp only [List.length_map]
              simp (disch := omega) only [bsW]
              refine .kp [0, 2, 10, 11, 12] ?_
              refine .su [] (mk 41 [(0, .d (.list 7 (l.map dopD))), (2, .nils), (10, .d (.list 7 (l.map dopD))), (11, .d (.int .i64 (l.length : Nat))), (12, .d (.int .i64 ((i + 1 : Nat) : Int)))]) [] ?_
              exact .seg 1 [0, 2, 10, 11, 12] (by kernel_rfl) (ih (by simp [DOp.ok]; omega))
    · simp only [bsX] at h1
      omega
theorem spec_38 (l : List DOp) (hl : l.length ≤ 9223372036854775807) : Br.Pure Try.prog 38 [.d (.list 7 (l.map dopD))] (.d (.list 7 ((cutD l).map dopD))) := by
 refine CallsA.pure ?_ rfl
 refine CallsA.start F38 (tm := mk (Try.f38.ntmps) [(0, .d (.list 7 (l.map dopD)))]) (by kernel_rfl) ?_
 refine .sg0 10 [0, 2, 5, 6, 7, 8] (G38 10 []) [(2, .nils), (5, .d (.list 7 (map dopD l))), (6, .d (.list 7 (map dopD l))), (7, .d (.int .i64 (↑(map dopD l).length : Int))), (8, .d (.int .i64 (if 60 < (↑(map dopD l).length : Int) then 60 else (↑(map dopD l).length : Int))))] ?_
 simp only [List.length_map]
 refine .op' (G38 11 []) (slData_ok (t := 54) (x := (.tmp 5)) (lo := none) (hi := (some (.tmp 8))) (sz := 7) (xs := map dopD l) (0) ((if 60 < (↑l.length : Int) then 60 else (↑l.length : Int)).toNat) (by kernel_rfl) (by kernel_rfl) (by kernel_rfl) rfl (bnd_some (k := IntKind.i64) (i := if 60 < (↑l.length : Int) then 60 else (↑l.length : Int)) (by kernel_rfl) (by omega) (by rfl)) (by omega) (by simp <;> omega)) ?_
 simp only [List.take_length, List.drop_zero, ← List.map_take, ← List.map_drop]
 refine .sg0 10 [0, 2, 10, 11, 12] (G38 21 []) [(0, .d (.list 7 (map dopD (List.take (if 60 < (↑l.length : Int) then 60 else (↑l.length : Int)).toNat l)))), (10, .d (.list 7 (map dopD (List.take (if 60 < (↑l.length : Int) then 60 else (↑l.length : Int)).toNat l)))), (11, .d (.int .i64 (↑(map dopD (List.take (if 60 < (↑l.length : Int) then 60 else (↑l.length : Int)).toNat l)).length : Int))), (12, .d (.int .i64 0))] ?_
 simp only [List.length_map]
 have e : l.take (if (60 : Int) < (l.length : Nat) then (60 : Int) else (l.length : Nat)).toNat = l.take 60 := by
   split
   · rfl
   · rename_i h; rw [Int.toNat_natCast, List.take_length, List.take_of_length_le (by omega)]
 rw [e]
 refine .seg 1 [0, 2, 10, 11, 12] (by kernel_rfl) (lo38 (l.take 60) (by rw [List.length_take]; omega) _ (fun h => ?_) (fun h => ?_) (l.take 60).length 0 (by omega) (by simp))
 · obtain ⟨o, h1, h2⟩ := h
   have e2 : cutD l = [] := if_neg (by rw [List.all_eq_true]; intro h3; rw [h3 o h1] at h2; cases h2)
   rw [e2]; rfl
 · have e2 : cutD l = l.take 60 := if_pos (by rw [List.all_eq_true]; exact h)
   rw [e2]
def stepA (d : Dk) (o : DOp) : Dk :=
  if o.kind % 10 < 6 then stepD d o else if o.kind % 10 = 6 then { d with quota := if 0 > o.n then 0 else o.n, full := false } else if o.kind % 10 = 7 then { d with stop := if -1 > o.n then -1 else o.n } else
  if o.kind % 10 = 8 then d.crash o.dir o.keep else d.turnD o.a o.n (turnM o.n)
def tA (d : Dk) (t : Int) (o : DOp) : Int :=
  if o.kind % 10 < 6 then tb d t else if o.kind % 10 = 6 then t else if o.kind % 10 = 7 then (if -1 > o.n then -1 else o.n) else if o.kind % 10 = 8 then -1 else t
structure Both (d : Dk) (t : Int) (N : Nat) : Prop where
  ok : d.Ok N
  nm : d.Nm
  eq : d.off = false → t = d.stop
  b : Rb t
theorem Both.rt {d : Dk} {t : Int} {N : Nat} (h : Both d t N) : Rt d t := ⟨fun ho => .inl (h.eq ho), h.b⟩
theorem turnD_ok {d : Dk} {N : Nat} (h : d.Ok N) (x : ByteArray) (a : Int) (m : UInt8) : (d.turnD x a m).Ok N := by
 unfold Dk.turnD
 split
 · rename_i h1
   simp only [Dk.turnOk, Bool.and_eq_true, decide_eq_true_eq] at h1
   have hm := h.fs _ (Dk.file_mem (Dk.num_lt h h1.1.1))
   exact Dk.set_ok h _ _ ⟨by rw [turnB_len]; exact hm.1, by rw [turnB_len]; exact hm.2⟩
 · exact h
theorem turnD_same (d : Dk) (x : ByteArray) (a : Int) (m : UInt8) : (d.turnD x a m).nk = d.nk ∧ (d.turnD x a m).sk = d.sk ∧ (d.turnD x a m).off = d.off ∧ (d.turnD x a m).stop = d.stop := by
 unfold Dk.turnD
 split <;> exact ⟨rfl, rfl, rfl, rfl⟩
theorem Both.new {q : Int} (h : q < 9223372036854775808) : Both (Dk.new q) (-1) 0 :=
 ⟨Dk.new_ok h, ⟨fun k hk => by simp [Dk.new] at hk, fun k hk => by simp [Dk.new] at hk⟩, fun _ => rfl, ⟨by omega, by omega⟩⟩
theorem Both.step {d : Dk} {t : Int} {N : Nat} (h : Both d t N) (hN : N + 2 ≤ 50000) (o : DOp) (hf : o.fits) : Both (stepA d o) (tA d t o) (N + 2) := by
 have hn1 := hf.n1
 have hn0 := hf.n0
 unfold stepA tA
 split
 · have e := step_end d o
   refine ⟨step_ok h.ok hN o, step_nm h.ok hN h.nm o, fun ho => ?_, (Rof_begun h.ok h.rt).2⟩
   rw [e.2.1]
   rw [e.1] at ho
   exact tb_eq h.ok h.eq ho
 split
 · exact ⟨(Dk.quota_ok h.ok o.n hn1).mono (by omega) hN, ⟨h.nm.nk, h.nm.sk⟩, h.eq, h.b⟩
 split
 · exact ⟨(Dk.stop_ok h.ok o.n hn1).mono (by omega) hN, ⟨h.nm.nk, h.nm.sk⟩, fun _ => rfl, ⟨by split <;> omega, by split <;> omega⟩⟩
 split
 · exact ⟨(Dk.crash_ok h.ok _ _).mono (by omega) hN, crash_nm h.ok h.nm _ _, fun _ => rfl, ⟨by omega, by omega⟩⟩
 · obtain ⟨e1, e2, e3, e4⟩ := turnD_same d o.a o.n (turnM o.n)
   exact ⟨(turnD_ok h.ok _ _ _).mono (by omega) hN, ⟨by rw [e1]; exact h.nm.nk, by rw [e2]; exact h.nm.sk⟩, by rw [e3, e4]; exact h.eq, h.b⟩
def runA (p : Dk × Int) (l : List DOp) : Dk × Int := l.foldl (fun p o => (stepA p.1 o, tA p.1 p.2 o)) p
theorem runA_snoc (p : Dk × Int) (l : List DOp) (o : DOp) : runA p (l ++ [o]) = (stepA (runA p l).1 o, tA (runA p l).1 (runA p l).2 o) := by simp [runA]
theorem runA_both : ∀ (l : List DOp) {d : Dk} {t : Int} {N : Nat}, Both d t N → N + 2 * l.length ≤ 50000 → (∀ o ∈ l, o.fits) → Both (runA (d, t) l).1 (runA (d, t) l).2 (N + 2 * l.length)
 | [], _, _, _, h, _, _ => h
 | o :: l, d, t, N, h, hN, hf => by
   simp only [List.length_cons] at hN
   have := runA_both l (h.step (by omega) o (hf o (by simp))) (by omega) fun o' ho => hf o' (by simp [ho])
   rw [show N + 2 * (o :: l).length = N + 2 + 2 * l.length by simp; omega]
   exact this
theorem spec_42x (d : Dk) (t : Int) (N : Nat) (h : Both d t N) (hN : N + 5 ≤ 50000) (o : DOp) (hs : o.small) (hf : o.fits) :
   CallsA Try.prog 42 [.ptr 0 0 0, .ptr 6 0 0, .d (dopD o)] (SX d t false) fun r σ' => r = .ret (.d (.bool true)) ∧ (σ' = SX (stepA d o) (tA d t o) true ∨ σ' = SXc d (stepA d o) (tA d t o)) := by
 unfold stepA tA
 by_cases h0 : o.kind % 10 < 6
 · rw [if_pos h0, if_pos h0]
   exact (spec_42 d t N h.ok h.nm hN h.rt o hs hf h0).mono fun r s ⟨h1, h2⟩ => ⟨h1, .inl h2⟩
 rw [if_neg h0, if_neg h0]
 by_cases h1 : o.kind % 10 = 6
 · rw [if_pos h1, if_pos h1]
   exact (do6 d t o hf h1).mono fun r s ⟨h1, h2⟩ => ⟨h1, .inl h2⟩
 rw [if_neg h1, if_neg h1]
 by_cases h2 : o.kind % 10 = 7
 · rw [if_pos h2, if_pos h2]
   exact (do7 d t o hf h2).mono fun r s ⟨h1, h2⟩ => ⟨h1, .inl h2⟩
 rw [if_neg h2, if_neg h2]
 by_cases h3 : o.kind % 10 = 8
 · rw [if_pos h3, if_pos h3]
   exact (do8 d t N h.ok h.nm h.b o hs hf h3).mono fun r s ⟨h1, h2⟩ => ⟨h1, .inr h2⟩
 rw [if_neg h3, if_neg h3]
 exact (do9 d t N h.ok h.b o hf (by omega)).mono fun r s ⟨h1, h2⟩ => ⟨h1, .inl h2⟩
section
variable {Q : AE → Store → Prop} {k : Nat}
end
theorem spec_27a (d : Dk) (N : Nat) (h : d.Ok N) (x : ByteArray) (hl : (look d.nk d.nv x).isSome = true) :
  CallsA Try.prog 27 [.ptr 0 0 0, .d (.str x)] (SD d false) fun r σ' => r = .ret (.tuple [.d (bsD (d.file (d.num x)).1), .d (.int .i64 0)]) ∧ σ' = SD d false := by
 have hc := spec_27 d N h x
 rw [if_pos hl, if_pos hl] at hc
 exact hc
theorem kept_at {has : Nat → Bool} {keep : List Int} : ∀ (fs : List (List UInt8 × Nat)) (i j : Nat) (f : List UInt8 × Nat), fs[j]? = some f → has (i + j) = true →
   (kept has keep i fs)[rank has (i + j) - rank has i]? = some (f.1.take (leftOf f (i + j) keep), leftOf f (i + j) keep)
 | [], i, j, f, h, _ => by simp at h
 | g :: fs, i, 0, f, h, hh => by
   simp only [List.getElem?_cons_zero, Option.some.injEq] at h
   subst h
   rw [Nat.add_zero] at hh ⊢
   simp only [kept, hh, if_true, Nat.sub_self, List.getElem?_cons_zero]
 | g :: fs, i, j + 1, f, h, hh => by
   rw [List.getElem?_cons_succ] at h
   have e : i + (j + 1) = i + 1 + j := by omega
   rw [e] at hh ⊢
   have ih := kept_at (has := has) (keep := keep) fs (i + 1) j f h hh
   have hs := rank_succ has i
   have hm := rank_mono has (show i + 1 ≤ i + 1 + j by omega)
   by_cases hi : has i = true
   · simp only [kept, hi, if_true] at hs ⊢
     rw [show rank has (i + 1 + j) - rank has i = (rank has (i + 1 + j) - rank has (i + 1)) + 1 by omega, List.getElem?_cons_succ]
     exact ih
   · simp only [kept, hi, Bool.false_eq_true, if_false] at hs ⊢
     rw [show rank has (i + 1 + j) - rank has i = rank has (i + 1 + j) - rank has (i + 1) by omega]
     exact ih
theorem crash_file {d : Dk} {dir : Int} {keep : List Int} {k : Nat} {f : List UInt8 × Nat} (hf : d.files[k]? = some f) (hh : d.has dir k = true) :
  rank (d.has dir) k < (d.crash dir keep).files.length ∧ (d.crash dir keep).file (rank (d.has dir) k) = (f.1.take (leftOf f k keep), leftOf f k keep) := by
 have h1 := kept_at (has := d.has dir) (keep := keep) d.files 0 k f hf (by rw [Nat.zero_add]; exact hh)
 have h0 : rank (d.has dir) 0 = 0 := rfl
 rw [Nat.zero_add, h0, Nat.sub_zero] at h1
 refine ⟨(List.getElem?_eq_some_iff.1 h1).1, ?_⟩
 show ((kept (d.has dir) keep 0 d.files).getD _ _) = _
 rw [List.getD_eq_getElem?_getD, h1]; rfl
end Go.Proofs.Ytoelkgbeefoplaa
