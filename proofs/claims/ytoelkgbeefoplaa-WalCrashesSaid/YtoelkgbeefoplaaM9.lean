/- Texts of this proof, part 9: SetsD, DirP, DiskA, DiskB, PlainB, BackB, BackC, BackD, DiskC, DkP, DiskD. -/
import Derived.Test.YtoelkgbeefoplaaM8
set_option linter.unusedSimpArgs false
set_option linter.unusedVariables false
set_option linter.constructorNameAsVariable false
namespace Go.Proofs.Ytoelkgbeefoplaa
open Go Go.Br Go.Proofs
open List (map)
noncomputable def B100 : Code := (Try.f100.body).getD .skip
theorem F100 : Fnc Try.prog 100 Try.f100 B100 := ⟨Try.func100, by kernel_rfl, by kernel_rfl⟩
noncomputable def B101 : Code := (Try.f101.body).getD .skip
theorem F101 : Fnc Try.prog 101 Try.f101 B101 := ⟨Try.func101, by kernel_rfl, by kernel_rfl⟩
noncomputable def B107 : Code := (Try.f107.body).getD .skip
theorem F107 : Fnc Try.prog 107 Try.f107 B107 := ⟨Try.func107, by kernel_rfl, by kernel_rfl⟩
noncomputable def B108 : Code := (Try.f108.body).getD .skip
theorem F108 : Fnc Try.prog 108 Try.f108 B108 := ⟨Try.func108, by kernel_rfl, by kernel_rfl⟩
noncomputable def B96 : Code := (Try.f96.body).getD .skip
theorem F96 : Fnc Try.prog 96 Try.f96 B96 := ⟨Try.func96, by kernel_rfl, by kernel_rfl⟩
noncomputable def B76 : Code := (Try.f76.body).getD .skip
theorem F76 : Fnc Try.prog 76 Try.f76 B76 := ⟨Try.func76, by kernel_rfl, by kernel_rfl⟩
theorem spec_100 (xs : List D) (y : D) (i : Nat) (hi : i ≤ xs.length) (hb : (xs.length + 1) * 16 ≤ 140737488355328) : CallsA Try.prog 100 [.row 0, .d (.int .i64 i), .row 1] [.row 1 xs false, .row 1 [y] false] fun r σ' => r = .ret (.row 0) ∧ σ' = [.row 1 (xs.take i ++ y :: xs.drop i) true, .row 1 [y] false] := ins_string xs y i false false hi hb
theorem spec_101 (xs : List D) (y : D) (i : Nat) (hi : i ≤ xs.length) (hb : (xs.length + 1) * 8 ≤ 140737488355328) : CallsA Try.prog 101 [.row 0, .d (.int .i64 i), .row 1] [.row 1 xs false, .row 1 [y] false] fun r σ' => r = .ret (.row 0) ∧ σ' = [.row 1 (xs.take i ++ y :: xs.drop i) true, .row 1 [y] false] := ins_int xs y i false false hi hb
theorem spec_107 (ks : List ByteArray) (i : Nat) (hi : i < ks.length) (hl : ks.length < 1000000) : CallsA Try.prog 107 [.row 0, .d (.int .i64 (i : Nat)), .d (.int .i64 (IntKind.i64.wrap ((i : Int) + 1)))] [.row 1 (ks.map strD) false] fun r σ' => r = .ret (.row 0) ∧ σ' = [.row 1 ((ks.eraseIdx i).map strD) true] := by
  rw [wrap_i64 (by omega) (by omega)]
  exact del_string ks i false hi
theorem spec_108 (zs : List Int) (i : Nat) (hi : i < zs.length) (hl : zs.length < 1000000) : CallsA Try.prog 108 [.row 0, .d (.int .i64 (i : Nat)), .d (.int .i64 (IntKind.i64.wrap ((i : Int) + 1)))] [.row 1 (zs.map intD) false] fun r σ' => r = .ret (.row 0) ∧ σ' = [.row 1 ((zs.eraseIdx i).map intD) true] := by
  rw [wrap_i64 (by omega) (by omega)]
  exact del_int zs i false hi
def kput (ks : List ByteArray) (V2 : List Int) (x : ByteArray) (y : Int) : List ByteArray × List Int :=
  if ks[pos ks x]? = some x then (ks, V2.set (pos ks x) y) else (ks.take (pos ks x) ++ x :: ks.drop (pos ks x), V2.take (pos ks x) ++ y :: V2.drop (pos ks x))
theorem spec_76 (ks : List ByteArray) (x : ByteArray) (V2 : List Int) (y : Int) (hr : Rising ks) (hl : ks.length < 1000000) (hv : V2.length = ks.length) :
    CallsA Try.prog 76 [.ptr 0 0 0, .d (.str x), .d (.int .i64 y)] [.cells [.row 1, .row 2], .row 1 (ks.map strD) false, .row 1 (V2.map intD) false] fun r σ' => r = .ret (.d (.bool (!(decide (ks[pos ks x]? = some x))))) ∧ σ' = [.cells [.row 1, .row 2], .row 1 ((kput ks V2 x y).1.map strD) true, .row 1 ((kput ks V2 x y).2.map intD) true] := by
  refine CallsA.start F76 (tm := mk (Try.f76.ntmps) [(0, .ptr 0 0 0), (1, .d (.str x)), (2, .d (.int .i64 y))]) (by kernel_rfl) ?_
  have hp := pos_le ks x
  refine .sg0 16 [0, 1, 2, 6, 12, 13] (cgo 16 [false] [.code B76]) [(6, .d (.bool false)), (12, .ptr 0 0 0), (13, .d (.str x))] ?_
  refine .ca [0, 1, 2] (cgo 17 [false] [.code B76]) F95 (@spec_95 (ks) (x) (V2) (by assumption) (by omega)) ?_
  rintro r0 s0 ⟨rfl, rfl⟩
  refine ⟨_, rfl, ?_⟩
  refine .sg0 11 [0, 1, 2, 6, 7, 17] (cgo 28 [false] [.code B76]) [(7, .d (.int .i64 (↑(pos ks x) : Int))), (17, .d (.bool (decide (ks[pos ks x]? = some x))))] ?_
  refine .if' (decide (ks[pos ks x]? = some x)) (cgo 29 [false, true] [.code B76]) (cgo 29 [false, false] [.code B76]) (fun h2 => ?_) (fun h2 => ?_)
  · simp only [bsX] at h2
    refine .sg0 8 [0, 1, 2, 6, 7, 18, 19, 20, 21, 22, 23] (cgo 37 [false, true] [.code B76]) [(18, .ptr 0 0 0), (19, .ptr 0 0 0), (20, .ptr 0 0 1), (21, .row 2), (22, .d (.int .i64 (↑(pos ks x) : Int))), (23, .d (.int .i64 y))] ?_
    refine .op' (cgo 38 [false, true] [.code B76]) (ixRow_ok (t := 46) (x := (.tmp 21)) (i := (.tmp 22)) (k := IntKind.i64) (n := (↑(pos ks x) : Int)) (l := 2) (sz := 1) (xs := map intD V2) (mv := false) (by kernel_rfl) (by kernel_rfl) (by kernel_rfl) (by kernel_rfl) (by kernel_rfl) (by omega) (by grind)) ?_
    obtain ⟨y3, hy3⟩ := get_some (l := V2) (i := (↑(pos ks x) : Int).toNat) (by grind)
    refine .op' (cgo 39 [false, true] [.code B76]) (stRow_ok (t := 3) (x := (.tmp 24)) (y := (.tmp 23)) (l := 2) (i := (↑(pos ks x) : Int).toNat) (s := 0) (sz := 1) (xs := map intD V2) (mv := false) (d := intD y3) (d' := D.int IntKind.i64 y) (by kernel_rfl) (by kernel_rfl) (by kernel_rfl) (map_get hy3) (by kernel_rfl)) ?_
    refine .seg 5 [0, 1, 2, 6, 7] (T' := cgo 44 [false, true] [.code B76]) (tm' := mk 47 [(0, .ptr 0 0 0), (1, .d (.str x)), (2, .d (.int .i64 y)), (6, .d (.bool false)), (7, .d (.int .i64 (↑(pos ks x) : Int)))]) (σ' := [.cells [.row 1, .row 2], .row 1 (map strD ks) false, .row 1 ((map intD V2).set (↑(pos ks x) : Int).toNat (D.int IntKind.i64 y)) false]) (by kernel_rfl) ?_
    refine .raise 1 rfl rfl ?_
    refine .raise 2 rfl rfl ?_
    refine .retH F76 (v := V.d (D.bool false)) (by kernel_rfl) (by kernel_rfl) ?_
    exact ⟨by simp [h2], by simp [kput, h2, intD, List.map_set]⟩
  · simp only [bsX] at h2
    refine .sg0 2 [0, 1, 2, 6, 7] (cgo 31 [false, false] [.code B76]) [] ?_
    refine .newVirt 1 ?_
    refine .newVirt 1 ?_
    refine .dr (cgo 32 [false, false] [.code B76]) [(25, .ptr 0 0 0), (26, .ptr 0 0 0), (27, .ptr 0 0 0), (28, .ptr 0 0 0), (29, .ptr 0 0 0), (31, .d (.int .i64 (↑(pos ks x) : Int))), (32, .d (.str x)), (33, .row 3), (34, .row 1), (35, .ptr 0 0 0), (36, .ptr 0 0 0), (37, .ptr 0 0 1), (39, .d (.int .i64 (↑(pos ks x) : Int))), (40, .d (.int .i64 y)), (41, .row 4), (42, .row 2), (43, .ptr 0 0 0), (44, .ptr 0 0 0), (45, .ptr 0 0 0), (46, .ptr 0 0 1)] [(1, .row 1 (List.take (pos ks x) (map strD ks) ++ D.str x :: List.drop (pos ks x) (map strD ks)) true), (2, .row 1 (List.take (pos ks x) (map intD V2) ++ D.int IntKind.i64 y :: List.drop (pos ks x) (map intD V2)) true), (3, .row 1 [D.str x] true), (4, .row 1 [D.int IntKind.i64 y] true)] (fun kz L hL => ?_) ?_
    · rcases ahead_or' hL 9 13 (by kernel_rfl) with o10 | o10
      · rcases ahead_or' hL 13 16 (by kernel_rfl) with o13 | o13
        · refine ⟨[⟨[], [], [], [0], [0], [], true, false⟩, ⟨[], [], [], [0], [0], [], true, false⟩, ⟨[], [], [], [0], [0], [], true, false⟩, ⟨[], [], [], [0], [0], [0], true, false⟩, ⟨[], [], [], [0], [0], [0], true, false⟩, ⟨[0], [], [], [1], [0, 1, 2], [], true, false⟩, nF, nF, ⟨[3], [3], [3], [3], [], [], true, false⟩, ⟨[1, 3], [1, 3], [1], [1], [1, 3], [], true, false⟩, ⟨[], [], [], [0], [0], [], true, false⟩, ⟨[], [], [], [0], [0], [0], true, false⟩, ⟨[], [], [], [0], [0], [0], true, false⟩, ⟨[0], [], [], [2], [0, 2], [], false, false⟩, nF, nF, ⟨[4], [4], [4], [4], [], [], true, false⟩, ⟨[2, 4], [2, 4], [2], [2], [2, 4], [], true, false⟩, ⟨[], [], [], [0], [0], [0], true, false⟩, ⟨[], [], [], [0], [0], [0], true, false⟩, ⟨[0], [0], [], [1], [0, 1], [], false, false⟩, ⟨[], [], [], [0], [0], [0], true, false⟩, ⟨[], [], [], [0], [0], [0], true, false⟩, ⟨[0], [0], [], [1, 2], [0, 2, 1], [], false, false⟩], run_amongF hL _ [(9, 13), (13, 16)] [0, 1, 2, 3, 4, 5, 6, 7, 10, 11, 12, 14, 15, 8, 9, 13, 16, 17, 18, 19, 20, 21, 22, 23] (by simp [o10, o13]) (by kernel_rfl) ?_⟩
          refine Run.ap [0, 1, 2, 3, 4, 5, 6, 7, 10, 11, 12, 14, 15] [(25, .ptr 0 0 0), (26, .ptr 0 0 0), (27, .ptr 0 0 0), (28, .ptr 0 0 0), (29, .ptr 0 0 0), (30, .row 1), (31, .d (.int .i64 (↑(pos ks x) : Int))), (32, .d (.str x)), (35, .ptr 0 0 0), (36, .ptr 0 0 0), (37, .ptr 0 0 1), (39, .d (.int .i64 (↑(pos ks x) : Int))), (40, .d (.int .i64 y))] [] ?_
          refine Run.one (StepF.build (o := ((drawOf (cgo 31 [false, false] [.code B76]))[8]?).getD default) (t := 66) (len := 1) (parts := #[(0, (.tmp 32))]) (l := 3) (ds := [D.str x]) (sz := 1) (mv := false) (by kernel_rfl) rfl (by kernel_rfl) (by kernel_rfl) (by kernel_rfl) (by kernel_rfl) (by kernel_rfl) (by kernel_rfl) (by kernel_rfl) (by kernel_rfl)) ?_
          refine Run.one (StepF.call (o := ((drawOf (cgo 31 [false, false] [.code B76]))[9]?).getD default) (x := (.func 100)) (args := #[(.tmp 30), (.tmp 31), (.tmp 33)]) (ts := #[66, 3, 66]) (first := []) (cap := []) [1, 3] [.row 0, .d (.int .i64 (↑(pos ks x) : Int)), .row 1] [.row 1 (map strD ks) false, .row 1 [D.str x] false] [.row 1 (List.take (pos ks x) (map strD ks) ++ D.str x :: List.drop (pos ks x) (map strD ks)) true, .row 1 [D.str x] false] (v := .row 1) (by kernel_rfl) rfl (by kernel_rfl) (by kernel_rfl) F100 (@spec_100 (map strD ks) (D.str x) (pos ks x) (by simp <;> omega) (by simp <;> omega)) (by kernel_rfl) (by kernel_rfl) (by kernel_rfl) (by kernel_rfl) ⟨rfl, rfl, by kernel_rfl⟩ (by kernel_rfl) (by kernel_rfl) (by kernel_rfl) (by kernel_rfl) (by kernel_rfl) rfl rfl) ?_
          refine Run.ap [13] [(38, .row 2)] [] ?_
          refine Run.one (StepF.build (o := ((drawOf (cgo 31 [false, false] [.code B76]))[16]?).getD default) (t := 46) (len := 1) (parts := #[(0, (.tmp 40))]) (l := 4) (ds := [D.int IntKind.i64 y]) (sz := 1) (mv := false) (by kernel_rfl) rfl (by kernel_rfl) (by kernel_rfl) (by kernel_rfl) (by kernel_rfl) (by kernel_rfl) (by kernel_rfl) (by kernel_rfl) (by kernel_rfl)) ?_
          refine Run.one (StepF.call (o := ((drawOf (cgo 31 [false, false] [.code B76]))[17]?).getD default) (x := (.func 101)) (args := #[(.tmp 38), (.tmp 39), (.tmp 41)]) (ts := #[46, 3, 46]) (first := []) (cap := []) [2, 4] [.row 0, .d (.int .i64 (↑(pos ks x) : Int)), .row 1] [.row 1 (map intD V2) false, .row 1 [D.int IntKind.i64 y] false] [.row 1 (List.take (pos ks x) (map intD V2) ++ D.int IntKind.i64 y :: List.drop (pos ks x) (map intD V2)) true, .row 1 [D.int IntKind.i64 y] false] (v := .row 2) (by kernel_rfl) rfl (by kernel_rfl) (by kernel_rfl) F101 (@spec_101 (map intD V2) (D.int IntKind.i64 y) (pos ks x) (by simp <;> omega) (by simp <;> omega)) (by kernel_rfl) (by kernel_rfl) (by kernel_rfl) (by kernel_rfl) ⟨rfl, rfl, by kernel_rfl⟩ (by kernel_rfl) (by kernel_rfl) (by kernel_rfl) (by kernel_rfl) (by kernel_rfl) rfl rfl) ?_
          exact Run.fin
        · refine ⟨[⟨[], [], [], [0], [0], [], true, false⟩, ⟨[], [], [], [0], [0], [], true, false⟩, ⟨[], [], [], [0], [0], [], true, false⟩, ⟨[], [], [], [0], [0], [0], true, false⟩, ⟨[], [], [], [0], [0], [0], true, false⟩, ⟨[0], [], [], [1], [0, 1, 2], [], true, false⟩, nF, nF, ⟨[3], [3], [3], [3], [], [], true, false⟩, ⟨[1, 3], [1, 3], [1], [1], [1, 3], [], true, false⟩, ⟨[], [], [], [0], [0], [], true, false⟩, ⟨[], [], [], [0], [0], [0], true, false⟩, ⟨[], [], [], [0], [0], [0], true, false⟩, ⟨[0], [], [], [2], [0, 2], [], false, false⟩, nF, nF, ⟨[4], [4], [4], [4], [], [], true, false⟩, ⟨[2, 4], [2, 4], [2], [2], [2, 4], [], true, false⟩, ⟨[], [], [], [0], [0], [0], true, false⟩, ⟨[], [], [], [0], [0], [0], true, false⟩, ⟨[0], [0], [], [1], [0, 1], [], false, false⟩, ⟨[], [], [], [0], [0], [0], true, false⟩, ⟨[], [], [], [0], [0], [0], true, false⟩, ⟨[0], [0], [], [1, 2], [0, 2, 1], [], false, false⟩], run_amongF hL _ [(9, 13), (16, 13)] [0, 1, 2, 3, 4, 5, 6, 7, 10, 11, 12, 14, 15, 8, 16, 9, 13, 17, 18, 19, 20, 21, 22, 23] (by simp [o10, o13]) (by kernel_rfl) ?_⟩
          refine Run.ap [0, 1, 2, 3, 4, 5, 6, 7, 10, 11, 12, 14, 15] [(25, .ptr 0 0 0), (26, .ptr 0 0 0), (27, .ptr 0 0 0), (28, .ptr 0 0 0), (29, .ptr 0 0 0), (30, .row 1), (31, .d (.int .i64 (↑(pos ks x) : Int))), (32, .d (.str x)), (35, .ptr 0 0 0), (36, .ptr 0 0 0), (37, .ptr 0 0 1), (39, .d (.int .i64 (↑(pos ks x) : Int))), (40, .d (.int .i64 y))] [] ?_
          refine Run.one (StepF.build (o := ((drawOf (cgo 31 [false, false] [.code B76]))[8]?).getD default) (t := 66) (len := 1) (parts := #[(0, (.tmp 32))]) (l := 3) (ds := [D.str x]) (sz := 1) (mv := false) (by kernel_rfl) rfl (by kernel_rfl) (by kernel_rfl) (by kernel_rfl) (by kernel_rfl) (by kernel_rfl) (by kernel_rfl) (by kernel_rfl) (by kernel_rfl)) ?_
          refine Run.one (StepF.build (o := ((drawOf (cgo 31 [false, false] [.code B76]))[16]?).getD default) (t := 46) (len := 1) (parts := #[(0, (.tmp 40))]) (l := 4) (ds := [D.int IntKind.i64 y]) (sz := 1) (mv := false) (by kernel_rfl) rfl (by kernel_rfl) (by kernel_rfl) (by kernel_rfl) (by kernel_rfl) (by kernel_rfl) (by kernel_rfl) (by kernel_rfl) (by kernel_rfl)) ?_
          refine Run.one (StepF.call (o := ((drawOf (cgo 31 [false, false] [.code B76]))[9]?).getD default) (x := (.func 100)) (args := #[(.tmp 30), (.tmp 31), (.tmp 33)]) (ts := #[66, 3, 66]) (first := []) (cap := []) [1, 3] [.row 0, .d (.int .i64 (↑(pos ks x) : Int)), .row 1] [.row 1 (map strD ks) false, .row 1 [D.str x] false] [.row 1 (List.take (pos ks x) (map strD ks) ++ D.str x :: List.drop (pos ks x) (map strD ks)) true, .row 1 [D.str x] false] (v := .row 1) (by kernel_rfl) rfl (by kernel_rfl) (by kernel_rfl) F100 (@spec_100 (map strD ks) (D.str x) (pos ks x) (by simp <;> omega) (by simp <;> omega)) (by kernel_rfl) (by kernel_rfl) (by kernel_rfl) (by kernel_rfl) ⟨rfl, rfl, by kernel_rfl⟩ (by kernel_rfl) (by kernel_rfl) (by kernel_rfl) (by kernel_rfl) (by kernel_rfl) rfl rfl) ?_
          refine Run.ap [13] [(38, .row 2)] [] ?_
          refine Run.one (StepF.call (o := ((drawOf (cgo 31 [false, false] [.code B76]))[17]?).getD default) (x := (.func 101)) (args := #[(.tmp 38), (.tmp 39), (.tmp 41)]) (ts := #[46, 3, 46]) (first := []) (cap := []) [2, 4] [.row 0, .d (.int .i64 (↑(pos ks x) : Int)), .row 1] [.row 1 (map intD V2) false, .row 1 [D.int IntKind.i64 y] false] [.row 1 (List.take (pos ks x) (map intD V2) ++ D.int IntKind.i64 y :: List.drop (pos ks x) (map intD V2)) true, .row 1 [D.int IntKind.i64 y] false] (v := .row 2) (by kernel_rfl) rfl (by kernel_rfl) (by kernel_rfl) F101 (@spec_101 (map intD V2) (D.int IntKind.i64 y) (pos ks x) (by simp <;> omega) (by simp <;> omega)) (by kernel_rfl) (by kernel_rfl) (by kernel_rfl) (by kernel_rfl) ⟨rfl, rfl, by kernel_rfl⟩ (by kernel_rfl) (by kernel_rfl) (by kernel_rfl) (by kernel_rfl) (by kernel_rfl) rfl rfl) ?_
          exact Run.fin
      · refine ⟨[⟨[], [], [], [0], [0], [], true, false⟩, ⟨[], [], [], [0], [0], [], true, false⟩, ⟨[], [], [], [0], [0], [], true, false⟩, ⟨[], [], [], [0], [0], [0], true, false⟩, ⟨[], [], [], [0], [0], [0], true, false⟩, ⟨[0], [], [], [1], [0, 1, 2], [], true, false⟩, nF, nF, ⟨[3], [3], [3], [3], [], [], true, false⟩, ⟨[1, 3], [1, 3], [1], [1], [1, 3], [], true, false⟩, ⟨[], [], [], [0], [0], [], true, false⟩, ⟨[], [], [], [0], [0], [0], true, false⟩, ⟨[], [], [], [0], [0], [0], true, false⟩, ⟨[0], [], [], [2], [0, 1, 2], [], true, false⟩, nF, nF, ⟨[4], [4], [4], [4], [], [], true, false⟩, ⟨[2, 4], [2, 4], [2], [2], [2, 4], [], true, false⟩, ⟨[], [], [], [0], [0], [0], true, false⟩, ⟨[], [], [], [0], [0], [0], true, false⟩, ⟨[0], [0], [], [1], [0, 1], [], false, false⟩, ⟨[], [], [], [0], [0], [0], true, false⟩, ⟨[], [], [], [0], [0], [0], true, false⟩, ⟨[0], [0], [], [1, 2], [0, 2, 1], [], false, false⟩], run_amongF hL _ [(13, 9)] [0, 1, 2, 3, 4, 5, 6, 7, 10, 11, 12, 13, 14, 15, 8, 16, 9, 17, 18, 19, 20, 21, 22, 23] (by simp [o10]) (by kernel_rfl) ?_⟩
        refine Run.ap [0, 1, 2, 3, 4, 5, 6, 7, 10, 11, 12, 13, 14, 15] [(25, .ptr 0 0 0), (26, .ptr 0 0 0), (27, .ptr 0 0 0), (28, .ptr 0 0 0), (29, .ptr 0 0 0), (30, .row 1), (31, .d (.int .i64 (↑(pos ks x) : Int))), (32, .d (.str x)), (35, .ptr 0 0 0), (36, .ptr 0 0 0), (37, .ptr 0 0 1), (38, .row 2), (39, .d (.int .i64 (↑(pos ks x) : Int))), (40, .d (.int .i64 y))] [] ?_
        refine Run.one (StepF.build (o := ((drawOf (cgo 31 [false, false] [.code B76]))[8]?).getD default) (t := 66) (len := 1) (parts := #[(0, (.tmp 32))]) (l := 3) (ds := [D.str x]) (sz := 1) (mv := false) (by kernel_rfl) rfl (by kernel_rfl) (by kernel_rfl) (by kernel_rfl) (by kernel_rfl) (by kernel_rfl) (by kernel_rfl) (by kernel_rfl) (by kernel_rfl)) ?_
        refine Run.one (StepF.build (o := ((drawOf (cgo 31 [false, false] [.code B76]))[16]?).getD default) (t := 46) (len := 1) (parts := #[(0, (.tmp 40))]) (l := 4) (ds := [D.int IntKind.i64 y]) (sz := 1) (mv := false) (by kernel_rfl) rfl (by kernel_rfl) (by kernel_rfl) (by kernel_rfl) (by kernel_rfl) (by kernel_rfl) (by kernel_rfl) (by kernel_rfl) (by kernel_rfl)) ?_
        refine Run.one (StepF.call (o := ((drawOf (cgo 31 [false, false] [.code B76]))[9]?).getD default) (x := (.func 100)) (args := #[(.tmp 30), (.tmp 31), (.tmp 33)]) (ts := #[66, 3, 66]) (first := []) (cap := []) [1, 3] [.row 0, .d (.int .i64 (↑(pos ks x) : Int)), .row 1] [.row 1 (map strD ks) false, .row 1 [D.str x] false] [.row 1 (List.take (pos ks x) (map strD ks) ++ D.str x :: List.drop (pos ks x) (map strD ks)) true, .row 1 [D.str x] false] (v := .row 1) (by kernel_rfl) rfl (by kernel_rfl) (by kernel_rfl) F100 (@spec_100 (map strD ks) (D.str x) (pos ks x) (by simp <;> omega) (by simp <;> omega)) (by kernel_rfl) (by kernel_rfl) (by kernel_rfl) (by kernel_rfl) ⟨rfl, rfl, by kernel_rfl⟩ (by kernel_rfl) (by kernel_rfl) (by kernel_rfl) (by kernel_rfl) (by kernel_rfl) rfl rfl) ?_
        refine Run.one (StepF.call (o := ((drawOf (cgo 31 [false, false] [.code B76]))[17]?).getD default) (x := (.func 101)) (args := #[(.tmp 38), (.tmp 39), (.tmp 41)]) (ts := #[46, 3, 46]) (first := []) (cap := []) [2, 4] [.row 0, .d (.int .i64 (↑(pos ks x) : Int)), .row 1] [.row 1 (map intD V2) false, .row 1 [D.int IntKind.i64 y] false] [.row 1 (List.take (pos ks x) (map intD V2) ++ D.int IntKind.i64 y :: List.drop (pos ks x) (map intD V2)) true, .row 1 [D.int IntKind.i64 y] false] (v := .row 2) (by kernel_rfl) rfl (by kernel_rfl) (by kernel_rfl) F101 (@spec_101 (map intD V2) (D.int IntKind.i64 y) (pos ks x) (by simp <;> omega) (by simp <;> omega)) (by kernel_rfl) (by kernel_rfl) (by kernel_rfl) (by kernel_rfl) ⟨rfl, rfl, by kernel_rfl⟩ (by kernel_rfl) (by kernel_rfl) (by kernel_rfl) (by kernel_rfl) (by kernel_rfl) rfl rfl) ?_
        exact Run.fin
    refine .sg0 4 [6] (cgo 36 [false, false] [.code B76]) [(6, .d (.bool true))] ?_
    refine .kp [6] ?_
    refine .su [0, 1, 2] (mk 47 [(6, V.d (D.bool true))]) [O.cells [V.row 1, V.row 2], O.row 1 (List.take (pos ks x) (map strD ks) ++ D.str x :: List.drop (pos ks x) (map strD ks)) true, O.row 1 (List.take (pos ks x) (map intD V2) ++ D.int IntKind.i64 y :: List.drop (pos ks x) (map intD V2)) true] ?_
    refine .retH F76 (v := V.d (D.bool true)) (by kernel_rfl) (by kernel_rfl) ?_
    exact ⟨by simp [h2], by simp [kput, h2, intD, strD, List.map_take, List.map_drop]⟩
def kdrop (ks : List ByteArray) (V2 : List Int) (x : ByteArray) : List ByteArray × List Int :=
  if ks[pos ks x]? = some x then (ks.eraseIdx (pos ks x), V2.eraseIdx (pos ks x)) else (ks, V2)
theorem spec_96 (ks : List ByteArray) (x : ByteArray) (V2 : List Int) (hr : Rising ks) (hl : ks.length < 1000000) (hv : V2.length = ks.length) :
    CallsA Try.prog 96 [.ptr 0 0 0, .d (.str x)] [.cells [.row 1, .row 2], .row 1 (ks.map strD) false, .row 1 (V2.map intD) false] fun r σ' => r = .ret (.d (.bool (decide (ks[pos ks x]? = some x)))) ∧ σ' = [.cells [.row 1, .row 2], .row 1 ((kdrop ks V2 x).1.map strD) true, .row 1 ((kdrop ks V2 x).2.map intD) true] := by
  refine CallsA.start F96 (tm := mk (Try.f96.ntmps) [(0, .ptr 0 0 0), (1, .d (.str x))]) (by kernel_rfl) ?_
  have hp := pos_le ks x
  refine .sg0 8 [0, 1, 4, 8, 9] (cgo 8 [] [.code B96]) [(4, .d (.bool false)), (8, .ptr 0 0 0), (9, .d (.str x))] ?_
  refine .ca [0, 1, 2] (cgo 9 [] [.code B96]) F95 (@spec_95 (ks) (x) (V2) (by assumption) (by omega)) ?_
  rintro r0 s0 ⟨rfl, rfl⟩
  refine ⟨_, rfl, ?_⟩
  refine .sg0 11 [0, 4, 5, 6, 13] (cgo 20 [] [.code B96]) [(5, .d (.int .i64 (↑(pos ks x) : Int))), (6, .d (.bool (decide (ks[pos ks x]? = some x)))), (13, .d (.bool (decide (ks[pos ks x]? = some x))))] ?_
  refine .if' (decide (ks[pos ks x]? = some x)) (cgo 21 [true] [.code B96]) (cgo 21 [false] [.code B96]) (fun h2 => ?_) (fun h2 => ?_)
  · simp only [bsX] at h2
    refine .dr (cgo 22 [true] [.code B96]) [(14, .ptr 0 0 0), (15, .ptr 0 0 0), (16, .ptr 0 0 0), (17, .ptr 0 0 0), (18, .ptr 0 0 0), (20, .d (.int .i64 (↑(pos ks x) : Int))), (21, .d (.int .i64 (↑(pos ks x) : Int))), (22, .d (.int .i64 (IntKind.i64.wrap ((↑(pos ks x) : Int) + 1)))), (23, .row 1), (24, .ptr 0 0 0), (25, .ptr 0 0 0), (26, .ptr 0 0 1), (28, .d (.int .i64 (↑(pos ks x) : Int))), (29, .d (.int .i64 (↑(pos ks x) : Int))), (30, .d (.int .i64 (IntKind.i64.wrap ((↑(pos ks x) : Int) + 1)))), (31, .row 2), (32, .ptr 0 0 0), (33, .ptr 0 0 0), (34, .ptr 0 0 0), (35, .ptr 0 0 1)] [(1, .row 1 (map strD (ks.eraseIdx (pos ks x))) true), (2, .row 1 (map intD (V2.eraseIdx (pos ks x))) true)] (fun kz L hL => ?_) ?_
    · rcases ahead_or' hL 9 13 (by kernel_rfl) with o9 | o9
      · refine ⟨[⟨[], [], [], [0], [0], [], true, false⟩, ⟨[], [], [], [0], [0], [], true, false⟩, ⟨[], [], [], [0], [0], [], true, false⟩, ⟨[], [], [], [0], [0], [0], true, false⟩, ⟨[], [], [], [0], [0], [0], true, false⟩, ⟨[0], [], [], [1], [0, 1, 2], [], true, false⟩, nF, nF, nF, ⟨[1], [1], [1], [1], [1], [], true, false⟩, ⟨[], [], [], [0], [0], [], true, false⟩, ⟨[], [], [], [0], [0], [0], true, false⟩, ⟨[], [], [], [0], [0], [0], true, false⟩, ⟨[0], [], [], [2], [0, 2], [], false, false⟩, nF, nF, nF, ⟨[2], [2], [2], [2], [2], [], true, false⟩, ⟨[], [], [], [0], [0], [0], true, false⟩, ⟨[], [], [], [0], [0], [0], true, false⟩, ⟨[0], [0], [], [1], [0, 1], [], false, false⟩, ⟨[], [], [], [0], [0], [0], true, false⟩, ⟨[], [], [], [0], [0], [0], true, false⟩, ⟨[0], [0], [], [1, 2], [0, 2, 1], [], false, false⟩], run_amongF hL _ [(9, 13)] [0, 1, 2, 3, 4, 5, 6, 7, 8, 10, 11, 12, 14, 15, 16, 9, 13, 17, 18, 19, 20, 21, 22, 23] (by simp [o9]) (by kernel_rfl) ?_⟩
        refine Run.ap [0, 1, 2, 3, 4, 5, 6, 7, 8, 10, 11, 12, 14, 15, 16] [(14, .ptr 0 0 0), (15, .ptr 0 0 0), (16, .ptr 0 0 0), (17, .ptr 0 0 0), (18, .ptr 0 0 0), (19, .row 1), (20, .d (.int .i64 (↑(pos ks x) : Int))), (21, .d (.int .i64 (↑(pos ks x) : Int))), (22, .d (.int .i64 (IntKind.i64.wrap ((↑(pos ks x) : Int) + 1)))), (24, .ptr 0 0 0), (25, .ptr 0 0 0), (26, .ptr 0 0 1), (28, .d (.int .i64 (↑(pos ks x) : Int))), (29, .d (.int .i64 (↑(pos ks x) : Int))), (30, .d (.int .i64 (IntKind.i64.wrap ((↑(pos ks x) : Int) + 1))))] [] ?_
        refine Run.one (StepF.call (o := ((drawOf (cgo 21 [true] [.code B96]))[9]?).getD default) (x := (.func 107)) (args := #[(.tmp 19), (.tmp 20), (.tmp 22)]) (ts := #[66, 3, 3]) (first := []) (cap := []) [1] [.row 0, .d (.int .i64 (↑(pos ks x) : Int)), .d (.int .i64 (IntKind.i64.wrap ((↑(pos ks x) : Int) + 1)))] [.row 1 (map strD ks) false] [.row 1 (map strD (ks.eraseIdx (pos ks x))) true] (v := .row 1) (by kernel_rfl) rfl (by kernel_rfl) (by kernel_rfl) F107 (@spec_107 (ks) (pos ks x) (by grind) (by assumption)) (by kernel_rfl) (by kernel_rfl) (by kernel_rfl) (by kernel_rfl) ⟨rfl, rfl, by kernel_rfl⟩ (by kernel_rfl) (by kernel_rfl) (by kernel_rfl) (by kernel_rfl) (by kernel_rfl) rfl rfl) ?_
        refine Run.ap [13] [(27, .row 2)] [] ?_
        refine Run.one (StepF.call (o := ((drawOf (cgo 21 [true] [.code B96]))[17]?).getD default) (x := (.func 108)) (args := #[(.tmp 27), (.tmp 28), (.tmp 30)]) (ts := #[46, 3, 3]) (first := []) (cap := []) [2] [.row 0, .d (.int .i64 (↑(pos ks x) : Int)), .d (.int .i64 (IntKind.i64.wrap ((↑(pos ks x) : Int) + 1)))] [.row 1 (map intD V2) false] [.row 1 (map intD (V2.eraseIdx (pos ks x))) true] (v := .row 2) (by kernel_rfl) rfl (by kernel_rfl) (by kernel_rfl) F108 (@spec_108 (V2) (pos ks x) (by grind) (by omega)) (by kernel_rfl) (by kernel_rfl) (by kernel_rfl) (by kernel_rfl) ⟨rfl, rfl, by kernel_rfl⟩ (by kernel_rfl) (by kernel_rfl) (by kernel_rfl) (by kernel_rfl) (by kernel_rfl) rfl rfl) ?_
        exact Run.fin
      · refine ⟨[⟨[], [], [], [0], [0], [], true, false⟩, ⟨[], [], [], [0], [0], [], true, false⟩, ⟨[], [], [], [0], [0], [], true, false⟩, ⟨[], [], [], [0], [0], [0], true, false⟩, ⟨[], [], [], [0], [0], [0], true, false⟩, ⟨[0], [], [], [1], [0, 1, 2], [], true, false⟩, nF, nF, nF, ⟨[1], [1], [1], [1], [1], [], true, false⟩, ⟨[], [], [], [0], [0], [], true, false⟩, ⟨[], [], [], [0], [0], [0], true, false⟩, ⟨[], [], [], [0], [0], [0], true, false⟩, ⟨[0], [], [], [2], [0, 1, 2], [], true, false⟩, nF, nF, nF, ⟨[2], [2], [2], [2], [2], [], true, false⟩, ⟨[], [], [], [0], [0], [0], true, false⟩, ⟨[], [], [], [0], [0], [0], true, false⟩, ⟨[0], [0], [], [1], [0, 1], [], false, false⟩, ⟨[], [], [], [0], [0], [0], true, false⟩, ⟨[], [], [], [0], [0], [0], true, false⟩, ⟨[0], [0], [], [1, 2], [0, 2, 1], [], false, false⟩], run_amongF hL _ [(13, 9)] [0, 1, 2, 3, 4, 5, 6, 7, 8, 10, 11, 12, 13, 14, 15, 16, 9, 17, 18, 19, 20, 21, 22, 23] (by simp [o9]) (by kernel_rfl) ?_⟩
        refine Run.ap [0, 1, 2, 3, 4, 5, 6, 7, 8, 10, 11, 12, 13, 14, 15, 16] [(14, .ptr 0 0 0), (15, .ptr 0 0 0), (16, .ptr 0 0 0), (17, .ptr 0 0 0), (18, .ptr 0 0 0), (19, .row 1), (20, .d (.int .i64 (↑(pos ks x) : Int))), (21, .d (.int .i64 (↑(pos ks x) : Int))), (22, .d (.int .i64 (IntKind.i64.wrap ((↑(pos ks x) : Int) + 1)))), (24, .ptr 0 0 0), (25, .ptr 0 0 0), (26, .ptr 0 0 1), (27, .row 2), (28, .d (.int .i64 (↑(pos ks x) : Int))), (29, .d (.int .i64 (↑(pos ks x) : Int))), (30, .d (.int .i64 (IntKind.i64.wrap ((↑(pos ks x) : Int) + 1))))] [] ?_
        refine Run.one (StepF.call (o := ((drawOf (cgo 21 [true] [.code B96]))[9]?).getD default) (x := (.func 107)) (args := #[(.tmp 19), (.tmp 20), (.tmp 22)]) (ts := #[66, 3, 3]) (first := []) (cap := []) [1] [.row 0, .d (.int .i64 (↑(pos ks x) : Int)), .d (.int .i64 (IntKind.i64.wrap ((↑(pos ks x) : Int) + 1)))] [.row 1 (map strD ks) false] [.row 1 (map strD (ks.eraseIdx (pos ks x))) true] (v := .row 1) (by kernel_rfl) rfl (by kernel_rfl) (by kernel_rfl) F107 (@spec_107 (ks) (pos ks x) (by grind) (by assumption)) (by kernel_rfl) (by kernel_rfl) (by kernel_rfl) (by kernel_rfl) ⟨rfl, rfl, by kernel_rfl⟩ (by kernel_rfl) (by kernel_rfl) (by kernel_rfl) (by kernel_rfl) (by kernel_rfl) rfl rfl) ?_
        refine Run.one (StepF.call (o := ((drawOf (cgo 21 [true] [.code B96]))[17]?).getD default) (x := (.func 108)) (args := #[(.tmp 27), (.tmp 28), (.tmp 30)]) (ts := #[46, 3, 3]) (first := []) (cap := []) [2] [.row 0, .d (.int .i64 (↑(pos ks x) : Int)), .d (.int .i64 (IntKind.i64.wrap ((↑(pos ks x) : Int) + 1)))] [.row 1 (map intD V2) false] [.row 1 (map intD (V2.eraseIdx (pos ks x))) true] (v := .row 2) (by kernel_rfl) rfl (by kernel_rfl) (by kernel_rfl) F108 (@spec_108 (V2) (pos ks x) (by grind) (by omega)) (by kernel_rfl) (by kernel_rfl) (by kernel_rfl) (by kernel_rfl) ⟨rfl, rfl, by kernel_rfl⟩ (by kernel_rfl) (by kernel_rfl) (by kernel_rfl) (by kernel_rfl) (by kernel_rfl) rfl rfl) ?_
        exact Run.fin
    refine .seg 5 [4] (T' := cgo 27 [true] [.code B96]) (tm' := mk 37 [(4, .d (.bool (decide (ks[pos ks x]? = some x))))]) (σ' := [.cells [.row 1, .row 2], .row 1 (map strD (ks.eraseIdx (pos ks x))) true, .row 1 (map intD (V2.eraseIdx (pos ks x))) true]) (by kernel_rfl) ?_
    refine .raise 1 rfl rfl ?_
    refine .raise 2 rfl rfl ?_
    refine .retH F96 (v := V.d (D.bool (decide (ks[pos ks x]? = some x)))) (by kernel_rfl) (by kernel_rfl) ?_
    exact ⟨by simp [h2], by simp [kdrop, h2]⟩
  · simp only [bsX] at h2
    refine .seg 6 [4] (T' := cgo 27 [false] [.code B96]) (tm' := mk 37 [(4, .d (.bool (decide (ks[pos ks x]? = some x))))]) (σ' := [.cells [.row 1, .row 2], .row 1 (map strD ks) false, .row 1 (map intD V2) false]) (by kernel_rfl) ?_
    refine .raise 1 rfl rfl ?_
    refine .raise 2 rfl rfl ?_
    refine .retH F96 (v := V.d (D.bool (decide (ks[pos ks x]? = some x)))) (by kernel_rfl) (by kernel_rfl) ?_
    exact ⟨by simp [h2], by simp [kdrop, h2]⟩
end Go.Proofs.Ytoelkgbeefoplaa
namespace Go.Proofs.Ytoelkgbeefoplaa
open Go Go.Br Go.Proofs
open List (map)
theorem pos_get_low {ks : List ByteArray} {x : ByteArray} : ∀ k ∈ ks.take (pos ks x), lt k x = true := by
  intro k hk
  obtain ⟨i, hi, rfl⟩ := List.mem_iff_getElem.1 hk
  simp only [List.length_take] at hi
  rw [List.getElem_take]
  exact pos_low (by omega) (by omega)
theorem pos_get_high {ks : List ByteArray} {x : ByteArray} (hr : Rising ks) : ∀ k ∈ ks.drop (pos ks x), lt k x = false := by
  intro k hk
  obtain ⟨i, hi, rfl⟩ := List.mem_iff_getElem.1 hk
  simp only [List.length_drop] at hi
  rw [List.getElem_drop]
  exact pos_high hr (by omega) (by omega)
theorem kdrop_rising {ks : List ByteArray} {V2 : List Int} {x : ByteArray} (hr : Rising ks) : Rising (kdrop ks V2 x).1 := by
  unfold kdrop; split
  · exact List.Pairwise.sublist (List.eraseIdx_sublist _ _) hr
  · exact hr
theorem kdrop_len {ks : List ByteArray} {V2 : List Int} {x : ByteArray} (hv : V2.length = ks.length) : (kdrop ks V2 x).2.length = (kdrop ks V2 x).1.length := by
  unfold kdrop; split
  · simp [List.length_eraseIdx, hv]
  · exact hv
theorem kdrop_le {ks : List ByteArray} {V2 : List Int} {x : ByteArray} : (kdrop ks V2 x).1.length ≤ ks.length := by
  unfold kdrop; split
  · simp only [List.length_eraseIdx]; split <;> omega
  · exact Nat.le_refl _
theorem kput_rising {ks : List ByteArray} {V2 : List Int} {x : ByteArray} {y : Int} (hr : Rising ks) : Rising (kput ks V2 x y).1 := by
  unfold kput; split
  · exact hr
  · rename_i hne
    have h1 := @pos_get_low ks x
    have h2 := @pos_get_high ks x hr
    have h4 : ∀ k ∈ ks.drop (pos ks x), lt x k = true := by
      intro k hk
      cases h : lt x k with
      | true => rfl
      | false =>
        exfalso
        have he := lt_total h (h2 k hk)
        subst he
        obtain ⟨i, hi, he⟩ := List.mem_iff_getElem.1 hk
        simp only [List.length_drop] at hi
        rw [List.getElem_drop] at he
        cases i with
        | zero => exact hne (by rw [List.getElem?_eq_getElem (by omega)]; simpa using he)
        | succ i =>
          have := List.pairwise_iff_getElem.1 hr (pos ks x) (pos ks x + (i + 1)) (by omega) (by omega) (by omega)
          rw [he] at this
          rw [pos_high hr (Nat.le_refl _) (by omega)] at this
          cases this
    unfold Rising
    rw [List.pairwise_append]
    refine ⟨List.Pairwise.sublist (List.take_sublist _ _) hr, List.pairwise_cons.2 ⟨h4, List.Pairwise.sublist (List.drop_sublist _ _) hr⟩, ?_⟩
    intro a ha b hb
    rcases List.mem_cons.1 hb with rfl | hb
    · exact h1 a ha
    · exact lt_trans (h1 a ha) (h4 b hb)
theorem kput_len {ks : List ByteArray} {V2 : List Int} {x : ByteArray} {y : Int} (hv : V2.length = ks.length) : (kput ks V2 x y).2.length = (kput ks V2 x y).1.length := by
  unfold kput; split
  · simpa using hv
  · simp [hv]
theorem kput_le {ks : List ByteArray} {V2 : List Int} {x : ByteArray} {y : Int} : (kput ks V2 x y).1.length ≤ ks.length + 1 := by
  unfold kput; split
  · simp
  · have := pos_le ks x
    simp; omega
def kapply (ks : List ByteArray) (V2 : List Int) (g n : ByteArray) (k : Int) : List ByteArray × List Int :=
  let p := if g.size = 0 then (ks, V2) else kdrop ks V2 g
  if n.size = 0 then p else kput p.1 p.2 n k
theorem kapply_rising {ks : List ByteArray} {V2 : List Int} {g n : ByteArray} {k : Int} (hr : Rising ks) : Rising (kapply ks V2 g n k).1 := by
  unfold kapply
  dsimp only
  split <;> split <;> first | exact hr | exact kdrop_rising hr | exact kput_rising hr | exact kput_rising (kdrop_rising hr)
theorem kapply_len {ks : List ByteArray} {V2 : List Int} {g n : ByteArray} {k : Int} (hv : V2.length = ks.length) : (kapply ks V2 g n k).2.length = (kapply ks V2 g n k).1.length := by
  unfold kapply
  dsimp only
  split <;> split <;> first | exact hv | exact kdrop_len hv | exact kput_len hv | exact kput_len (kdrop_len hv)
theorem kapply_le {ks : List ByteArray} {V2 : List Int} {g n : ByteArray} {k : Int} : (kapply ks V2 g n k).1.length ≤ ks.length + 1 := by
  unfold kapply
  dsimp only
  have h1 := @kdrop_le ks V2 g
  have h2 := @kput_le ks V2 n k
  have h3 := @kput_le (kdrop ks V2 g).1 (kdrop ks V2 g).2 n k
  split <;> split <;> (try dsimp only) <;> omega
theorem pos_all : ∀ {ks : List ByteArray} {x : ByteArray} (_ : ∀ k ∈ ks, lt k x = true), pos ks x = ks.length
  | [], _, _ => rfl
  | k :: ks, x, h => by
    rw [pos_cons, if_pos (h k (by simp)), pos_all fun k' hk => h k' (by simp [hk])]
    rfl
theorem kput_next {ks : List ByteArray} {V2 : List Int} (hr : Rising ks) (hv : V2.length = ks.length) (i : Nat) (h : i < ks.length) : kput (ks.take i) (V2.take i) ks[i] (V2[i]'(by omega)) = (ks.take (i + 1), V2.take (i + 1)) := by
  have hp : pos (ks.take i) ks[i] = i := by
    rw [pos_all]
    · simp; omega
    · intro k hk
      obtain ⟨j, hj, rfl⟩ := List.mem_iff_getElem.1 hk
      simp only [List.length_take] at hj
      rw [List.getElem_take]
      exact List.pairwise_iff_getElem.1 hr j i (by omega) h (by omega)
  unfold kput
  rw [hp, if_neg (by rw [List.getElem?_eq_none (by simp; omega)]; simp)]
  have h1 : (ks.take i).take i = ks.take i := by rw [List.take_take, Nat.min_self]
  have h2 : (V2.take i).take i = V2.take i := by rw [List.take_take, Nat.min_self]
  have h3 : (ks.take i).drop i = [] := by rw [List.drop_eq_nil_iff, List.length_take]; omega
  have h4 : (V2.take i).drop i = [] := by rw [List.drop_eq_nil_iff, List.length_take]; omega
  rw [h1, h2, h3, h4, List.take_succ_eq_append_getElem h, List.take_succ_eq_append_getElem (by omega : i < V2.length)]
end Go.Proofs.Ytoelkgbeefoplaa
namespace Go.Proofs.Ytoelkgbeefoplaa
open Go Go.Br Go.Proofs
open List (map)
noncomputable def B28 : Code := (Try.f28.body).getD .skip
theorem F28 : Fnc Try.prog 28 Try.f28 B28 := ⟨Try.func28, by kernel_rfl, by kernel_rfl⟩
def okc (c : Int) : Prop := (97 ≤ c ∧ c ≤ 122) ∨ (48 ≤ c ∧ c ≤ 57) ∨ c = 46 ∨ c = 45 ∨ c = 95
instance (c : Int) : Decidable (okc c) := by unfold okc; exact inferInstance
def mayName (s : ByteArray) : Bool := decide (∀ j, ∀ _ : j < s.size, okc (s[j].toNat : Int)) && decide (1 ≤ s.size ∧ s.size ≤ 80)
theorem get_of {s : ByteArray} {i : Nat} {y : UInt8} (hy : s[i]? = some y) : ∃ h : i < s.size, s[i] = y := by
  by_cases h : i < s.size
  · refine ⟨h, ?_⟩
    rw [show s[i]? = some s[i] by simp [h]] at hy
    exact Option.some.inj hy
  · rw [show s[i]? = none by simp [h]] at hy
    cases hy
theorem no28 {s : ByteArray} {i : Nat} {y : UInt8} (hy : s[i]? = some y) (hc : ¬ okc (y.toNat : Int)) : mayName s = false := by
  obtain ⟨h, rfl⟩ := get_of hy
  unfold mayName
  rw [decide_eq_false fun hall => hc (hall i h), Bool.false_and]
theorem yes28 {s : ByteArray} {i : Nat} {y : UInt8} (hj : ∀ j, ∀ _ : j < s.size, j < i → okc (s[j].toNat : Int)) (hy : s[i]? = some y) (hc : okc (y.toNat : Int)) : ∀ j, ∀ _ : j < s.size, j < i + 1 → okc (s[j].toNat : Int) := by
  obtain ⟨h, rfl⟩ := get_of hy
  intro j hs hi
  by_cases hji : j = i
  · subst hji; exact hc
  · exact hj j hs (by omega)
theorem lp28 (s : ByteArray) (hs : s.size < 9223372036854775807) : ∀ (m i : Nat), i + m = s.size → (∀ j, ∀ _ : j < s.size, j < i → okc (s[j].toNat : Int)) →
    AW Try.prog 28 none 0 (cgo 13 [] [.code B28]) (mk (Try.f28.ntmps) [(0, .d (.str s)), (2, .d (.bool false)), (6, .d (i64 s.size)), (7, .d (i64 i))]) [] [] (fun r σ' => r = .ret (.d (.bool (mayName s))) ∧ σ' = []) := by
  intro m
  induction m with
  | zero =>
    intro i hi hj
    obtain rfl : i = s.size := by omega
    refine .sg0 5 [0, 2, 6, 7, 8] (cgo 18 [] [.code B28]) [(8, .d (.bool (decide ((↑s.size : Int) < (↑s.size : Int)))))] ?_
    refine .if' (decide ((↑s.size : Int) < (↑s.size : Int))) (cgo 19 [true] [.code B28]) (cgo 19 [false] [.code B28]) (fun h1 => ?_) (fun h1 => ?_)
    · simp only [bsX] at h1
      omega
    · simp only [bsX] at h1
      refine .sg0 7 [0, 2, 40, 41, 42, 43] (cgo 26 [false] [.code B28]) [(40, .d (.str s)), (41, .d (.int .i64 (↑s.size : Int))), (42, .d (.bool (decide ((↑s.size : Int) ≥ 1)))), (43, .d (.bool (decide ((↑s.size : Int) ≥ 1))))] ?_
      rcases Bool.eq_false_or_eq_true (decide ((↑s.size : Int) ≥ 1)) with h2 | h2
      · rw [h2]
        simp only [bsX] at h2
        refine .seg 6 [2] (T' := cgo 32 [false] [.code B28]) (tm' := mk 48 [(2, .d (.bool (decide ((↑s.size : Int) ≤ 80))))]) (σ' := []) (by kernel_rfl) ?_
        refine .retH F28 (v := V.d (D.bool (decide ((↑s.size : Int) ≤ 80)))) (by kernel_rfl) (by kernel_rfl) ?_
        refine ⟨?_, rfl⟩
        unfold mayName
        rw [decide_eq_true (fun j h => hj j h h), Bool.true_and]
        exact congrArg (fun b => AE.ret (V.d (D.bool b))) (decide_eq_decide.2 (by omega))
      · rw [h2]
        simp only [bsX] at h2
        refine .seg 6 [2] (T' := cgo 32 [false] [.code B28]) (tm' := mk 48 [(2, .d (.bool false))]) (σ' := []) (by kernel_rfl) ?_
        refine .retH F28 (v := V.d (D.bool false)) (by kernel_rfl) (by kernel_rfl) ?_
        (simp [mayName] <;> omega)
  | succ m ih =>
    intro i hi hj
    refine .sg0 5 [0, 2, 6, 7, 8] (cgo 18 [] [.code B28]) [(8, .d (.bool (decide ((↑i : Int) < (↑s.size : Int)))))] ?_
    refine .if' (decide ((↑i : Int) < (↑s.size : Int))) (cgo 19 [true] [.code B28]) (cgo 19 [false] [.code B28]) (fun h1 => ?_) (fun h1 => ?_)
    · simp only [bsX] at h1
      refine .sg0 12 [0, 2, 3, 6, 7, 8, 9, 10, 11] (cgo 31 [true] [.code B28]) [(3, .d (.int .i64 (↑i : Int))), (9, .d (.int .i64 (↑i : Int))), (10, .d (.str s)), (11, .d (.int .i64 (↑i : Int)))] ?_
      obtain ⟨y2, hy2⟩ := str_get (s := s) (i := i) (by omega)
      refine .op' (cgo 32 [true] [.code B28]) (ixStr_ok (t := 9) (x := (.tmp 10)) (i := (.tmp 11)) (k := IntKind.i64) (n := (↑i : Int)) (s := s) (b := y2) (by kernel_rfl) (by kernel_rfl) (by kernel_rfl) (by kernel_rfl) (by omega) hy2) ?_
      refine .sg0 7 [0, 2, 3, 4, 6, 7, 8, 9, 10, 11, 12, 13, 14, 15] (cgo 39 [true] [.code B28]) [(4, .d (.int .u8 (↑y2.toNat : Int))), (13, .d (.int .u8 (↑y2.toNat : Int))), (14, .d (.bool (decide ((↑y2.toNat : Int) < 97)))), (15, .d (.bool (decide ((↑y2.toNat : Int) < 97))))] ?_
      rcases Bool.eq_false_or_eq_true (decide ((↑y2.toNat : Int) < 97)) with h3 | h3
      · rw [h3]
        simp only [bsX] at h3
        refine .sg0 7 [0, 2, 3, 4, 6, 7, 8, 9, 10, 11, 12, 13, 14, 15, 16, 17, 18, 19, 20, 21, 22] (cgo 46 [true] [.code B28]) [(16, .tuple []), (17, .tuple []), (18, .d (.bool true)), (19, .d (.bool true)), (20, .d (.int .u8 (↑y2.toNat : Int))), (21, .d (.bool (decide ((↑y2.toNat : Int) < 48)))), (22, .d (.bool (decide ((↑y2.toNat : Int) < 48))))] ?_
        rcases Bool.eq_false_or_eq_true (decide ((↑y2.toNat : Int) < 48)) with h4 | h4
        · rw [h4]
          simp only [bsX] at h4
          refine .sg0 9 [0, 2, 3, 4, 6, 7, 8, 9, 10, 11, 12, 13, 14, 15, 16, 17, 18, 19, 20, 21, 22, 23, 24, 25, 26, 27, 28, 29, 30, 31] (cgo 55 [true] [.code B28]) [(23, .tuple []), (24, .tuple []), (25, .d (.bool true)), (26, .d (.bool true)), (27, .d (.bool true)), (28, .d (.int .u8 (↑y2.toNat : Int))), (29, .d (.bool ((↑y2.toNat : Int) != 46))), (30, .d (.bool ((↑y2.toNat : Int) != 46))), (31, .d (.bool ((↑y2.toNat : Int) != 46)))] ?_
          rcases Bool.eq_false_or_eq_true ((↑y2.toNat : Int) != 46) with h5 | h5
          · rw [h5]
            simp only [bsX] at h5
            refine .sg0 4 [0, 2, 3, 4, 6, 7, 8, 9, 10, 11, 12, 13, 14, 15, 16, 17, 18, 19, 20, 21, 22, 23, 24, 25, 26, 27, 28, 29, 30, 31, 32, 33, 34, 35] (cgo 59 [true] [.code B28]) [(32, .d (.int .u8 (↑y2.toNat : Int))), (33, .d (.bool ((↑y2.toNat : Int) != 45))), (34, .d (.bool ((↑y2.toNat : Int) != 45))), (35, .d (.bool ((↑y2.toNat : Int) != 45)))] ?_
            rcases Bool.eq_false_or_eq_true ((↑y2.toNat : Int) != 45) with h6 | h6
            · rw [h6]
              simp only [bsX] at h6
              refine .sg0 4 [0, 2, 3, 4, 6, 7, 8, 9, 10, 11, 12, 13, 14, 15, 16, 17, 18, 19, 20, 21, 22, 23, 24, 25, 26, 27, 28, 29, 30, 31, 32, 33, 34, 35, 36, 37, 38] (cgo 63 [true] [.code B28]) [(36, .d (.int .u8 (↑y2.toNat : Int))), (37, .d (.bool ((↑y2.toNat : Int) != 95))), (38, .d (.bool ((↑y2.toNat : Int) != 95)))] ?_
              refine .if' ((↑y2.toNat : Int) != 95) (cgo 64 [true, true] [.code B28]) (cgo 64 [true, false] [.code B28]) (fun h7 => ?_) (fun h7 => ?_)
              · simp only [bsX] at h7
                refine .seg 4 [0, 2, 3, 4, 6, 7, 8, 9, 10, 11, 12, 13, 14, 15, 16, 17, 18, 19, 20, 21, 22, 23, 24, 25, 26, 27, 28, 29, 30, 31, 32, 33, 34, 35, 36, 37, 38] (T' := cgo 68 [true, true] [.code B28]) (tm' := mk 48 [(0, .d (.str s)), (2, .d (.bool false)), (3, .d (.int .i64 (↑i : Int))), (4, .d (.int .u8 (↑y2.toNat : Int))), (6, .d (.int .i64 (↑s.size : Int))), (7, .d (.int .i64 (↑i : Int))), (8, .d (.bool (decide ((↑i : Int) < (↑s.size : Int))))), (9, .d (.int .i64 (↑i : Int))), (10, .d (.str s)), (11, .d (.int .i64 (↑i : Int))), (12, .d (.int .u8 (↑y2.toNat : Int))), (13, .d (.int .u8 (↑y2.toNat : Int))), (14, .d (.bool true)), (15, .d (.bool true)), (16, .tuple []), (17, .tuple []), (18, .d (.bool true)), (19, .d (.bool true)), (20, .d (.int .u8 (↑y2.toNat : Int))), (21, .d (.bool true)), (22, .d (.bool true)), (23, .tuple []), (24, .tuple []), (25, .d (.bool true)), (26, .d (.bool true)), (27, .d (.bool true)), (28, .d (.int .u8 (↑y2.toNat : Int))), (29, .d (.bool true)), (30, .d (.bool true)), (31, .d (.bool true)), (32, .d (.int .u8 (↑y2.toNat : Int))), (33, .d (.bool true)), (34, .d (.bool true)), (35, .d (.bool true)), (36, .d (.int .u8 (↑y2.toNat : Int))), (37, .d (.bool ((↑y2.toNat : Int) != 95))), (38, .d (.bool ((↑y2.toNat : Int) != 95)))]) (σ' := []) (by kernel_rfl) ?_
                refine .retH F28 (v := V.d (D.bool false)) (by kernel_rfl) (by kernel_rfl) ?_
                exact ⟨by rw [no28 hy2 (by unfold okc; omega)], rfl⟩
              · simp only [bsX] at h7
                omega
            · rw [h6]
              simp only [bsX] at h6
              refine .sg0 11 [0, 2, 3, 4, 6, 7, 8, 9, 10, 11, 12, 13, 14, 15, 16, 17, 18, 19, 20, 21, 22, 23, 24, 25, 26, 27, 28, 29, 30, 31, 32, 33, 34, 35, 36, 37, 38, 39] (cgo 70 [true, false] [.code B28]) [(7, .d (.int .i64 (IntKind.i64.wrap ((↑i : Int) + 1)))), (36, .tuple []), (37, .tuple []), (38, .d (.bool false)), (39, .d (.int .i64 (IntKind.i64.wrap ((↑i : Int) + 1))))] ?_
              simp (disch := omega) only [wrap_i64, wrap_u64s, wrap_u32s, wrap_u8s, wrap_i32s, iadd_i64, isub_i64, irem_n, iquo_n, tdiv_nn, tmod_nn]
              refine .seg 1 [0, 2, 6, 7] (T' := cgo 13 [] [.code B28]) (tm' := mk 48 [(0, .d (.str s)), (2, .d (.bool false)), (6, .d (i64 s.size)), (7, .d (i64 (↑i + 1)))]) (σ' := []) (by kernel_rfl) ?_
              exact ih (i + 1) (by omega) (yes28 hj hy2 (by unfold okc; omega))
          · rw [h5]
            simp only [bsX] at h5
            refine .sg0 15 [0, 2, 3, 4, 6, 7, 8, 9, 10, 11, 12, 13, 14, 15, 16, 17, 18, 19, 20, 21, 22, 23, 24, 25, 26, 27, 28, 29, 30, 31, 32, 33, 34, 35, 36, 37, 38, 39] (cgo 70 [true, false] [.code B28]) [(7, .d (.int .i64 (IntKind.i64.wrap ((↑i : Int) + 1)))), (32, .tuple []), (33, .tuple []), (34, .d (.bool false)), (35, .d (.bool false)), (36, .tuple []), (37, .tuple []), (38, .d (.bool false)), (39, .d (.int .i64 (IntKind.i64.wrap ((↑i : Int) + 1))))] ?_
            simp (disch := omega) only [wrap_i64, wrap_u64s, wrap_u32s, wrap_u8s, wrap_i32s, iadd_i64, isub_i64, irem_n, iquo_n, tdiv_nn, tmod_nn]
            refine .seg 1 [0, 2, 6, 7] (T' := cgo 13 [] [.code B28]) (tm' := mk 48 [(0, .d (.str s)), (2, .d (.bool false)), (6, .d (i64 s.size)), (7, .d (i64 (↑i + 1)))]) (σ' := []) (by kernel_rfl) ?_
            exact ih (i + 1) (by omega) (yes28 hj hy2 (by unfold okc; omega))
        · rw [h4]
          simp only [bsX] at h4
          refine .sg0 5 [0, 2, 3, 4, 6, 7, 8, 9, 10, 11, 12, 13, 14, 15, 16, 17, 18, 19, 20, 21, 22, 23, 24, 25, 26, 27] (cgo 51 [true] [.code B28]) [(23, .d (.int .u8 (↑y2.toNat : Int))), (24, .d (.bool (decide ((↑y2.toNat : Int) > 57)))), (25, .d (.bool (decide ((↑y2.toNat : Int) > 57)))), (26, .d (.bool (decide ((↑y2.toNat : Int) > 57)))), (27, .d (.bool (decide ((↑y2.toNat : Int) > 57))))] ?_
          rcases Bool.eq_false_or_eq_true (decide ((↑y2.toNat : Int) > 57)) with h8 | h8
          · rw [h8]
            simp only [bsX] at h8
            refine .sg0 4 [0, 2, 3, 4, 6, 7, 8, 9, 10, 11, 12, 13, 14, 15, 16, 17, 18, 19, 20, 21, 22, 23, 24, 25, 26, 27, 28, 29, 30, 31] (cgo 55 [true] [.code B28]) [(28, .d (.int .u8 (↑y2.toNat : Int))), (29, .d (.bool ((↑y2.toNat : Int) != 46))), (30, .d (.bool ((↑y2.toNat : Int) != 46))), (31, .d (.bool ((↑y2.toNat : Int) != 46)))] ?_
            rcases Bool.eq_false_or_eq_true ((↑y2.toNat : Int) != 46) with h9 | h9
            · rw [h9]
              simp only [bsX] at h9
              refine .sg0 4 [0, 2, 3, 4, 6, 7, 8, 9, 10, 11, 12, 13, 14, 15, 16, 17, 18, 19, 20, 21, 22, 23, 24, 25, 26, 27, 28, 29, 30, 31, 32, 33, 34, 35] (cgo 59 [true] [.code B28]) [(32, .d (.int .u8 (↑y2.toNat : Int))), (33, .d (.bool ((↑y2.toNat : Int) != 45))), (34, .d (.bool ((↑y2.toNat : Int) != 45))), (35, .d (.bool ((↑y2.toNat : Int) != 45)))] ?_
              rcases Bool.eq_false_or_eq_true ((↑y2.toNat : Int) != 45) with h10 | h10
              · rw [h10]
                simp only [bsX] at h10
                refine .sg0 4 [0, 2, 3, 4, 6, 7, 8, 9, 10, 11, 12, 13, 14, 15, 16, 17, 18, 19, 20, 21, 22, 23, 24, 25, 26, 27, 28, 29, 30, 31, 32, 33, 34, 35, 36, 37, 38] (cgo 63 [true] [.code B28]) [(36, .d (.int .u8 (↑y2.toNat : Int))), (37, .d (.bool ((↑y2.toNat : Int) != 95))), (38, .d (.bool ((↑y2.toNat : Int) != 95)))] ?_
                refine .if' ((↑y2.toNat : Int) != 95) (cgo 64 [true, true] [.code B28]) (cgo 64 [true, false] [.code B28]) (fun h11 => ?_) (fun h11 => ?_)
                · simp only [bsX] at h11
                  refine .seg 4 [0, 2, 3, 4, 6, 7, 8, 9, 10, 11, 12, 13, 14, 15, 16, 17, 18, 19, 20, 21, 22, 23, 24, 25, 26, 27, 28, 29, 30, 31, 32, 33, 34, 35, 36, 37, 38] (T' := cgo 68 [true, true] [.code B28]) (tm' := mk 48 [(0, .d (.str s)), (2, .d (.bool false)), (3, .d (.int .i64 (↑i : Int))), (4, .d (.int .u8 (↑y2.toNat : Int))), (6, .d (.int .i64 (↑s.size : Int))), (7, .d (.int .i64 (↑i : Int))), (8, .d (.bool (decide ((↑i : Int) < (↑s.size : Int))))), (9, .d (.int .i64 (↑i : Int))), (10, .d (.str s)), (11, .d (.int .i64 (↑i : Int))), (12, .d (.int .u8 (↑y2.toNat : Int))), (13, .d (.int .u8 (↑y2.toNat : Int))), (14, .d (.bool true)), (15, .d (.bool true)), (16, .tuple []), (17, .tuple []), (18, .d (.bool true)), (19, .d (.bool true)), (20, .d (.int .u8 (↑y2.toNat : Int))), (21, .d (.bool false)), (22, .d (.bool false)), (23, .d (.int .u8 (↑y2.toNat : Int))), (24, .d (.bool true)), (25, .d (.bool true)), (26, .d (.bool true)), (27, .d (.bool true)), (28, .d (.int .u8 (↑y2.toNat : Int))), (29, .d (.bool true)), (30, .d (.bool true)), (31, .d (.bool true)), (32, .d (.int .u8 (↑y2.toNat : Int))), (33, .d (.bool true)), (34, .d (.bool true)), (35, .d (.bool true)), (36, .d (.int .u8 (↑y2.toNat : Int))), (37, .d (.bool ((↑y2.toNat : Int) != 95))), (38, .d (.bool ((↑y2.toNat : Int) != 95)))]) (σ' := []) (by kernel_rfl) ?_
                  refine .retH F28 (v := V.d (D.bool false)) (by kernel_rfl) (by kernel_rfl) ?_
                  exact ⟨by rw [no28 hy2 (by unfold okc; omega)], rfl⟩
                · simp only [bsX] at h11
                  refine .sg0 6 [0, 2, 3, 4, 6, 7, 8, 9, 10, 11, 12, 13, 14, 15, 16, 17, 18, 19, 20, 21, 22, 23, 24, 25, 26, 27, 28, 29, 30, 31, 32, 33, 34, 35, 36, 37, 38, 39] (cgo 70 [true, false] [.code B28]) [(7, .d (.int .i64 (IntKind.i64.wrap ((↑i : Int) + 1)))), (39, .d (.int .i64 (IntKind.i64.wrap ((↑i : Int) + 1))))] ?_
                  simp (disch := omega) only [wrap_i64, wrap_u64s, wrap_u32s, wrap_u8s, wrap_i32s, iadd_i64, isub_i64, irem_n, iquo_n, tdiv_nn, tmod_nn]
                  refine .seg 1 [0, 2, 6, 7] (T' := cgo 13 [] [.code B28]) (tm' := mk 48 [(0, .d (.str s)), (2, .d (.bool false)), (6, .d (i64 s.size)), (7, .d (i64 (↑i + 1)))]) (σ' := []) (by kernel_rfl) ?_
                  exact ih (i + 1) (by omega) (yes28 hj hy2 (by unfold okc; omega))
              · rw [h10]
                simp only [bsX] at h10
                omega
            · rw [h9]
              simp only [bsX] at h9
              omega
          · rw [h8]
            simp only [bsX] at h8
            refine .sg0 19 [0, 2, 3, 4, 6, 7, 8, 9, 10, 11, 12, 13, 14, 15, 16, 17, 18, 19, 20, 21, 22, 23, 24, 25, 26, 27, 28, 29, 30, 31, 32, 33, 34, 35, 36, 37, 38, 39] (cgo 70 [true, false] [.code B28]) [(7, .d (.int .i64 (IntKind.i64.wrap ((↑i : Int) + 1)))), (28, .tuple []), (29, .tuple []), (30, .d (.bool false)), (31, .d (.bool false)), (32, .tuple []), (33, .tuple []), (34, .d (.bool false)), (35, .d (.bool false)), (36, .tuple []), (37, .tuple []), (38, .d (.bool false)), (39, .d (.int .i64 (IntKind.i64.wrap ((↑i : Int) + 1))))] ?_
            simp (disch := omega) only [wrap_i64, wrap_u64s, wrap_u32s, wrap_u8s, wrap_i32s, iadd_i64, isub_i64, irem_n, iquo_n, tdiv_nn, tmod_nn]
            refine .seg 1 [0, 2, 6, 7] (T' := cgo 13 [] [.code B28]) (tm' := mk 48 [(0, .d (.str s)), (2, .d (.bool false)), (6, .d (i64 s.size)), (7, .d (i64 (↑i + 1)))]) (σ' := []) (by kernel_rfl) ?_
            exact ih (i + 1) (by omega) (yes28 hj hy2 (by unfold okc; omega))
      · rw [h3]
        simp only [bsX] at h3
        refine .sg0 4 [0, 2, 3, 4, 6, 7, 8, 9, 10, 11, 12, 13, 14, 15, 16, 17, 18, 19] (cgo 43 [true] [.code B28]) [(16, .d (.int .u8 (↑y2.toNat : Int))), (17, .d (.bool (decide ((↑y2.toNat : Int) > 122)))), (18, .d (.bool (decide ((↑y2.toNat : Int) > 122)))), (19, .d (.bool (decide ((↑y2.toNat : Int) > 122))))] ?_
        rcases Bool.eq_false_or_eq_true (decide ((↑y2.toNat : Int) > 122)) with h12 | h12
        · rw [h12]
          simp only [bsX] at h12
          refine .sg0 3 [0, 2, 3, 4, 6, 7, 8, 9, 10, 11, 12, 13, 14, 15, 16, 17, 18, 19, 20, 21, 22] (cgo 46 [true] [.code B28]) [(20, .d (.int .u8 (↑y2.toNat : Int))), (21, .d (.bool (decide ((↑y2.toNat : Int) < 48)))), (22, .d (.bool (decide ((↑y2.toNat : Int) < 48))))] ?_
          rcases Bool.eq_false_or_eq_true (decide ((↑y2.toNat : Int) < 48)) with h13 | h13
          · rw [h13]
            simp only [bsX] at h13
            omega
          · rw [h13]
            simp only [bsX] at h13
            refine .sg0 5 [0, 2, 3, 4, 6, 7, 8, 9, 10, 11, 12, 13, 14, 15, 16, 17, 18, 19, 20, 21, 22, 23, 24, 25, 26, 27] (cgo 51 [true] [.code B28]) [(23, .d (.int .u8 (↑y2.toNat : Int))), (24, .d (.bool (decide ((↑y2.toNat : Int) > 57)))), (25, .d (.bool (decide ((↑y2.toNat : Int) > 57)))), (26, .d (.bool (decide ((↑y2.toNat : Int) > 57)))), (27, .d (.bool (decide ((↑y2.toNat : Int) > 57))))] ?_
            rcases Bool.eq_false_or_eq_true (decide ((↑y2.toNat : Int) > 57)) with h14 | h14
            · rw [h14]
              simp only [bsX] at h14
              refine .sg0 4 [0, 2, 3, 4, 6, 7, 8, 9, 10, 11, 12, 13, 14, 15, 16, 17, 18, 19, 20, 21, 22, 23, 24, 25, 26, 27, 28, 29, 30, 31] (cgo 55 [true] [.code B28]) [(28, .d (.int .u8 (↑y2.toNat : Int))), (29, .d (.bool ((↑y2.toNat : Int) != 46))), (30, .d (.bool ((↑y2.toNat : Int) != 46))), (31, .d (.bool ((↑y2.toNat : Int) != 46)))] ?_
              rcases Bool.eq_false_or_eq_true ((↑y2.toNat : Int) != 46) with h15 | h15
              · rw [h15]
                simp only [bsX] at h15
                refine .sg0 4 [0, 2, 3, 4, 6, 7, 8, 9, 10, 11, 12, 13, 14, 15, 16, 17, 18, 19, 20, 21, 22, 23, 24, 25, 26, 27, 28, 29, 30, 31, 32, 33, 34, 35] (cgo 59 [true] [.code B28]) [(32, .d (.int .u8 (↑y2.toNat : Int))), (33, .d (.bool ((↑y2.toNat : Int) != 45))), (34, .d (.bool ((↑y2.toNat : Int) != 45))), (35, .d (.bool ((↑y2.toNat : Int) != 45)))] ?_
                rcases Bool.eq_false_or_eq_true ((↑y2.toNat : Int) != 45) with h16 | h16
                · rw [h16]
                  simp only [bsX] at h16
                  refine .sg0 4 [0, 2, 3, 4, 6, 7, 8, 9, 10, 11, 12, 13, 14, 15, 16, 17, 18, 19, 20, 21, 22, 23, 24, 25, 26, 27, 28, 29, 30, 31, 32, 33, 34, 35, 36, 37, 38] (cgo 63 [true] [.code B28]) [(36, .d (.int .u8 (↑y2.toNat : Int))), (37, .d (.bool ((↑y2.toNat : Int) != 95))), (38, .d (.bool ((↑y2.toNat : Int) != 95)))] ?_
                  refine .if' ((↑y2.toNat : Int) != 95) (cgo 64 [true, true] [.code B28]) (cgo 64 [true, false] [.code B28]) (fun h17 => ?_) (fun h17 => ?_)
                  · simp only [bsX] at h17
                    refine .seg 4 [0, 2, 3, 4, 6, 7, 8, 9, 10, 11, 12, 13, 14, 15, 16, 17, 18, 19, 20, 21, 22, 23, 24, 25, 26, 27, 28, 29, 30, 31, 32, 33, 34, 35, 36, 37, 38] (T' := cgo 68 [true, true] [.code B28]) (tm' := mk 48 [(0, .d (.str s)), (2, .d (.bool false)), (3, .d (.int .i64 (↑i : Int))), (4, .d (.int .u8 (↑y2.toNat : Int))), (6, .d (.int .i64 (↑s.size : Int))), (7, .d (.int .i64 (↑i : Int))), (8, .d (.bool (decide ((↑i : Int) < (↑s.size : Int))))), (9, .d (.int .i64 (↑i : Int))), (10, .d (.str s)), (11, .d (.int .i64 (↑i : Int))), (12, .d (.int .u8 (↑y2.toNat : Int))), (13, .d (.int .u8 (↑y2.toNat : Int))), (14, .d (.bool false)), (15, .d (.bool false)), (16, .d (.int .u8 (↑y2.toNat : Int))), (17, .d (.bool true)), (18, .d (.bool true)), (19, .d (.bool true)), (20, .d (.int .u8 (↑y2.toNat : Int))), (21, .d (.bool false)), (22, .d (.bool false)), (23, .d (.int .u8 (↑y2.toNat : Int))), (24, .d (.bool true)), (25, .d (.bool true)), (26, .d (.bool true)), (27, .d (.bool true)), (28, .d (.int .u8 (↑y2.toNat : Int))), (29, .d (.bool true)), (30, .d (.bool true)), (31, .d (.bool true)), (32, .d (.int .u8 (↑y2.toNat : Int))), (33, .d (.bool true)), (34, .d (.bool true)), (35, .d (.bool true)), (36, .d (.int .u8 (↑y2.toNat : Int))), (37, .d (.bool ((↑y2.toNat : Int) != 95))), (38, .d (.bool ((↑y2.toNat : Int) != 95)))]) (σ' := []) (by kernel_rfl) ?_
                    refine .retH F28 (v := V.d (D.bool false)) (by kernel_rfl) (by kernel_rfl) ?_
                    exact ⟨by rw [no28 hy2 (by unfold okc; omega)], rfl⟩
                  · simp only [bsX] at h17
                    omega
                · rw [h16]
                  simp only [bsX] at h16
                  omega
              · rw [h15]
                simp only [bsX] at h15
                omega
            · rw [h14]
              simp only [bsX] at h14
              omega
        · rw [h12]
          simp only [bsX] at h12
          refine .sg0 27 [0, 2, 3, 4, 6, 7, 8, 9, 10, 11, 12, 13, 14, 15, 16, 17, 18, 19, 20, 21, 22, 23, 24, 25, 26, 27, 28, 29, 30, 31, 32, 33, 34, 35, 36, 37, 38, 39] (cgo 70 [true, false] [.code B28]) [(7, .d (.int .i64 (IntKind.i64.wrap ((↑i : Int) + 1)))), (20, .tuple []), (21, .tuple []), (22, .tuple []), (23, .tuple []), (24, .tuple []), (25, .tuple []), (26, .d (.bool false)), (27, .d (.bool false)), (28, .tuple []), (29, .tuple []), (30, .d (.bool false)), (31, .d (.bool false)), (32, .tuple []), (33, .tuple []), (34, .d (.bool false)), (35, .d (.bool false)), (36, .tuple []), (37, .tuple []), (38, .d (.bool false)), (39, .d (.int .i64 (IntKind.i64.wrap ((↑i : Int) + 1))))] ?_
          simp (disch := omega) only [wrap_i64, wrap_u64s, wrap_u32s, wrap_u8s, wrap_i32s, iadd_i64, isub_i64, irem_n, iquo_n, tdiv_nn, tmod_nn]
          refine .seg 1 [0, 2, 6, 7] (T' := cgo 13 [] [.code B28]) (tm' := mk 48 [(0, .d (.str s)), (2, .d (.bool false)), (6, .d (i64 s.size)), (7, .d (i64 (↑i + 1)))]) (σ' := []) (by kernel_rfl) ?_
          exact ih (i + 1) (by omega) (yes28 hj hy2 (by unfold okc; omega))
    · simp only [bsX] at h1
      omega
theorem spec_28 (s : ByteArray) (hs : s.size < 9223372036854775807) : Br.Pure Try.prog 28 [.d (.str s)] (.d (.bool (mayName s))) := by
  refine CallsA.start F28 (tm := mk 48 [(0, .d (.str s))]) (by kernel_rfl) ?_
  refine .seg 13 [0, 2, 6, 7] (T' := cgo 13 [] [.code B28]) (tm' := mk 48 [(0, .d (.str s)), (2, .d (.bool false)), (6, .d (i64 s.size)), (7, .d (i64 (0 : Nat)))]) (σ' := []) (by kernel_rfl) ?_
  exact lp28 s hs s.size 0 (by omega) fun j _ h => by omega
end Go.Proofs.Ytoelkgbeefoplaa
namespace Go.Proofs.Ytoelkgbeefoplaa
open Go Go.Br Go.Proofs
open List (map)
end Go.Proofs.Ytoelkgbeefoplaa
namespace Go.Proofs.Ytoelkgbeefoplaa
open Go Go.Br Go.Proofs
open List (map)
theorem le4_length (x : BitVec 32) : (le4 x).length = 4 := rfl
theorem getD_le4 (x : BitVec 32) (t : List UInt8) : (le4 x ++ t).getD 0 0 = byt x 0 ∧ (le4 x ++ t).getD 1 0 = byt x 1 ∧ (le4 x ++ t).getD 2 0 = byt x 2 ∧ (le4 x ++ t).getD 3 0 = byt x 3 := ⟨rfl, rfl, rfl, rfl⟩
theorem get4_le4 (x : BitVec 32) (t : List UInt8) : get4 (le4 x ++ t) 0 = x := by
  apply BitVec.eq_of_toNat_eq
  rw [get4_toNat (by simp [le4_length])]
  obtain ⟨h0, h1, h2, h3⟩ := getD_le4 x t
  simp only [Nat.zero_add]
  rw [h0, h1, h2, h3, byt_toNat, byt_toNat, byt_toNat, byt_toNat]
  have := x.isLt
  simp
  omega
theorem get4_drop (bs : List UInt8) (k : Nat) (h : k + 4 ≤ bs.length) : get4 bs k = get4 (bs.drop k) 0 := by
  have hg : ∀ i, bs.getD (k + i) 0 = (bs.drop k).getD i 0 := fun i => by simp [List.getD_eq_getElem?_getD]
  have h0 := hg 0
  rw [Nat.add_zero] at h0
  rw [get4, get4, if_pos h, if_pos (by simp; omega), h0, hg 1, hg 2, hg 3]
theorem toInt_small {n : Nat} (h : n ≤ 65536) : (BitVec.ofNat 32 n).toInt = (n : Int) := by
  rw [BitVec.toInt_eq_toNat_cond, BitVec.toNat_ofNat, Nat.mod_eq_of_lt (by omega)]
  split <;> omega
theorem front {r t : List UInt8} (hr : r.length ≤ 65536) : fits (frame r ++ t) = true ∧ sumOk (frame r ++ t) = true ∧ nOf (frame r ++ t) = r.length ∧ piece (frame r ++ t) = r ∧ (frame r ++ t).drop (r.length + 8) = t := by
  have e : frame r ++ t = le4 (BitVec.ofNat 32 r.length) ++ (r ++ (le4 (crc (bare r)) ++ t)) := by simp [frame, bare]
  have hl : (frame r ++ t).length = r.length + 8 + t.length := by rw [List.length_append, frame_length]
  have h0 : get4 (frame r ++ t) 0 = BitVec.ofNat 32 r.length := by rw [e, get4_le4]
  have hi : (get4 (frame r ++ t) 0).toInt = (r.length : Int) := by rw [h0, toInt_small hr]
  have hn : nOf (frame r ++ t) = r.length := by unfold nOf; omega
  have hf : fits (frame r ++ t) = true := by
    simp only [fits, Bool.and_eq_true, decide_eq_true_eq]
    omega
  have hb : (frame r ++ t).take (4 + r.length) = bare r := by
    have e2 : frame r ++ t = bare r ++ (le4 (crc (bare r)) ++ t) := by simp [frame]
    rw [e2, List.take_left' (by simp [bare, le4_length])]
  refine ⟨hf, ?_, hn, ?_, ?_⟩
  · unfold sumOk
    rw [hn, hb, get4_drop _ _ (by omega)]
    have e3 : (frame r ++ t).drop (4 + r.length) = le4 (crc (bare r)) ++ t := by
      have e2 : frame r ++ t = bare r ++ (le4 (crc (bare r)) ++ t) := by simp [frame]
      rw [e2, List.drop_left' (by simp [bare, le4_length])]
    rw [e3, get4_le4]
    simp
  · rw [piece, hn, hb, bare, List.drop_left' (by simp [le4_length])]
  · rw [List.drop_left' (by rw [frame_length])]
theorem fits_short {bs : List UInt8} (h : bs.length < 8) : fits bs = false := by
  rw [fits_iff]; simp [h]
theorem allOf_cons (r : List UInt8) (l : List (List UInt8)) : allOf (r :: l) = frame r ++ allOf l := by simp [allOf]
theorem recs_all : ∀ (l : List (List UInt8)) (more : List UInt8) (m : Nat), (∀ r ∈ l, r.length ≤ 65536) → more.length < 8 → (allOf l ++ more).length < m → recs m (allOf l ++ more) = l
  | [], more, 0, _, _, h => by omega
  | [], more, m + 1, _, hm, h => by
    have e : allOf [] ++ more = more := by simp [allOf]
    rw [e, recs, fits_short hm]; rfl
  | r :: l, more, 0, _, _, h => by omega
  | r :: l, more, m + 1, hl, hm, h => by
    have hr := hl r (by simp)
    rw [allOf_cons, List.append_assoc] at h ⊢
    obtain ⟨h1, h2, h3, h4, h5⟩ := front (t := allOf l ++ more) hr
    rw [recs, h1, h2, h3, h4, h5]
    simp only [Bool.and_self, if_true]
    rw [recs_all l more m (fun x hx => hl x (by simp [hx])) hm (by rw [List.length_append, frame_length] at h; omega)]
theorem good_all : ∀ l : List (List UInt8), good l = (allOf l).length
  | [] => rfl
  | r :: l => by
    have := good_all l
    simp only [good, List.map_cons, List.sum_cons] at this ⊢
    rw [allOf_cons, List.length_append, frame_length, this]
theorem cut_none {r t : List UInt8} (hr : r.length ≤ 65536) {k : Nat} (hk : k < r.length + 8) : fits ((frame r ++ t).take k) = false := by
  by_cases h8 : k < 8
  · exact fits_short (by simp; omega)
  · have e : (frame r ++ t).take k = le4 (BitVec.ofNat 32 r.length) ++ (r ++ (le4 (crc (bare r)) ++ t)).take (k - 4) := by
      have e2 : frame r ++ t = le4 (BitVec.ofNat 32 r.length) ++ (r ++ (le4 (crc (bare r)) ++ t)) := by simp [frame, bare]
      rw [e2, List.take_append, le4_length, List.take_of_length_le (by simp [le4_length]; omega)]
    have h0 : get4 ((frame r ++ t).take k) 0 = BitVec.ofNat 32 r.length := by rw [e, get4_le4]
    have hi : (get4 ((frame r ++ t).take k) 0).toInt = (r.length : Int) := by rw [h0, toInt_small hr]
    have hl : ((frame r ++ t).take k).length ≤ k := by simp; omega
    simp only [fits]
    rw [show decide ((get4 ((frame r ++ t).take k) 0).toInt + 8 ≤ (((frame r ++ t).take k).length : Int)) = false from decide_eq_false (by omega), Bool.and_false]
theorem recs_take : ∀ (l : List (List UInt8)) (k m : Nat), (∀ r ∈ l, r.length ≤ 65536) → k < (allOf l).length → k < m → ∃ j, j < l.length ∧ recs m ((allOf l).take k) = l.take j
  | [], k, m, _, h, _ => by simp [allOf] at h
  | r :: l, k, 0, _, _, h => by omega
  | r :: l, k, m + 1, hl, h, hm => by
    have hr := hl r (by simp)
    rw [allOf_cons] at h ⊢
    by_cases hk : k < r.length + 8
    · refine ⟨0, by simp, ?_⟩
      rw [recs, cut_none hr hk]; rfl
    · have e : (frame r ++ allOf l).take k = frame r ++ (allOf l).take (k - (r.length + 8)) := by
        rw [List.take_append, frame_length, List.take_of_length_le (by rw [frame_length]; omega)]
      obtain ⟨h1, h2, h3, h4, h5⟩ := front (t := (allOf l).take (k - (r.length + 8))) hr
      rw [List.length_append, frame_length] at h
      obtain ⟨j, hj, hrec⟩ := recs_take l (k - (r.length + 8)) m (fun x hx => hl x (by simp [hx])) (by omega) (by omega)
      refine ⟨j + 1, by simp; omega, ?_⟩
      rw [e, recs, h1, h2, h3, h4, h5, hrec]
      simp
end Go.Proofs.Ytoelkgbeefoplaa
namespace Go.Proofs.Ytoelkgbeefoplaa
open Go Go.Br Go.Proofs
open List (map)
section
variable {Q : AE → Store → Prop}
end
end Go.Proofs.Ytoelkgbeefoplaa
namespace Go.Proofs.Ytoelkgbeefoplaa
open Go Go.Br Go.Proofs
open List (map)
theorem rem_ok {P : Program} {tm : List V} {σ : Store} {o : Oper} {x y : Operand} {t ty : TypeId} {k : IntKind} {a b : Int} (ho : o.op = .binOp .rem t x y ty) (hx : ev tm x = .d (.int k a)) (hy : ev tm y = .d (.int k b)) (hb : b ≠ 0) : OpOk P o tm σ (.d (.int k (irem a b))) tm σ :=
  qop_opOk (by simp [ho, qop, hx, hy, binV, intBin, hb, irem])
end Go.Proofs.Ytoelkgbeefoplaa
namespace Go.Proofs.Ytoelkgbeefoplaa
open Go Go.Br Go.Proofs
open List (map)
theorem allOf_le (k : Nat) : ∀ (l : List (List UInt8)), (∀ r ∈ l, r.length ≤ k) → (allOf l).length ≤ l.length * (k + 8)
  | [], _ => by simp [allOf]
  | r :: rs, h => by
    have h1 := allOf_le k rs fun x hx => h x (by simp [hx])
    have h2 := h r (by simp)
    have e : allOf (r :: rs) = frame r ++ allOf rs := by simp [allOf]
    have e2 : (frame r).length = r.length + 8 := by rw [frame_length]
    rw [e, List.length_append, e2, List.length_cons, Nat.add_mul]
    omega
end Go.Proofs.Ytoelkgbeefoplaa
namespace Go.Proofs.Ytoelkgbeefoplaa
open Go Go.Br Go.Proofs
open List (map)
structure Dk where
  files : List (List UInt8 × Nat)
  nk : List ByteArray
  nv : List Int
  sk : List ByteArray
  sv : List Int
  ch : List (ByteArray × ByteArray × Int)
  quota : Int
  full : Bool
  off : Bool
  stop : Int
  calls : Int
def fileD (x : List UInt8 × Nat) : D := .agg [bsD x.1, i64 x.2]
def chD (c : ByteArray × ByteArray × Int) : D := .agg [.str c.1, .str c.2.1, .int .i64 c.2.2]
def dirD (ks : List ByteArray) (V2 : List Int) : D := .agg [.list 1 (ks.map strD), .list 1 (V2.map intD)]
def SD (d : Dk) (m : Bool) : Store := [.cells [.row 1, .ptr 2 0 0, .ep 2 (dirD d.sk d.sv) 0, .row 5, .d (.int .i64 d.quota), .d (.bool d.full), .d (.bool d.off), .d (.int .i64 d.stop), .d (.int .i64 d.calls)],
  .row 2 (d.files.map fileD) m, .cells [.row 3, .row 4], .row 1 (d.nk.map strD) m, .row 1 (d.nv.map intD) m, .row 3 (d.ch.map chD) m]
abbrev SP (r p : Nat) (d : Dk) (m : Bool) (t : Store) : Store := .cells [.row r, .ptr p 0 0, .ep 2 (.agg [.list 1 (d.sk.map strD), .list 1 (d.sv.map intD)]) 0, .row 5, .d (.int .i64 d.quota), .d (.bool d.full), .d (.bool d.off), .d (.int .i64 d.stop), .d (.int .i64 d.calls)] ::
  .row 2 (d.files.map fileD) m :: .cells [.row 3, .row 4] :: .row 1 (d.nk.map strD) m :: .row 1 (d.nv.map intD) m :: .row 3 (d.ch.map chD) m :: t
noncomputable def B94 : Code := (Try.f94.body).getD .skip
theorem F94 : Fnc Try.prog 94 Try.f94 B94 := ⟨Try.func94, by kernel_rfl, by kernel_rfl⟩
def Dk.begun (d : Dk) : Dk := if d.off then d else { d with calls := d.calls + 1, off := decide (d.stop = 0), stop := if -1 > d.stop - 1 then -1 else d.stop - 1 }
theorem spec_94 (d : Dk) (hc : 0 ≤ d.calls) (hc' : d.calls < 1000000000) (hs : -1 ≤ d.stop) (hs' : d.stop < 9223372036854775808) :
    CallsA Try.prog 94 [.ptr 0 0 0] (SD d false) fun r σ' => r = .ret (.d (.bool (!d.begun.off))) ∧ σ' = SD d.begun false := by
  refine CallsA.start F94 (tm := mk (Try.f94.ntmps) [(0, .ptr 0 0 0)]) (by kernel_rfl) ?_
  refine .sg0 16 [0, 2, 10] (cgo 16 [] [.code B94]) [(2, .d (.bool false)), (10, .d (.bool d.off))] ?_
  refine .if' (d.off) (cgo 17 [true] [.code B94]) (cgo 17 [false] [.code B94]) (fun h1 => ?_) (fun h1 => ?_)
  · refine .seg 4 [0, 2] (T' := cgo 21 [true] [.code B94]) (tm' := mk 40 [(0, .ptr 0 0 0), (2, .d (.bool false))]) (σ' := [.cells [.row 1, .ptr 2 0 0, .ep 2 (D.agg [D.list 1 (map strD d.sk), D.list 1 (map intD d.sv)]) 0, .row 5, .d (.int .i64 d.quota), .d (.bool d.full), .d (.bool d.off), .d (.int .i64 d.stop), .d (.int .i64 d.calls)], .row 2 (map fileD d.files) false, .cells [.row 3, .row 4], .row 1 (map strD d.nk) false, .row 1 (map intD d.nv) false, .row 3 (map chD d.ch) false]) (by kernel_rfl) ?_
    refine .retH F94 (v := V.d (D.bool false)) (by kernel_rfl) (by kernel_rfl) ?_
    simp_all [Dk.begun, SD, dirD]
  · refine .sg 21 [0, 2, 22] (cgo 38 [false] [.code B94]) [(22, .d (.bool (d.stop == 0)))] [(0, .cells [.row 1, .ptr 2 0 0, .ep 2 (D.agg [D.list 1 (map strD d.sk), D.list 1 (map intD d.sv)]) 0, .row 5, .d (.int .i64 d.quota), .d (.bool d.full), .d (.bool d.off), .d (.int .i64 d.stop), .d (.int .i64 (IntKind.i64.wrap (d.calls + 1)))])] ?_
    simp (disch := omega) only [wrap_i64, wrap_u64s, wrap_u32s, wrap_u8s, wrap_i32s, iadd_i64, isub_i64, irem_n, iquo_n, tdiv_nn, tmod_nn]
    refine .if' (d.stop == 0) (cgo 39 [false, true] [.code B94]) (cgo 39 [false, false] [.code B94]) (fun h2 => ?_) (fun h2 => ?_)
    · simp only [bsX] at h2
      refine .seg 28 [2] (T' := cgo 67 [false, true] [.code B94]) (tm' := mk 40 [(2, .d (.bool false))]) (σ' := [.cells [.row 1, .ptr 2 0 0, .ep 2 (D.agg [D.list 1 (map strD d.sk), D.list 1 (map intD d.sv)]) 0, .row 5, .d (.int .i64 d.quota), .d (.bool d.full), .d (.bool true), .d (.int .i64 (if -1 > IntKind.i64.wrap (d.stop - 1) then -1 else IntKind.i64.wrap (d.stop - 1))), .d (.int .i64 (d.calls + 1))], .row 2 (map fileD d.files) false, .cells [.row 3, .row 4], .row 1 (map strD d.nk) false, .row 1 (map intD d.nv) false, .row 3 (map chD d.ch) false]) (by kernel_rfl) ?_
      simp (disch := omega) only [wrap_i64, wrap_u64s, wrap_u32s, wrap_u8s, wrap_i32s, iadd_i64, isub_i64, irem_n, iquo_n, tdiv_nn, tmod_nn]
      refine .retH F94 (v := V.d (D.bool false)) (by kernel_rfl) (by kernel_rfl) ?_
      simp_all [Dk.begun, SD, dirD]
    · simp only [bsX] at h2
      refine .seg 23 [2] (T' := cgo 62 [false, false] [.code B94]) (tm' := mk 40 [(2, .d (.bool !d.off))]) (σ' := [.cells [.row 1, .ptr 2 0 0, .ep 2 (D.agg [D.list 1 (map strD d.sk), D.list 1 (map intD d.sv)]) 0, .row 5, .d (.int .i64 d.quota), .d (.bool d.full), .d (.bool d.off), .d (.int .i64 (if -1 > IntKind.i64.wrap (d.stop - 1) then -1 else IntKind.i64.wrap (d.stop - 1))), .d (.int .i64 (d.calls + 1))], .row 2 (map fileD d.files) false, .cells [.row 3, .row 4], .row 1 (map strD d.nk) false, .row 1 (map intD d.nv) false, .row 3 (map chD d.ch) false]) (by kernel_rfl) ?_
      simp (disch := omega) only [wrap_i64, wrap_u64s, wrap_u32s, wrap_u8s, wrap_i32s, iadd_i64, isub_i64, irem_n, iquo_n, tdiv_nn, tmod_nn]
      refine .retH F94 (v := V.d (D.bool !d.off)) (by kernel_rfl) (by kernel_rfl) ?_
      simp_all [Dk.begun, SD, dirD]
end Go.Proofs.Ytoelkgbeefoplaa
namespace Go.Proofs.Ytoelkgbeefoplaa
open Go Go.Br Go.Proofs
open List (map)
def Dk.new (q : Int) : Dk := { files := [], nk := [], nv := [], sk := [], sv := [], ch := [], quota := if 0 > q then 0 else q, full := false, off := false, stop := -1, calls := 0 }
def Dk.err (b : Dk) (there : Bool) (names : List ByteArray) : Int :=
  if b.off then 5 else if names.all mayName then (if there && (look b.nk b.nv (names.headD default)).isNone then 3 else 0) else 1
def Dk.turn (d : Dk) (g n : ByteArray) (k : Int) : Dk := { d with nk := (kapply d.nk d.nv g n k).1, nv := (kapply d.nk d.nv g n k).2, ch := d.ch ++ [(g, n, k)] }
def Dk.num (d : Dk) (x : ByteArray) : Nat := ((look d.nk d.nv x).getD 0).toNat
def Dk.file (d : Dk) (k : Nat) : List UInt8 × Nat := d.files.getD k ([], 0)
def Dk.used (d : Dk) : Nat := (d.nv.map fun k => (d.file k.toNat).1.length).sum
def noName : ByteArray := ⟨#[]⟩
def Dk.createE (b : Dk) (x : ByteArray) : Int :=
  if b.err false [x] ≠ 0 then b.err false [x] else if (look b.nk b.nv x).isNone ∧ 1024 ≤ b.nk.length then 2 else 0
def Dk.createD (b : Dk) (x : ByteArray) : Dk := if b.createE x = 0 then ({ b with files := b.files ++ [([], 0)] } : Dk).turn noName x b.files.length else b
def Dk.appendE (b : Dk) (x : ByteArray) (bs : List UInt8) : Int :=
  if b.err true [x] ≠ 0 then b.err true [x] else if 1048576 - ((b.file (b.num x)).1.length : Int) < bs.length then 2 else if b.quota - (b.used : Int) < bs.length then 4 else 0
def Dk.appendD (b : Dk) (x : ByteArray) (bs : List UInt8) : Dk :=
  if b.appendE x bs = 0 then { b with files := b.files.set (b.num x) ((b.file (b.num x)).1 ++ bs, (b.file (b.num x)).2) } else if b.appendE x bs = 4 then { b with full := true } else b
def Dk.syncD (b : Dk) (x : ByteArray) : Dk := if b.err true [x] = 0 then { b with files := b.files.set (b.num x) ((b.file (b.num x)).1, (b.file (b.num x)).1.length) } else b
def Dk.syncDirD (b : Dk) : Dk := if b.off then b else { b with sk := b.nk, sv := b.nv, ch := [] }
def Dk.renameD (b : Dk) (x y : ByteArray) : Dk := if b.err true [x, y] = 0 then b.turn x y ((look b.nk b.nv x).getD 0) else b
def Dk.removeD (b : Dk) (x : ByteArray) : Dk := if b.err true [x] = 0 then b.turn x noName 0 else b
def leftOf (f : List UInt8 × Nat) (i : Nat) (keep : List Int) : Nat :=
  if keep = [] then f.2 else f.2 + (min (keep.getD (i % keep.length) 0) ((f.1.length : Int) - f.2)).toNat
def kfold : List (ByteArray × ByteArray × Int) → List ByteArray × List Int → List ByteArray × List Int
  | [], p => p
  | c :: cs, p => kfold cs (kapply p.1 p.2 c.1 c.2.1 c.2.2)
def kept (has : Nat → Bool) (keep : List Int) : Nat → List (List UInt8 × Nat) → List (List UInt8 × Nat)
  | _, [] => []
  | i, f :: fs => if has i then (f.1.take (leftOf f i keep), leftOf f i keep) :: kept has keep (i + 1) fs else kept has keep (i + 1) fs
def rank (has : Nat → Bool) (k : Nat) : Nat := ((List.range k).filter has).length
def Dk.names (d : Dk) (dir : Int) : List ByteArray × List Int := kfold (d.ch.take (min dir d.ch.length).toNat) (d.sk, d.sv)
def Dk.has (d : Dk) (dir : Int) (i : Nat) : Bool := decide ((i : Int) ∈ (d.names dir).2)
def Dk.crash (d : Dk) (dir : Int) (keep : List Int) : Dk :=
  let v := (d.names dir).2.map fun k => (rank (d.has dir) k.toNat : Int)
  { d with files := kept (d.has dir) keep 0 d.files, nk := (d.names dir).1, nv := v, sk := (d.names dir).1, sv := v, ch := [], off := false, stop := -1, full := false }
def numsOk (n : Nat) (vs : List Int) : Prop := ∀ v ∈ vs, 0 ≤ v ∧ v < n
structure Dk.Ok (d : Dk) (N : Nat) : Prop where
  nr : Rising d.nk
  sr : Rising d.sk
  nl : d.nv.length = d.nk.length
  sl : d.sv.length = d.sk.length
  nn : numsOk d.files.length d.nv
  sn : numsOk d.files.length d.sv
  cn : ∀ c ∈ d.ch, 0 ≤ c.2.2 ∧ (c.2.1.size ≠ 0 → c.2.2 < d.files.length)
  fs : ∀ f ∈ d.files, f.2 ≤ f.1.length ∧ f.1.length ≤ 1048576
  fl : d.files.length ≤ N
  chl : d.ch.length ≤ N
  nkl : d.nk.length ≤ N
  skl : d.sk.length ≤ N
  skc : d.sk.length + d.ch.length ≤ N
  c0 : 0 ≤ d.calls
  cl : d.calls ≤ N
  s0 : -1 ≤ d.stop
  s1 : d.stop < 9223372036854775808
  q0 : 0 ≤ d.quota
  q1 : d.quota < 9223372036854775808
  nb : N ≤ 50000
theorem Dk.Ok.mono {d : Dk} {N M : Nat} (h : d.Ok N) (hm : N ≤ M) (hb : M ≤ 50000) : d.Ok M :=
  ⟨h.nr, h.sr, h.nl, h.sl, h.nn, h.sn, h.cn, h.fs, by have := h.fl; omega, by have := h.chl; omega, by have := h.nkl; omega, by have := h.skl; omega, by have := h.skc; omega, h.c0, by have := h.cl; omega, h.s0, h.s1, h.q0, h.q1, hb⟩
theorem Dk.new_ok {q : Int} (h : q < 9223372036854775808) : (Dk.new q).Ok 0 := by
  refine ⟨List.Pairwise.nil, List.Pairwise.nil, rfl, rfl, ?_, ?_, ?_, ?_, ?_, ?_, ?_, ?_, ?_, ?_, ?_, ?_, ?_, ?_, ?_, ?_⟩ <;> simp [Dk.new, numsOk]
  · split <;> omega
  · split <;> omega
theorem Dk.begun_ok {d : Dk} {N : Nat} (h : d.Ok N) (hb : N + 1 ≤ 50000) : d.begun.Ok (N + 1) := by
  unfold Dk.begun
  split
  · exact h.mono (by omega) hb
  · have := h.cl; have := h.c0; have := h.s0; have := h.s1
    have := h.fl; have := h.chl; have := h.nkl; have := h.skl; have := h.skc
    refine ⟨h.nr, h.sr, h.nl, h.sl, h.nn, h.sn, h.cn, h.fs, ?_, ?_, ?_, ?_, ?_, ?_, ?_, ?_, ?_, h.q0, h.q1, hb⟩ <;> (dsimp only; first | omega | (split <;> omega))
theorem look_mem {ks : List ByteArray} {V2 : List Int} {x : ByteArray} {k : Int} (h : look ks V2 x = some k) : k ∈ V2 := by
  unfold look at h
  split at h
  · exact List.mem_of_getElem? h
  · cases h
theorem numsOk.more {n m : Nat} {vs : List Int} (h : numsOk n vs) (hm : n ≤ m) : numsOk m vs := fun v hv => ⟨(h v hv).1, by have := (h v hv).2; omega⟩
theorem kput_mem {ks : List ByteArray} {V2 : List Int} {x : ByteArray} {y : Int} : ∀ v ∈ (kput ks V2 x y).2, v ∈ V2 ∨ v = y := by
  intro v hv
  unfold kput at hv
  split at hv
  · exact List.mem_or_eq_of_mem_set hv
  · simp only [List.mem_append, List.mem_cons] at hv
    rcases hv with h | h | h
    · exact .inl (List.mem_of_mem_take h)
    · exact .inr h
    · exact .inl (List.mem_of_mem_drop h)
theorem kdrop_mem {ks : List ByteArray} {V2 : List Int} {x : ByteArray} : ∀ v ∈ (kdrop ks V2 x).2, v ∈ V2 := by
  intro v hv
  unfold kdrop at hv
  split at hv
  · exact List.mem_of_mem_eraseIdx hv
  · exact hv
theorem kapply_mem {ks : List ByteArray} {V2 : List Int} {g n : ByteArray} {k : Int} : ∀ v ∈ (kapply ks V2 g n k).2, v ∈ V2 ∨ (n.size ≠ 0 ∧ v = k) := by
  intro v hv
  unfold kapply at hv
  dsimp only at hv
  split at hv <;> split at hv <;> rename_i h1 h2
  · exact .inl hv
  · exact .inl (kdrop_mem v hv)
  · exact (kput_mem v hv).imp id fun h => ⟨h1, h⟩
  · exact ((kput_mem v hv).imp (kdrop_mem v) fun h => ⟨h1, h⟩)
theorem Dk.turn_ok {d : Dk} {N : Nat} (h : d.Ok N) (hb : N + 1 ≤ 50000) (g n : ByteArray) (k : Int) (hk : 0 ≤ k) (hk' : n.size ≠ 0 → k < d.files.length) : (d.turn g n k).Ok (N + 1) := by
  have hle := @kapply_le d.nk d.nv g n k
  have := h.cl; have := h.chl; have := h.nkl; have := h.skl; have := h.skc; have := h.fl
  refine ⟨kapply_rising h.nr, h.sr, kapply_len h.nl, h.sl, fun v hv => ?_, h.sn, fun c hc => ?_, h.fs, ?_, ?_, ?_, ?_, ?_, h.c0, ?_, h.s0, h.s1, h.q0, h.q1, hb⟩
  · rcases kapply_mem v hv with h1 | ⟨h1, rfl⟩
    · exact h.nn v h1
    · exact ⟨hk, hk' h1⟩
  · simp only [Dk.turn, List.mem_append, List.mem_singleton] at hc
    rcases hc with h1 | rfl
    · exact h.cn c h1
    · exact ⟨hk, hk'⟩
  all_goals simp only [Dk.turn, List.length_append, List.length_singleton]; omega
theorem Dk.createD_ok {b : Dk} {N : Nat} (h : b.Ok N) (hb : N + 1 ≤ 50000) (x : ByteArray) : (b.createD x).Ok (N + 1) := by
  unfold Dk.createD
  split
  · have h' : ({ b with files := b.files ++ [([], 0)] } : Dk).turn noName x b.files.length = ({ (b.turn noName x b.files.length) with files := b.files ++ [([], 0)] } : Dk) := rfl
    have := h.cl; have := h.chl; have := h.nkl; have := h.skl; have := h.skc; have := h.fl
    have hle := @kapply_le b.nk b.nv noName x b.files.length
    rw [h']
    refine ⟨kapply_rising h.nr, h.sr, kapply_len h.nl, h.sl, fun v hv => ?_, h.sn.more (by simp [Dk.turn]), fun c hc => ?_, fun f hf => ?_, ?_, ?_, ?_, ?_, ?_, h.c0, ?_, h.s0, h.s1, h.q0, h.q1, hb⟩
    · rcases kapply_mem v hv with h1 | ⟨h1, rfl⟩
      · exact (h.nn.more (by simp)) v h1
      · simp; omega
    · simp only [Dk.turn, List.mem_append, List.mem_singleton] at hc
      rcases hc with h1 | rfl
      · exact ⟨(h.cn c h1).1, fun hs => by have := (h.cn c h1).2 hs; simp only [List.length_append, List.length_singleton]; omega⟩
      · refine ⟨by simp, fun _ => by simp; omega⟩
    · simp only [List.mem_append, List.mem_singleton] at hf
      rcases hf with h1 | rfl
      · exact h.fs f h1
      · simp
    all_goals simp only [Dk.turn, List.length_append, List.length_singleton]; omega
  · exact h.mono (by omega) hb
theorem Dk.num_lt {d : Dk} {N : Nat} (h : d.Ok N) {x : ByteArray} (hx : (look d.nk d.nv x).isSome) : d.num x < d.files.length := by
  obtain ⟨k, hk⟩ := Option.isSome_iff_exists.1 hx
  have := h.nn k (look_mem hk)
  simp only [Dk.num, hk, Option.getD_some]; omega
theorem Dk.file_mem {d : Dk} {k : Nat} (h : k < d.files.length) : d.file k ∈ d.files := by
  unfold Dk.file
  rw [List.getD_eq_getElem?_getD, List.getElem?_eq_getElem h]; simp
theorem Dk.err_there {d : Dk} {x : ByteArray} {l : List ByteArray} (h : d.err true (x :: l) = 0) : (look d.nk d.nv x).isSome ∧ d.off = false ∧ (x :: l).all mayName = true := by
  unfold Dk.err at h
  split at h
  · cases h
  · split at h
    · split at h
      · cases h
      · rename_i h1 h2 h3
        simp only [List.headD_cons, Bool.true_and] at h3
        exact ⟨by cases hl : look d.nk d.nv x <;> simp_all, by simpa using h1, h2⟩
    · cases h
theorem Dk.set_ok {b : Dk} {N : Nat} (h : b.Ok N) (k : Nat) (f : List UInt8 × Nat) (hf : f.2 ≤ f.1.length ∧ f.1.length ≤ 1048576) : ({ b with files := b.files.set k f } : Dk).Ok N := by
  refine ⟨h.nr, h.sr, h.nl, h.sl, ?_, ?_, ?_, ?_, ?_, h.chl, h.nkl, h.skl, h.skc, h.c0, h.cl, h.s0, h.s1, h.q0, h.q1, h.nb⟩
  · simpa using h.nn
  · simpa using h.sn
  · simpa using h.cn
  · intro g hg
    rcases List.mem_or_eq_of_mem_set hg with h1 | rfl
    · exact h.fs g h1
    · exact hf
  · simpa using h.fl
theorem Dk.full_ok {b : Dk} {N : Nat} (h : b.Ok N) (f : Bool) : ({ b with full := f } : Dk).Ok N := ⟨h.nr, h.sr, h.nl, h.sl, h.nn, h.sn, h.cn, h.fs, h.fl, h.chl, h.nkl, h.skl, h.skc, h.c0, h.cl, h.s0, h.s1, h.q0, h.q1, h.nb⟩
theorem Dk.err_appendE {b : Dk} {x : ByteArray} {bs : List UInt8} (h : b.appendE x bs = 0) : b.err true [x] = 0 ∧ (bs.length : Int) ≤ 1048576 - ((b.file (b.num x)).1.length : Int) ∧ (bs.length : Int) ≤ b.quota - (b.used : Int) := by
  unfold Dk.appendE at h
  split at h
  · contradiction
  · split at h
    · cases h
    · split at h
      · cases h
      · rename_i h1 h2 h3
        exact ⟨by simpa using h1, by omega, by omega⟩
theorem Dk.appendD_ok {b : Dk} {N : Nat} (h : b.Ok N) (x : ByteArray) (bs : List UInt8) : (b.appendD x bs).Ok N := by
  unfold Dk.appendD
  split
  · rename_i he
    obtain ⟨h1, h2, h3⟩ := Dk.err_appendE he
    have hm := h.fs _ (Dk.file_mem (Dk.num_lt h (Dk.err_there h1).1))
    refine Dk.set_ok h _ _ ⟨?_, ?_⟩ <;> simp <;> omega
  · split
    · exact Dk.full_ok h true
    · exact h
theorem Dk.syncD_ok {b : Dk} {N : Nat} (h : b.Ok N) (x : ByteArray) : (b.syncD x).Ok N := by
  unfold Dk.syncD
  split
  · rename_i h1
    have hm := h.fs _ (Dk.file_mem (Dk.num_lt h (Dk.err_there h1).1))
    exact Dk.set_ok h _ _ ⟨Nat.le_refl _, hm.2⟩
  · exact h
theorem Dk.syncDirD_ok {b : Dk} {N : Nat} (h : b.Ok N) : b.syncDirD.Ok N := by
  unfold Dk.syncDirD
  split
  · exact h
  · refine ⟨h.nr, h.nr, h.nl, h.nl, h.nn, h.nn, by simp, h.fs, h.fl, by simp, h.nkl, h.nkl, by simpa using h.nkl, h.c0, h.cl, h.s0, h.s1, h.q0, h.q1, h.nb⟩
theorem Dk.renameD_ok {b : Dk} {N : Nat} (h : b.Ok N) (hb : N + 1 ≤ 50000) (x y : ByteArray) : (b.renameD x y).Ok (N + 1) := by
  unfold Dk.renameD
  split
  · rename_i h1
    obtain ⟨k, hk⟩ := Option.isSome_iff_exists.1 (Dk.err_there h1).1
    have hn := h.nn k (look_mem hk)
    exact Dk.turn_ok h hb _ _ _ (by rw [hk]; exact hn.1) (fun _ => by rw [hk]; exact hn.2)
  · exact h.mono (by omega) hb
theorem Dk.removeD_ok {b : Dk} {N : Nat} (h : b.Ok N) (hb : N + 1 ≤ 50000) (x : ByteArray) : (b.removeD x).Ok (N + 1) := by
  unfold Dk.removeD
  split
  · exact Dk.turn_ok h hb _ _ _ (by omega) (fun hn => absurd rfl hn)
  · exact h.mono (by omega) hb
theorem kfold_ok {n : Nat} : ∀ (cs : List (ByteArray × ByteArray × Int)) (p : List ByteArray × List Int), Rising p.1 → p.2.length = p.1.length → numsOk n p.2 → (∀ c ∈ cs, 0 ≤ c.2.2 ∧ (c.2.1.size ≠ 0 → c.2.2 < n)) →
    Rising (kfold cs p).1 ∧ (kfold cs p).2.length = (kfold cs p).1.length ∧ numsOk n (kfold cs p).2 ∧ (kfold cs p).1.length ≤ p.1.length + cs.length
  | [], p, h1, h2, h3, _ => ⟨h1, h2, h3, by simp [kfold]⟩
  | c :: cs, p, h1, h2, h3, h4 => by
    have hle := @kapply_le p.1 p.2 c.1 c.2.1 c.2.2
    have ih := kfold_ok cs (kapply p.1 p.2 c.1 c.2.1 c.2.2) (kapply_rising h1) (kapply_len h2) (fun v hv => by
      rcases kapply_mem v hv with h5 | ⟨h5, rfl⟩
      · exact h3 v h5
      · exact ⟨(h4 c (by simp)).1, (h4 c (by simp)).2 h5⟩) (fun c' hc => h4 c' (by simp [hc]))
    refine ⟨ih.1, ih.2.1, ih.2.2.1, ?_⟩
    have := ih.2.2.2
    simp only [kfold, List.length_cons]; omega
theorem Dk.names_ok {d : Dk} {N : Nat} (h : d.Ok N) (dir : Int) : Rising (d.names dir).1 ∧ (d.names dir).2.length = (d.names dir).1.length ∧ numsOk d.files.length (d.names dir).2 ∧ (d.names dir).1.length ≤ N := by
  obtain ⟨h1, h2, h3, h4⟩ := kfold_ok (d.ch.take (min dir d.ch.length).toNat) (d.sk, d.sv) h.sr h.sl h.sn (fun c hc => h.cn c (List.mem_of_mem_take hc))
  refine ⟨h1, h2, h3, ?_⟩
  have := h.skc
  simp only [List.length_take] at h4
  show (kfold _ _).1.length ≤ N
  omega
theorem leftOf_le {f : List UInt8 × Nat} (h : f.2 ≤ f.1.length) (i : Nat) (keep : List Int) : f.2 ≤ leftOf f i keep ∧ leftOf f i keep ≤ f.1.length := by
  unfold leftOf; split <;> omega
theorem rank_succ (has : Nat → Bool) (k : Nat) : rank has (k + 1) = rank has k + if has k then 1 else 0 := by
  unfold rank
  rw [List.range_succ, List.filter_append, List.length_append]
  congr 1
  by_cases h : has k <;> simp [h]
theorem rank_mono (has : Nat → Bool) {a b : Nat} (h : a ≤ b) : rank has a ≤ rank has b := by
  induction h with
  | refl => exact Nat.le_refl _
  | step _ ih => rw [rank_succ]; omega
theorem kept_length (has : Nat → Bool) (keep : List Int) : ∀ (fs : List (List UInt8 × Nat)) (i : Nat), (kept has keep i fs).length + rank has i = rank has (i + fs.length)
  | [], i => by simp [kept]
  | f :: fs, i => by
    have ih := kept_length has keep fs (i + 1)
    rw [rank_succ] at ih
    simp only [kept]
    rw [show i + (f :: fs).length = i + 1 + fs.length by simp; omega, ← ih]
    split <;> simp <;> omega
theorem kept_mem {has : Nat → Bool} {keep : List Int} : ∀ {fs : List (List UInt8 × Nat)} {i : Nat}, ∀ g ∈ kept has keep i fs, ∃ f ∈ fs, ∃ j, g = (f.1.take (leftOf f j keep), leftOf f j keep)
  | [], i, g, h => by simp [kept] at h
  | f :: fs, i, g, h => by
    simp only [kept] at h
    split at h
    · rcases List.mem_cons.1 h with rfl | h
      · exact ⟨f, by simp, i, rfl⟩
      · obtain ⟨f', h1, h2⟩ := kept_mem g h; exact ⟨f', by simp [h1], h2⟩
    · obtain ⟨f', h1, h2⟩ := kept_mem g h; exact ⟨f', by simp [h1], h2⟩
theorem Dk.crash_ok {d : Dk} {N : Nat} (h : d.Ok N) (dir : Int) (keep : List Int) : (d.crash dir keep).Ok N := by
  obtain ⟨h1, h2, h3, h4⟩ := d.names_ok h dir
  have hl : (kept (d.has dir) keep 0 d.files).length = rank (d.has dir) d.files.length := by
    have := kept_length (d.has dir) keep d.files 0
    simpa [rank] using this
  have hn : numsOk (kept (d.has dir) keep 0 d.files).length ((d.names dir).2.map fun k => (rank (d.has dir) k.toNat : Int)) := by
    intro v hv
    obtain ⟨k, hk, rfl⟩ := List.mem_map.1 hv
    have hk' := h3 k hk
    refine ⟨by omega, ?_⟩
    rw [hl]
    have hr := rank_mono (d.has dir) (show k.toNat + 1 ≤ d.files.length by omega)
    rw [rank_succ] at hr
    have : d.has dir k.toNat = true := by
      simp only [Dk.has, decide_eq_true_eq]
      rw [show ((k.toNat : Nat) : Int) = k by omega]; exact hk
    rw [this] at hr
    simp only [if_true] at hr
    omega
  have hrk : rank (d.has dir) d.files.length ≤ d.files.length := by
    unfold rank
    exact Nat.le_trans (List.length_filter_le _ _) (by simp)
  refine ⟨h1, h1, by simpa [Dk.crash] using h2, by simpa [Dk.crash] using h2, hn, hn, by simp [Dk.crash], fun g hg => ?_, ?_, by simp [Dk.crash], h4, h4, by simpa [Dk.crash] using h4, h.c0, h.cl, by simp [Dk.crash], by simp [Dk.crash], h.q0, h.q1, h.nb⟩
  · obtain ⟨f, hf, j, rfl⟩ := kept_mem g hg
    have hf' := h.fs f hf
    have := leftOf_le hf'.1 j keep
    simp only [List.length_take]
    omega
  · show (kept _ _ _ _).length ≤ N
    rw [hl]; have := h.fl; omega
theorem Dk.stop_ok {b : Dk} {N : Nat} (h : b.Ok N) (n : Int) (hn : n < 9223372036854775808) : ({ b with stop := if -1 > n then -1 else n } : Dk).Ok N :=
  ⟨h.nr, h.sr, h.nl, h.sl, h.nn, h.sn, h.cn, h.fs, h.fl, h.chl, h.nkl, h.skl, h.skc, h.c0, h.cl, by dsimp only; split <;> omega, by dsimp only; split <;> omega, h.q0, h.q1, h.nb⟩
end Go.Proofs.Ytoelkgbeefoplaa
namespace Go.Proofs.Ytoelkgbeefoplaa
open Go Go.Br Go.Proofs
open List (map)
noncomputable def B41 : Code := (Try.f41.body).getD .skip
theorem F41 : Fnc Try.prog 41 Try.f41 B41 := ⟨Try.func41, by kernel_rfl, by kernel_rfl⟩
noncomputable def B40 : Code := (Try.f40.body).getD .skip
theorem F40 : Fnc Try.prog 40 Try.f40 B40 := ⟨Try.func40, by kernel_rfl, by kernel_rfl⟩
theorem spec_41 (d : Dk) : CallsA Try.prog 41 [.ptr 0 0 0] (SD d false) fun r σ' => r = .ret (.d (.bool d.off)) ∧ σ' = SD d false := by
  refine CallsA.start F41 (tm := mk (Try.f41.ntmps) [(0, .ptr 0 0 0)]) (by kernel_rfl) ?_
  refine .seg 16 [2] (T' := cgo 16 [] [.code B41]) (tm' := mk 11 [(2, .d (.bool d.off))]) (σ' := [.cells [.row 1, .ptr 2 0 0, .ep 2 (D.agg [D.list 1 (map strD d.sk), D.list 1 (map intD d.sv)]) 0, .row 5, .d (.int .i64 d.quota), .d (.bool d.full), .d (.bool d.off), .d (.int .i64 d.stop), .d (.int .i64 d.calls)], .row 2 (map fileD d.files) false, .cells [.row 3, .row 4], .row 1 (map strD d.nk) false, .row 1 (map intD d.nv) false, .row 3 (map chD d.ch) false]) (by kernel_rfl) ?_
  refine .retH F41 (v := V.d (D.bool d.off)) (by kernel_rfl) (by kernel_rfl) ?_
  exact ⟨rfl, rfl⟩
theorem spec_40 (d : Dk) (n : Int) : CallsA Try.prog 40 [.ptr 0 0 0, .d (.int .i64 n)] (SD d false) fun r σ' => r = .ret (.tuple []) ∧ σ' = SD { d with stop := if -1 > n then -1 else n } false := by
  refine CallsA.start F40 (tm := mk (Try.f40.ntmps) [(0, .ptr 0 0 0), (1, .d (.int .i64 n))]) (by kernel_rfl) ?_
  refine .seg 14 [] (T' := cgo 14 [true] [.code B40]) (tm' := mk 11 []) (σ' := [.cells [.row 1, .ptr 2 0 0, .ep 2 (D.agg [D.list 1 (map strD d.sk), D.list 1 (map intD d.sv)]) 0, .row 5, .d (.int .i64 d.quota), .d (.bool d.full), .d (.bool d.off), .d (.int .i64 (if -1 > n then -1 else n)), .d (.int .i64 d.calls)], .row 2 (map fileD d.files) false, .cells [.row 3, .row 4], .row 1 (map strD d.nk) false, .row 1 (map intD d.nv) false, .row 3 (map chD d.ch) false]) (by kernel_rfl) ?_
  refine .retH F40 (v := V.tuple []) (by kernel_rfl) (by kernel_rfl) ?_
  exact ⟨rfl, rfl⟩
end Go.Proofs.Ytoelkgbeefoplaa
