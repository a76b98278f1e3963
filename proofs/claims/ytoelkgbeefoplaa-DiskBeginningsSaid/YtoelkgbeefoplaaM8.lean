/- Part 8 of this proof. -/
import Derived.Test.YtoelkgbeefoplaaM7
set_option linter.unusedSimpArgs false
set_option linter.unusedVariables false
set_option linter.constructorNameAsVariable false
namespace Go.Proofs.Ytoelkgbeefoplaa
open Go Go.Br Go.Proofs
open List (map)
noncomputable def B106 : Code := (Try.f106.body).getD .skip
noncomputable def G106 (n l) := cgo n l [.code B106]
theorem F106 : Fnc Try.prog 106 Try.f106 B106 := ⟨Try.func106, by kernel_rfl, by kernel_rfl⟩
noncomputable def B95 : Code := (Try.f95.body).getD .skip
noncomputable def G95 (n l) := cgo n l [.code B95]
theorem F95 : Fnc Try.prog 95 Try.f95 B95 := ⟨Try.func95, by kernel_rfl, by kernel_rfl⟩
noncomputable def B70 : Code := (Try.f70.body).getD .skip
noncomputable def G70 (n l) := cgo n l [.code B70]
theorem F70 : Fnc Try.prog 70 Try.f70 B70 := ⟨Try.func70, by kernel_rfl, by kernel_rfl⟩
noncomputable def B66 : Code := (Try.f66.body).getD .skip
noncomputable def G66 (n l) := cgo n l [.code B66]
theorem F66 : Fnc Try.prog 66 Try.f66 B66 := ⟨Try.func66, by kernel_rfl, by kernel_rfl⟩
theorem spec_95 (ks : List ByteArray) (x : ByteArray) (V2 : List Int) (hr : Rising ks) (hl : ks.length < 4611686018427387904) :
  CallsA Try.prog 95 [.ptr 0 0 0, .d (.str x)] [.cells [.row 1, .row 2], .row 1 (ks.map strD) false, .row 1 (V2.map intD) false] fun r σ' => r = .ret (.tuple [.d (i64 (pos ks x)), .d (.bool (decide (ks[pos ks x]? = some x)))]) ∧ σ' = [.cells [.row 1, .row 2], .row 1 (ks.map strD) false, .row 1 (V2.map intD) false] := by
 refine CallsA.start F95 (tm := mk 16 [(0, .ptr 0 0 0), (1, .d (.str x))]) (by kernel_rfl) ?_
 refine .sg0 20 [0, 1, 4, 5, 8, 9, 10, 11, 12] (G95 20 [false]) [(4, .d (.int .i64 0)), (5, .d (.bool false)), (8, .ptr 0 0 0), (9, .ptr 0 0 0), (10, .ptr 0 0 0), (11, .row 1), (12, .d (.str x))] ?_
 refine .semH (o := (opOf (G95 20 [false])).getD default) (v := .tuple [.d (.int .i64 (↑(pos ks x) : Int)), .d (.bool (decide (ks[pos ks x]? = some x)))]) (by kernel_rfl) (by kernel_rfl) (T' := cgo 21 [false] [Item.code B95]) (by kernel_rfl) (fun k => sem_look (x := (.func 106)) (args := #[(.tmp 11), (.tmp 12)]) (ts := #[66, 9]) (first := []) (cap := []) (ds := [.d (.list 1 (map strD ks)), .d (.str x)]) (v := .tuple [.d (.int .i64 (↑(pos ks x) : Int)), .d (.bool (decide (ks[pos ks x]? = some x)))]) (σ0 := []) F106 (@spec_106 (ks) (x) (by assumption) (by assumption)) (by kernel_rfl) (by kernel_rfl) (by kernel_rfl) (by kernel_rfl) (by kernel_rfl)) ?_
 refine .sge 5 [4, 5] (cgo 26 [false] [.code B95]) ?_
 refine .rt F95 (V.tuple [V.d (D.int IntKind.i64 (↑(pos ks x) : Int)), V.d (D.bool (decide (ks[pos ks x]? = some x)))]) ?_
 exact ⟨rfl, by kernel_rfl⟩
theorem spec_66 (ks : List ByteArray) (V2 : List Int) :
  CallsA Try.prog 66 [.ptr 0 0 0] [.cells [.row 1, .row 2], .row 1 (ks.map strD) false, .row 1 (V2.map intD) false] fun r σ' => r = .ret (.d (i64 ks.length)) ∧ σ' = [.cells [.row 1, .row 2], .row 1 (ks.map strD) false, .row 1 (V2.map intD) false] := by
 refine CallsA.start F66 (tm := mk ((Try.f66.ntmps)) [(0, .ptr 0 0 0)]) (by kernel_rfl) ?_
 refine .seg 21 [2] (T' := cgo 21 [false] [.code B66]) (tm' := mk 10 [(2, .d (.int .i64 (↑(map strD ks).length : Int)))]) (σ' := [.cells [.row 1, .row 2], .row 1 (map strD ks) false, .row 1 (map intD V2) false]) (by kernel_rfl) ?_
 simp only [List.length_map]
 refine .rt F66 (V.d (D.int IntKind.i64 (↑ks.length : Int))) ?_
 exact ⟨rfl, by kernel_rfl⟩
def look (ks : List ByteArray) (V2 : List Int) (x : ByteArray) : Option Int := if ks[pos ks x]? = some x then V2[pos ks x]? else none
theorem spec_70 (ks : List ByteArray) (x : ByteArray) (V2 : List Int) (hr : Rising ks) (hl : ks.length < 4611686018427387904) (hv : V2.length = ks.length) :
   CallsA Try.prog 70 [.ptr 0 0 0, .d (.str x)] [.cells [.row 1, .row 2], .row 1 (ks.map strD) false, .row 1 (V2.map intD) false] fun r σ' => r = .ret (.tuple [.d (i64 ((look ks V2 x).getD 0)), .d (.bool (look ks V2 x).isSome)]) ∧ σ' = [.cells [.row 1, .row 2], .row 1 (ks.map strD) false, .row 1 (V2.map intD) false] := by
 refine CallsA.start F70 (tm := mk 23 [(0, .ptr 0 0 0), (1, .d (.str x))]) (by kernel_rfl) ?_
 refine .sge 9 [0, 1, 4, 5, 8, 9] (G70 9 []) ?_
 refine .ca [0, 1, 2] (G70 10 []) F95 (@spec_95 (ks) (x) (V2) (by assumption) (by assumption)) ?_
 rintro r0 s0 ⟨rfl, rfl⟩
 refine ⟨_, rfl, ?_⟩
 refine .sge 11 [0, 4, 5, 6, 13] (G70 21 []) ?_
 refine .if' (decide (ks[pos ks x]? = some x)) (G70 22 [true]) (G70 22 [false]) (fun h2 => ?_) (fun h2 => ?_)
 · simp only [bsX] at h2
   refine .sge 6 [0, 4, 5, 6, 14, 15, 16, 17, 18] (G70 28 [true]) ?_
   refine .op' (G70 29 [true]) (ixRow_ok (t := 46) (x := (.tmp 17)) (i := (.tmp 18)) (k := IntKind.i64) (n := (↑(pos ks x) : Int)) (l := 2) (sz := 1) (xs := map intD V2) (mv := false) (by kernel_rfl) (by kernel_rfl) (by kernel_rfl) (by kernel_rfl) (by kernel_rfl) (by omega) (by grind)) ?_
   obtain ⟨y3, hy3⟩ := get_some (l := V2) (i := (↑(pos ks x) : Int).toNat) (by grind)
   refine .ld (G70 30 [true]) (xs := map intD V2) (map_get hy3) ?_
   refine .seg 9 [4, 5] (T' := cgo 39 [true] [.code B70]) (tm' := mk 23 [(4, .d (.int .i64 y3)), (5, .d (.bool (decide (ks[pos ks x]? = some x))))]) (σ' := [.cells [.row 1, .row 2], .row 1 (map strD ks) false, .row 1 (map intD V2) false]) (by kernel_rfl) ?_
   refine .rt F70 (V.tuple [V.d (D.int IntKind.i64 y3), V.d (D.bool (decide (ks[pos ks x]? = some x)))]) ?_
   simp_all [look, i64, intD]
 · simp only [bsX] at h2
   refine .seg 8 [4, 5] (T' := cgo 30 [false] [.code B70]) (tm' := mk 23 [(4, .d (.int .i64 0)), (5, .d (.bool (decide (ks[pos ks x]? = some x))))]) (σ' := [.cells [.row 1, .row 2], .row 1 (map strD ks) false, .row 1 (map intD V2) false]) (by kernel_rfl) ?_
   refine .rt F70 (V.tuple [V.d (D.int IntKind.i64 0), V.d (D.bool (decide (ks[pos ks x]? = some x)))]) ?_
   simp_all [look, i64, intD]
def qF0 : List FP := [fO 0, fO 0, fO 0, fA 0, fA 0, fX [0] [] [] [1] [0, 1, 2], nF, nF, fX [3] [3] [3] [3] [], fX [1, 3] [1, 3] [1] [1] [1, 3], fO 0, fA 0, fA 0, ⟨[0], [], [], [2], [0, 2], [], false, false⟩, nF, nF, fX [4] [4] [4] [4] [], fX [2, 4] [2, 4] [2] [2] [2, 4], fA 0, fA 0, ⟨[0], [0], [], [1], [0, 1], [], false, false⟩, fA 0, fA 0, ⟨[0], [0], [], [1, 2], [0, 2, 1], [], false, false⟩]
noncomputable def B100 : Code := (Try.f100.body).getD .skip
noncomputable def G100 (n l) := cgo n l [.code B100]
theorem F100 : Fnc Try.prog 100 Try.f100 B100 := ⟨Try.func100, by kernel_rfl, by kernel_rfl⟩
noncomputable def B101 : Code := (Try.f101.body).getD .skip
noncomputable def G101 (n l) := cgo n l [.code B101]
theorem F101 : Fnc Try.prog 101 Try.f101 B101 := ⟨Try.func101, by kernel_rfl, by kernel_rfl⟩
noncomputable def B107 : Code := (Try.f107.body).getD .skip
noncomputable def G107 (n l) := cgo n l [.code B107]
theorem F107 : Fnc Try.prog 107 Try.f107 B107 := ⟨Try.func107, by kernel_rfl, by kernel_rfl⟩
noncomputable def B108 : Code := (Try.f108.body).getD .skip
noncomputable def G108 (n l) := cgo n l [.code B108]
theorem F108 : Fnc Try.prog 108 Try.f108 B108 := ⟨Try.func108, by kernel_rfl, by kernel_rfl⟩
noncomputable def B96 : Code := (Try.f96.body).getD .skip
noncomputable def G96 (n l) := cgo n l [.code B96]
theorem F96 : Fnc Try.prog 96 Try.f96 B96 := ⟨Try.func96, by kernel_rfl, by kernel_rfl⟩
noncomputable def B76 : Code := (Try.f76.body).getD .skip
noncomputable def G76 (n l) := cgo n l [.code B76]
theorem F76 : Fnc Try.prog 76 Try.f76 B76 := ⟨Try.func76, by kernel_rfl, by kernel_rfl⟩
theorem spec_100 (xs : List D) (y : D) (i : Nat) (hi : i ≤ xs.length) (hb : (xs.length + 1) * 16 ≤ 140737488355328) : CallsA Try.prog 100 [.row 0, .d (.int .i64 i), .row 1] [.row 1 xs false, .row 1 [y] false] fun r σ' => r = .ret (.row 0) ∧ σ' = [.row 1 (xs.take i ++ y :: xs.drop i) true, .row 1 [y] false] := ins_string xs y i false false hi hb
theorem spec_101 (xs : List D) (y : D) (i : Nat) (hi : i ≤ xs.length) (hb : (xs.length + 1) * 8 ≤ 140737488355328) : CallsA Try.prog 101 [.row 0, .d (.int .i64 i), .row 1] [.row 1 xs false, .row 1 [y] false] fun r σ' => r = .ret (.row 0) ∧ σ' = [.row 1 (xs.take i ++ y :: xs.drop i) true, .row 1 [y] false] := ins_int xs y i false false hi hb
theorem spec_107 (ks : List ByteArray) (i : Nat) (hi : i < ks.length) (hl : ks.length < 1000000) : CallsA Try.prog 107 [.row 0, .d (.int .i64 (i : Nat)), .d (.int .i64 (IntKind.i64.wrap ((i : Int) + 1)))] [.row 1 (ks.map strD) false] fun r σ' => r = .ret (.row 0) ∧ σ' = [.row 1 ((ks.eraseIdx i).map strD) true] := by
 rw [wrap_i64 (by omega) (by omega)]
 exact del_string ks i false hi
theorem spec_108 (zs : List Int) (i : Nat) (hi : i < zs.length) (hl : zs.length < 1000000) : CallsA Try.prog 108 [.row 0, .d (.int .i64 (i : Nat)), .d (.int .i64 (IntKind.i64.wrap ((i : Int) + 1)))] [.row 1 (zs.map intD) false] fun r σ' => r = .ret (.row 0) ∧ σ' = [.row 1 ((zs.eraseIdx i).map intD) true] := by
 rw [wrap_i64 (by omega) (by omega)]
 exact del_int zs i false hi
def kput (ks : List ByteArray) (V2 : List Int) (x : ByteArray) (y : Int) : List ByteArray × List Int :=
  if ks[pos ks x]? = some x then (ks, V2.set (pos ks x) y) else (ks.take (pos ks x) ++ x :: ks.drop (pos ks x), V2.take (pos ks x) ++ y :: V2.drop (pos ks x))
theorem spec_76 (ks : List ByteArray) (x : ByteArray) (V2 : List Int) (y : Int) (hr : Rising ks) (hl : ks.length < 1000000) (hv : V2.length = ks.length) :
    CallsA Try.prog 76 [.ptr 0 0 0, .d (.str x), .d (.int .i64 y)] [.cells [.row 1, .row 2], .row 1 (ks.map strD) false, .row 1 (V2.map intD) false] fun r σ' => r = .ret (.d (.bool (!(decide (ks[pos ks x]? = some x))))) ∧ σ' = [.cells [.row 1, .row 2], .row 1 ((kput ks V2 x y).1.map strD) true, .row 1 ((kput ks V2 x y).2.map intD) true] := by
  refine CallsA.start F76 (tm := mk (Try.f76.ntmps) [(0, .ptr 0 0 0), (1, .d (.str x)), (2, .d (.int .i64 y))]) (by kernel_rfl) ?_
  have hp := pos_le ks x
  refine .sge 16 [0, 1, 2, 6, 12, 13] (G76 16 [false]) ?_
  refine .ca [0, 1, 2] (G76 17 [false]) F95 (@spec_95 (ks) (x) (V2) (by assumption) (by omega)) ?_
  rintro r0 s0 ⟨rfl, rfl⟩
  refine ⟨_, rfl, ?_⟩
  refine .sge 11 [0, 1, 2, 6, 7, 17] (G76 28 [false]) ?_
  refine .if' (decide (ks[pos ks x]? = some x)) (G76 29 [false, true]) (G76 29 [false, false]) (fun h2 => ?_) (fun h2 => ?_)
  · simp only [bsX] at h2
    refine .sge 8 [0, 1, 2, 6, 7, 18, 19, 20, 21, 22, 23] (G76 37 [false, true]) ?_
    refine .op' (G76 38 [false, true]) (ixRow_ok (t := 46) (x := (.tmp 21)) (i := (.tmp 22)) (k := IntKind.i64) (n := (↑(pos ks x) : Int)) (l := 2) (sz := 1) (xs := map intD V2) (mv := false) (by kernel_rfl) (by kernel_rfl) (by kernel_rfl) (by kernel_rfl) (by kernel_rfl) (by omega) (by grind)) ?_
    obtain ⟨y3, hy3⟩ := get_some (l := V2) (i := (↑(pos ks x) : Int).toNat) (by grind)
    refine .op' (G76 39 [false, true]) (stRow_ok (t := 3) (x := (.tmp 24)) (y := (.tmp 23)) (l := 2) (i := (↑(pos ks x) : Int).toNat) (s := 0) (sz := 1) (xs := map intD V2) (mv := false) (d := intD y3) (d' := D.int IntKind.i64 y) (by kernel_rfl) (by kernel_rfl) (by kernel_rfl) (map_get hy3) (by kernel_rfl)) ?_
    refine .seg 5 [0, 1, 2, 6, 7] (T' := cgo 44 [false, true] [.code B76]) (tm' := mk 47 [(0, .ptr 0 0 0), (1, .d (.str x)), (2, .d (.int .i64 y)), (6, .d (.bool false)), (7, .d (.int .i64 (↑(pos ks x) : Int)))]) (σ' := [.cells [.row 1, .row 2], .row 1 (map strD ks) false, .row 1 ((map intD V2).set (↑(pos ks x) : Int).toNat (D.int IntKind.i64 y)) false]) (by kernel_rfl) ?_
    refine .raise 1 rfl rfl ?_
    refine .raise 2 rfl rfl ?_
    refine .rt F76 (V.d (D.bool false)) ?_
    exact ⟨by simp [h2], by simp [kput, h2, intD, List.map_set]⟩
  · simp only [bsX] at h2
    refine .sg0 2 [0, 1, 2, 6, 7] (G76 31 [false, false]) [] ?_
    refine .newVirt 1 ?_
    refine .newVirt 1 ?_
    refine .dr (G76 32 [false, false]) [(25, .ptr 0 0 0), (26, .ptr 0 0 0), (27, .ptr 0 0 0), (28, .ptr 0 0 0), (29, .ptr 0 0 0), (31, .d (.int .i64 (↑(pos ks x) : Int))), (32, .d (.str x)), (33, .row 3), (34, .row 1), (35, .ptr 0 0 0), (36, .ptr 0 0 0), (37, .ptr 0 0 1), (39, .d (.int .i64 (↑(pos ks x) : Int))), (40, .d (.int .i64 y)), (41, .row 4), (42, .row 2), (43, .ptr 0 0 0), (44, .ptr 0 0 0), (45, .ptr 0 0 0), (46, .ptr 0 0 1)] [(1, .row 1 (List.take (pos ks x) (map strD ks) ++ D.str x :: List.drop (pos ks x) (map strD ks)) true), (2, .row 1 (List.take (pos ks x) (map intD V2) ++ D.int IntKind.i64 y :: List.drop (pos ks x) (map intD V2)) true), (3, .row 1 [D.str x] true), (4, .row 1 [D.int IntKind.i64 y] true)] (fun kz L hL => ?_) ?_
    · rcases ahead_or' hL 9 13 (by kernel_rfl) with o10 | o10
      · rcases ahead_or' hL 13 16 (by kernel_rfl) with o13 | o13
        · refine ⟨qF0, run_amongF hL _ [(9, 13), (13, 16)] [0, 1, 2, 3, 4, 5, 6, 7, 10, 11, 12, 14, 15, 8, 9, 13, 16, 17, 18, 19, 20, 21, 22, 23] (by simp [o10, o13]) (by kernel_rfl) ?_⟩
          refine Run.ap [0, 1, 2, 3, 4, 5, 6, 7, 10, 11, 12, 14, 15] [(25, .ptr 0 0 0), (26, .ptr 0 0 0), (27, .ptr 0 0 0), (28, .ptr 0 0 0), (29, .ptr 0 0 0), (30, .row 1), (31, .d (.int .i64 (↑(pos ks x) : Int))), (32, .d (.str x)), (35, .ptr 0 0 0), (36, .ptr 0 0 0), (37, .ptr 0 0 1), (39, .d (.int .i64 (↑(pos ks x) : Int))), (40, .d (.int .i64 y))] [] ?_
          refine Run.one (StepF.build (o := ((drawOf (G76 31 [false, false]))[8]?).getD default) (t := 66) (len := 1) (parts := #[(0, (.tmp 32))]) (l := 3) (ds := [D.str x]) (sz := 1) (mv := false) (by kernel_rfl) rfl (by kernel_rfl) (by kernel_rfl) (by kernel_rfl) (by kernel_rfl) (by kernel_rfl) (by kernel_rfl) (by kernel_rfl) (by kernel_rfl)) ?_
          refine Run.cl 9 [1, 3] F100 (@spec_100 (map strD ks) (D.str x) (pos ks x) (by simp <;> omega) (by simp <;> omega)) ?_
          refine Run.ap [13] [(38, .row 2)] [] ?_
          refine Run.one (StepF.build (o := ((drawOf (G76 31 [false, false]))[16]?).getD default) (t := 46) (len := 1) (parts := #[(0, (.tmp 40))]) (l := 4) (ds := [D.int IntKind.i64 y]) (sz := 1) (mv := false) (by kernel_rfl) rfl (by kernel_rfl) (by kernel_rfl) (by kernel_rfl) (by kernel_rfl) (by kernel_rfl) (by kernel_rfl) (by kernel_rfl) (by kernel_rfl)) ?_
          refine Run.cl 17 [2, 4] F101 (@spec_101 (map intD V2) (D.int IntKind.i64 y) (pos ks x) (by simp <;> omega) (by simp <;> omega)) ?_
          exact Run.fin
        · refine ⟨qF0, run_amongF hL _ [(9, 13), (16, 13)] [0, 1, 2, 3, 4, 5, 6, 7, 10, 11, 12, 14, 15, 8, 16, 9, 13, 17, 18, 19, 20, 21, 22, 23] (by simp [o10, o13]) (by kernel_rfl) ?_⟩
          refine Run.ap [0, 1, 2, 3, 4, 5, 6, 7, 10, 11, 12, 14, 15] [(25, .ptr 0 0 0), (26, .ptr 0 0 0), (27, .ptr 0 0 0), (28, .ptr 0 0 0), (29, .ptr 0 0 0), (30, .row 1), (31, .d (.int .i64 (↑(pos ks x) : Int))), (32, .d (.str x)), (35, .ptr 0 0 0), (36, .ptr 0 0 0), (37, .ptr 0 0 1), (39, .d (.int .i64 (↑(pos ks x) : Int))), (40, .d (.int .i64 y))] [] ?_
          refine Run.one (StepF.build (o := ((drawOf (G76 31 [false, false]))[8]?).getD default) (t := 66) (len := 1) (parts := #[(0, (.tmp 32))]) (l := 3) (ds := [D.str x]) (sz := 1) (mv := false) (by kernel_rfl) rfl (by kernel_rfl) (by kernel_rfl) (by kernel_rfl) (by kernel_rfl) (by kernel_rfl) (by kernel_rfl) (by kernel_rfl) (by kernel_rfl)) ?_
          refine Run.one (StepF.build (o := ((drawOf (G76 31 [false, false]))[16]?).getD default) (t := 46) (len := 1) (parts := #[(0, (.tmp 40))]) (l := 4) (ds := [D.int IntKind.i64 y]) (sz := 1) (mv := false) (by kernel_rfl) rfl (by kernel_rfl) (by kernel_rfl) (by kernel_rfl) (by kernel_rfl) (by kernel_rfl) (by kernel_rfl) (by kernel_rfl) (by kernel_rfl)) ?_
          refine Run.cl 9 [1, 3] F100 (@spec_100 (map strD ks) (D.str x) (pos ks x) (by simp <;> omega) (by simp <;> omega)) ?_
          refine Run.ap [13] [(38, .row 2)] [] ?_
          refine Run.cl 17 [2, 4] F101 (@spec_101 (map intD V2) (D.int IntKind.i64 y) (pos ks x) (by simp <;> omega) (by simp <;> omega)) ?_
          exact Run.fin
      · refine ⟨[fO 0, fO 0, fO 0, fA 0, fA 0, fX [0] [] [] [1] [0, 1, 2], nF, nF, fX [3] [3] [3] [3] [], fX [1, 3] [1, 3] [1] [1] [1, 3], fO 0, fA 0, fA 0, fX [0] [] [] [2] [0, 1, 2], nF, nF, fX [4] [4] [4] [4] [], fX [2, 4] [2, 4] [2] [2] [2, 4], fA 0, fA 0, ⟨[0], [0], [], [1], [0, 1], [], false, false⟩, fA 0, fA 0, ⟨[0], [0], [], [1, 2], [0, 2, 1], [], false, false⟩], run_amongF hL _ [(13, 9)] [0, 1, 2, 3, 4, 5, 6, 7, 10, 11, 12, 13, 14, 15, 8, 16, 9, 17, 18, 19, 20, 21, 22, 23] (by simp [o10]) (by kernel_rfl) ?_⟩
        refine Run.ap [0, 1, 2, 3, 4, 5, 6, 7, 10, 11, 12, 13, 14, 15] [(25, .ptr 0 0 0), (26, .ptr 0 0 0), (27, .ptr 0 0 0), (28, .ptr 0 0 0), (29, .ptr 0 0 0), (30, .row 1), (31, .d (.int .i64 (↑(pos ks x) : Int))), (32, .d (.str x)), (35, .ptr 0 0 0), (36, .ptr 0 0 0), (37, .ptr 0 0 1), (38, .row 2), (39, .d (.int .i64 (↑(pos ks x) : Int))), (40, .d (.int .i64 y))] [] ?_
        refine Run.one (StepF.build (o := ((drawOf (G76 31 [false, false]))[8]?).getD default) (t := 66) (len := 1) (parts := #[(0, (.tmp 32))]) (l := 3) (ds := [D.str x]) (sz := 1) (mv := false) (by kernel_rfl) rfl (by kernel_rfl) (by kernel_rfl) (by kernel_rfl) (by kernel_rfl) (by kernel_rfl) (by kernel_rfl) (by kernel_rfl) (by kernel_rfl)) ?_
        refine Run.one (StepF.build (o := ((drawOf (G76 31 [false, false]))[16]?).getD default) (t := 46) (len := 1) (parts := #[(0, (.tmp 40))]) (l := 4) (ds := [D.int IntKind.i64 y]) (sz := 1) (mv := false) (by kernel_rfl) rfl (by kernel_rfl) (by kernel_rfl) (by kernel_rfl) (by kernel_rfl) (by kernel_rfl) (by kernel_rfl) (by kernel_rfl) (by kernel_rfl)) ?_
        refine Run.cl 9 [1, 3] F100 (@spec_100 (map strD ks) (D.str x) (pos ks x) (by simp <;> omega) (by simp <;> omega)) ?_
        refine Run.cl 17 [2, 4] F101 (@spec_101 (map intD V2) (D.int IntKind.i64 y) (pos ks x) (by simp <;> omega) (by simp <;> omega)) ?_
        exact Run.fin
    refine .sg0 4 [6] (G76 36 [false, false]) [(6, .d (.bool true))] ?_
    refine .kp [6] ?_
    refine .su [0, 1, 2] (mk 47 [(6, V.d (D.bool true))]) [O.cells [V.row 1, V.row 2], O.row 1 (List.take (pos ks x) (map strD ks) ++ D.str x :: List.drop (pos ks x) (map strD ks)) true, O.row 1 (List.take (pos ks x) (map intD V2) ++ D.int IntKind.i64 y :: List.drop (pos ks x) (map intD V2)) true] ?_
    refine .rt F76 (V.d (D.bool true)) ?_
    exact ⟨by simp [h2], by simp [kput, h2, intD, strD, List.map_take, List.map_drop]⟩
def kdrop (ks : List ByteArray) (V2 : List Int) (x : ByteArray) : List ByteArray × List Int :=
  if ks[pos ks x]? = some x then (ks.eraseIdx (pos ks x), V2.eraseIdx (pos ks x)) else (ks, V2)
theorem spec_96 (ks : List ByteArray) (x : ByteArray) (V2 : List Int) (hr : Rising ks) (hl : ks.length < 1000000) (hv : V2.length = ks.length) :
    CallsA Try.prog 96 [.ptr 0 0 0, .d (.str x)] [.cells [.row 1, .row 2], .row 1 (ks.map strD) false, .row 1 (V2.map intD) false] fun r σ' => r = .ret (.d (.bool (decide (ks[pos ks x]? = some x)))) ∧ σ' = [.cells [.row 1, .row 2], .row 1 ((kdrop ks V2 x).1.map strD) true, .row 1 ((kdrop ks V2 x).2.map intD) true] := by
  refine CallsA.start F96 (tm := mk (Try.f96.ntmps) [(0, .ptr 0 0 0), (1, .d (.str x))]) (by kernel_rfl) ?_
  have hp := pos_le ks x
  refine .sge 8 [0, 1, 4, 8, 9] (G96 8 []) ?_
  refine .ca [0, 1, 2] (G96 9 []) F95 (@spec_95 (ks) (x) (V2) (by assumption) (by omega)) ?_
  rintro r0 s0 ⟨rfl, rfl⟩
  refine ⟨_, rfl, ?_⟩
  refine .sge 11 [0, 4, 5, 6, 13] (G96 20 []) ?_
  refine .if' (decide (ks[pos ks x]? = some x)) (G96 21 [true]) (G96 21 [false]) (fun h2 => ?_) (fun h2 => ?_)
  · simp only [bsX] at h2
    refine .dr (G96 22 [true]) [(14, .ptr 0 0 0), (15, .ptr 0 0 0), (16, .ptr 0 0 0), (17, .ptr 0 0 0), (18, .ptr 0 0 0), (20, .d (.int .i64 (↑(pos ks x) : Int))), (21, .d (.int .i64 (↑(pos ks x) : Int))), (22, .d (.int .i64 (IntKind.i64.wrap ((↑(pos ks x) : Int) + 1)))), (23, .row 1), (24, .ptr 0 0 0), (25, .ptr 0 0 0), (26, .ptr 0 0 1), (28, .d (.int .i64 (↑(pos ks x) : Int))), (29, .d (.int .i64 (↑(pos ks x) : Int))), (30, .d (.int .i64 (IntKind.i64.wrap ((↑(pos ks x) : Int) + 1)))), (31, .row 2), (32, .ptr 0 0 0), (33, .ptr 0 0 0), (34, .ptr 0 0 0), (35, .ptr 0 0 1)] [(1, .row 1 (map strD (ks.eraseIdx (pos ks x))) true), (2, .row 1 (map intD (V2.eraseIdx (pos ks x))) true)] (fun kz L hL => ?_) ?_
    · rcases ahead_or' hL 9 13 (by kernel_rfl) with o9 | o9
      · refine ⟨[fO 0, fO 0, fO 0, fA 0, fA 0, fX [0] [] [] [1] [0, 1, 2], nF, nF, nF, fX [1] [1] [1] [1] [1], fO 0, fA 0, fA 0, ⟨[0], [], [], [2], [0, 2], [], false, false⟩, nF, nF, nF, fX [2] [2] [2] [2] [2], fA 0, fA 0, ⟨[0], [0], [], [1], [0, 1], [], false, false⟩, fA 0, fA 0, ⟨[0], [0], [], [1, 2], [0, 2, 1], [], false, false⟩], run_amongF hL _ [(9, 13)] [0, 1, 2, 3, 4, 5, 6, 7, 8, 10, 11, 12, 14, 15, 16, 9, 13, 17, 18, 19, 20, 21, 22, 23] (by simp [o9]) (by kernel_rfl) ?_⟩
        refine Run.ap [0, 1, 2, 3, 4, 5, 6, 7, 8, 10, 11, 12, 14, 15, 16] [(14, .ptr 0 0 0), (15, .ptr 0 0 0), (16, .ptr 0 0 0), (17, .ptr 0 0 0), (18, .ptr 0 0 0), (19, .row 1), (20, .d (.int .i64 (↑(pos ks x) : Int))), (21, .d (.int .i64 (↑(pos ks x) : Int))), (22, .d (.int .i64 (IntKind.i64.wrap ((↑(pos ks x) : Int) + 1)))), (24, .ptr 0 0 0), (25, .ptr 0 0 0), (26, .ptr 0 0 1), (28, .d (.int .i64 (↑(pos ks x) : Int))), (29, .d (.int .i64 (↑(pos ks x) : Int))), (30, .d (.int .i64 (IntKind.i64.wrap ((↑(pos ks x) : Int) + 1))))] [] ?_
        refine Run.cl 9 [1] F107 (@spec_107 (ks) (pos ks x) (by grind) (by assumption)) ?_
        refine Run.ap [13] [(27, .row 2)] [] ?_
        refine Run.cl 17 [2] F108 (@spec_108 (V2) (pos ks x) (by grind) (by omega)) ?_
        exact Run.fin
      · refine ⟨[fO 0, fO 0, fO 0, fA 0, fA 0, fX [0] [] [] [1] [0, 1, 2], nF, nF, nF, fX [1] [1] [1] [1] [1], fO 0, fA 0, fA 0, fX [0] [] [] [2] [0, 1, 2], nF, nF, nF, fX [2] [2] [2] [2] [2], fA 0, fA 0, ⟨[0], [0], [], [1], [0, 1], [], false, false⟩, fA 0, fA 0, ⟨[0], [0], [], [1, 2], [0, 2, 1], [], false, false⟩], run_amongF hL _ [(13, 9)] [0, 1, 2, 3, 4, 5, 6, 7, 8, 10, 11, 12, 13, 14, 15, 16, 9, 17, 18, 19, 20, 21, 22, 23] (by simp [o9]) (by kernel_rfl) ?_⟩
        refine Run.ap [0, 1, 2, 3, 4, 5, 6, 7, 8, 10, 11, 12, 13, 14, 15, 16] [(14, .ptr 0 0 0), (15, .ptr 0 0 0), (16, .ptr 0 0 0), (17, .ptr 0 0 0), (18, .ptr 0 0 0), (19, .row 1), (20, .d (.int .i64 (↑(pos ks x) : Int))), (21, .d (.int .i64 (↑(pos ks x) : Int))), (22, .d (.int .i64 (IntKind.i64.wrap ((↑(pos ks x) : Int) + 1)))), (24, .ptr 0 0 0), (25, .ptr 0 0 0), (26, .ptr 0 0 1), (27, .row 2), (28, .d (.int .i64 (↑(pos ks x) : Int))), (29, .d (.int .i64 (↑(pos ks x) : Int))), (30, .d (.int .i64 (IntKind.i64.wrap ((↑(pos ks x) : Int) + 1))))] [] ?_
        refine Run.cl 9 [1] F107 (@spec_107 (ks) (pos ks x) (by grind) (by assumption)) ?_
        refine Run.cl 17 [2] F108 (@spec_108 (V2) (pos ks x) (by grind) (by omega)) ?_
        exact Run.fin
    refine .seg 5 [4] (T' := cgo 27 [true] [.code B96]) (tm' := mk 37 [(4, .d (.bool (decide (ks[pos ks x]? = some x))))]) (σ' := [.cells [.row 1, .row 2], .row 1 (map strD (ks.eraseIdx (pos ks x))) true, .row 1 (map intD (V2.eraseIdx (pos ks x))) true]) (by kernel_rfl) ?_
    refine .raise 1 rfl rfl ?_
    refine .raise 2 rfl rfl ?_
    refine .rt F96 (V.d (D.bool (decide (ks[pos ks x]? = some x)))) ?_
    exact ⟨by simp [h2], by simp [kdrop, h2]⟩
  · simp only [bsX] at h2
    refine .seg 6 [4] (T' := cgo 27 [false] [.code B96]) (tm' := mk 37 [(4, .d (.bool (decide (ks[pos ks x]? = some x))))]) (σ' := [.cells [.row 1, .row 2], .row 1 (map strD ks) false, .row 1 (map intD V2) false]) (by kernel_rfl) ?_
    refine .raise 1 rfl rfl ?_
    refine .raise 2 rfl rfl ?_
    refine .rt F96 (V.d (D.bool (decide (ks[pos ks x]? = some x)))) ?_
    exact ⟨by simp [h2], by simp [kdrop, h2]⟩
theorem pos_get_low {ks : List ByteArray} {x : ByteArray} : ∀ k ∈ ks.take (pos ks x), lt k x = true := by
 intro k hk
 obtain ⟨i, hi, rfl⟩ := List.mem_iff_getElem.1 hk
 simp only [List.length_take] at hi
 rw [List.getElem_take]
 exact pos_low (by omega) (by omega)
theorem pos_get_high {ks : List ByteArray} {x : ByteArray} (hr : Rising ks) : ∀ k ∈ ks.drop (pos ks x), lt k x = false := by
 intro k hk
 obtain ⟨i, hi, rfl⟩ := List.mem_iff_getElem.1 hk
 simp only [List.length_drop] at hi
 rw [List.getElem_drop]
 exact pos_high hr (by omega) (by omega)
theorem kdrop_rising {ks : List ByteArray} {V2 : List Int} {x : ByteArray} (hr : Rising ks) : Rising (kdrop ks V2 x).1 := by
 unfold kdrop; split
 · exact List.Pairwise.sublist (List.eraseIdx_sublist _ _) hr
 · exact hr
theorem kdrop_len {ks : List ByteArray} {V2 : List Int} {x : ByteArray} (hv : V2.length = ks.length) : (kdrop ks V2 x).2.length = (kdrop ks V2 x).1.length := by
 unfold kdrop; split
 · simp [List.length_eraseIdx, hv]
 · exact hv
theorem kdrop_le {ks : List ByteArray} {V2 : List Int} {x : ByteArray} : (kdrop ks V2 x).1.length ≤ ks.length := by
 unfold kdrop; split
 · simp only [List.length_eraseIdx]; split <;> omega
 · exact Nat.le_refl _
theorem kput_rising {ks : List ByteArray} {V2 : List Int} {x : ByteArray} {y : Int} (hr : Rising ks) : Rising (kput ks V2 x y).1 := by
  unfold kput; split
  · exact hr
  · rename_i hne
    have h1 := @pos_get_low ks x
    have h2 := @pos_get_high ks x hr
    have h4 : ∀ k ∈ ks.drop (pos ks x), lt x k = true := by
      intro k hk
      cases h : lt x k with
      | true => rfl
      | false =>
        exfalso
        have he := lt_total h (h2 k hk)
        subst he
        obtain ⟨i, hi, he⟩ := List.mem_iff_getElem.1 hk
        simp only [List.length_drop] at hi
        rw [List.getElem_drop] at he
        cases i with
        | zero => exact hne (by rw [List.getElem?_eq_getElem (by omega)]; simpa using he)
        | succ i =>
          have := List.pairwise_iff_getElem.1 hr (pos ks x) (pos ks x + (i + 1)) (by omega) (by omega) (by omega)
          rw [he] at this
          rw [pos_high hr (Nat.le_refl _) (by omega)] at this
          cases this
    unfold Rising
    rw [List.pairwise_append]
    refine ⟨List.Pairwise.sublist (List.take_sublist _ _) hr, List.pairwise_cons.2 ⟨h4, List.Pairwise.sublist (List.drop_sublist _ _) hr⟩, ?_⟩
    intro a ha b hb
    rcases List.mem_cons.1 hb with rfl | hb
    · exact h1 a ha
    · exact lt_trans (h1 a ha) (h4 b hb)
theorem kput_len {ks : List ByteArray} {V2 : List Int} {x : ByteArray} {y : Int} (hv : V2.length = ks.length) : (kput ks V2 x y).2.length = (kput ks V2 x y).1.length := by
 unfold kput; split
 · simpa using hv
 · simp [hv]
theorem kput_le {ks : List ByteArray} {V2 : List Int} {x : ByteArray} {y : Int} : (kput ks V2 x y).1.length ≤ ks.length + 1 := by
 unfold kput; split
 · simp
 · have := pos_le ks x
   simp; omega
def kapply (ks : List ByteArray) (V2 : List Int) (g n : ByteArray) (k : Int) : List ByteArray × List Int :=
  let p := if g.size = 0 then (ks, V2) else kdrop ks V2 g
  if n.size = 0 then p else kput p.1 p.2 n k
theorem kapply_rising {ks : List ByteArray} {V2 : List Int} {g n : ByteArray} {k : Int} (hr : Rising ks) : Rising (kapply ks V2 g n k).1 := by
 unfold kapply
 dsimp only
 split <;> split <;> first | exact hr | exact kdrop_rising hr | exact kput_rising hr | exact kput_rising (kdrop_rising hr)
theorem kapply_len {ks : List ByteArray} {V2 : List Int} {g n : ByteArray} {k : Int} (hv : V2.length = ks.length) : (kapply ks V2 g n k).2.length = (kapply ks V2 g n k).1.length := by
 unfold kapply
 dsimp only
 split <;> split <;> first | exact hv | exact kdrop_len hv | exact kput_len hv | exact kput_len (kdrop_len hv)
theorem kapply_le {ks : List ByteArray} {V2 : List Int} {g n : ByteArray} {k : Int} : (kapply ks V2 g n k).1.length ≤ ks.length + 1 := by
 unfold kapply
 dsimp only
 have h1 := @kdrop_le ks V2 g
 have h2 := @kput_le ks V2 n k
 have h3 := @kput_le (kdrop ks V2 g).1 (kdrop ks V2 g).2 n k
 split <;> split <;> (try dsimp only) <;> omega
theorem pos_all : ∀ {ks : List ByteArray} {x : ByteArray} (_ : ∀ k ∈ ks, lt k x = true), pos ks x = ks.length
 | [], _, _ => rfl
 | k :: ks, x, h => by
   rw [pos_cons, if_pos (h k (by simp)), pos_all fun k' hk => h k' (by simp [hk])]
   rfl
theorem kput_next {ks : List ByteArray} {V2 : List Int} (hr : Rising ks) (hv : V2.length = ks.length) (i : Nat) (h : i < ks.length) : kput (ks.take i) (V2.take i) ks[i] (V2[i]'(by omega)) = (ks.take (i + 1), V2.take (i + 1)) := by
 have hp : pos (ks.take i) ks[i] = i := by
  rw [pos_all]
  · simp; omega
  · intro k hk
    obtain ⟨j, hj, rfl⟩ := List.mem_iff_getElem.1 hk
    simp only [List.length_take] at hj
    rw [List.getElem_take]
    exact List.pairwise_iff_getElem.1 hr j i (by omega) h (by omega)
 unfold kput
 rw [hp, if_neg (by rw [List.getElem?_eq_none (by simp; omega)]; simp)]
 have h1 : (ks.take i).take i = ks.take i := by rw [List.take_take, Nat.min_self]
 have h2 : (V2.take i).take i = V2.take i := by rw [List.take_take, Nat.min_self]
 have h3 : (ks.take i).drop i = [] := by rw [List.drop_eq_nil_iff, List.length_take]; omega
 have h4 : (V2.take i).drop i = [] := by rw [List.drop_eq_nil_iff, List.length_take]; omega
 rw [h1, h2, h3, h4, List.take_succ_eq_append_getElem h, List.take_succ_eq_append_getElem (by omega : i < V2.length)]
noncomputable def B28 : Code := (Try.f28.body).getD .skip
noncomputable def G28 (n l) := cgo n l [.code B28]
theorem F28 : Fnc Try.prog 28 Try.f28 B28 := ⟨Try.func28, by kernel_rfl, by kernel_rfl⟩
def okc (c : Int) : Prop := (97 ≤ c ∧ c ≤ 122) ∨ (48 ≤ c ∧ c ≤ 57) ∨ c = 46 ∨ c = 45 ∨ c = 95
instance (c : Int) : Decidable (okc c) := by unfold okc; exact inferInstance
def mayName (s : ByteArray) : Bool := decide (∀ j, ∀ _ : j < s.size, okc (s[j].toNat : Int)) && decide (1 ≤ s.size ∧ s.size ≤ 80)
theorem get_of {s : ByteArray} {i : Nat} {y : UInt8} (hy : s[i]? = some y) : ∃ h : i < s.size, s[i] = y := by
 by_cases h : i < s.size
 · refine ⟨h, ?_⟩
   rw [show s[i]? = some s[i] by simp [h]] at hy
   exact Option.some.inj hy
 · rw [show s[i]? = none by simp [h]] at hy
   cases hy
theorem no28 {s : ByteArray} {i : Nat} {y : UInt8} (hy : s[i]? = some y) (hc : ¬ okc (y.toNat : Int)) : mayName s = false := by
 obtain ⟨h, rfl⟩ := get_of hy
 unfold mayName
 rw [decide_eq_false fun hall => hc (hall i h), Bool.false_and]
theorem yes28 {s : ByteArray} {i : Nat} {y : UInt8} (hj : ∀ j, ∀ _ : j < s.size, j < i → okc (s[j].toNat : Int)) (hy : s[i]? = some y) (hc : okc (y.toNat : Int)) : ∀ j, ∀ _ : j < s.size, j < i + 1 → okc (s[j].toNat : Int) := by
 obtain ⟨h, rfl⟩ := get_of hy
 intro j hs hi
 by_cases hji : j = i
 · subst hji; exact hc
 · exact hj j hs (by omega)
theorem lp28 (s : ByteArray) (hs : s.size < 9223372036854775807) : ∀ (m i : Nat), i + m = s.size → (∀ j, ∀ _ : j < s.size, j < i → okc (s[j].toNat : Int)) →
    AW Try.prog 28 none 0 (G28 13 []) (mk (Try.f28.ntmps) [(0, .d (.str s)), (2, .d (.bool false)), (6, .d (i64 s.size)), (7, .d (i64 i))]) [] [] (fun r σ' => r = .ret (.d (.bool (mayName s))) ∧ σ' = []) := by
  intro m
  induction m with
  | zero =>
    intro i hi hj
    obtain rfl : i = s.size := by omega
    refine .sge 5 [0, 2, 6, 7, 8] (G28 18 []) ?_
    refine .if' (decide ((↑s.size : Int) < (↑s.size : Int))) (G28 19 [true]) (G28 19 [false]) (fun h1 => ?_) (fun h1 => ?_)
    · simp only [bsX] at h1
      omega
    · simp only [bsX] at h1
      refine .sg0 7 [0, 2, 40, 41, 42, 43] (G28 26 [false]) [(40, .d (.str s)), (41, .d (.int .i64 (↑s.size : Int))), (42, .d (.bool (decide ((↑s.size : Int) ≥ 1)))), (43, .d (.bool (decide ((↑s.size : Int) ≥ 1))))] ?_
      rcases Bool.eq_false_or_eq_true (decide ((↑s.size : Int) ≥ 1)) with h2 | h2
      · rw [h2]
        simp only [bsX] at h2
        refine .seg 6 [2] (T' := cgo 32 [false] [.code B28]) (tm' := mk 48 [(2, .d (.bool (decide ((↑s.size : Int) ≤ 80))))]) (σ' := []) (by kernel_rfl) ?_
        refine .rt F28 (V.d (D.bool (decide ((↑s.size : Int) ≤ 80)))) ?_
        refine ⟨?_, rfl⟩
        unfold mayName
        rw [decide_eq_true (fun j h => hj j h h), Bool.true_and]
        exact congrArg (fun b => AE.ret (V.d (D.bool b))) (decide_eq_decide.2 (by omega))
      · rw [h2]
        simp only [bsX] at h2
        refine .seg 6 [2] (T' := cgo 32 [false] [.code B28]) (tm' := mk 48 [(2, .d (.bool false))]) (σ' := []) (by kernel_rfl) ?_
        refine .rt F28 (V.d (D.bool false)) ?_
        (simp [mayName] <;> omega)
  | succ m ih =>
    intro i hi hj
    refine .sge 5 [0, 2, 6, 7, 8] (G28 18 []) ?_
    refine .if' (decide ((↑i : Int) < (↑s.size : Int))) (G28 19 [true]) (G28 19 [false]) (fun h1 => ?_) (fun h1 => ?_)
    · simp only [bsX] at h1
      refine .sg0 12 [0, 2, 3, 6, 7, 8, 9, 10, 11] (G28 31 [true]) [(3, .d (.int .i64 (↑i : Int))), (9, .d (.int .i64 (↑i : Int))), (10, .d (.str s)), (11, .d (.int .i64 (↑i : Int)))] ?_
      obtain ⟨y2, hy2⟩ := str_get (s := s) (i := i) (by omega)
      refine .op' (G28 32 [true]) (ixStr_ok (t := 9) (x := (.tmp 10)) (i := (.tmp 11)) (k := IntKind.i64) (n := (↑i : Int)) (s := s) (b := y2) (by kernel_rfl) (by kernel_rfl) (by kernel_rfl) (by kernel_rfl) (by omega) hy2) ?_
      refine .sg0 7 [0, 2, 3, 4, 6, 7, 8, 9, 10, 11, 12, 13, 14, 15] (G28 39 [true]) [(4, .d (.int .u8 (↑y2.toNat : Int))), (13, .d (.int .u8 (↑y2.toNat : Int))), (14, .d (.bool (decide ((↑y2.toNat : Int) < 97)))), (15, .d (.bool (decide ((↑y2.toNat : Int) < 97))))] ?_
      rcases Bool.eq_false_or_eq_true (decide ((↑y2.toNat : Int) < 97)) with h3 | h3
      · rw [h3]
        simp only [bsX] at h3
        refine .sg0 7 [0, 2, 3, 4, 6, 7, 8, 9, 10, 11, 12, 13, 14, 15, 16, 17, 18, 19, 20, 21, 22] (G28 46 [true]) [(16, .tuple []), (17, .tuple []), (18, .d (.bool true)), (19, .d (.bool true)), (20, .d (.int .u8 (↑y2.toNat : Int))), (21, .d (.bool (decide ((↑y2.toNat : Int) < 48)))), (22, .d (.bool (decide ((↑y2.toNat : Int) < 48))))] ?_
        rcases Bool.eq_false_or_eq_true (decide ((↑y2.toNat : Int) < 48)) with h4 | h4
        · rw [h4]
          simp only [bsX] at h4
          refine .sg0 9 [0, 2, 3, 4, 6, 7, 8, 9, 10, 11, 12, 13, 14, 15, 16, 17, 18, 19, 20, 21, 22, 23, 24, 25, 26, 27, 28, 29, 30, 31] (G28 55 [true]) [(23, .tuple []), (24, .tuple []), (25, .d (.bool true)), (26, .d (.bool true)), (27, .d (.bool true)), (28, .d (.int .u8 (↑y2.toNat : Int))), (29, .d (.bool ((↑y2.toNat : Int) != 46))), (30, .d (.bool ((↑y2.toNat : Int) != 46))), (31, .d (.bool ((↑y2.toNat : Int) != 46)))] ?_
          rcases Bool.eq_false_or_eq_true ((↑y2.toNat : Int) != 46) with h5 | h5
          · rw [h5]
            simp only [bsX] at h5
            refine .sg0 4 [0, 2, 3, 4, 6, 7, 8, 9, 10, 11, 12, 13, 14, 15, 16, 17, 18, 19, 20, 21, 22, 23, 24, 25, 26, 27, 28, 29, 30, 31, 32, 33, 34, 35] (G28 59 [true]) [(32, .d (.int .u8 (↑y2.toNat : Int))), (33, .d (.bool ((↑y2.toNat : Int) != 45))), (34, .d (.bool ((↑y2.toNat : Int) != 45))), (35, .d (.bool ((↑y2.toNat : Int) != 45)))] ?_
            rcases Bool.eq_false_or_eq_true ((↑y2.toNat : Int) != 45) with h6 | h6
            · rw [h6]
              simp only [bsX] at h6
              refine .sge 4 [0, 2, 3, 4, 6, 7, 8, 9, 10, 11, 12, 13, 14, 15, 16, 17, 18, 19, 20, 21, 22, 23, 24, 25, 26, 27, 28, 29, 30, 31, 32, 33, 34, 35, 36, 37, 38] (G28 63 [true]) ?_
              refine .if' ((↑y2.toNat : Int) != 95) (G28 64 [true, true]) (G28 64 [true, false]) (fun h7 => ?_) (fun h7 => ?_)
              · simp only [bsX] at h7
                refine .seg 4 [0, 2, 3, 4, 6, 7, 8, 9, 10, 11, 12, 13, 14, 15, 16, 17, 18, 19, 20, 21, 22, 23, 24, 25, 26, 27, 28, 29, 30, 31, 32, 33, 34, 35, 36, 37, 38] (T' := cgo 68 [true, true] [.code B28]) (tm' := mk 48 [(0, .d (.str s)), (2, .d (.bool false)), (3, .d (.int .i64 (↑i : Int))), (4, .d (.int .u8 (↑y2.toNat : Int))), (6, .d (.int .i64 (↑s.size : Int))), (7, .d (.int .i64 (↑i : Int))), (8, .d (.bool (decide ((↑i : Int) < (↑s.size : Int))))), (9, .d (.int .i64 (↑i : Int))), (10, .d (.str s)), (11, .d (.int .i64 (↑i : Int))), (12, .d (.int .u8 (↑y2.toNat : Int))), (13, .d (.int .u8 (↑y2.toNat : Int))), (14, .d (.bool true)), (15, .d (.bool true)), (16, .tuple []), (17, .tuple []), (18, .d (.bool true)), (19, .d (.bool true)), (20, .d (.int .u8 (↑y2.toNat : Int))), (21, .d (.bool true)), (22, .d (.bool true)), (23, .tuple []), (24, .tuple []), (25, .d (.bool true)), (26, .d (.bool true)), (27, .d (.bool true)), (28, .d (.int .u8 (↑y2.toNat : Int))), (29, .d (.bool true)), (30, .d (.bool true)), (31, .d (.bool true)), (32, .d (.int .u8 (↑y2.toNat : Int))), (33, .d (.bool true)), (34, .d (.bool true)), (35, .d (.bool true)), (36, .d (.int .u8 (↑y2.toNat : Int))), (37, .d (.bool ((↑y2.toNat : Int) != 95))), (38, .d (.bool ((↑y2.toNat : Int) != 95)))]) (σ' := []) (by kernel_rfl) ?_
                refine .rt F28 (V.d (D.bool false)) ?_
                exact ⟨by rw [no28 hy2 (by unfold okc; omega)], rfl⟩
              · simp only [bsX] at h7
                omega
            · rw [h6]
              simp only [bsX] at h6
              refine .sg0 11 [0, 2, 3, 4, 6, 7, 8, 9, 10, 11, 12, 13, 14, 15, 16, 17, 18, 19, 20, 21, 22, 23, 24, 25, 26, 27, 28, 29, 30, 31, 32, 33, 34, 35, 36, 37, 38, 39] (G28 70 [true, false]) [(7, .d (.int .i64 (IntKind.i64.wrap ((↑i : Int) + 1)))), (36, .tuple []), (37, .tuple []), (38, .d (.bool false)), (39, .d (.int .i64 (IntKind.i64.wrap ((↑i : Int) + 1))))] ?_
              simp (disch := omega) only [bsW]
              refine .seg 1 [0, 2, 6, 7] (T' := cgo 13 [] [.code B28]) (tm' := mk 48 [(0, .d (.str s)), (2, .d (.bool false)), (6, .d (i64 s.size)), (7, .d (i64 (↑i + 1)))]) (σ' := []) (by kernel_rfl) ?_
              exact ih (i + 1) (by omega) (yes28 hj hy2 (by unfold okc; omega))
          · rw [h5]
            simp only [bsX] at h5
            refine .sg0 15 [0, 2, 3, 4, 6, 7, 8, 9, 10, 11, 12, 13, 14, 15, 16, 17, 18, 19, 20, 21, 22, 23, 24, 25, 26, 27, 28, 29, 30, 31, 32, 33, 34, 35, 36, 37, 38, 39] (G28 70 [true, false]) [(7, .d (.int .i64 (IntKind.i64.wrap ((↑i : Int) + 1)))), (32, .tuple []), (33, .tuple []), (34, .d (.bool false)), (35, .d (.bool false)), (36, .tuple []), (37, .tuple []), (38, .d (.bool false)), (39, .d (.int .i64 (IntKind.i64.wrap ((↑i : Int) + 1))))] ?_
            simp (disch := omega) only [bsW]
            refine .seg 1 [0, 2, 6, 7] (T' := cgo 13 [] [.code B28]) (tm' := mk 48 [(0, .d (.str s)), (2, .d (.bool false)), (6, .d (i64 s.size)), (7, .d (i64 (↑i + 1)))]) (σ' := []) (by kernel_rfl) ?_
            exact ih (i + 1) (by omega) (yes28 hj hy2 (by unfold okc; omega))
        · rw [h4]
          simp only [bsX] at h4
          refine .sg0 5 [0, 2, 3, 4, 6, 7, 8, 9, 10, 11, 12, 13, 14, 15, 16, 17, 18, 19, 20, 21, 22, 23, 24, 25, 26, 27] (G28 51 [true]) [(23, .d (.int .u8 (↑y2.toNat : Int))), (24, .d (.bool (decide ((↑y2.toNat : Int) > 57)))), (25, .d (.bool (decide ((↑y2.toNat : Int) > 57)))), (26, .d (.bool (decide ((↑y2.toNat : Int) > 57)))), (27, .d (.bool (decide ((↑y2.toNat : Int) > 57))))] ?_
          rcases Bool.eq_false_or_eq_true (decide ((↑y2.toNat : Int) > 57)) with h8 | h8
          · rw [h8]
            simp only [bsX] at h8
            refine .sg0 4 [0, 2, 3, 4, 6, 7, 8, 9, 10, 11, 12, 13, 14, 15, 16, 17, 18, 19, 20, 21, 22, 23, 24, 25, 26, 27, 28, 29, 30, 31] (G28 55 [true]) [(28, .d (.int .u8 (↑y2.toNat : Int))), (29, .d (.bool ((↑y2.toNat : Int) != 46))), (30, .d (.bool ((↑y2.toNat : Int) != 46))), (31, .d (.bool ((↑y2.toNat : Int) != 46)))] ?_
            rcases Bool.eq_false_or_eq_true ((↑y2.toNat : Int) != 46) with h9 | h9
            · rw [h9]
              simp only [bsX] at h9
              refine .sg0 4 [0, 2, 3, 4, 6, 7, 8, 9, 10, 11, 12, 13, 14, 15, 16, 17, 18, 19, 20, 21, 22, 23, 24, 25, 26, 27, 28, 29, 30, 31, 32, 33, 34, 35] (G28 59 [true]) [(32, .d (.int .u8 (↑y2.toNat : Int))), (33, .d (.bool ((↑y2.toNat : Int) != 45))), (34, .d (.bool ((↑y2.toNat : Int) != 45))), (35, .d (.bool ((↑y2.toNat : Int) != 45)))] ?_
              rcases Bool.eq_false_or_eq_true ((↑y2.toNat : Int) != 45) with h10 | h10
              · rw [h10]
                simp only [bsX] at h10
                refine .sge 4 [0, 2, 3, 4, 6, 7, 8, 9, 10, 11, 12, 13, 14, 15, 16, 17, 18, 19, 20, 21, 22, 23, 24, 25, 26, 27, 28, 29, 30, 31, 32, 33, 34, 35, 36, 37, 38] (G28 63 [true]) ?_
                refine .if' ((↑y2.toNat : Int) != 95) (G28 64 [true, true]) (G28 64 [true, false]) (fun h11 => ?_) (fun h11 => ?_)
                · simp only [bsX] at h11
                  refine .seg 4 [0, 2, 3, 4, 6, 7, 8, 9, 10, 11, 12, 13, 14, 15, 16, 17, 18, 19, 20, 21, 22, 23, 24, 25, 26, 27, 28, 29, 30, 31, 32, 33, 34, 35, 36, 37, 38] (T' := cgo 68 [true, true] [.code B28]) (tm' := mk 48 [(0, .d (.str s)), (2, .d (.bool false)), (3, .d (.int .i64 (↑i : Int))), (4, .d (.int .u8 (↑y2.toNat : Int))), (6, .d (.int .i64 (↑s.size : Int))), (7, .d (.int .i64 (↑i : Int))), (8, .d (.bool (decide ((↑i : Int) < (↑s.size : Int))))), (9, .d (.int .i64 (↑i : Int))), (10, .d (.str s)), (11, .d (.int .i64 (↑i : Int))), (12, .d (.int .u8 (↑y2.toNat : Int))), (13, .d (.int .u8 (↑y2.toNat : Int))), (14, .d (.bool true)), (15, .d (.bool true)), (16, .tuple []), (17, .tuple []), (18, .d (.bool true)), (19, .d (.bool true)), (20, .d (.int .u8 (↑y2.toNat : Int))), (21, .d (.bool false)), (22, .d (.bool false)), (23, .d (.int .u8 (↑y2.toNat : Int))), (24, .d (.bool true)), (25, .d (.bool true)), (26, .d (.bool true)), (27, .d (.bool true)), (28, .d (.int .u8 (↑y2.toNat : Int))), (29, .d (.bool true)), (30, .d (.bool true)), (31, .d (.bool true)), (32, .d (.int .u8 (↑y2.toNat : Int))), (33, .d (.bool true)), (34, .d (.bool true)), (35, .d (.bool true)), (36, .d (.int .u8 (↑y2.toNat : Int))), (37, .d (.bool ((↑y2.toNat : Int) != 95))), (38, .d (.bool ((↑y2.toNat : Int) != 95)))]) (σ' := []) (by kernel_rfl) ?_
                  refine .rt F28 (V.d (D.bool false)) ?_
                  exact ⟨by rw [no28 hy2 (by unfold okc; omega)], rfl⟩
                · simp only [bsX] at h11
                  refine .sg0 6 [0, 2, 3, 4, 6, 7, 8, 9, 10, 11, 12, 13, 14, 15, 16, 17, 18, 19, 20, 21, 22, 23, 24, 25, 26, 27, 28, 29, 30, 31, 32, 33, 34, 35, 36, 37, 38, 39] (G28 70 [true, false]) [(7, .d (.int .i64 (IntKind.i64.wrap ((↑i : Int) + 1)))), (39, .d (.int .i64 (IntKind.i64.wrap ((↑i : Int) + 1))))] ?_
                  simp (disch := omega) only [bsW]
                  refine .seg 1 [0, 2, 6, 7] (T' := cgo 13 [] [.code B28]) (tm' := mk 48 [(0, .d (.str s)), (2, .d (.bool false)), (6, .d (i64 s.size)), (7, .d (i64 (↑i + 1)))]) (σ' := []) (by kernel_rfl) ?_
                  exact ih (i + 1) (by omega) (yes28 hj hy2 (by unfold okc; omega))
              · rw [h10]
                simp only [bsX] at h10
                omega
            · rw [h9]
              simp only [bsX] at h9
              omega
          · rw [h8]
            simp only [bsX] at h8
            refine .sg0 19 [0, 2, 3, 4, 6, 7, 8, 9, 10, 11, 12, 13, 14, 15, 16, 17, 18, 19, 20, 21, 22, 23, 24, 25, 26, 27, 28, 29, 30, 31, 32, 33, 34, 35, 36, 37, 38, 39] (G28 70 [true, false]) [(7, .d (.int .i64 (IntKind.i64.wrap ((↑i : Int) + 1)))), (28, .tuple []), (29, .tuple []), (30, .d (.bool false)), (31, .d (.bool false)), (32, .tuple []), (33, .tuple []), (34, .d (.bool false)), (35, .d (.bool false)), (36, .tuple []), (37, .tuple []), (38, .d (.bool false)), (39, .d (.int .i64 (IntKind.i64.wrap ((↑i : Int) + 1))))] ?_
            simp (disch := omega) only [bsW]
            refine .seg 1 [0, 2, 6, 7] (T' := cgo 13 [] [.code B28]) (tm' := mk 48 [(0, .d (.str s)), (2, .d (.bool false)), (6, .d (i64 s.size)), (7, .d (i64 (↑i + 1)))]) (σ' := []) (by kernel_rfl) ?_
            exact ih (i + 1) (by omega) (yes28 hj hy2 (by unfold okc; omega))
      · rw [h3]
        simp only [bsX] at h3
        refine .sg0 4 [0, 2, 3, 4, 6, 7, 8, 9, 10, 11, 12, 13, 14, 15, 16, 17, 18, 19] (G28 43 [true]) [(16, .d (.int .u8 (↑y2.toNat : Int))), (17, .d (.bool (decide ((↑y2.toNat : Int) > 122)))), (18, .d (.bool (decide ((↑y2.toNat : Int) > 122)))), (19, .d (.bool (decide ((↑y2.toNat : Int) > 122))))] ?_
        rcases Bool.eq_false_or_eq_true (decide ((↑y2.toNat : Int) > 122)) with h12 | h12
        · rw [h12]
          simp only [bsX] at h12
          refine .sg0 3 [0, 2, 3, 4, 6, 7, 8, 9, 10, 11, 12, 13, 14, 15, 16, 17, 18, 19, 20, 21, 22] (G28 46 [true]) [(20, .d (.int .u8 (↑y2.toNat : Int))), (21, .d (.bool (decide ((↑y2.toNat : Int) < 48)))), (22, .d (.bool (decide ((↑y2.toNat : Int) < 48))))] ?_
          rcases Bool.eq_false_or_eq_true (decide ((↑y2.toNat : Int) < 48)) with h13 | h13
          · rw [h13]
            simp only [bsX] at h13
            omega
          · rw [h13]
            simp only [bsX] at h13
            refine .sg0 5 [0, 2, 3, 4, 6, 7, 8, 9, 10, 11, 12, 13, 14, 15, 16, 17, 18, 19, 20, 21, 22, 23, 24, 25, 26, 27] (G28 51 [true]) [(23, .d (.int .u8 (↑y2.toNat : Int))), (24, .d (.bool (decide ((↑y2.toNat : Int) > 57)))), (25, .d (.bool (decide ((↑y2.toNat : Int) > 57)))), (26, .d (.bool (decide ((↑y2.toNat : Int) > 57)))), (27, .d (.bool (decide ((↑y2.toNat : Int) > 57))))] ?_
            rcases Bool.eq_false_or_eq_true (decide ((↑y2.toNat : Int) > 57)) with h14 | h14
            · rw [h14]
              simp only [bsX] at h14
              refine .sg0 4 [0, 2, 3, 4, 6, 7, 8, 9, 10, 11, 12, 13, 14, 15, 16, 17, 18, 19, 20, 21, 22, 23, 24, 25, 26, 27, 28, 29, 30, 31] (G28 55 [true]) [(28, .d (.int .u8 (↑y2.toNat : Int))), (29, .d (.bool ((↑y2.toNat : Int) != 46))), (30, .d (.bool ((↑y2.toNat : Int) != 46))), (31, .d (.bool ((↑y2.toNat : Int) != 46)))] ?_
              rcases Bool.eq_false_or_eq_true ((↑y2.toNat : Int) != 46) with h15 | h15
              · rw [h15]
                simp only [bsX] at h15
                refine .sg0 4 [0, 2, 3, 4, 6, 7, 8, 9, 10, 11, 12, 13, 14, 15, 16, 17, 18, 19, 20, 21, 22, 23, 24, 25, 26, 27, 28, 29, 30, 31, 32, 33, 34, 35] (G28 59 [true]) [(32, .d (.int .u8 (↑y2.toNat : Int))), (33, .d (.bool ((↑y2.toNat : Int) != 45))), (34, .d (.bool ((↑y2.toNat : Int) != 45))), (35, .d (.bool ((↑y2.toNat : Int) != 45)))] ?_
                rcases Bool.eq_false_or_eq_true ((↑y2.toNat : Int) != 45) with h16 | h16
                · rw [h16]
                  simp only [bsX] at h16
                  refine .sge 4 [0, 2, 3, 4, 6, 7, 8, 9, 10, 11, 12, 13, 14, 15, 16, 17, 18, 19, 20, 21, 22, 23, 24, 25, 26, 27, 28, 29, 30, 31, 32, 33, 34, 35, 36, 37, 38] (G28 63 [true]) ?_
                  refine .if' ((↑y2.toNat : Int) != 95) (G28 64 [true, true]) (G28 64 [true, false]) (fun h17 => ?_) (fun h17 => ?_)
                  · simp only [bsX] at h17
                    refine .seg 4 [0, 2, 3, 4, 6, 7, 8, 9, 10, 11, 12, 13, 14, 15, 16, 17, 18, 19, 20, 21, 22, 23, 24, 25, 26, 27, 28, 29, 30, 31, 32, 33, 34, 35, 36, 37, 38] (T' := cgo 68 [true, true] [.code B28]) (tm' := mk 48 [(0, .d (.str s)), (2, .d (.bool false)), (3, .d (.int .i64 (↑i : Int))), (4, .d (.int .u8 (↑y2.toNat : Int))), (6, .d (.int .i64 (↑s.size : Int))), (7, .d (.int .i64 (↑i : Int))), (8, .d (.bool (decide ((↑i : Int) < (↑s.size : Int))))), (9, .d (.int .i64 (↑i : Int))), (10, .d (.str s)), (11, .d (.int .i64 (↑i : Int))), (12, .d (.int .u8 (↑y2.toNat : Int))), (13, .d (.int .u8 (↑y2.toNat : Int))), (14, .d (.bool false)), (15, .d (.bool false)), (16, .d (.int .u8 (↑y2.toNat : Int))), (17, .d (.bool true)), (18, .d (.bool true)), (19, .d (.bool true)), (20, .d (.int .u8 (↑y2.toNat : Int))), (21, .d (.bool false)), (22, .d (.bool false)), (23, .d (.int .u8 (↑y2.toNat : Int))), (24, .d (.bool true)), (25, .d (.bool true)), (26, .d (.bool true)), (27, .d (.bool true)), (28, .d (.int .u8 (↑y2.toNat : Int))), (29, .d (.bool true)), (30, .d (.bool true)), (31, .d (.bool true)), (32, .d (.int .u8 (↑y2.toNat : Int))), (33, .d (.bool true)), (34, .d (.bool true)), (35, .d (.bool true)), (36, .d (.int .u8 (↑y2.toNat : Int))), (37, .d (.bool ((↑y2.toNat : Int) != 95))), (38, .d (.bool ((↑y2.toNat : Int) != 95)))]) (σ' := []) (by kernel_rfl) ?_
                    refine .rt F28 (V.d (D.bool false)) ?_
                    exact ⟨by rw [no28 hy2 (by unfold okc; omega)], rfl⟩
                  · simp only [bsX] at h17
                    omega
                · rw [h16]
                  simp only [bsX] at h16
                  omega
              · rw [h15]
                simp only [bsX] at h15
                omega
            · rw [h14]
              simp only [bsX] at h14
              omega
        · rw [h12]
          simp only [bsX] at h12
          refine .sg0 27 [0, 2, 3, 4, 6, 7, 8, 9, 10, 11, 12, 13, 14, 15, 16, 17, 18, 19, 20, 21, 22, 23, 24, 25, 26, 27, 28, 29, 30, 31, 32, 33, 34, 35, 36, 37, 38, 39] (G28 70 [true, false]) [(7, .d (.int .i64 (IntKind.i64.wrap ((↑i : Int) + 1)))), (20, .tuple []), (21, .tuple []), (22, .tuple []), (23, .tuple []), (24, .tuple []), (25, .tuple []), (26, .d (.bool false)), (27, .d (.bool false)), (28, .tuple []), (29, .tuple []), (30, .d (.bool false)), (31, .d (.bool false)), (32, .tuple []), (33, .tuple []), (34, .d (.bool false)), (35, .d (.bool false)), (36, .tuple []), (37, .tuple []), (38, .d (.bool false)), (39, .d (.int .i64 (IntKind.i64.wrap ((↑i : Int) + 1))))] ?_
          simp (disch := omega) only [bsW]
          refine .seg 1 [0, 2, 6, 7] (T' := cgo 13 [] [.code B28]) (tm' := mk 48 [(0, .d (.str s)), (2, .d (.bool false)), (6, .d (i64 s.size)), (7, .d (i64 (↑i + 1)))]) (σ' := []) (by kernel_rfl) ?_
          exact ih (i + 1) (by omega) (yes28 hj hy2 (by unfold okc; omega))
    · simp only [bsX] at h1
      omega
theorem spec_28 (s : ByteArray) (hs : s.size < 9223372036854775807) : Br.Pure Try.prog 28 [.d (.str s)] (.d (.bool (mayName s))) := by
 refine CallsA.start F28 (tm := mk 48 [(0, .d (.str s))]) (by kernel_rfl) ?_
 refine .seg 13 [0, 2, 6, 7] (T' := cgo 13 [] [.code B28]) (tm' := mk 48 [(0, .d (.str s)), (2, .d (.bool false)), (6, .d (i64 s.size)), (7, .d (i64 (0 : Nat)))]) (σ' := []) (by kernel_rfl) ?_
 exact lp28 s hs s.size 0 (by omega) fun j _ h => by omega
noncomputable def B29 : Code := (Try.f29.body).getD .skip
noncomputable def G29 (n l) := cgo n l [.code B29]
theorem F29 : Fnc Try.prog 29 Try.f29 B29 := ⟨Try.func29, by kernel_rfl, by kernel_rfl⟩
theorem lp29 (s : ByteArray) (hs : s.size < 9223372036854775807) : ∀ (m i : Nat), i + m = s.size → (∀ j, ∀ _ : j < s.size, j < i → okc (s[j].toNat : Int)) →
    AW Try.prog 29 none 0 (G29 11 []) (mk (Try.f29.ntmps) [(0, .d (.str s)), (2, .d (.bool false)), (3, .d (i64 i))]) [] [] (fun r σ' => r = .ret (.d (.bool (mayName s))) ∧ σ' = []) := by
  intro m
  induction m with
  | zero =>
    intro i hi hj
    obtain rfl : i = s.size := by omega
    refine .sge 8 [0, 2, 3, 7, 8, 9, 10] (G29 19 []) ?_
    refine .if' (decide ((↑s.size : Int) < (↑s.size : Int))) (G29 20 [true]) (G29 20 [false]) (fun h1 => ?_) (fun h1 => ?_)
    · simp only [bsX] at h1
      omega
    · simp only [bsX] at h1
      refine .sg0 7 [0, 2, 46, 47, 48, 49] (G29 27 [false]) [(46, .d (.str s)), (47, .d (.int .i64 (↑s.size : Int))), (48, .d (.bool (decide ((↑s.size : Int) > 0)))), (49, .d (.bool (decide ((↑s.size : Int) > 0))))] ?_
      rcases Bool.eq_false_or_eq_true (decide ((↑s.size : Int) > 0)) with h2 | h2
      · rw [h2]
        simp only [bsX] at h2
        refine .seg 6 [2] (T' := cgo 33 [false] [.code B29]) (tm' := mk 54 [(2, .d (.bool (decide ((↑s.size : Int) < 81))))]) (σ' := []) (by kernel_rfl) ?_
        refine .rt F29 (V.d (D.bool (decide ((↑s.size : Int) < 81)))) ?_
        refine ⟨?_, rfl⟩
        unfold mayName
        rw [decide_eq_true (fun j h => hj j h h), Bool.true_and]
        exact congrArg (fun b => AE.ret (V.d (D.bool b))) (decide_eq_decide.2 (by omega))
      · rw [h2]
        simp only [bsX] at h2
        refine .seg 6 [2] (T' := cgo 33 [false] [.code B29]) (tm' := mk 54 [(2, .d (.bool false))]) (σ' := []) (by kernel_rfl) ?_
        refine .rt F29 (V.d (D.bool false)) ?_
        simp_all [mayName]
  | succ m ih =>
    intro i hi hj
    refine .sge 8 [0, 2, 3, 7, 8, 9, 10] (G29 19 []) ?_
    refine .if' (decide ((↑i : Int) < (↑s.size : Int))) (G29 20 [true]) (G29 20 [false]) (fun h1 => ?_) (fun h1 => ?_)
    · simp only [bsX] at h1
      refine .sg0 7 [0, 2, 3, 7, 8, 9, 10, 13, 14] (G29 27 [true]) [(13, .d (.str s)), (14, .d (.int .i64 (↑i : Int)))] ?_
      obtain ⟨y2, hy2⟩ := str_get (s := s) (i := i) (by omega)
      refine .op' (G29 28 [true]) (ixStr_ok (t := 9) (x := (.tmp 13)) (i := (.tmp 14)) (k := IntKind.i64) (n := (↑i : Int)) (s := s) (b := y2) (by kernel_rfl) (by kernel_rfl) (by kernel_rfl) (by kernel_rfl) (by omega) hy2) ?_
      refine .sg0 7 [0, 2, 3, 4, 7, 8, 9, 10, 13, 14, 15, 16, 17, 18] (G29 35 [true]) [(4, .d (.int .u8 (↑y2.toNat : Int))), (16, .d (.int .u8 (↑y2.toNat : Int))), (17, .d (.bool (decide ((↑y2.toNat : Int) ≥ 97)))), (18, .d (.bool (decide ((↑y2.toNat : Int) ≥ 97))))] ?_
      rcases Bool.eq_false_or_eq_true (decide ((↑y2.toNat : Int) ≥ 97)) with h3 | h3
      · rw [h3]
        simp only [bsX] at h3
        refine .sg0 10 [0, 2, 3, 4, 5, 7, 8, 9, 10, 13, 14, 15, 16, 17, 18, 19, 20, 21, 22, 23, 24] (G29 45 [true]) [(5, .d (.bool (decide ((↑y2.toNat : Int) ≤ 122)))), (19, .d (.int .u8 (↑y2.toNat : Int))), (20, .d (.bool (decide ((↑y2.toNat : Int) ≤ 122)))), (21, .d (.bool (decide ((↑y2.toNat : Int) ≤ 122)))), (22, .d (.int .u8 (↑y2.toNat : Int))), (23, .d (.bool (decide ((↑y2.toNat : Int) ≥ 48)))), (24, .d (.bool (decide ((↑y2.toNat : Int) ≥ 48))))] ?_
        rcases Bool.eq_false_or_eq_true (decide ((↑y2.toNat : Int) ≥ 48)) with h4 | h4
        · rw [h4]
          simp only [bsX] at h4
          refine .sg0 10 [0, 2, 3, 4, 5, 6, 7, 8, 9, 10, 13, 14, 15, 16, 17, 18, 19, 20, 21, 22, 23, 24, 25, 26, 27, 28, 29, 30] (G29 55 [true]) [(6, .d (.bool (decide ((↑y2.toNat : Int) ≤ 57)))), (25, .d (.int .u8 (↑y2.toNat : Int))), (26, .d (.bool (decide ((↑y2.toNat : Int) ≤ 57)))), (27, .d (.bool (decide ((↑y2.toNat : Int) ≤ 57)))), (28, .d (.bool (decide ((↑y2.toNat : Int) ≤ 122)))), (29, .d (.bool !decide ((↑y2.toNat : Int) ≤ 122))), (30, .d (.bool !decide ((↑y2.toNat : Int) ≤ 122)))] ?_
          rcases Bool.eq_false_or_eq_true (!decide ((↑y2.toNat : Int) ≤ 122)) with h5 | h5
          · rw [h5]
            simp only [bsX] at h5
            refine .sg0 4 [0, 2, 3, 4, 5, 6, 7, 8, 9, 10, 13, 14, 15, 16, 17, 18, 19, 20, 21, 22, 23, 24, 25, 26, 27, 28, 29, 30, 31, 32, 33, 34] (G29 59 [true]) [(31, .d (.bool (decide ((↑y2.toNat : Int) ≤ 57)))), (32, .d (.bool !decide ((↑y2.toNat : Int) ≤ 57))), (33, .d (.bool !decide ((↑y2.toNat : Int) ≤ 57))), (34, .d (.bool !decide ((↑y2.toNat : Int) ≤ 57)))] ?_
            rcases Bool.eq_false_or_eq_true (!decide ((↑y2.toNat : Int) ≤ 57)) with h6 | h6
            · rw [h6]
              simp only [bsX] at h6
              refine .sg0 4 [0, 2, 3, 4, 5, 6, 7, 8, 9, 10, 13, 14, 15, 16, 17, 18, 19, 20, 21, 22, 23, 24, 25, 26, 27, 28, 29, 30, 31, 32, 33, 34, 35, 36, 37, 38] (G29 63 [true]) [(35, .d (.int .u8 (↑y2.toNat : Int))), (36, .d (.bool ((↑y2.toNat : Int) != 46))), (37, .d (.bool ((↑y2.toNat : Int) != 46))), (38, .d (.bool ((↑y2.toNat : Int) != 46)))] ?_
              rcases Bool.eq_false_or_eq_true ((↑y2.toNat : Int) != 46) with h7 | h7
              · rw [h7]
                simp only [bsX] at h7
                refine .sg0 4 [0, 2, 3, 4, 5, 6, 7, 8, 9, 10, 13, 14, 15, 16, 17, 18, 19, 20, 21, 22, 23, 24, 25, 26, 27, 28, 29, 30, 31, 32, 33, 34, 35, 36, 37, 38, 39, 40, 41, 42] (G29 67 [true]) [(39, .d (.int .u8 (↑y2.toNat : Int))), (40, .d (.bool ((↑y2.toNat : Int) != 45))), (41, .d (.bool ((↑y2.toNat : Int) != 45))), (42, .d (.bool ((↑y2.toNat : Int) != 45)))] ?_
                rcases Bool.eq_false_or_eq_true ((↑y2.toNat : Int) != 45) with h8 | h8
                · rw [h8]
                  simp only [bsX] at h8
                  refine .sge 4 [0, 2, 3, 4, 5, 6, 7, 8, 9, 10, 13, 14, 15, 16, 17, 18, 19, 20, 21, 22, 23, 24, 25, 26, 27, 28, 29, 30, 31, 32, 33, 34, 35, 36, 37, 38, 39, 40, 41, 42, 43, 44, 45] (G29 71 [true]) ?_
                  refine .if' ((↑y2.toNat : Int) != 95) (G29 72 [true, true]) (G29 72 [true, false]) (fun h9 => ?_) (fun h9 => ?_)
                  · simp only [bsX] at h9
                    refine .seg 4 [0, 2, 3, 4, 5, 6, 7, 8, 9, 10, 13, 14, 15, 16, 17, 18, 19, 20, 21, 22, 23, 24, 25, 26, 27, 28, 29, 30, 31, 32, 33, 34, 35, 36, 37, 38, 39, 40, 41, 42, 43, 44, 45] (T' := cgo 76 [true, true] [.code B29]) (tm' := mk 54 [(0, .d (.str s)), (2, .d (.bool false)), (3, .d (.int .i64 (↑i : Int))), (4, .d (.int .u8 (↑y2.toNat : Int))), (5, .d (.bool (decide ((↑y2.toNat : Int) ≤ 122)))), (6, .d (.bool (decide ((↑y2.toNat : Int) ≤ 57)))), (7, .d (.int .i64 (↑i : Int))), (8, .d (.str s)), (9, .d (.int .i64 (↑s.size : Int))), (10, .d (.bool (decide ((↑i : Int) < (↑s.size : Int))))), (13, .d (.str s)), (14, .d (.int .i64 (↑i : Int))), (15, .d (.int .u8 (↑y2.toNat : Int))), (16, .d (.int .u8 (↑y2.toNat : Int))), (17, .d (.bool true)), (18, .d (.bool true)), (19, .d (.int .u8 (↑y2.toNat : Int))), (20, .d (.bool (decide ((↑y2.toNat : Int) ≤ 122)))), (21, .d (.bool (decide ((↑y2.toNat : Int) ≤ 122)))), (22, .d (.int .u8 (↑y2.toNat : Int))), (23, .d (.bool true)), (24, .d (.bool true)), (25, .d (.int .u8 (↑y2.toNat : Int))), (26, .d (.bool (decide ((↑y2.toNat : Int) ≤ 57)))), (27, .d (.bool (decide ((↑y2.toNat : Int) ≤ 57)))), (28, .d (.bool (decide ((↑y2.toNat : Int) ≤ 122)))), (29, .d (.bool true)), (30, .d (.bool true)), (31, .d (.bool (decide ((↑y2.toNat : Int) ≤ 57)))), (32, .d (.bool true)), (33, .d (.bool true)), (34, .d (.bool true)), (35, .d (.int .u8 (↑y2.toNat : Int))), (36, .d (.bool true)), (37, .d (.bool true)), (38, .d (.bool true)), (39, .d (.int .u8 (↑y2.toNat : Int))), (40, .d (.bool true)), (41, .d (.bool true)), (42, .d (.bool true)), (43, .d (.int .u8 (↑y2.toNat : Int))), (44, .d (.bool ((↑y2.toNat : Int) != 95))), (45, .d (.bool ((↑y2.toNat : Int) != 95)))]) (σ' := []) (by kernel_rfl) ?_
                    refine .rt F29 (V.d (D.bool false)) ?_
                    exact ⟨by rw [no28 hy2 (by unfold okc; omega)], rfl⟩
                  · simp only [bsX] at h9
                    omega
                · rw [h8]
                  simp only [bsX] at h8
                  omega
              · rw [h7]
                simp only [bsX] at h7
                omega
            · rw [h6]
              simp only [bsX] at h6
              omega
          · rw [h5]
            simp only [bsX] at h5
            refine .sg0 24 [0, 2, 3, 4, 5, 6, 7, 8, 9, 10, 11, 12, 13, 14, 15, 16, 17, 18, 19, 20, 21, 22, 23, 24, 25, 26, 27, 28, 29, 30, 31, 32, 33, 34, 35, 36, 37, 38, 39, 40, 41, 42, 43, 44, 45] (G29 79 [true, false]) [(3, .d (.int .i64 (IntKind.i64.wrap ((↑i : Int) + 1)))), (11, .d (.int .i64 (↑i : Int))), (12, .d (.int .i64 (IntKind.i64.wrap ((↑i : Int) + 1)))), (31, .tuple []), (32, .tuple []), (33, .d (.bool false)), (34, .d (.bool false)), (35, .tuple []), (36, .tuple []), (37, .d (.bool false)), (38, .d (.bool false)), (39, .tuple []), (40, .tuple []), (41, .d (.bool false)), (42, .d (.bool false)), (43, .tuple []), (44, .tuple []), (45, .d (.bool false))] ?_
            simp (disch := omega) only [bsW]
            refine .seg 1 [0, 2, 3] (T' := cgo 11 [] [.code B29]) (tm' := mk 54 [(0, .d (.str s)), (2, .d (.bool false)), (3, .d (i64 (↑i + 1)))]) (σ' := []) (by kernel_rfl) ?_
            exact ih (i + 1) (by omega) (yes28 hj hy2 (by unfold okc; omega))
        · rw [h4]
          simp only [bsX] at h4
          omega
      · rw [h3]
        simp only [bsX] at h3
        refine .sg0 10 [0, 2, 3, 4, 5, 7, 8, 9, 10, 13, 14, 15, 16, 17, 18, 19, 20, 21, 22, 23, 24] (G29 45 [true]) [(5, .d (.bool false)), (19, .tuple []), (20, .tuple []), (21, .d (.bool false)), (22, .d (.int .u8 (↑y2.toNat : Int))), (23, .d (.bool (decide ((↑y2.toNat : Int) ≥ 48)))), (24, .d (.bool (decide ((↑y2.toNat : Int) ≥ 48))))] ?_
        rcases Bool.eq_false_or_eq_true (decide ((↑y2.toNat : Int) ≥ 48)) with h10 | h10
        · rw [h10]
          simp only [bsX] at h10
          refine .sg0 14 [0, 2, 3, 4, 5, 6, 7, 8, 9, 10, 13, 14, 15, 16, 17, 18, 19, 20, 21, 22, 23, 24, 25, 26, 27, 28, 29, 30, 31, 32, 33, 34] (G29 59 [true]) [(6, .d (.bool (decide ((↑y2.toNat : Int) ≤ 57)))), (25, .d (.int .u8 (↑y2.toNat : Int))), (26, .d (.bool (decide ((↑y2.toNat : Int) ≤ 57)))), (27, .d (.bool (decide ((↑y2.toNat : Int) ≤ 57)))), (28, .d (.bool false)), (29, .d (.bool true)), (30, .d (.bool true)), (31, .d (.bool (decide ((↑y2.toNat : Int) ≤ 57)))), (32, .d (.bool !decide ((↑y2.toNat : Int) ≤ 57))), (33, .d (.bool !decide ((↑y2.toNat : Int) ≤ 57))), (34, .d (.bool !decide ((↑y2.toNat : Int) ≤ 57)))] ?_
          rcases Bool.eq_false_or_eq_true (!decide ((↑y2.toNat : Int) ≤ 57)) with h11 | h11
          · rw [h11]
            simp only [bsX] at h11
            refine .sg0 4 [0, 2, 3, 4, 5, 6, 7, 8, 9, 10, 13, 14, 15, 16, 17, 18, 19, 20, 21, 22, 23, 24, 25, 26, 27, 28, 29, 30, 31, 32, 33, 34, 35, 36, 37, 38] (G29 63 [true]) [(35, .d (.int .u8 (↑y2.toNat : Int))), (36, .d (.bool ((↑y2.toNat : Int) != 46))), (37, .d (.bool ((↑y2.toNat : Int) != 46))), (38, .d (.bool ((↑y2.toNat : Int) != 46)))] ?_
            rcases Bool.eq_false_or_eq_true ((↑y2.toNat : Int) != 46) with h12 | h12
            · rw [h12]
              simp only [bsX] at h12
              refine .sg0 4 [0, 2, 3, 4, 5, 6, 7, 8, 9, 10, 13, 14, 15, 16, 17, 18, 19, 20, 21, 22, 23, 24, 25, 26, 27, 28, 29, 30, 31, 32, 33, 34, 35, 36, 37, 38, 39, 40, 41, 42] (G29 67 [true]) [(39, .d (.int .u8 (↑y2.toNat : Int))), (40, .d (.bool ((↑y2.toNat : Int) != 45))), (41, .d (.bool ((↑y2.toNat : Int) != 45))), (42, .d (.bool ((↑y2.toNat : Int) != 45)))] ?_
              rcases Bool.eq_false_or_eq_true ((↑y2.toNat : Int) != 45) with h13 | h13
              · rw [h13]
                simp only [bsX] at h13
                refine .sge 4 [0, 2, 3, 4, 5, 6, 7, 8, 9, 10, 13, 14, 15, 16, 17, 18, 19, 20, 21, 22, 23, 24, 25, 26, 27, 28, 29, 30, 31, 32, 33, 34, 35, 36, 37, 38, 39, 40, 41, 42, 43, 44, 45] (G29 71 [true]) ?_
                refine .if' ((↑y2.toNat : Int) != 95) (G29 72 [true, true]) (G29 72 [true, false]) (fun h14 => ?_) (fun h14 => ?_)
                · simp only [bsX] at h14
                  refine .seg 4 [0, 2, 3, 4, 5, 6, 7, 8, 9, 10, 13, 14, 15, 16, 17, 18, 19, 20, 21, 22, 23, 24, 25, 26, 27, 28, 29, 30, 31, 32, 33, 34, 35, 36, 37, 38, 39, 40, 41, 42, 43, 44, 45] (T' := cgo 76 [true, true] [.code B29]) (tm' := mk 54 [(0, .d (.str s)), (2, .d (.bool false)), (3, .d (.int .i64 (↑i : Int))), (4, .d (.int .u8 (↑y2.toNat : Int))), (5, .d (.bool false)), (6, .d (.bool (decide ((↑y2.toNat : Int) ≤ 57)))), (7, .d (.int .i64 (↑i : Int))), (8, .d (.str s)), (9, .d (.int .i64 (↑s.size : Int))), (10, .d (.bool (decide ((↑i : Int) < (↑s.size : Int))))), (13, .d (.str s)), (14, .d (.int .i64 (↑i : Int))), (15, .d (.int .u8 (↑y2.toNat : Int))), (16, .d (.int .u8 (↑y2.toNat : Int))), (17, .d (.bool false)), (18, .d (.bool false)), (19, .tuple []), (20, .tuple []), (21, .d (.bool false)), (22, .d (.int .u8 (↑y2.toNat : Int))), (23, .d (.bool true)), (24, .d (.bool true)), (25, .d (.int .u8 (↑y2.toNat : Int))), (26, .d (.bool (decide ((↑y2.toNat : Int) ≤ 57)))), (27, .d (.bool (decide ((↑y2.toNat : Int) ≤ 57)))), (28, .d (.bool false)), (29, .d (.bool true)), (30, .d (.bool true)), (31, .d (.bool (decide ((↑y2.toNat : Int) ≤ 57)))), (32, .d (.bool true)), (33, .d (.bool true)), (34, .d (.bool true)), (35, .d (.int .u8 (↑y2.toNat : Int))), (36, .d (.bool true)), (37, .d (.bool true)), (38, .d (.bool true)), (39, .d (.int .u8 (↑y2.toNat : Int))), (40, .d (.bool true)), (41, .d (.bool true)), (42, .d (.bool true)), (43, .d (.int .u8 (↑y2.toNat : Int))), (44, .d (.bool ((↑y2.toNat : Int) != 95))), (45, .d (.bool ((↑y2.toNat : Int) != 95)))]) (σ' := []) (by kernel_rfl) ?_
                  refine .rt F29 (V.d (D.bool false)) ?_
                  exact ⟨by rw [no28 hy2 (by unfold okc; omega)], rfl⟩
                · simp only [bsX] at h14
                  refine .sg0 7 [0, 2, 3, 4, 5, 6, 7, 8, 9, 10, 11, 12, 13, 14, 15, 16, 17, 18, 19, 20, 21, 22, 23, 24, 25, 26, 27, 28, 29, 30, 31, 32, 33, 34, 35, 36, 37, 38, 39, 40, 41, 42, 43, 44, 45] (G29 79 [true, false]) [(3, .d (.int .i64 (IntKind.i64.wrap ((↑i : Int) + 1)))), (11, .d (.int .i64 (↑i : Int))), (12, .d (.int .i64 (IntKind.i64.wrap ((↑i : Int) + 1))))] ?_
                  simp (disch := omega) only [bsW]
                  refine .seg 1 [0, 2, 3] (T' := cgo 11 [] [.code B29]) (tm' := mk 54 [(0, .d (.str s)), (2, .d (.bool false)), (3, .d (i64 (↑i + 1)))]) (σ' := []) (by kernel_rfl) ?_
                  exact ih (i + 1) (by omega) (yes28 hj hy2 (by unfold okc; omega))
              · rw [h13]
                simp only [bsX] at h13
                omega
            · rw [h12]
              simp only [bsX] at h12
              omega
          · rw [h11]
            simp only [bsX] at h11
            refine .sg0 20 [0, 2, 3, 4, 5, 6, 7, 8, 9, 10, 11, 12, 13, 14, 15, 16, 17, 18, 19, 20, 21, 22, 23, 24, 25, 26, 27, 28, 29, 30, 31, 32, 33, 34, 35, 36, 37, 38, 39, 40, 41, 42, 43, 44, 45] (G29 79 [true, false]) [(3, .d (.int .i64 (IntKind.i64.wrap ((↑i : Int) + 1)))), (11, .d (.int .i64 (↑i : Int))), (12, .d (.int .i64 (IntKind.i64.wrap ((↑i : Int) + 1)))), (35, .tuple []), (36, .tuple []), (37, .d (.bool false)), (38, .d (.bool false)), (39, .tuple []), (40, .tuple []), (41, .d (.bool false)), (42, .d (.bool false)), (43, .tuple []), (44, .tuple []), (45, .d (.bool false))] ?_
            simp (disch := omega) only [bsW]
            refine .seg 1 [0, 2, 3] (T' := cgo 11 [] [.code B29]) (tm' := mk 54 [(0, .d (.str s)), (2, .d (.bool false)), (3, .d (i64 (↑i + 1)))]) (σ' := []) (by kernel_rfl) ?_
            exact ih (i + 1) (by omega) (yes28 hj hy2 (by unfold okc; omega))
        · rw [h10]
          simp only [bsX] at h10
          refine .sg0 18 [0, 2, 3, 4, 5, 6, 7, 8, 9, 10, 13, 14, 15, 16, 17, 18, 19, 20, 21, 22, 23, 24, 25, 26, 27, 28, 29, 30, 31, 32, 33, 34, 35, 36, 37, 38] (G29 63 [true]) [(6, .d (.bool false)), (25, .tuple []), (26, .tuple []), (27, .d (.bool false)), (28, .d (.bool false)), (29, .d (.bool true)), (30, .d (.bool true)), (31, .d (.bool false)), (32, .d (.bool true)), (33, .d (.bool true)), (34, .d (.bool true)), (35, .d (.int .u8 (↑y2.toNat : Int))), (36, .d (.bool ((↑y2.toNat : Int) != 46))), (37, .d (.bool ((↑y2.toNat : Int) != 46))), (38, .d (.bool ((↑y2.toNat : Int) != 46)))] ?_
          rcases Bool.eq_false_or_eq_true ((↑y2.toNat : Int) != 46) with h15 | h15
          · rw [h15]
            simp only [bsX] at h15
            refine .sg0 4 [0, 2, 3, 4, 5, 6, 7, 8, 9, 10, 13, 14, 15, 16, 17, 18, 19, 20, 21, 22, 23, 24, 25, 26, 27, 28, 29, 30, 31, 32, 33, 34, 35, 36, 37, 38, 39, 40, 41, 42] (G29 67 [true]) [(39, .d (.int .u8 (↑y2.toNat : Int))), (40, .d (.bool ((↑y2.toNat : Int) != 45))), (41, .d (.bool ((↑y2.toNat : Int) != 45))), (42, .d (.bool ((↑y2.toNat : Int) != 45)))] ?_
            rcases Bool.eq_false_or_eq_true ((↑y2.toNat : Int) != 45) with h16 | h16
            · rw [h16]
              simp only [bsX] at h16
              refine .sge 4 [0, 2, 3, 4, 5, 6, 7, 8, 9, 10, 13, 14, 15, 16, 17, 18, 19, 20, 21, 22, 23, 24, 25, 26, 27, 28, 29, 30, 31, 32, 33, 34, 35, 36, 37, 38, 39, 40, 41, 42, 43, 44, 45] (G29 71 [true]) ?_
              refine .if' ((↑y2.toNat : Int) != 95) (G29 72 [true, true]) (G29 72 [true, false]) (fun h17 => ?_) (fun h17 => ?_)
              · simp only [bsX] at h17
                refine .seg 4 [0, 2, 3, 4, 5, 6, 7, 8, 9, 10, 13, 14, 15, 16, 17, 18, 19, 20, 21, 22, 23, 24, 25, 26, 27, 28, 29, 30, 31, 32, 33, 34, 35, 36, 37, 38, 39, 40, 41, 42, 43, 44, 45] (T' := cgo 76 [true, true] [.code B29]) (tm' := mk 54 [(0, .d (.str s)), (2, .d (.bool false)), (3, .d (.int .i64 (↑i : Int))), (4, .d (.int .u8 (↑y2.toNat : Int))), (5, .d (.bool false)), (6, .d (.bool false)), (7, .d (.int .i64 (↑i : Int))), (8, .d (.str s)), (9, .d (.int .i64 (↑s.size : Int))), (10, .d (.bool (decide ((↑i : Int) < (↑s.size : Int))))), (13, .d (.str s)), (14, .d (.int .i64 (↑i : Int))), (15, .d (.int .u8 (↑y2.toNat : Int))), (16, .d (.int .u8 (↑y2.toNat : Int))), (17, .d (.bool false)), (18, .d (.bool false)), (19, .tuple []), (20, .tuple []), (21, .d (.bool false)), (22, .d (.int .u8 (↑y2.toNat : Int))), (23, .d (.bool false)), (24, .d (.bool false)), (25, .tuple []), (26, .tuple []), (27, .d (.bool false)), (28, .d (.bool false)), (29, .d (.bool true)), (30, .d (.bool true)), (31, .d (.bool false)), (32, .d (.bool true)), (33, .d (.bool true)), (34, .d (.bool true)), (35, .d (.int .u8 (↑y2.toNat : Int))), (36, .d (.bool true)), (37, .d (.bool true)), (38, .d (.bool true)), (39, .d (.int .u8 (↑y2.toNat : Int))), (40, .d (.bool true)), (41, .d (.bool true)), (42, .d (.bool true)), (43, .d (.int .u8 (↑y2.toNat : Int))), (44, .d (.bool ((↑y2.toNat : Int) != 95))), (45, .d (.bool ((↑y2.toNat : Int) != 95)))]) (σ' := []) (by kernel_rfl) ?_
                refine .rt F29 (V.d (D.bool false)) ?_
                exact ⟨by rw [no28 hy2 (by unfold okc; omega)], rfl⟩
              · simp only [bsX] at h17
                omega
            · rw [h16]
              simp only [bsX] at h16
              refine .sg0 12 [0, 2, 3, 4, 5, 6, 7, 8, 9, 10, 11, 12, 13, 14, 15, 16, 17, 18, 19, 20, 21, 22, 23, 24, 25, 26, 27, 28, 29, 30, 31, 32, 33, 34, 35, 36, 37, 38, 39, 40, 41, 42, 43, 44, 45] (G29 79 [true, false]) [(3, .d (.int .i64 (IntKind.i64.wrap ((↑i : Int) + 1)))), (11, .d (.int .i64 (↑i : Int))), (12, .d (.int .i64 (IntKind.i64.wrap ((↑i : Int) + 1)))), (43, .tuple []), (44, .tuple []), (45, .d (.bool false))] ?_
              simp (disch := omega) only [bsW]
              refine .seg 1 [0, 2, 3] (T' := cgo 11 [] [.code B29]) (tm' := mk 54 [(0, .d (.str s)), (2, .d (.bool false)), (3, .d (i64 (↑i + 1)))]) (σ' := []) (by kernel_rfl) ?_
              exact ih (i + 1) (by omega) (yes28 hj hy2 (by unfold okc; omega))
          · rw [h15]
            simp only [bsX] at h15
            refine .sg0 16 [0, 2, 3, 4, 5, 6, 7, 8, 9, 10, 11, 12, 13, 14, 15, 16, 17, 18, 19, 20, 21, 22, 23, 24, 25, 26, 27, 28, 29, 30, 31, 32, 33, 34, 35, 36, 37, 38, 39, 40, 41, 42, 43, 44, 45] (G29 79 [true, false]) [(3, .d (.int .i64 (IntKind.i64.wrap ((↑i : Int) + 1)))), (11, .d (.int .i64 (↑i : Int))), (12, .d (.int .i64 (IntKind.i64.wrap ((↑i : Int) + 1)))), (39, .tuple []), (40, .tuple []), (41, .d (.bool false)), (42, .d (.bool false)), (43, .tuple []), (44, .tuple []), (45, .d (.bool false))] ?_
            simp (disch := omega) only [bsW]
            refine .seg 1 [0, 2, 3] (T' := cgo 11 [] [.code B29]) (tm' := mk 54 [(0, .d (.str s)), (2, .d (.bool false)), (3, .d (i64 (↑i + 1)))]) (σ' := []) (by kernel_rfl) ?_
            exact ih (i + 1) (by omega) (yes28 hj hy2 (by unfold okc; omega))
    · simp only [bsX] at h1
      omega
theorem spec_29 (s : ByteArray) (hs : s.size < 9223372036854775807) : Br.Pure Try.prog 29 [.d (.str s)] (.d (.bool (mayName s))) := by
 refine CallsA.start F29 (tm := mk 54 [(0, .d (.str s))]) (by kernel_rfl) ?_
 refine .seg 11 [0, 2, 3] (T' := cgo 11 [] [.code B29]) (tm' := mk 54 [(0, .d (.str s)), (2, .d (.bool false)), (3, .d (i64 (0 : Nat)))]) (σ' := []) (by kernel_rfl) ?_
 exact lp29 s hs s.size 0 (by omega) fun j _ h => by omega
section
variable {Q : AE → Store → Prop}
end
theorem rem_ok {P : Program} {tm : List V} {σ : Store} {o : Oper} {x y : Operand} {t ty : TypeId} {k : IntKind} {a b : Int} (ho : o.op = .binOp .rem t x y ty) (hx : ev tm x = .d (.int k a)) (hy : ev tm y = .d (.int k b)) (hb : b ≠ 0) : OpOk P o tm σ (.d (.int k (irem a b))) tm σ :=
 qop_opOk (by simp [ho, qop, hx, hy, binV, intBin, hb, irem])
structure Dk where
  files : List (List UInt8 × Nat)
  nk : List ByteArray
  nv : List Int
  sk : List ByteArray
  sv : List Int
  ch : List (ByteArray × ByteArray × Int)
  quota : Int
  full : Bool
  off : Bool
  stop : Int
  calls : Int
def fileD (x : List UInt8 × Nat) : D := .agg [bsD x.1, i64 x.2]
def chD (c : ByteArray × ByteArray × Int) : D := .agg [.str c.1, .str c.2.1, .int .i64 c.2.2]
def dirD (ks : List ByteArray) (V2 : List Int) : D := .agg [.list 1 (ks.map strD), .list 1 (V2.map intD)]
abbrev hC (r p c : Nat) (d : Dk) : List V := [.row r, .ptr p 0 0, .ep 2 (.agg [.list 1 (d.sk.map strD), .list 1 (d.sv.map intD)]) 0, .row c, .d (.int .i64 d.quota), .d (.bool d.full), .d (.bool d.off), .d (.int .i64 d.stop), .d (.int .i64 d.calls)]
def SD (d : Dk) (m : Bool) : Store := [.cells [.row 1, .ptr 2 0 0, .ep 2 (dirD d.sk d.sv) 0, .row 5, .d (.int .i64 d.quota), .d (.bool d.full), .d (.bool d.off), .d (.int .i64 d.stop), .d (.int .i64 d.calls)],
  .row 2 (d.files.map fileD) m, .cells [.row 3, .row 4], .row 1 (d.nk.map strD) m, .row 1 (d.nv.map intD) m, .row 3 (d.ch.map chD) m]
abbrev SP (r p : Nat) (d : Dk) (m : Bool) (t : Store) : Store := .cells [.row r, .ptr p 0 0, .ep 2 (.agg [.list 1 (d.sk.map strD), .list 1 (d.sv.map intD)]) 0, .row 5, .d (.int .i64 d.quota), .d (.bool d.full), .d (.bool d.off), .d (.int .i64 d.stop), .d (.int .i64 d.calls)] ::
  .row 2 (d.files.map fileD) m :: .cells [.row 3, .row 4] :: .row 1 (d.nk.map strD) m :: .row 1 (d.nv.map intD) m :: .row 3 (d.ch.map chD) m :: t
noncomputable def B94 : Code := (Try.f94.body).getD .skip
noncomputable def G94 (n l) := cgo n l [.code B94]
theorem F94 : Fnc Try.prog 94 Try.f94 B94 := ⟨Try.func94, by kernel_rfl, by kernel_rfl⟩
def Dk.begun (d : Dk) : Dk := if d.off then d else { d with calls := d.calls + 1, off := decide (d.stop = 0), stop := if -1 > d.stop - 1 then -1 else d.stop - 1 }
theorem spec_94 (d : Dk) (hc : 0 ≤ d.calls) (hc' : d.calls < 1000000000) (hs : -1 ≤ d.stop) (hs' : d.stop < 9223372036854775808) :
   CallsA Try.prog 94 [.ptr 0 0 0] (SD d false) fun r σ' => r = .ret (.d (.bool (!d.begun.off))) ∧ σ' = SD d.begun false := by
 refine CallsA.start F94 (tm := mk (Try.f94.ntmps) [(0, .ptr 0 0 0)]) (by kernel_rfl) ?_
 refine .sg0 16 [0, 2, 10] (G94 16 []) [(2, .d (.bool false)), (10, .d (.bool d.off))] ?_
 refine .if' (d.off) (G94 17 [true]) (G94 17 [false]) (fun h1 => ?_) (fun h1 => ?_)
 · refine .seg 4 [0, 2] (T' := cgo 21 [true] [.code B94]) (tm' := mk 40 [(0, .ptr 0 0 0), (2, .d (.bool false))]) (σ' := (SP 1 2 d false [])) (by kernel_rfl) ?_
   refine .rt F94 (V.d (D.bool false)) ?_
   simp_all [hC, Dk.begun, SD, dirD]
 · refine .sg 21 [0, 2, 22] (G94 38 [false]) [(22, .d (.bool (d.stop == 0)))] [(0, .cells [.row 1, .ptr 2 0 0, .ep 2 (D.agg [D.list 1 (map strD d.sk), D.list 1 (map intD d.sv)]) 0, .row 5, .d (.int .i64 d.quota), .d (.bool d.full), .d (.bool d.off), .d (.int .i64 d.stop), .d (.int .i64 (IntKind.i64.wrap (d.calls + 1)))])] ?_
   simp (disch := omega) only [bsW]
   refine .if' (d.stop == 0) (G94 39 [false, true]) (G94 39 [false, false]) (fun h2 => ?_) (fun h2 => ?_)
   · simp only [bsX] at h2
     refine .seg 28 [2] (T' := cgo 67 [false, true] [.code B94]) (tm' := mk 40 [(2, .d (.bool false))]) (σ' := [.cells [.row 1, .ptr 2 0 0, .ep 2 (D.agg [D.list 1 (map strD d.sk), D.list 1 (map intD d.sv)]) 0, .row 5, .d (.int .i64 d.quota), .d (.bool d.full), .d (.bool true), .d (.int .i64 (if -1 > IntKind.i64.wrap (d.stop - 1) then -1 else IntKind.i64.wrap (d.stop - 1))), .d (.int .i64 (d.calls + 1))], .row 2 (map fileD d.files) false, .cells [.row 3, .row 4], .row 1 (map strD d.nk) false, .row 1 (map intD d.nv) false, .row 3 (map chD d.ch) false]) (by kernel_rfl) ?_
     simp (disch := omega) only [bsW]
     refine .rt F94 (V.d (D.bool false)) ?_
     simp_all [hC, Dk.begun, SD, dirD]
   · simp only [bsX] at h2
     refine .seg 23 [2] (T' := cgo 62 [false, false] [.code B94]) (tm' := mk 40 [(2, .d (.bool !d.off))]) (σ' := [.cells [.row 1, .ptr 2 0 0, .ep 2 (D.agg [D.list 1 (map strD d.sk), D.list 1 (map intD d.sv)]) 0, .row 5, .d (.int .i64 d.quota), .d (.bool d.full), .d (.bool d.off), .d (.int .i64 (if -1 > IntKind.i64.wrap (d.stop - 1) then -1 else IntKind.i64.wrap (d.stop - 1))), .d (.int .i64 (d.calls + 1))], .row 2 (map fileD d.files) false, .cells [.row 3, .row 4], .row 1 (map strD d.nk) false, .row 1 (map intD d.nv) false, .row 3 (map chD d.ch) false]) (by kernel_rfl) ?_
     simp (disch := omega) only [bsW]
     refine .rt F94 (V.d (D.bool !d.off)) ?_
     simp_all [hC, Dk.begun, SD, dirD]
end Go.Proofs.Ytoelkgbeefoplaa
