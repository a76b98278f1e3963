/- Texts of this proof, part 15: TrnB, TrnA, TrnD, EqvR, EqvS, RefN, RefO, RefP. -/
import Derived.Test.YtoelkgbeefoplaaM14
set_option linter.unusedSimpArgs false
set_option linter.unusedVariables false
set_option linter.constructorNameAsVariable false
namespace Go.Proofs.Ytoelkgbeefoplaa
open Go Go.Br Go.Proofs
open List (map)
theorem spec_81n (d : Rk) (N : Nat) (h : d.Ok N) (x : ByteArray) (a : Int) (m : UInt8) (h0 : atR d.now x < 0) :
   CallsA Try.prog 81 [.ptr 0 0 0, .d (.str x), .d (.int .i64 a), .d (u8 m)] (SR d false) fun r σ' => r = .ret (.d (.bool false)) ∧ σ' = SR d true := by
 refine CallsA.start F81 (tm := mk (Try.f81.ntmps) [(0, .ptr 0 0 0), (1, .d (.str x)), (2, .d (.int .i64 a)), (3, .d (u8 m))]) (by kernel_rfl) ?_
 have q1 := h.nl
 have q2 := h.nb
 refine .sg0 11 [0, 1, 2, 3, 8, 11, 12, 13, 14, 15] (G81 11 []) [(8, .d (.bool false)), (11, .ptr 0 0 0), (12, .ptr 0 0 0), (13, .ptr 0 0 1), (14, .d (.list 2 (map nmD d.now))), (15, .d (.str x))] ?_
 refine .cd (G81 12 []) F102 (@spec_102 (d.now) (x) (by omega)) ?_
 refine .sg0 8 [0, 2, 3, 8, 9, 17, 18, 19] (G81 20 []) [(9, .d (.int .i64 (atR d.now x))), (17, .d (.int .i64 (atR d.now x))), (18, .d (.bool (decide (atR d.now x < 0)))), (19, .d (.bool (decide (atR d.now x < 0))))] ?_
 rcases Bool.eq_false_or_eq_true (decide (atR d.now x < 0)) with h1 | h1
 · rw [h1]
   simp only [bsX] at h1
   refine .seg 22 [0, 2, 3, 8, 9] (T' := cgo 42 [true] [.code B81]) (tm' := mk 61 [(0, .ptr 0 0 0), (2, .d (.int .i64 a)), (3, .d (.int .u8 (↑m.toNat : Int))), (8, .d (.bool false)), (9, .d (.int .i64 (atR d.now x)))]) (σ' := [.cells (rC 1 2 d), .row 2 (map fileD d.files) false, .row 3 (map chD d.ch) false]) (by kernel_rfl) ?_
   refine .raise 1 rfl rfl ?_
   refine .raise 2 rfl rfl ?_
   refine .rt F81 (V.d (D.bool false)) ?_
   exact ⟨rfl, rfl⟩
 · rw [h1]
   simp only [bsX] at h1
   omega
theorem spec_81s (d : Rk) (N : Nat) (h : d.Ok N) (x : ByteArray) (a : Int) (m : UInt8) (h0 : 0 ≤ atR d.now x) (f : List UInt8 × Nat) (hf : d.files[(atR d.now x).toNat]? = some f) (ha0 : 0 ≤ a) (ha1 : a < f.1.length) :
    CallsA Try.prog 81 [.ptr 0 0 0, .d (.str x), .d (.int .i64 a), .d (u8 m)] (SR d false) fun r σ' => r = .ret (.d (.bool true)) ∧ σ' = SR { d with files := d.files.set (atR d.now x).toNat (turnB f.1 a.toNat m, f.2) } true := by
  refine CallsA.start F81 (tm := mk (Try.f81.ntmps) [(0, .ptr 0 0 0), (1, .d (.str x)), (2, .d (.int .i64 a)), (3, .d (u8 m))]) (by kernel_rfl) ?_
  have q1 := h.nl
  have q2 := h.nb
  have q3 := h.fl
  have hlt : (atR d.now x).toNat < d.files.length := (List.getElem?_eq_some_iff.1 hf).1
  have hfl := (h.fs f (List.mem_of_getElem? hf)).2
  obtain ⟨b, hb⟩ := get_some (l := f.1) (i := a.toNat) (by omega)
  refine .sg0 11 [0, 1, 2, 3, 8, 11, 12, 13, 14, 15] (G81 11 []) [(8, .d (.bool false)), (11, .ptr 0 0 0), (12, .ptr 0 0 0), (13, .ptr 0 0 1), (14, .d (.list 2 (map nmD d.now))), (15, .d (.str x))] ?_
  refine .cd (G81 12 []) F102 (@spec_102 (d.now) (x) (by omega)) ?_
  refine .sg0 8 [0, 2, 3, 8, 9, 17, 18, 19] (G81 20 []) [(9, .d (.int .i64 (atR d.now x))), (17, .d (.int .i64 (atR d.now x))), (18, .d (.bool (decide (atR d.now x < 0)))), (19, .d (.bool (decide (atR d.now x < 0))))] ?_
  rcases Bool.eq_false_or_eq_true (decide (atR d.now x < 0)) with h1 | h1
  · rw [h1]
    simp only [bsX] at h1
    omega
  · rw [h1]
    simp only [bsX] at h1
    refine .sg0 4 [0, 2, 3, 8, 9, 17, 18, 19, 20, 21, 22, 23] (G81 24 []) [(20, .d (.int .i64 a)), (21, .d (.bool (decide (a < 0)))), (22, .d (.bool (decide (a < 0)))), (23, .d (.bool (decide (a < 0))))] ?_
    rcases Bool.eq_false_or_eq_true (decide (a < 0)) with h2 | h2
    · rw [h2]
      simp only [bsX] at h2
      omega
    · rw [h2]
      simp only [bsX] at h2
      refine .sg0 6 [0, 2, 3, 8, 9, 17, 18, 19, 20, 21, 22, 23, 24, 25, 26, 27, 28, 29] (G81 30 []) [(24, .d (.int .i64 a)), (25, .ptr 0 0 0), (26, .ptr 0 0 0), (27, .ptr 0 0 0), (28, .row 1), (29, .d (.int .i64 (atR d.now x)))] ?_
      refine .op' (G81 31 []) (ixRow_ok (t := 68) (x := (.tmp 28)) (i := (.tmp 29)) (k := IntKind.i64) (n := atR d.now x) (l := 1) (sz := 2) (xs := map fileD d.files) (mv := false) (by kernel_rfl) (by kernel_rfl) (by kernel_rfl) (by kernel_rfl) (by kernel_rfl) (by assumption) (by simp <;> omega)) ?_
      refine .sg0 1 [0, 2, 3, 8, 9, 17, 18, 19, 20, 21, 22, 23, 24, 25, 26, 27, 28, 29, 30, 31] (G81 32 []) [(31, .ptr 1 (atR d.now x).toNat 0)] ?_
      refine .op' (G81 33 []) (ldRow_ok (t := 22) (x := (.tmp 31)) (l := 1) (i := (atR d.now x).toNat) (s := 0) (sz := 2) (xs := map fileD d.files) (mv := false) (d := fileD f) (v := .d (.list 1 (map u8 f.fst))) (by kernel_rfl) (by kernel_rfl) (by kernel_rfl) (map_get hf) (by kernel_rfl)) ?_
      refine .sg0 4 [0, 2, 3, 8, 9, 35] (G81 37 []) [(35, .d (.bool (decide (a ≥ (↑(map u8 f.fst).length : Int)))))] ?_
      simp only [List.length_map]
      refine .if' (decide (a ≥ (↑f.fst.length : Int))) (G81 38 [true]) (G81 38 [false]) (fun h3 => ?_) (fun h3 => ?_)
      · simp only [bsX] at h3
        omega
      · simp only [bsX] at h3
        refine .sg0 3 [0, 2, 3, 8, 9] (G81 41 [false]) [] ?_
        refine .op' (G81 42 [false]) (build0_ok (t := 22) (e := 5) (sz := 1) (sz' := 1) (by kernel_rfl) (by kernel_rfl) (by kernel_rfl)) ?_
        refine .sg0 5 [0, 2, 3, 8, 9, 36, 37, 38, 39, 40, 41] (G81 47 [false]) [(37, .ptr 0 0 0), (38, .ptr 0 0 0), (39, .ptr 0 0 0), (40, .row 1), (41, .d (.int .i64 (atR d.now x)))] ?_
        refine .op' (G81 48 [false]) (ixRow_ok (t := 68) (x := (.tmp 40)) (i := (.tmp 41)) (k := IntKind.i64) (n := atR d.now x) (l := 1) (sz := 2) (xs := map fileD d.files) (mv := false) (by kernel_rfl) (by kernel_rfl) (by kernel_rfl) (by kernel_rfl) (by kernel_rfl) (by assumption) (by simp <;> omega)) ?_
        refine .sg0 1 [0, 2, 3, 8, 9, 36, 37, 38, 39, 40, 41, 42, 43] (G81 49 [false]) [(43, .ptr 1 (atR d.now x).toNat 0)] ?_
        refine .op' (G81 50 [false]) (ldRow_ok (t := 22) (x := (.tmp 43)) (l := 1) (i := (atR d.now x).toNat) (s := 0) (sz := 2) (xs := map fileD d.files) (mv := false) (d := fileD f) (v := .d (.list 1 (map u8 f.fst))) (by kernel_rfl) (by kernel_rfl) (by kernel_rfl) (map_get hf) (by kernel_rfl)) ?_
        refine .virtE 36 1 (by kernel_rfl) ?_
        refine .op' (G81 51 [false]) (appRow_ok (s := (.tmp 36)) (x := (.tmp 44)) (t := 22) (t2 := 22) (sz := 1) (by' := 1) (ys := map u8 f.fst) (l := 3) (xs := []) (mv := false) (by kernel_rfl) (by kernel_rfl) (by kernel_rfl) (by kernel_rfl) (by kernel_rfl) (by kernel_rfl) (by simp <;> omega) (by first | (simp [maxLen] <;> omega) | omega)) ?_
        refine .sg0 6 [0, 2, 3, 8, 9, 10, 46, 47] (G81 57 [false]) [(10, .row 3), (46, .row 3), (47, .d (.int .i64 a))] ?_
        refine .op' (G81 58 [false]) (ixRow_ok (t := 22) (x := (.tmp 46)) (i := (.tmp 47)) (k := IntKind.i64) (n := a) (l := 3) (sz := 1) (xs := [] ++ map u8 f.fst) (mv := true) (by kernel_rfl) (by kernel_rfl) (by kernel_rfl) (by kernel_rfl) (by kernel_rfl) (by assumption) (by simp <;> omega)) ?_
        simp only [List.nil_append]
        refine .op' (G81 59 [false]) (ldRow_ok (t := 5) (x := (.tmp 48)) (l := 3) (i := a.toNat) (s := 0) (sz := 1) (xs := map u8 f.fst) (mv := true) (d := u8 b) (v := .d (.int .u8 (↑b.toNat : Int))) (by kernel_rfl) (by kernel_rfl) (by kernel_rfl) (map_get hb) (by kernel_rfl)) ?_
        refine .sg0 2 [0, 2, 3, 8, 9, 10, 46, 47, 48, 49, 50, 51] (G81 61 [false]) [(50, .d (.int .u8 (↑m.toNat : Int))), (51, .d (.int .u8 (IntKind.u8.wrap (↑(BitVec.ofInt IntKind.u8.bits (↑b.toNat : Int) ^^^ BitVec.ofInt IntKind.u8.bits (↑m.toNat : Int)).toNat : Int))))] ?_
        refine .op' (G81 62 [false]) (ixRow_ok (t := 22) (x := (.tmp 46)) (i := (.tmp 47)) (k := IntKind.i64) (n := a) (l := 3) (sz := 1) (xs := map u8 f.fst) (mv := true) (by kernel_rfl) (by kernel_rfl) (by kernel_rfl) (by kernel_rfl) (by kernel_rfl) (by assumption) (by simp <;> omega)) ?_
        refine .op' (G81 63 [false]) (stRow_ok (t := 5) (x := (.tmp 52)) (y := (.tmp 51)) (l := 3) (i := a.toNat) (s := 0) (sz := 1) (xs := map u8 f.fst) (mv := true) (d := u8 b) (d' := D.int IntKind.u8 (IntKind.u8.wrap (↑(BitVec.ofInt IntKind.u8.bits (↑b.toNat : Int) ^^^ BitVec.ofInt IntKind.u8.bits (↑m.toNat : Int)).toNat : Int))) (by kernel_rfl) (by kernel_rfl) (by kernel_rfl) (map_get hb) (by kernel_rfl)) ?_
        refine .sg0 1 [0, 8, 9, 10] (G81 64 [false]) [] ?_
        rw [turn_set m hb]
        refine .freeze 3 (sz := 1) (xs := (turnB f.1 a.toNat m).map u8) (mv := true) (by kernel_rfl) ?_
        refine .sg0 8 [0, 8, 9, 10, 53, 54, 55, 56, 57, 58] (G81 72 [false]) [(53, .ptr 0 0 0), (54, .ptr 0 0 0), (55, .ptr 0 0 0), (56, .row 1), (57, .d (.int .i64 (atR d.now x))), (58, .d (.list 1 (map u8 (turnB f.fst a.toNat m))))] ?_
        refine .op' (G81 73 [false]) (ixRow_ok (t := 68) (x := (.tmp 56)) (i := (.tmp 57)) (k := IntKind.i64) (n := atR d.now x) (l := 1) (sz := 2) (xs := map fileD d.files) (mv := false) (by kernel_rfl) (by kernel_rfl) (by kernel_rfl) (by kernel_rfl) (by kernel_rfl) (by assumption) (by simp <;> omega)) ?_
        refine .sg0 1 [0, 8, 9, 10, 53, 54, 55, 56, 57, 58, 59, 60] (G81 74 [false]) [(60, .ptr 1 (atR d.now x).toNat 0)] ?_
        refine .op' (G81 75 [false]) (stRow_ok (t := 22) (x := (.tmp 60)) (y := (.tmp 58)) (l := 1) (i := (atR d.now x).toNat) (s := 0) (sz := 2) (xs := map fileD d.files) (mv := false) (d := fileD f) (d' := D.agg [D.list 1 (map u8 (turnB f.fst a.toNat m)), D.int IntKind.i64 (↑f.snd : Int)]) (by kernel_rfl) (by kernel_rfl) (by kernel_rfl) (map_get hf) (by kernel_rfl)) ?_
        refine .sg0 5 [8] (G81 80 [false]) [(8, .d (.bool true))] ?_
        refine .raises [1, 2] ?_
        refine .kp [8] ?_
        refine .su [0, 1, 2] (mk 61 [(8, .d (.bool true))]) [.cells (rC 1 2 d), .row 2 ((map fileD d.files).set (atR d.now x).toNat (D.agg [D.list 1 (map u8 (turnB f.fst a.toNat m)), D.int IntKind.i64 (↑f.snd : Int)])) true, .row 3 (map chD d.ch) true] ?_
        refine .rt F81 (V.d (D.bool true)) ?_
        refine ⟨rfl, ?_⟩
        unfold SR
        rw [List.map_set]
        rfl
theorem spec_81f (d : Rk) (N : Nat) (h : d.Ok N) (x : ByteArray) (a : Int) (m : UInt8) (h0 : 0 ≤ atR d.now x) (f : List UInt8 × Nat) (hf : d.files[(atR d.now x).toNat]? = some f) (ha : ¬ (0 ≤ a ∧ a < f.1.length)) :
    CallsA Try.prog 81 [.ptr 0 0 0, .d (.str x), .d (.int .i64 a), .d (u8 m)] (SR d false) fun r σ' => r = .ret (.d (.bool false)) ∧ σ' = SR d true := by
  refine CallsA.start F81 (tm := mk (Try.f81.ntmps) [(0, .ptr 0 0 0), (1, .d (.str x)), (2, .d (.int .i64 a)), (3, .d (u8 m))]) (by kernel_rfl) ?_
  have q1 := h.nl
  have q2 := h.nb
  have q3 := h.fl
  have hlt : (atR d.now x).toNat < d.files.length := (List.getElem?_eq_some_iff.1 hf).1
  have hfl := (h.fs f (List.mem_of_getElem? hf)).2
  refine .sg0 11 [0, 1, 2, 3, 8, 11, 12, 13, 14, 15] (G81 11 []) [(8, .d (.bool false)), (11, .ptr 0 0 0), (12, .ptr 0 0 0), (13, .ptr 0 0 1), (14, .d (.list 2 (map nmD d.now))), (15, .d (.str x))] ?_
  refine .cd (G81 12 []) F102 (@spec_102 (d.now) (x) (by omega)) ?_
  refine .sg0 8 [0, 2, 3, 8, 9, 17, 18, 19] (G81 20 []) [(9, .d (.int .i64 (atR d.now x))), (17, .d (.int .i64 (atR d.now x))), (18, .d (.bool (decide (atR d.now x < 0)))), (19, .d (.bool (decide (atR d.now x < 0))))] ?_
  rcases Bool.eq_false_or_eq_true (decide (atR d.now x < 0)) with h1 | h1
  · rw [h1]
    simp only [bsX] at h1
    omega
  · rw [h1]
    simp only [bsX] at h1
    refine .sg0 4 [0, 2, 3, 8, 9, 17, 18, 19, 20, 21, 22, 23] (G81 24 []) [(20, .d (.int .i64 a)), (21, .d (.bool (decide (a < 0)))), (22, .d (.bool (decide (a < 0)))), (23, .d (.bool (decide (a < 0))))] ?_
    rcases Bool.eq_false_or_eq_true (decide (a < 0)) with h2 | h2
    · rw [h2]
      simp only [bsX] at h2
      refine .seg 18 [0, 2, 3, 8, 9] (T' := cgo 42 [true] [.code B81]) (tm' := mk 61 [(0, .ptr 0 0 0), (2, .d (.int .i64 a)), (3, .d (.int .u8 (↑m.toNat : Int))), (8, .d (.bool false)), (9, .d (.int .i64 (atR d.now x)))]) (σ' := [.cells (rC 1 2 d), .row 2 (map fileD d.files) false, .row 3 (map chD d.ch) false]) (by kernel_rfl) ?_
      refine .raise 1 rfl rfl ?_
      refine .raise 2 rfl rfl ?_
      refine .rt F81 (V.d (D.bool false)) ?_
      exact ⟨rfl, rfl⟩
    · rw [h2]
      simp only [bsX] at h2
      refine .sg0 6 [0, 2, 3, 8, 9, 17, 18, 19, 20, 21, 22, 23, 24, 25, 26, 27, 28, 29] (G81 30 []) [(24, .d (.int .i64 a)), (25, .ptr 0 0 0), (26, .ptr 0 0 0), (27, .ptr 0 0 0), (28, .row 1), (29, .d (.int .i64 (atR d.now x)))] ?_
      refine .op' (G81 31 []) (ixRow_ok (t := 68) (x := (.tmp 28)) (i := (.tmp 29)) (k := IntKind.i64) (n := atR d.now x) (l := 1) (sz := 2) (xs := map fileD d.files) (mv := false) (by kernel_rfl) (by kernel_rfl) (by kernel_rfl) (by kernel_rfl) (by kernel_rfl) (by assumption) (by simp <;> omega)) ?_
      refine .sg0 1 [0, 2, 3, 8, 9, 17, 18, 19, 20, 21, 22, 23, 24, 25, 26, 27, 28, 29, 30, 31] (G81 32 []) [(31, .ptr 1 (atR d.now x).toNat 0)] ?_
      refine .op' (G81 33 []) (ldRow_ok (t := 22) (x := (.tmp 31)) (l := 1) (i := (atR d.now x).toNat) (s := 0) (sz := 2) (xs := map fileD d.files) (mv := false) (d := fileD f) (v := .d (.list 1 (map u8 f.fst))) (by kernel_rfl) (by kernel_rfl) (by kernel_rfl) (map_get hf) (by kernel_rfl)) ?_
      refine .sg0 4 [0, 2, 3, 8, 9, 35] (G81 37 []) [(35, .d (.bool (decide (a ≥ (↑(map u8 f.fst).length : Int)))))] ?_
      simp only [List.length_map]
      refine .if' (decide (a ≥ (↑f.fst.length : Int))) (G81 38 [true]) (G81 38 [false]) (fun h3 => ?_) (fun h3 => ?_)
      · simp only [bsX] at h3
        refine .seg 4 [0, 2, 3, 8, 9] (T' := cgo 42 [true] [.code B81]) (tm' := mk 61 [(0, .ptr 0 0 0), (2, .d (.int .i64 a)), (3, .d (.int .u8 (↑m.toNat : Int))), (8, .d (.bool false)), (9, .d (.int .i64 (atR d.now x)))]) (σ' := [.cells (rC 1 2 d), .row 2 (map fileD d.files) false, .row 3 (map chD d.ch) false]) (by kernel_rfl) ?_
        refine .raise 1 rfl rfl ?_
        refine .raise 2 rfl rfl ?_
        refine .rt F81 (V.d (D.bool false)) ?_
        exact ⟨rfl, rfl⟩
      · simp only [bsX] at h3
        omega
end Go.Proofs.Ytoelkgbeefoplaa
namespace Go.Proofs.Ytoelkgbeefoplaa
open Go Go.Br Go.Proofs
open List (map)
theorem spec_61r (b : UInt8) (bs : List UInt8) (hlen : bs.length ≤ 140737488355000) : CallsA Try.prog 61 [.d (bsD (b :: bs))] [] fun r σ' => r = .ret (.row 0) ∧ σ' = [.row 1 ((b :: bs).map u8) false] := by
 refine CallsA.start F61 (tm := (mk 8 [(0, .d (bsD (b :: bs)))])) (by kernel_rfl) ?_
 refine .sg0 8 [0, 3] (G61 8 []) [(3, .d (bsD (b :: bs)))] ?_
 refine .anyH (o := (opOf (G61 8 [])).getD default) (by kernel_rfl) (by kernel_rfl) (by kernel_rfl) (T' := (G61 9 [])) (by kernel_rfl) (nilEq_ok (x := .tmp 3) (y := .const (.slice none 0 0)) (t := 22) (ty := 22) (sz := 1) (xs := (b :: bs).map u8) (neg := false) (by kernel_rfl) (by kernel_rfl) (by kernel_rfl) (by kernel_rfl)) ?_
 rintro v ⟨z, rfl, hb⟩
 cases z with
 | true =>
   have h0 : b :: bs = [] := by simpa using hb rfl
   cases h0
 | false =>
   refine .sg0 5 [0] (G61 14 [false]) [] ?_
   refine .op' (G61 15 [false]) (build0_ok (t := 22) (e := 5) (sz := 1) (sz' := 1) (by kernel_rfl) (by kernel_rfl) (by kernel_rfl)) ?_
   refine .sg0 1 [5, 6] (G61 16 [false]) [(6, .d (bsD (b :: bs)))] ?_
   refine .op' (G61 17 [false]) (appEx_ok (s := .tmp 5) (x := .tmp 6) (t := 22) (t2 := 22) (sz := 1) (by' := 1) (xs := []) (ys := (b :: bs).map u8) (by kernel_rfl) (by kernel_rfl) (by kernel_rfl) (by kernel_rfl) (by kernel_rfl) (by simp) (by simp at hlen ⊢; omega) (by simp [maxLen] at hlen ⊢; omega)) ?_
   refine .seg 2 [2] (T' := cgo 19 [false] [.code B61]) (tm' := mk 8 [(2, .row 0)]) (σ' := [.row 1 ((b :: bs).map u8) false]) (by kernel_rfl) ?_
   exact .retH F61 (by kernel_rfl) (by kernel_rfl) (⟨rfl, rfl⟩)
theorem spec_61s (l : List UInt8) (h : l ≠ []) (hlen : l.length ≤ 140737488355000) : CallsA Try.prog 61 [.d (.list 1 (l.map u8))] [] fun r σ' => r = .ret (.row 0) ∧ σ' = [.row 1 (l.map u8) false] := by
 cases l with
 | nil => exact absurd rfl h
 | cons b bs => exact spec_61r b bs (by simp at hlen; omega)
theorem spec_80 (d : Dk) (N : Nat) (h : d.Ok N) (x : ByteArray) (a : Int) (m : UInt8) :
    CallsA Try.prog 80 [.ptr 0 0 0, .d (.str x), .d (.int .i64 a), .d (u8 m)] (SD d false) fun r σ' => r = .ret (.d (.bool (d.turnOk x a))) ∧ σ' = SD (d.turnD x a m) true := by
  refine CallsA.start F80 (tm := mk (Try.f80.ntmps) [(0, .ptr 0 0 0), (1, .d (.str x)), (2, .d (.int .i64 a)), (3, .d (u8 m))]) (by kernel_rfl) ?_
  have q1 := h.nr
  have q2 := h.nl
  have q3 := h.nkl
  have q4 := h.nb
  have q5 : ∀ k, look d.nk d.nv x = some k → 0 ≤ k ∧ k < d.files.length := fun k hk => h.nn k (look_mem hk)
  cases ho : look d.nk d.nv x with
  | none =>
    have e1 : d.turnOk x a = false := by simp [Dk.turnOk, ho]
    have e2 : d.turnD x a m = d := by simp [Dk.turnD, e1]
    rw [e1, e2]
    clear e1 e2
    refine .sg0 8 [0, 1, 2, 3, 8, 12, 13] (G80 8 []) [(8, .d (.bool false)), (12, .ptr 0 0 0), (13, .d (.str x))] ?_
    refine .ca [0, 1, 2, 3, 4, 5] (G80 9 []) F65 (@spec_65 (d) (x) (none) (by assumption) (by assumption) (by assumption) (by omega) (by assumption)) ?_
    rintro r0 s0 ⟨rfl, rfl⟩
    refine ⟨_, rfl, ?_⟩
    refine .seg 30 [2, 3, 8, 9] (T' := cgo 39 [true] [.code B80]) (tm' := mk 50 [(2, .d (.int .i64 a)), (3, .d (.int .u8 (↑m.toNat : Int))), (8, .d (.bool false)), (9, .d (.raw (Value.pointer none)))]) (σ' := [.cells (hC 1 2 5 d), .row 2 (map fileD d.files) false, .cells [.row 3, .row 4], .row 1 (map strD d.nk) false, .row 1 (map intD d.nv) false, .row 3 (map chD d.ch) false]) (by kernel_rfl) ?_
    refine .raise 1 rfl rfl ?_
    refine .raise 3 rfl rfl ?_
    refine .raise 4 rfl rfl ?_
    refine .raise 5 rfl rfl ?_
    refine .rt F80 (V.d (D.bool false)) ?_
    exact ⟨rfl, rfl⟩
  | some k =>
    obtain ⟨g1, g2⟩ := q5 k ho
    refine .sg0 8 [0, 1, 2, 3, 8, 12, 13] (G80 8 []) [(8, .d (.bool false)), (12, .ptr 0 0 0), (13, .d (.str x))] ?_
    refine .ca [0, 1, 2, 3, 4, 5] (G80 9 []) F65 (@spec_65 (d) (x) (some k) (by assumption) (by assumption) (by assumption) (by omega) (by assumption)) ?_
    rintro r0 s0 ⟨rfl, rfl⟩
    refine ⟨_, rfl, ?_⟩
    refine .sg0 16 [2, 3, 8, 9, 10, 17, 18, 19, 20, 21, 22, 23] (G80 25 []) [(9, .ptr 1 k.toNat 0), (10, .d (.bool true)), (17, .d (.bool true)), (18, .d (.bool false)), (19, .d (.bool false)), (20, .d (.int .i64 a)), (21, .d (.bool (decide (a < 0)))), (22, .d (.bool (decide (a < 0)))), (23, .d (.bool (decide (a < 0))))] ?_
    rcases Bool.eq_false_or_eq_true (decide (a < 0)) with h2 | h2
    · rw [h2]
      simp only [bsX] at h2
      refine .seg 14 [2, 3, 8, 9] (T' := cgo 39 [true] [.code B80]) (tm' := mk 50 [(2, .d (.int .i64 a)), (3, .d (.int .u8 (↑m.toNat : Int))), (8, .d (.bool false)), (9, .ptr 1 k.toNat 0)]) (σ' := [.cells (hC 1 2 5 d), .row 2 (map fileD d.files) false, .cells [.row 3, .row 4], .row 1 (map strD d.nk) false, .row 1 (map intD d.nv) false, .row 3 (map chD d.ch) false]) (by kernel_rfl) ?_
      refine .raise 1 rfl rfl ?_
      refine .raise 3 rfl rfl ?_
      refine .raise 4 rfl rfl ?_
      refine .raise 5 rfl rfl ?_
      refine .rt F80 (V.d (D.bool false)) ?_
      have e1 : d.turnOk x a = false := by
        simp only [Dk.turnOk, Bool.and_eq_false_iff, decide_eq_false_iff_not]
        exact .inl (.inr (by omega))
      rw [show d.turnD x a m = d by simp [Dk.turnD, e1], e1]
      exact ⟨rfl, rfl⟩
    · rw [h2]
      simp only [bsX] at h2
      refine .sg0 4 [2, 3, 8, 9, 10, 17, 18, 19, 20, 21, 22, 23, 24, 25, 26, 27] (G80 29 []) [(24, .d (.int .i64 a)), (25, .ptr 1 k.toNat 0), (26, .ptr 1 k.toNat 0), (27, .ptr 1 k.toNat 0)] ?_
      obtain ⟨y3, hy3⟩ := get_some (l := d.files) (i := k.toNat) (by omega)
      refine .op' (G80 30 []) (ldRow_ok (t := 22) (x := (.tmp 27)) (l := 1) (i := k.toNat) (s := 0) (sz := 2) (xs := map fileD d.files) (mv := false) (d := fileD y3) (v := .d (.list 1 (map u8 y3.fst))) (by kernel_rfl) (by kernel_rfl) (by kernel_rfl) (map_get hy3) (by kernel_rfl)) ?_
      refine .sg0 4 [2, 3, 8, 9, 31] (G80 34 []) [(31, .d (.bool (decide (a ≥ (↑(map u8 y3.fst).length : Int)))))] ?_
      simp only [List.length_map]
      refine .if' (decide (a ≥ (↑y3.fst.length : Int))) (G80 35 [true]) (G80 35 [false]) (fun h4 => ?_) (fun h4 => ?_)
      · simp only [bsX] at h4
        refine .seg 4 [2, 3, 8, 9] (T' := cgo 39 [true] [.code B80]) (tm' := mk 50 [(2, .d (.int .i64 a)), (3, .d (.int .u8 (↑m.toNat : Int))), (8, .d (.bool false)), (9, .ptr 1 k.toNat 0)]) (σ' := [.cells (hC 1 2 5 d), .row 2 (map fileD d.files) false, .cells [.row 3, .row 4], .row 1 (map strD d.nk) false, .row 1 (map intD d.nv) false, .row 3 (map chD d.ch) false]) (by kernel_rfl) ?_
        refine .raise 1 rfl rfl ?_
        refine .raise 3 rfl rfl ?_
        refine .raise 4 rfl rfl ?_
        refine .raise 5 rfl rfl ?_
        refine .rt F80 (V.d (D.bool false)) ?_
        have en : d.num x = k.toNat := by unfold Dk.num; rw [ho]; rfl
        have ef : d.file (d.num x) = y3 := by rw [en]; unfold Dk.file; rw [List.getD_eq_getElem?_getD, hy3]; rfl
        have e1 : d.turnOk x a = false := by
          simp only [Dk.turnOk, Bool.and_eq_false_iff, decide_eq_false_iff_not]
          exact .inr (by rw [ef]; omega)
        rw [show d.turnD x a m = d by simp [Dk.turnD, e1], e1]
        exact ⟨rfl, rfl⟩
      · simp only [bsX] at h4
        refine .sg0 7 [2, 3, 8, 9, 32, 33, 34, 35] (G80 42 [false]) [(32, .ptr 1 k.toNat 0), (33, .ptr 1 k.toNat 0), (34, .ptr 1 k.toNat 0), (35, .ptr 1 k.toNat 0)] ?_
        refine .op' (G80 43 [false]) (ldRow_ok (t := 22) (x := (.tmp 35)) (l := 1) (i := k.toNat) (s := 0) (sz := 2) (xs := map fileD d.files) (mv := false) (d := fileD y3) (v := .d (.list 1 (map u8 y3.fst))) (by kernel_rfl) (by kernel_rfl) (by kernel_rfl) (map_get hy3) (by kernel_rfl)) ?_
        have hne : y3.1 ≠ [] := by intro e; rw [e] at h4; simp at h4; omega
        have hfl := (h.fs y3 (List.mem_of_getElem? hy3)).2
        obtain ⟨b, hb⟩ := get_some (l := y3.1) (i := a.toNat) (by omega)
        refine .ca [] (G80 44 [false]) F61 (spec_61s y3.1 hne (by omega)) ?_
        rintro r1 s1 ⟨rfl, rfl⟩
        refine ⟨_, rfl, ?_⟩
        refine .raw (l := 6) 37 (by kernel_rfl) fun z => ?_
        have hx : ((d.files.map fileD).set k.toNat (D.agg [D.raw z, D.int IntKind.i64 (↑y3.2 : Int)]))[k.toNat]? = some (D.agg [D.raw z, D.int IntKind.i64 (↑y3.2 : Int)]) := List.getElem?_set_self (by simp; omega)
        refine .seg 2 [2, 3, 8, 9, 37, 39] (T' := cgo 46 [false] [.code B80]) (tm' := mk 50 [(2, .d (.int .i64 a)), (3, .d (u8 m)), (8, .d (.bool false)), (9, .ptr 1 k.toNat 0), (37, .d (.raw z)), (39, .ptr 1 k.toNat 0)]) (σ' := SD d false ++ [.row 1 (y3.1.map u8) false]) (by kernel_rfl) ?_
        refine .op' (G80 47 [false]) (stRow_ok (t := 22) (x := .tmp 39) (y := .tmp 37) (l := 1) (i := k.toNat) (s := 0) (sz := 2) (xs := d.files.map fileD) (mv := false) (d := fileD y3) (d' := D.agg [D.raw z, D.int IntKind.i64 (↑y3.2 : Int)]) (by kernel_rfl) (by kernel_rfl) (by kernel_rfl) (map_get hy3) (by kernel_rfl)) (by kernel_rfl) ?_
        refine .seg 6 [2, 3, 8, 9, 42] (T' := cgo 53 [false] [.code B80]) (tm' := mk 50 [(2, .d (.int .i64 a)), (3, .d (u8 m)), (8, .d (.bool false)), (9, .ptr 1 k.toNat 0), (42, .ptr 1 k.toNat 0)]) (σ' := (SD d false).set 1 (.row 2 ((d.files.map fileD).set k.toNat (D.agg [D.raw z, D.int IntKind.i64 (↑y3.2 : Int)])) false) ++ [.row 1 (y3.1.map u8) false]) (by kernel_rfl) ?_
        refine .op' (G80 54 [false]) (ldRow_ok (t := 22) (x := .tmp 42) (l := 1) (i := k.toNat) (s := 0) (sz := 2) (xs := ((d.files.map fileD).set k.toNat (D.agg [D.raw z, D.int IntKind.i64 (↑y3.2 : Int)]))) (mv := false) (d := D.agg [D.raw z, D.int IntKind.i64 (↑y3.2 : Int)]) (v := .d (.raw z)) (by kernel_rfl) (by kernel_rfl) (by kernel_rfl) hx (by kernel_rfl)) (by kernel_rfl) ?_
        refine .unraw 43 (by kernel_rfl) ?_
        refine .seg 1 [3, 8, 43, 44] (T' := cgo 55 [false] [.code B80]) (tm' := mk 50 [(3, .d (u8 m)), (8, .d (.bool false)), (43, .row 6), (44, .d (.int .i64 a))]) (σ' := (SD d false).set 1 (.row 2 ((d.files.map fileD).set k.toNat (D.agg [D.raw z, D.int IntKind.i64 (↑y3.2 : Int)])) false) ++ [.row 1 (y3.1.map u8) false]) (by kernel_rfl) ?_
        refine .op' (G80 56 [false]) (ixRow_ok (t := 22) (x := .tmp 43) (i := .tmp 44) (k := IntKind.i64) (n := a) (l := 6) (sz := 1) (xs := y3.1.map u8) (mv := false) (by kernel_rfl) (by kernel_rfl) (by kernel_rfl) (by kernel_rfl) (by kernel_rfl) (by omega) (by simp <;> omega)) (by kernel_rfl) ?_
        refine .op' (G80 57 [false]) (ldRow_ok (t := 5) (x := .tmp 45) (l := 6) (i := a.toNat) (s := 0) (sz := 1) (xs := y3.1.map u8) (mv := false) (d := u8 b) (v := .d (u8 b)) (by kernel_rfl) (by kernel_rfl) (by kernel_rfl) (map_get hb) (by kernel_rfl)) (by kernel_rfl) ?_
        refine .seg 2 [8, 43, 44, 48] (T' := cgo 59 [false] [.code B80]) (tm' := mk 50 [(8, .d (.bool false)), (43, .row 6), (44, .d (.int .i64 a)), (48, .d (.int .u8 (IntKind.u8.wrap (↑(BitVec.ofInt IntKind.u8.bits (↑b.toNat : Int) ^^^ BitVec.ofInt IntKind.u8.bits (↑m.toNat : Int)).toNat : Int))))]) (σ' := (SD d false).set 1 (.row 2 ((d.files.map fileD).set k.toNat (D.agg [D.raw z, D.int IntKind.i64 (↑y3.2 : Int)])) false) ++ [.row 1 (y3.1.map u8) false]) (by kernel_rfl) ?_
        refine .op' (G80 60 [false]) (ixRow_ok (t := 22) (x := .tmp 43) (i := .tmp 44) (k := IntKind.i64) (n := a) (l := 6) (sz := 1) (xs := y3.1.map u8) (mv := false) (by kernel_rfl) (by kernel_rfl) (by kernel_rfl) (by kernel_rfl) (by kernel_rfl) (by omega) (by simp <;> omega)) (by kernel_rfl) ?_
        refine .op' (G80 61 [false]) (stRow_ok (t := 5) (x := .tmp 49) (y := .tmp 48) (l := 6) (i := a.toNat) (s := 0) (sz := 1) (xs := y3.1.map u8) (mv := false) (d := u8 b) (d' := D.int IntKind.u8 (IntKind.u8.wrap (↑(BitVec.ofInt IntKind.u8.bits (↑b.toNat : Int) ^^^ BitVec.ofInt IntKind.u8.bits (↑m.toNat : Int)).toNat : Int))) (by kernel_rfl) (by kernel_rfl) (by kernel_rfl) (map_get hb) (by kernel_rfl)) (by kernel_rfl) ?_
        rw [turn_set m hb]
        refine .seg 0 [8] (T' := cgo 61 [false] [.code B80]) (tm' := mk 50 [(8, .d (.bool false))]) (σ' := (SD d false).set 1 (.row 2 ((d.files.map fileD).set k.toNat (D.agg [D.raw z, D.int IntKind.i64 (↑y3.2 : Int)])) false) ++ [.row 1 ((turnB y3.1 a.toNat m).map u8) false]) (by kernel_rfl) ?_
        refine .rest 1 k.toNat (l := 6) (sz := 1) (xs := (turnB y3.1 a.toNat m).map u8) (mv := false) (fsz := 2) (fs := ((d.files.map fileD).set k.toNat (D.agg [D.raw z, D.int IntKind.i64 (↑y3.2 : Int)]))) (cs := [D.int IntKind.i64 (↑y3.2 : Int)]) (fmv := false) (by kernel_rfl) (by kernel_rfl) hx ?_
        rw [List.set_set]
        refine .sg0 5 [8] (G80 66 [false]) [(8, .d (.bool true))] ?_
        refine .raises [1, 3, 4, 5] ?_
        refine .kp [8] ?_
        refine .su [0, 1, 2, 3, 4, 5] (mk 50 [(8, .d (.bool true))]) [.cells (hC 1 2 5 d), .row 2 ((map fileD d.files).set k.toNat (D.agg [D.list 1 (map u8 (turnB y3.fst a.toNat m)), D.int IntKind.i64 (↑y3.snd : Int)])) true, .cells [.row 3, .row 4], .row 1 (map strD d.nk) true, .row 1 (map intD d.nv) true, .row 3 (map chD d.ch) true] ?_
        refine .rt F80 (V.d (D.bool true)) ?_
        have en : d.num x = k.toNat := by unfold Dk.num; rw [ho]; rfl
        have ef : d.file (d.num x) = y3 := by rw [en]; unfold Dk.file; rw [List.getD_eq_getElem?_getD, hy3]; rfl
        have e1 : d.turnOk x a = true := by
          simp only [Dk.turnOk, Bool.and_eq_true, decide_eq_true_eq, ho]
          exact ⟨⟨rfl, by omega⟩, by rw [ef]; omega⟩
        have e2 : d.turnD x a m = { d with files := d.files.set k.toNat (turnB y3.1 a.toNat m, y3.2) } := by unfold Dk.turnD; rw [e1, if_pos rfl, ef, en]
        rw [e1, e2]
        refine ⟨rfl, ?_⟩
        unfold SD
        rw [List.map_set]
        rfl
end Go.Proofs.Ytoelkgbeefoplaa
namespace Go.Proofs.Ytoelkgbeefoplaa
open Go Go.Br Go.Proofs
open List (map)
theorem spec_81r (d : Dk) (t : Int) (N : Nat) (h : d.Ok N) (ht : Rb t) (x : ByteArray) (a : Int) (m : UInt8) :
   CallsA Try.prog 81 [.ptr 0 0 0, .d (.str x), .d (.int .i64 a), .d (u8 m)] (SR (Rof d t) false) fun r σ' => r = .ret (.d (.bool (d.turnOk x a))) ∧ σ' = SR (Rof (d.turnD x a m) t) true := by
 have hR := Rof_ok h ht
 cases hl : look d.nk d.nv x with
 | none =>
   have e1 : d.turnOk x a = false := by simp [Dk.turnOk, hl]
   have e2 : d.turnD x a m = d := by simp [Dk.turnD, e1]
   rw [e1, e2]
   exact spec_81n (Rof d t) N hR x a m (by rw [at_none h hl]; omega)
 | some v =>
   obtain ⟨a1, a2, a3, a4⟩ := at_some (t := t) h hl
   have a5 : d.file (d.num x) = d.file v.toNat := by rw [a3]
   by_cases ha : 0 ≤ a ∧ a < ((d.file v.toNat).1.length : Int)
   · have e1 : d.turnOk x a = true := by
        simp only [Dk.turnOk, Bool.and_eq_true, decide_eq_true_eq, hl, a5]
        exact ⟨⟨rfl, ha.1⟩, ha.2⟩
     have e2 : d.turnD x a m = { d with files := d.files.set v.toNat (turnB (d.file v.toNat).1 a.toNat m, (d.file v.toNat).2) } := by unfold Dk.turnD; rw [e1, if_pos rfl, a5, a3]
     rw [e1, e2]
     have hc := spec_81s (Rof d t) N hR x a m (by rw [a1]; exact a2) (d.file v.toNat) (by rw [a1]; exact a4) ha.1 ha.2
     rw [a1] at hc
     exact hc
   · have e1 : d.turnOk x a = false := by
        cases hb : d.turnOk x a with
        | false => rfl
        | true =>
          simp only [Dk.turnOk, Bool.and_eq_true, decide_eq_true_eq, a5] at hb
          exact absurd ⟨hb.1.2, hb.2⟩ ha
     have e2 : d.turnD x a m = d := by simp [Dk.turnD, e1]
     rw [e1, e2]
     exact spec_81f (Rof d t) N hR x a m (by rw [a1]; exact a2) (d.file v.toNat) (by rw [a1]; exact a4) ha
def turnM (n : Int) : UInt8 := UInt8.ofNat (n.fdiv 256 % 256).toNat
theorem turnM_eq (n : Int) : D.int IntKind.u8 (IntKind.u8.wrap (n.fdiv (2 ^ min (Int.toNat 8) IntKind.i64.bits))) = u8 (turnM n) := by
 have e : ((2 : Int) ^ min (Int.toNat 8) IntKind.i64.bits) = 256 := rfl
 rw [e]
 unfold u8 turnM
 congr 1
 have h : ((UInt8.ofNat (n.fdiv 256 % 256).toNat).toNat : Int) = ((n.fdiv 256 % 256).toNat % 256 : Nat) := by simp
 rw [h]
 simp only [IntKind.wrap, IntKind.bits, IntKind.signed, Bool.false_and]
 simp
 omega
theorem spec_80a (d : Dk) (N : Nat) (h : d.Ok N) (x : ByteArray) (a : Int) :
  CallsA Try.prog 80 [.ptr 0 0 0, .d (.str x), .d (.int .i64 a), .d (.int IntKind.u8 (IntKind.u8.wrap (a.fdiv (2 ^ min (Int.toNat 8) IntKind.i64.bits))))] (SD d false) fun r σ' => r = .ret (.d (.bool (d.turnOk x a))) ∧ σ' = SD (d.turnD x a (turnM a)) true := by
 rw [turnM_eq]
 exact spec_80 d N h x a (turnM a)
theorem spec_81a (d : Dk) (t : Int) (N : Nat) (h : d.Ok N) (ht : Rb t) (x : ByteArray) (a : Int) :
  CallsA Try.prog 81 [.ptr 0 0 0, .d (.str x), .d (.int .i64 a), .d (.int IntKind.u8 (IntKind.u8.wrap (a.fdiv (2 ^ min (Int.toNat 8) IntKind.i64.bits))))] (SR (Rof d t) false) fun r σ' => r = .ret (.d (.bool (d.turnOk x a))) ∧ σ' = SR (Rof (d.turnD x a (turnM a)) t) true := by
 rw [turnM_eq]
 exact spec_81r d t N h ht x a (turnM a)
theorem do9 (d : Dk) (t : Int) (N : Nat) (h : d.Ok N) (ht : Rb t) (o : DOp) (hf : o.fits) (hk : o.kind % 10 = 9) :
   CallsA Try.prog 42 [.ptr 0 0 0, .ptr 6 0 0, .d (dopD o)] (SX d t false) fun r σ' => r = .ret (.d (.bool true)) ∧ σ' = SX (d.turnD o.a o.n (turnM o.n)) t true := by
 refine CallsA.start F42 (tm := mk (Try.f42.ntmps) [(0, .ptr 0 0 0), (1, .ptr 6 0 0), (2, .d (dopD o))]) (by kernel_rfl) ?_
 have hkk := hf.k
 have hn0 := hf.n0
 have hn1 := hf.n1
 have hk2 : ((o.kind : Int) % 10) = 9 := by omega
 clear hf
 refine .sg 13 [0, 1, 5, 6, 7, 8, 9, 10, 11] (G42 13 []) [(5, .ptr 9 0 0), (6, .d (.bool false)), (7, .d (.int .i64 (IntKind.i64.wrap ((↑o.kind : Int).tmod 10)))), (8, .ptr 9 0 0), (9, .d (.int .u64 (↑o.kind : Int))), (10, .d (.int .u64 ((↑o.kind : Int).tmod 10))), (11, .d (.int .i64 (IntKind.i64.wrap ((↑o.kind : Int).tmod 10))))] [(9, .cells [.d (.int .u64 (↑o.kind : Int)), .d (.str o.a), .d (.str o.b), .d (.list 1 (map u8 o.data)), .d (.int .i64 o.n), .d (.int .i64 o.dir), .d (.list 1 (map intD o.keep))])] ?_
 simp (disch := omega) only [bsW]
 rw [hk2]
 clear hk2 hk
 refine .sg0 61 [0, 1, 5, 6] (G42 74 [false, false, false, false, false, false, false, false, false]) [] ?_
 refine .dr (G42 75 [false, false, false, false, false, false, false, false, false]) [(6, .d (.bool (d.turnOk o.a o.n == d.turnOk o.a o.n))), (13, .ptr 0 0 0), (14, .ptr 9 0 1), (15, .d (.str o.a)), (16, .ptr 9 0 4), (17, .d (.int .i64 o.n)), (18, .ptr 9 0 4), (19, .d (.int .i64 o.n)), (20, .d (.int .i64 (o.n.fdiv (2 ^ min (Int.toNat 8) IntKind.i64.bits)))), (21, .d (.int .u8 (IntKind.u8.wrap (o.n.fdiv (2 ^ min (Int.toNat 8) IntKind.i64.bits))))), (22, .d (.bool (d.turnOk o.a o.n))), (23, .ptr 6 0 0), (24, .ptr 9 0 1), (25, .d (.str o.a)), (26, .ptr 9 0 4), (27, .d (.int .i64 o.n)), (28, .ptr 9 0 4), (29, .d (.int .i64 o.n)), (30, .d (.int .i64 (o.n.fdiv (2 ^ min (Int.toNat 8) IntKind.i64.bits)))), (31, .d (.int .u8 (IntKind.u8.wrap (o.n.fdiv (2 ^ min (Int.toNat 8) IntKind.i64.bits))))), (32, .d (.bool (d.turnOk o.a o.n))), (33, .d (.bool (d.turnOk o.a o.n == d.turnOk o.a o.n)))] [(0, .cells (hC 1 2 5 (d.turnD o.a o.n (turnM o.n)))), (1, .row 2 (map fileD (d.turnD o.a o.n (turnM o.n)).files) true), (3, .row 1 (map strD (d.turnD o.a o.n (turnM o.n)).nk) true), (4, .row 1 (map intD (d.turnD o.a o.n (turnM o.n)).nv) true), (5, .row 3 (map chD (d.turnD o.a o.n (turnM o.n)).ch) true), (6, .cells (rC 7 8 (Rof (d.turnD o.a o.n (turnM o.n)) t))), (7, .row 2 (map fileD (Rof (d.turnD o.a o.n (turnM o.n)) t).files) true), (8, .row 3 (map chD (Rof (d.turnD o.a o.n (turnM o.n)) t).ch) true)] (fun kz L hL => ?_) ?_
 · refine ⟨[fO 0, fA 9, fR 9, fA 9, fR 9, fA 9, fR 9, nF, nF, ⟨[0, 1, 2, 3, 4, 5], [0, 1, 2, 3, 4, 5], [1, 3, 4, 5], [1, 2, 5, 3, 4], [0, 1, 2, 5, 3, 4], [], true, false⟩, fO 6, fA 9, fR 9, fA 9, fR 9, fA 9, fR 9, nF, nF, ⟨[6, 7, 8], [6, 7, 8], [7, 8], [7, 8], [6, 7, 8], [], true, false⟩, nF, nF], run_amongF hL _ [] [0, 1, 2, 3, 4, 5, 6, 7, 8, 10, 11, 12, 13, 14, 15, 16, 17, 18, 9, 19, 20, 21] (by intro p hp; cases hp) (by kernel_rfl) ?_⟩
   refine Run.ap [0, 1, 2, 3, 4, 5, 6, 7, 8, 10, 11, 12, 13, 14, 15, 16, 17, 18] [(13, .ptr 0 0 0), (14, .ptr 9 0 1), (15, .d (.str o.a)), (16, .ptr 9 0 4), (17, .d (.int .i64 o.n)), (18, .ptr 9 0 4), (19, .d (.int .i64 o.n)), (20, .d (.int .i64 (o.n.fdiv (2 ^ min (Int.toNat 8) IntKind.i64.bits)))), (21, .d (.int .u8 (IntKind.u8.wrap (o.n.fdiv (2 ^ min (Int.toNat 8) IntKind.i64.bits))))), (23, .ptr 6 0 0), (24, .ptr 9 0 1), (25, .d (.str o.a)), (26, .ptr 9 0 4), (27, .d (.int .i64 o.n)), (28, .ptr 9 0 4), (29, .d (.int .i64 o.n)), (30, .d (.int .i64 (o.n.fdiv (2 ^ min (Int.toNat 8) IntKind.i64.bits)))), (31, .d (.int .u8 (IntKind.u8.wrap (o.n.fdiv (2 ^ min (Int.toNat 8) IntKind.i64.bits)))))] [] ?_
   refine Run.cl 9 [0, 1, 2, 3, 4, 5] F80 (@spec_80a (d) (N) (by assumption) (o.a) (o.n)) ?_
   refine Run.cl 19 [6, 7, 8] F81 (@spec_81a (d) (t) (N) (by assumption) (by assumption) (o.a) (o.n)) ?_
   exact Run.fin
 refine .kp [6] ?_
 refine .su [0, 1, 2, 3, 4, 5, 6, 7, 8] (mk 147 [(6, .d (.bool (d.turnOk o.a o.n == d.turnOk o.a o.n)))]) [.cells (hC 1 2 5 (d.turnD o.a o.n (turnM o.n))), .row 2 (map fileD (d.turnD o.a o.n (turnM o.n)).files) true, .cells [.row 3, .row 4], .row 1 (map strD (d.turnD o.a o.n (turnM o.n)).nk) true, .row 1 (map intD (d.turnD o.a o.n (turnM o.n)).nv) true, .row 3 (map chD (d.turnD o.a o.n (turnM o.n)).ch) true, .cells (rC 7 8 (Rof (d.turnD o.a o.n (turnM o.n)) t)), .row 2 (map fileD (Rof (d.turnD o.a o.n (turnM o.n)) t).files) true, .row 3 (map chD (Rof (d.turnD o.a o.n (turnM o.n)) t).ch) true] ?_
 refine .rt F42 (V.d (D.bool (d.turnOk o.a o.n == d.turnOk o.a o.n))) ?_
 exact ⟨by simp, rfl⟩
end Go.Proofs.Ytoelkgbeefoplaa
namespace Go.Proofs.Ytoelkgbeefoplaa
open Go Go.Br Go.Proofs
open List (map)
def applyAll (l : List (ByteArray × Int)) (cs : List (ByteArray × ByteArray × Int)) : List (ByteArray × Int) := cs.foldl applyR l
theorem applyAll_zip : ∀ (cs : List (ByteArray × ByteArray × Int)) {ks : List ByteArray} {vs : List Int}, Rising ks → vs.length = ks.length → (∀ k ∈ ks, k.size ≠ 0) →
   applyAll (ks.zip vs) cs = (kfold cs (ks, vs)).1.zip (kfold cs (ks, vs)).2
 | [], ks, vs, _, _, _ => rfl
 | c :: cs, ks, vs, hr, hv, hn => by
   obtain ⟨g, n, k⟩ := c
   have h1 := applyR_zip hr hv hn g n k
   have h2 : applyAll (ks.zip vs) ((g, n, k) :: cs) = applyAll (applyR (ks.zip vs) (g, n, k)) cs := rfl
   rw [h2, h1]
   refine applyAll_zip cs (kapply_rising hr) (kapply_len hv) fun z hz => ?_
   rcases kapply_keys hr hv hz with h3 | ⟨h3, rfl⟩
   · exact hn z h3
   · exact h3
def reNum (has : Nat → Bool) (i : Nat) (p : ByteArray × Int) : ByteArray × Int := if p.2 < i then (p.1, (rank has p.2.toNat : Int)) else p
theorem reNum_zero (has : Nat → Bool) {l : List (ByteArray × Int)} (h : ∀ p ∈ l, 0 ≤ p.2) : l.map (reNum has 0) = l := by
 rw [List.map_congr_left (g := id) fun p hp => ?_, List.map_id]
 unfold reNum
 rw [if_neg (by have := h p hp; simp; omega)]
 rfl
end Go.Proofs.Ytoelkgbeefoplaa
namespace Go.Proofs.Ytoelkgbeefoplaa
open Go Go.Br Go.Proofs
open List (map)
def hasR (l : List (ByteArray × Int)) (i : Nat) : Bool := l.any fun p => p.2 == (i : Int)
def Rk.lossN (d : Rk) (dir : Int) : List (ByteArray × Int) := applyAll d.sure (d.ch.take (min dir d.ch.length).toNat)
def Rk.crash (d : Rk) (dir : Int) (keep : List Int) : Rk :=
  { files := kept (hasR (d.lossN dir)) keep 0 d.files, now := (d.lossN dir).map (reNum (hasR (d.lossN dir)) d.files.length), sure := (d.lossN dir).map (reNum (hasR (d.lossN dir)) d.files.length), ch := [], quota := d.quota, full := false, off := false, stop := -1, calls := d.calls }
theorem any_zip {l : List ByteArray} : ∀ {v : List Int}, v.length = l.length → ∀ i : Nat, hasR (l.zip v) i = decide ((i : Int) ∈ v) := by
  induction l with
  | nil => intro v hv i; cases v <;> simp_all [hasR]
  | cons x l ih =>
    intro v hv i
    cases v with
    | nil => simp at hv
    | cons y v =>
      have := ih (v := v) (by simpa using hv) i
      unfold hasR at this ⊢
      rw [List.zip_cons_cons, List.any_cons, this]
      by_cases h : y = (i : Int)
      · subst h; simp
      · have h' : (i : Int) ≠ y := fun e => h e.symm
        simp [h, h']
theorem map_zip2 {α : Type} {f : α × Int → α × Int} {g : Int → Int} : ∀ {l : List α} {v : List Int}, (∀ k x, k ∈ v → f (x, k) = (x, g k)) → (l.zip v).map f = l.zip (v.map g)
 | [], v, _ => by simp
 | x :: l, [], _ => by simp
 | x :: l, y :: v, h => by
   simp only [List.zip_cons_cons, List.map_cons]
   rw [h y x (by simp), map_zip2 fun k z hk => h k z (by simp [hk])]
theorem Rof_lossN {d : Dk} {t : Int} {N : Nat} (h : d.Ok N) (hn : d.Nm) (dir : Int) : (Rof d t).lossN dir = (d.names dir).1.zip (d.names dir).2 := by
 unfold Rk.lossN Dk.names
 exact applyAll_zip _ h.sr h.sl hn.sk
theorem Rof_crash {d : Dk} {t : Int} {N : Nat} (h : d.Ok N) (hn : d.Nm) (dir : Int) (keep : List Int) : (Rof d t).crash dir keep = Rof (d.crash dir keep) (-1) := by
 obtain ⟨h1, h2, h3, h4⟩ := Dk.names_ok h dir
 have e1 := Rof_lossN (t := t) h hn dir
 have e2 : hasR ((Rof d t).lossN dir) = d.has dir := by
  funext i
  rw [e1, any_zip h2]
  rfl
 have e3 : ((Rof d t).lossN dir).map (reNum (hasR ((Rof d t).lossN dir)) (Rof d t).files.length) = (d.names dir).1.zip ((d.names dir).2.map fun k => (rank (d.has dir) k.toNat : Int)) := by
  rw [e2, e1]
  refine map_zip2 fun k x hk => ?_
  unfold reNum
  rw [if_pos (show (x, k).snd < ((Rof d t).files.length : Int) from (h3 k hk).2)]
 unfold Rk.crash
 rw [e3, e2]
 rfl
theorem kfold_keys : ∀ (cs : List (ByteArray × ByteArray × Int)) {ks : List ByteArray} {vs : List Int}, Rising ks → vs.length = ks.length → (∀ k ∈ ks, k.size ≠ 0) → ∀ z ∈ (kfold cs (ks, vs)).1, z.size ≠ 0
 | [], ks, vs, _, _, hn => hn
 | (g, n, k) :: cs, ks, vs, hr, hv, hn => by
   refine kfold_keys cs (kapply_rising hr) (kapply_len hv) fun z hz => ?_
   rcases kapply_keys hr hv hz with h3 | ⟨h3, rfl⟩
   · exact hn z h3
   · exact h3
theorem crash_nm {d : Dk} {N : Nat} (h : d.Ok N) (hn : d.Nm) (dir : Int) (keep : List Int) : (d.crash dir keep).Nm :=
 ⟨kfold_keys _ h.sr h.sl hn.sk, kfold_keys _ h.sr h.sl hn.sk⟩
def mid (has : Nat → Bool) (i : Nat) (l : List (ByteArray × Int)) (k : Nat) : List (ByteArray × Int) := (l.take k).map (reNum has (i + 1)) ++ (l.drop k).map (reNum has i)
theorem mid_zero (has : Nat → Bool) (i : Nat) (l : List (ByteArray × Int)) : mid has i l 0 = l.map (reNum has i) := by simp [mid]
theorem mid_all (has : Nat → Bool) (i : Nat) (l : List (ByteArray × Int)) : mid has i l l.length = l.map (reNum has (i + 1)) := by simp [mid]
theorem mid_len (has : Nat → Bool) (i : Nat) (l : List (ByteArray × Int)) (k : Nat) : (mid has i l k).length = l.length := by simp [mid]; omega
theorem dropGet {α : Type} {l : List α} {k : Nat} {p : α} (h : l[k]? = some p) : l.drop k = p :: l.drop (k + 1) := by
 obtain ⟨hk, rfl⟩ := List.getElem?_eq_some_iff.1 h
 exact List.drop_eq_getElem_cons hk
theorem take_get {α : Type} {l : List α} {k : Nat} {p : α} (h : l[k]? = some p) : l.take (k + 1) = l.take k ++ [p] := by
 rw [List.take_add_one, h]; rfl
theorem mid_miss {has : Nat → Bool} {i : Nat} {l : List (ByteArray × Int)} {k : Nat} {p : ByteArray × Int} (h : l[k]? = some p) (hp : p.2 ≠ (i : Int)) : mid has i l (k + 1) = mid has i l k := by
 unfold mid
 rw [take_get h, dropGet h]
 have : reNum has (i + 1) p = reNum has i p := by
  unfold reNum
  by_cases hlt : p.2 < (i : Int)
  · rw [if_pos hlt, if_pos (by omega)]
  · rw [if_neg hlt, if_neg (by omega)]
 simp [this]
theorem mid_hit {has : Nat → Bool} {i : Nat} {l : List (ByteArray × Int)} {k : Nat} {x : ByteArray} (h : l[k]? = some (x, (i : Int))) : (mid has i l k).set k (x, (rank has i : Int)) = mid has i l (k + 1) ∧ (mid has i l k)[k]? = some (x, (i : Int)) := by
 have hk : k < l.length := (List.getElem?_eq_some_iff.1 h).1
 have hl : ((l.take k).map (reNum has (i + 1))).length = k := by simp; omega
 have e1 : reNum has i (x, (i : Int)) = (x, (i : Int)) := by unfold reNum; rw [if_neg (by simp)]
 have e2 : reNum has (i + 1) (x, (i : Int)) = (x, (rank has i : Int)) := by unfold reNum; rw [if_pos (by simp; omega)]; simp
 constructor
 · unfold mid
   rw [take_get h, dropGet h, List.map_cons, e1]
   rw [List.set_append_right _ _ (by omega), hl]
   simp [e2]
 · unfold mid
   rw [dropGet h, List.map_cons, e1, List.getElem?_append_right (by omega), hl]
   simp
def seenR (l : List (ByteArray × Int)) (i : Nat) (k : Nat) : Bool := hasR (l.take k) i
theorem seenR_zero (l : List (ByteArray × Int)) (i : Nat) : seenR l i 0 = false := by simp [seenR, hasR]
theorem seenR_all (l : List (ByteArray × Int)) (i : Nat) : seenR l i l.length = hasR l i := by simp [seenR]
theorem seenR_hit {l : List (ByteArray × Int)} {i k : Nat} {x : ByteArray} (h : l[k]? = some (x, (i : Int))) : seenR l i (k + 1) = true := by
 unfold seenR; rw [take_get h]; simp [hasR]
theorem seenR_miss {l : List (ByteArray × Int)} {i k : Nat} {p : ByteArray × Int} (h : l[k]? = some p) (hp : p.2 ≠ (i : Int)) : seenR l i (k + 1) = seenR l i k := by
 unfold seenR; rw [take_get h]; simp [hasR, hp]
theorem kept_take {has : Nat → Bool} {keep : List Int} {fs : List (List UInt8 × Nat)} {i : Nat} {f : List UInt8 × Nat} (h : fs[i]? = some f) :
  kept has keep 0 (fs.take (i + 1)) = kept has keep 0 (fs.take i) ++ if has i then [(f.1.take (leftOf f i keep), leftOf f i keep)] else [] := by
 have hi : i < fs.length := (List.getElem?_eq_some_iff.1 h).1
 rw [take_get h, kept_snoc]
 simp only [List.length_take, Nat.zero_add, Nat.min_eq_left (Nat.le_of_lt hi)]
theorem kept_rank {has : Nat → Bool} {keep : List Int} {fs : List (List UInt8 × Nat)} {i : Nat} (hi : i ≤ fs.length) : (kept has keep 0 (fs.take i)).length = rank has i := by
 rw [kept_len0]; simp [Nat.min_eq_left hi]
end Go.Proofs.Ytoelkgbeefoplaa
namespace Go.Proofs.Ytoelkgbeefoplaa
open Go Go.Br Go.Proofs
open List (map)
noncomputable def B79 : Code := (Try.f79.body).getD .skip
noncomputable def G79 (n : Nat) (l : List Bool) : List Item := cgo n l [.code B79]
theorem F79 : Fnc Try.prog 79 Try.f79 B79 := ⟨Try.func79, by kernel_rfl, by kernel_rfl⟩
def S79 (d : Rk) (dir : Int) (keep : List Int) : Store := SR d false ++ [.cells [.d (.int .i64 dir), .d (.list 1 (keep.map intD))]]
def S79b (d : Rk) (dir : Int) (keep : List Int) (l : List (ByteArray × Int)) (fs : List (List UInt8 × Nat)) : Store := S79 d dir keep ++ [.row 2 (l.map nmD) true, .row 2 (fs.map fileD) true]
def Rk.so (d : Rk) (dir : Int) (i : Nat) : List (ByteArray × Int) := applyAll d.sure (d.ch.take (min dir i).toNat)
theorem Rk.so_zero (d : Rk) (dir : Int) : d.so dir 0 = d.sure := by
 unfold Rk.so
 rw [show (min dir ((0 : Nat) : Int)).toNat = 0 by omega]; rfl
theorem Rk.so_in {d : Rk} {dir : Int} {i : Nat} {c : ByteArray × ByteArray × Int} (hc : d.ch[i]? = some c) (h : (i : Int) < dir) : applyR (d.so dir i) c = d.so dir (i + 1) := by
 unfold Rk.so applyAll
 rw [show (min dir ((i : Nat) : Int)).toNat = i by omega, show (min dir ((i + 1 : Nat) : Int)).toNat = i + 1 by omega, take_get hc, List.foldl_append]; rfl
theorem Rk.so_out {d : Rk} {dir : Int} {i : Nat} (h : ¬ (i : Int) < dir) : d.so dir (i + 1) = d.so dir i := by
 unfold Rk.so
 rw [show (min dir ((i : Nat) : Int)).toNat = (min dir ((i + 1 : Nat) : Int)).toNat by omega]
theorem lo79a (d : Rk) (N : Nat) (h : d.Ok N) (dir : Int) (keep : List Int) (hb : ∀ i, (d.so dir i).length < 1000000) (Q : AE → Store → Prop)
    (hnext : AW Try.prog 79 none 3 (G79 58 [false]) (mk 133 [(0, .ptr 0 0 0), (3, .ptr 3 0 0), (4, .d (.list 2 ((d.lossN dir).map nmD))), (7, .row 5), (8, .row 4), (44, .row 1), (45, .d (.int .i64 (d.files.length : Nat))), (46, .d (.int .i64 0))]) (S79b d dir keep (d.lossN dir) []) [] Q) : ∀ (m i : Nat), i + m = d.ch.length →
    AW Try.prog 79 none 3 (G79 24 []) (mk 133 [(0, .ptr 0 0 0), (3, .ptr 3 0 0), (4, .d (.list 2 ((d.so dir i).map nmD))), (23, .row 2), (24, .d (.int .i64 (d.ch.length : Nat))), (25, .d (.int .i64 (i : Nat)))]) (S79 d dir keep) [] Q := by
  have q1 := h.chl
  have q2 := h.nb
  intro m
  induction m with
  | zero =>
    intro i hi
    have hi : i = d.ch.length := by omega
    subst hi
    have e : d.so dir d.ch.length = d.lossN dir := rfl
    have hl := hb d.ch.length
    rw [e] at hl ⊢
    clear hb
    refine .sg0 5 [0, 3, 4, 23, 24, 25, 26] (G79 29 []) [(26, .d (.bool (decide ((↑d.ch.length : Int) < (↑d.ch.length : Int)))))] ?_
    refine .if' (decide ((↑d.ch.length : Int) < (↑d.ch.length : Int))) (G79 30 [true]) (G79 30 [false]) (fun h1 => ?_) (fun h1 => ?_)
    · simp only [bsX] at h1
      omega
    · simp only [bsX] at h1
      refine .seg 13 [0, 3, 4, 7, 8, 38, 39] (T' := cgo 43 [false] [.code B79]) (tm' := mk 133 [(0, .ptr 0 0 0), (3, .ptr 3 0 0), (4, .d (.list 2 (map nmD (d.lossN dir)))), (7, .nils), (8, .nils), (38, .nils), (39, .d (.list 2 (map nmD (d.lossN dir))))]) (σ' := [.cells (rC 1 2 d), .row 2 (map fileD d.files) false, .row 3 (map chD d.ch) false, .cells [.d (.int .i64 dir), .d (.list 1 (map intD keep))]]) (by kernel_rfl) ?_
      refine .virtT 38 2 (by kernel_rfl) ?_
      refine .op' (G79 44 [false]) (appRow_ok (s := (.tmp 38)) (x := (.tmp 39)) (t := 69) (t2 := 69) (sz := 2) (by' := 24) (ys := map nmD (d.lossN dir)) (l := 4) (xs := []) (mv := false) (by kernel_rfl) (by kernel_rfl) (by kernel_rfl) (by kernel_rfl) (by kernel_rfl) (by kernel_rfl) (by simp <;> omega) (by first | (simp [maxLen] <;> omega) | omega)) ?_
      refine .seg 13 [0, 3, 4, 7, 8, 44, 45, 46] (T' := cgo 57 [false] [.code B79]) (tm' := mk 133 [(0, .ptr 0 0 0), (3, .ptr 3 0 0), (4, .d (.list 2 (map nmD (d.lossN dir)))), (7, .nils), (8, .row 4), (44, .row 1), (45, .d (.int .i64 (↑(map fileD d.files).length : Int))), (46, .d (.int .i64 0))]) (σ' := [.cells (rC 1 2 d), .row 2 (map fileD d.files) false, .row 3 (map chD d.ch) false, .cells [.d (.int .i64 dir), .d (.list 1 (map intD keep))], .row 2 ([] ++ map nmD (d.lossN dir)) true]) (by kernel_rfl) ?_
      simp only [List.length_map]
      refine .virtT 7 2 (by kernel_rfl) ?_
      refine .raise 5 rfl rfl ?_
      exact .seg 1 [0, 3, 4, 7, 8, 44, 45, 46] (by kernel_rfl) hnext
  | succ m ih =>
    intro i hi
    obtain ⟨c, hc⟩ := get_some (l := d.ch) (i := i) (by omega)
    have hb := hb i
    clear hnext
    refine .sg0 5 [0, 3, 4, 23, 24, 25, 26] (G79 29 []) [(26, .d (.bool (decide ((↑i : Int) < (↑d.ch.length : Int)))))] ?_
    refine .if' (decide ((↑i : Int) < (↑d.ch.length : Int))) (G79 30 [true]) (G79 30 [false]) (fun h1 => ?_) (fun h1 => ?_)
    · simp only [bsX] at h1
      refine .sg0 6 [0, 3, 4, 23, 24, 25, 26, 27] (G79 36 [true]) [(27, .d (.int .i64 (↑i : Int)))] ?_
      refine .op' (G79 37 [true]) (ixRow_ok (t := 70) (x := (.tmp 23)) (i := (.tmp 25)) (k := IntKind.i64) (n := (↑i : Int)) (l := 2) (sz := 3) (xs := map chD d.ch) (mv := false) (by kernel_rfl) (by kernel_rfl) (by kernel_rfl) (by kernel_rfl) (by kernel_rfl) (by omega) (by simp <;> omega)) ?_
      refine .op' (G79 38 [true]) (ldRow_ok (t := 157) (x := (.tmp 28)) (l := 2) (i := (↑i : Int).toNat) (s := 0) (sz := 3) (xs := map chD d.ch) (mv := false) (d := chD c) (v := .d (.agg [D.str c.fst, D.str c.snd.fst, D.int IntKind.i64 c.snd.snd])) (by kernel_rfl) (by kernel_rfl) (by kernel_rfl) (map_get hc) (by kernel_rfl)) ?_
      refine .sg 11 [0, 3, 4, 5, 6, 23, 24, 25, 26, 27, 28, 29, 30, 31, 32, 33] (G79 49 [true]) [(5, .d (.int .i64 (↑i : Int))), (6, .ptr 4 0 0), (30, .d (.int .i64 (↑i : Int))), (31, .ptr 3 0 0), (32, .d (.int .i64 dir)), (33, .d (.bool (decide ((↑i : Int) < dir))))] [(4, .cells [.d (.str c.fst), .d (.str c.snd.fst), .d (.int .i64 c.snd.snd)])] ?_
      refine .if' (decide ((↑i : Int) < dir)) (G79 50 [true, true]) (G79 50 [true, false]) (fun h2 => ?_) (fun h2 => ?_)
      · simp only [bsX] at h2
        refine .sg0 3 [0, 3, 4, 5, 6, 23, 24, 25, 26, 27, 28, 29, 30, 31, 32, 33, 34, 35] (G79 53 [true, true]) [(34, .d (.list 2 (map nmD (d.so dir i)))), (35, .d (.agg [D.str c.fst, D.str c.snd.fst, D.int IntKind.i64 c.snd.snd]))] ?_
        refine .cd (G79 54 [true, true]) F103 (@spec_103 (d.so dir i) (c) (by assumption)) ?_
        refine .sg0 7 [0, 3, 4, 5, 6, 23, 24, 25, 26, 27, 28, 29, 30, 31, 32, 33, 34, 35, 36, 37] (G79 61 [true, true]) [(4, .d (.list 2 (map nmD (applyR (d.so dir i) c)))), (25, .d (.int .i64 (IntKind.i64.wrap ((↑i : Int) + 1)))), (37, .d (.int .i64 (IntKind.i64.wrap ((↑i : Int) + 1))))] ?_
        simp (disch := omega) only [bsW]
        rw [Rk.so_in hc h2]
        refine .kp [0, 3, 4, 23, 24, 25] ?_
        refine .su [0, 1, 2, 3] (mk 133 [(0, .ptr 0 0 0), (3, .ptr 3 0 0), (4, .d (.list 2 ((d.so dir (i + 1)).map nmD))), (23, .row 2), (24, .d (.int .i64 (d.ch.length : Nat))), (25, .d (.int .i64 ((i + 1 : Nat) : Int)))]) (S79 d dir keep) ?_
        exact .seg 1 [0, 3, 4, 23, 24, 25] (by kernel_rfl) (ih (i + 1) (by omega))
      · simp only [bsX] at h2
        refine .sg0 6 [0, 3, 4, 5, 6, 23, 24, 25, 26, 27, 28, 29, 30, 31, 32, 33, 37] (G79 56 [true, false]) [(25, .d (.int .i64 (IntKind.i64.wrap ((↑i : Int) + 1)))), (37, .d (.int .i64 (IntKind.i64.wrap ((↑i : Int) + 1))))] ?_
        simp (disch := omega) only [bsW]
        rw [← Rk.so_out h2]
        refine .kp [0, 3, 4, 23, 24, 25] ?_
        refine .su [0, 1, 2, 3] (mk 133 [(0, .ptr 0 0 0), (3, .ptr 3 0 0), (4, .d (.list 2 ((d.so dir (i + 1)).map nmD))), (23, .row 2), (24, .d (.int .i64 (d.ch.length : Nat))), (25, .d (.int .i64 ((i + 1 : Nat) : Int)))]) (S79 d dir keep) ?_
        exact .seg 1 [0, 3, 4, 23, 24, 25] (by kernel_rfl) (ih (i + 1) (by omega))
    · simp only [bsX] at h1
      omega
end Go.Proofs.Ytoelkgbeefoplaa
namespace Go.Proofs.Ytoelkgbeefoplaa
open Go Go.Br Go.Proofs
open List (map)
def S79c (d : Rk) (dir : Int) (keep : List Int) (l : List (ByteArray × Int)) (fs : List (List UInt8 × Nat)) (f : List UInt8 × Nat) : Store := S79b d dir keep l fs ++ [.cells [.d (bsD f.1), .d (.int .i64 f.2)]]
theorem lo79c (d : Rk) (N : Nat) (h : d.Ok N) (dir : Int) (keep : List Int) (l : List (ByteArray × Int)) (hl : l.length < 1000000) (i : Nat) (hi : i < d.files.length) (fs : List (List UInt8 × Nat)) (hfs : fs.length = rank (hasR l) i) (f : List UInt8 × Nat) (Q : AE → Store → Prop)
    (hnext : AW Try.prog 79 none 3 (G79 96 [false, true, false]) (mk 133 [(0, .ptr 0 0 0), (3, .ptr 3 0 0), (4, .d (.list 2 (l.map nmD))), (7, .row 5), (8, .row 4), (9, .d (.int .i64 (i : Nat))), (10, .ptr 6 0 0), (11, .d (.bool (hasR l i))), (44, .row 1), (45, .d (.int .i64 (d.files.length : Nat))), (46, .d (.int .i64 (i : Nat)))]) (S79c d dir keep (l.map (reNum (hasR l) (i + 1))) fs f) [] Q) : ∀ (m k : Nat), k + m = l.length →
    AW Try.prog 79 none 3 (G79 89 [false, true]) (mk 133 [(0, .ptr 0 0 0), (3, .ptr 3 0 0), (4, .d (.list 2 (l.map nmD))), (7, .row 5), (8, .row 4), (9, .d (.int .i64 (i : Nat))), (10, .ptr 6 0 0), (11, .d (.bool (seenR l i k))), (44, .row 1), (45, .d (.int .i64 (d.files.length : Nat))), (46, .d (.int .i64 (i : Nat))), (51, .d (.list 2 (l.map nmD))), (52, .d (.int .i64 (l.length : Nat))), (53, .d (.int .i64 (k : Nat)))]) (S79c d dir keep (mid (hasR l) i l k) fs f) [] Q := by
  have q1 := h.fl
  have q2 := h.nb
  intro m
  induction m with
  | zero =>
    intro k hk
    have hk : k = l.length := by omega
    subst hk
    have e : seenR l i l.length = hasR l i := seenR_all l i
    rw [e, mid_all]
    refine .sg0 5 [0, 3, 4, 7, 8, 9, 10, 11, 44, 45, 46, 51, 52, 53, 54] (G79 94 [false, true]) [(54, .d (.bool (decide ((↑l.length : Int) < (↑l.length : Int)))))] ?_
    refine .if' (decide ((↑l.length : Int) < (↑l.length : Int))) (G79 95 [false, true, true]) (G79 95 [false, true, false]) (fun h1 => ?_) (fun h1 => ?_)
    · simp only [bsX] at h1
      omega
    · simp only [bsX] at h1
      refine .seg 1 [0, 3, 4, 7, 8, 9, 10, 11, 44, 45, 46, 51, 52, 53, 54] (T' := cgo 96 [false, true, false] [.code B79]) (tm' := mk 133 [(0, .ptr 0 0 0), (3, .ptr 3 0 0), (4, .d (.list 2 (map nmD l))), (7, .row 5), (8, .row 4), (9, .d (.int .i64 (↑i : Int))), (10, .ptr 6 0 0), (11, .d (.bool (hasR l i))), (44, .row 1), (45, .d (.int .i64 (↑d.files.length : Int))), (46, .d (.int .i64 (↑i : Int))), (51, .d (.list 2 (map nmD l))), (52, .d (.int .i64 (↑l.length : Int))), (53, .d (.int .i64 (↑l.length : Int))), (54, .d (.bool (decide ((↑l.length : Int) < (↑l.length : Int)))))]) (σ' := [.cells (rC 1 2 d), .row 2 (map fileD d.files) false, .row 3 (map chD d.ch) false, .cells [.d (.int .i64 dir), .d (.list 1 (map intD keep))], .row 2 (map nmD (map (reNum (hasR l) (i + 1)) l)) true, .row 2 (map fileD fs) true, .cells [.d (.list 1 (map u8 f.fst)), .d (.int .i64 (↑f.snd : Int))]]) (by kernel_rfl) ?_
      exact .seg 0 [0, 3, 4, 7, 8, 9, 10, 11, 44, 45, 46] (by kernel_rfl) hnext
  | succ m ih =>
    intro k hk
    obtain ⟨p, hp⟩ := get_some (l := l) (i := k) (by omega)
    clear hnext
    by_cases he : p.2 = (i : Int)
    · obtain ⟨x, y⟩ := p
      dsimp only at he
      subst he
      obtain ⟨m1, m2⟩ := mid_hit (has := hasR l) hp
      have hsn := seenR_hit hp
      have hml := mid_len (hasR l) i l k
      refine .sg0 5 [0, 3, 4, 7, 8, 9, 10, 11, 44, 45, 46, 51, 52, 53, 54] (G79 94 [false, true]) [(54, .d (.bool (decide ((↑k : Int) < (↑l.length : Int)))))] ?_
      refine .if' (decide ((↑k : Int) < (↑l.length : Int))) (G79 95 [false, true, true]) (G79 95 [false, true, false]) (fun h1 => ?_) (fun h1 => ?_)
      · simp only [bsX] at h1
        refine .sg0 6 [0, 3, 4, 7, 8, 9, 10, 11, 44, 45, 46, 51, 52, 53, 54, 55] (G79 101 [false, true, true]) [(55, .d (.int .i64 (↑k : Int)))] ?_
        obtain ⟨y2, hy2⟩ := get_some (l := l) (i := k) (by omega)
        refine .op' (G79 102 [false, true, true]) (ixData_ok (t := 69) (x := (.tmp 51)) (i := (.tmp 53)) (k := IntKind.i64) (n := (↑k : Int)) (sz := 2) (xs := map nmD l) (d := nmD y2) (by kernel_rfl) (by kernel_rfl) (by kernel_rfl) (by kernel_rfl) (by omega) (map_get hy2)) ?_
        refine .sg 12 [0, 3, 4, 7, 8, 9, 10, 11, 12, 13, 44, 45, 46, 51, 52, 53, 54, 55, 56, 57, 58, 59, 60, 61] (G79 114 [false, true, true]) [(12, .d (.int .i64 (↑k : Int))), (13, .ptr 7 0 0), (57, .d (.agg [D.str y2.fst, D.int IntKind.i64 y2.snd])), (58, .ptr 7 0 1), (59, .d (.int .i64 y2.snd)), (60, .d (.int .i64 (↑i : Int))), (61, .d (.bool (y2.snd == (↑i : Int))))] [(7, .cells [.d (.str y2.fst), .d (.int .i64 y2.snd)])] ?_
        refine .if' (y2.snd == (↑i : Int)) (G79 115 [false, true, true, true]) (G79 115 [false, true, true, false]) (fun h3 => ?_) (fun h3 => ?_)
        · simp only [bsX] at h3
          refine .sg0 9 [0, 3, 4, 7, 8, 9, 10, 11, 12, 13, 44, 45, 46, 51, 52, 53, 54, 55, 56, 57, 58, 59, 60, 61, 62, 63, 64, 65] (G79 124 [false, true, true, true]) [(11, .d (.bool true)), (62, .row 4), (63, .d (.int .i64 (↑k : Int))), (64, .row 5), (65, .d (.int .i64 (↑(map fileD fs).length : Int)))] ?_
          simp only [List.length_map]
          refine .op' (G79 125 [false, true, true, true]) (ixRow_ok (t := 69) (x := (.tmp 62)) (i := (.tmp 63)) (k := IntKind.i64) (n := (↑k : Int)) (l := 4) (sz := 2) (xs := map nmD (mid (hasR l) i l k)) (mv := true) (by kernel_rfl) (by kernel_rfl) (by kernel_rfl) (by kernel_rfl) (by kernel_rfl) (by omega) (by simp <;> omega)) ?_
          refine .sg0 1 [0, 3, 4, 7, 8, 9, 10, 11, 12, 13, 44, 45, 46, 51, 52, 53, 54, 55, 56, 57, 58, 59, 60, 61, 62, 63, 64, 65, 66, 67] (G79 126 [false, true, true, true]) [(67, .ptr 4 (↑k : Int).toNat 1)] ?_
          obtain ⟨y4, hy4⟩ := get_some (l := mid (hasR l) i l k) (i := (↑k : Int).toNat) (by omega)
          refine .op' (G79 127 [false, true, true, true]) (stRow_ok (t := 3) (x := (.tmp 67)) (y := (.tmp 65)) (l := 4) (i := (↑k : Int).toNat) (s := 1) (sz := 2) (xs := map nmD (mid (hasR l) i l k)) (mv := true) (d := nmD y4) (d' := D.agg [D.str y4.fst, D.int IntKind.i64 (↑fs.length : Int)]) (by kernel_rfl) (by kernel_rfl) (by kernel_rfl) (map_get hy4) (by kernel_rfl)) ?_
          refine .seg 6 [0, 3, 4, 7, 8, 9, 10, 11, 12, 13, 44, 45, 46, 51, 52, 53, 54, 55, 56, 57, 58, 59, 60, 61, 62, 63, 64, 65, 66, 67, 68] (T' := cgo 133 [false, true, true, true] [.code B79]) (tm' := mk 133 [(0, .ptr 0 0 0), (3, .ptr 3 0 0), (4, .d (.list 2 (map nmD l))), (7, .row 5), (8, .row 4), (9, .d (.int .i64 (↑i : Int))), (10, .ptr 6 0 0), (11, .d (.bool true)), (12, .d (.int .i64 (↑k : Int))), (13, .ptr 7 0 0), (44, .row 1), (45, .d (.int .i64 (↑d.files.length : Int))), (46, .d (.int .i64 (↑i : Int))), (51, .d (.list 2 (map nmD l))), (52, .d (.int .i64 (↑l.length : Int))), (53, .d (.int .i64 (IntKind.i64.wrap ((↑k : Int) + 1)))), (54, .d (.bool (decide ((↑k : Int) < (↑l.length : Int))))), (55, .d (.int .i64 (↑k : Int))), (56, .ep 2 (D.agg [D.str y2.fst, D.int IntKind.i64 y2.snd]) 0), (57, .d (.agg [D.str y2.fst, D.int IntKind.i64 y2.snd])), (58, .ptr 7 0 1), (59, .d (.int .i64 y2.snd)), (60, .d (.int .i64 (↑i : Int))), (61, .d (.bool (y2.snd == (↑i : Int)))), (62, .row 4), (63, .d (.int .i64 (↑k : Int))), (64, .row 5), (65, .d (.int .i64 (↑fs.length : Int))), (66, .ptr 4 (↑k : Int).toNat 0), (67, .ptr 4 (↑k : Int).toNat 1), (68, .d (.int .i64 (IntKind.i64.wrap ((↑k : Int) + 1))))]) (σ' := [.cells (rC 1 2 d), .row 2 (map fileD d.files) false, .row 3 (map chD d.ch) false, .cells [.d (.int .i64 dir), .d (.list 1 (map intD keep))], .row 2 ((map nmD (mid (hasR l) i l k)).set (↑k : Int).toNat (D.agg [D.str y4.fst, D.int IntKind.i64 (↑fs.length : Int)])) true, .row 2 (map fileD fs) true, .cells [.d (.list 1 (map u8 f.fst)), .d (.int .i64 (↑f.snd : Int))], .cells [.d (.str y2.fst), .d (.int .i64 y2.snd)]]) (by kernel_rfl) ?_
          simp (disch := omega) only [bsW]
          have e4 : y4 = (x, (i : Int)) := by
            have h5 : (mid (hasR l) i l k)[k]? = some y4 := hy4
            rw [m2] at h5
            exact (Option.some.inj h5).symm
          subst e4
          have e5 : (List.map nmD (mid (hasR l) i l k)).set (↑k : Int).toNat (D.agg [D.str x, D.int IntKind.i64 (↑fs.length : Int)]) = List.map nmD (mid (hasR l) i l (k + 1)) := by
            rw [← m1, List.map_set, hfs]; rfl
          rw [e5]
          refine .kp [0, 3, 4, 7, 8, 9, 10, 11, 44, 45, 46, 51, 52, 53] ?_
          have ih := ih (k + 1) (by omega)
          rw [hsn] at ih
          refine .su [0, 1, 2, 3, 4, 5, 6] (mk 133 [(0, .ptr 0 0 0), (3, .ptr 3 0 0), (4, .d (.list 2 (l.map nmD))), (7, .row 5), (8, .row 4), (9, .d (.int .i64 (i : Nat))), (10, .ptr 6 0 0), (11, .d (.bool true)), (44, .row 1), (45, .d (.int .i64 (d.files.length : Nat))), (46, .d (.int .i64 (i : Nat))), (51, .d (.list 2 (l.map nmD))), (52, .d (.int .i64 (l.length : Nat))), (53, .d (.int .i64 ((k + 1 : Nat) : Int)))]) (S79c d dir keep (mid (hasR l) i l (k + 1)) fs f) ?_
          exact .seg 1 [0, 3, 4, 7, 8, 9, 10, 11, 44, 45, 46, 51, 52, 53] (by kernel_rfl) ih
        · simp only [bsX] at h3
          simp_all
      · simp only [bsX] at h1
        omega
    · have m1 := mid_miss (has := hasR l) hp he
      have hsn := seenR_miss hp he
      refine .sg0 5 [0, 3, 4, 7, 8, 9, 10, 11, 44, 45, 46, 51, 52, 53, 54] (G79 94 [false, true]) [(54, .d (.bool (decide ((↑k : Int) < (↑l.length : Int)))))] ?_
      refine .if' (decide ((↑k : Int) < (↑l.length : Int))) (G79 95 [false, true, true]) (G79 95 [false, true, false]) (fun h1 => ?_) (fun h1 => ?_)
      · simp only [bsX] at h1
        refine .sg0 6 [0, 3, 4, 7, 8, 9, 10, 11, 44, 45, 46, 51, 52, 53, 54, 55] (G79 101 [false, true, true]) [(55, .d (.int .i64 (↑k : Int)))] ?_
        refine .op' (G79 102 [false, true, true]) (ixData_ok (t := 69) (x := (.tmp 51)) (i := (.tmp 53)) (k := IntKind.i64) (n := (↑k : Int)) (sz := 2) (xs := map nmD l) (d := nmD p) (by kernel_rfl) (by kernel_rfl) (by kernel_rfl) (by kernel_rfl) (by omega) (map_get hp)) ?_
        refine .sg 12 [0, 3, 4, 7, 8, 9, 10, 11, 12, 13, 44, 45, 46, 51, 52, 53, 54, 55, 56, 57, 58, 59, 60, 61] (G79 114 [false, true, true]) [(12, .d (.int .i64 (↑k : Int))), (13, .ptr 7 0 0), (57, .d (.agg [D.str p.fst, D.int IntKind.i64 p.snd])), (58, .ptr 7 0 1), (59, .d (.int .i64 p.snd)), (60, .d (.int .i64 (↑i : Int))), (61, .d (.bool (p.snd == (↑i : Int))))] [(7, .cells [.d (.str p.fst), .d (.int .i64 p.snd)])] ?_
        refine .if' (p.snd == (↑i : Int)) (G79 115 [false, true, true, true]) (G79 115 [false, true, true, false]) (fun h2 => ?_) (fun h2 => ?_)
        · simp only [bsX] at h2
          omega
        · simp only [bsX] at h2
          refine .sg0 6 [0, 3, 4, 7, 8, 9, 10, 11, 12, 13, 44, 45, 46, 51, 52, 53, 54, 55, 56, 57, 58, 59, 60, 61, 68] (G79 121 [false, true, true, false]) [(53, .d (.int .i64 (IntKind.i64.wrap ((↑k : Int) + 1)))), (68, .d (.int .i64 (IntKind.i64.wrap ((↑k : Int) + 1))))] ?_
          simp (disch := omega) only [bsW]
          refine .kp [0, 3, 4, 7, 8, 9, 10, 11, 44, 45, 46, 51, 52, 53] ?_
          have ih := ih (k + 1) (by omega)
          rw [hsn, m1] at ih
          refine .su [0, 1, 2, 3, 4, 5, 6] (mk 133 [(0, .ptr 0 0 0), (3, .ptr 3 0 0), (4, .d (.list 2 (l.map nmD))), (7, .row 5), (8, .row 4), (9, .d (.int .i64 (i : Nat))), (10, .ptr 6 0 0), (11, .d (.bool (seenR l i k))), (44, .row 1), (45, .d (.int .i64 (d.files.length : Nat))), (46, .d (.int .i64 (i : Nat))), (51, .d (.list 2 (l.map nmD))), (52, .d (.int .i64 (l.length : Nat))), (53, .d (.int .i64 ((k + 1 : Nat) : Int)))]) (S79c d dir keep (mid (hasR l) i l k) fs f) ?_
          exact .seg 1 [0, 3, 4, 7, 8, 9, 10, 11, 44, 45, 46, 51, 52, 53] (by kernel_rfl) ih
      · simp only [bsX] at h1
        omega
end Go.Proofs.Ytoelkgbeefoplaa
namespace Go.Proofs.Ytoelkgbeefoplaa
open Go Go.Br Go.Proofs
open List (map)
def qF3 : List FP := [nF, fA 3, fR 3, nF, fA 3, fR 3, nF, nF, nF, nF, nF, nF, nF, fA 6, fR 6, nF, nF, nF]
theorem lo79d (d : Rk) (N : Nat) (h : d.Ok N) (dir : Int) (keep : List Int) (hk : keep.length < 1000000000) (hk0 : 0 < keep.length) (l l' : List (ByteArray × Int)) (i : Nat) (hi : i < d.files.length) (fs : List (List UInt8 × Nat)) (f : List UInt8 × Nat) (hf1 : f.2 ≤ f.1.length) (hf2 : f.1.length ≤ 1048576)
    (v : Int) (hw : keep[(irem (i : Int) ((List.map intD keep).length : Int)).toNat]? = some v) (B : Nat) (hB : B = (min v ((f.1.length : Int) - f.2)).toNat) (Q : AE → Store → Prop)
    (hnext : AW Try.prog 79 none 3 (G79 130 [false, true, false, false, true, false]) (mk 133 [(0, .ptr 0 0 0), (3, .ptr 3 0 0), (4, .d (.list 2 (l.map nmD))), (7, .row 5), (8, .row 4), (10, .ptr 6 0 0), (14, .d (.int .i64 ((f.2 + B : Nat) : Int))), (44, .row 1), (45, .d (.int .i64 (d.files.length : Nat))), (46, .d (.int .i64 (i : Nat)))]) (S79c d dir keep l' fs f) [] Q) : ∀ (m x : Nat), x + m = B →
    AW Try.prog 79 none 3 (G79 125 [false, true, false, false, true]) (mk 133 [(0, .ptr 0 0 0), (3, .ptr 3 0 0), (4, .d (.list 2 (l.map nmD))), (7, .row 5), (8, .row 4), (9, .d (.int .i64 (i : Nat))), (10, .ptr 6 0 0), (14, .d (.int .i64 ((f.2 + x : Nat) : Int))), (15, .d (.int .i64 (x : Nat))), (44, .row 1), (45, .d (.int .i64 (d.files.length : Nat))), (46, .d (.int .i64 (i : Nat)))]) (S79c d dir keep l' fs f) [] Q := by
  have q1 := h.fl
  have q2 := h.nb
  have hq := irem_n i keep.length
  have hlt : i % keep.length < keep.length := Nat.mod_lt _ hk0
  intro m
  induction m with
  | zero =>
    intro x hx
    have hx : x = B := by omega
    subst hx
    by_cases hg : decide ((x : Int) < v) = true
    · have hx2 : ¬ f.2 + x < f.1.length := by simp only [decide_eq_true_eq] at hg; omega
      have hx3 : (List.map u8 f.1).length = f.1.length := by simp
      refine .sg0 2 [0, 3, 4, 7, 8, 9, 10, 14, 15, 44, 45, 46] (G79 127 [false, true, false, false, true]) [] ?_
      refine .dr (G79 128 [false, true, false, false, true]) [(77, .d (.int .i64 (↑x : Int))), (78, .ptr 3 0 1), (79, .d (.list 1 (map intD keep))), (80, .d (.int .i64 (↑i : Int))), (81, .ptr 3 0 1), (82, .d (.list 1 (map intD keep))), (83, .d (.int .i64 (↑(map intD keep).length : Int))), (84, .d (.int .i64 (irem (↑i : Int) (↑(map intD keep).length : Int)))), (85, .ep 1 (D.int IntKind.i64 v) 0), (86, .d (.int .i64 v)), (87, .d (.bool true)), (88, .d (.bool true)), (89, .d (.int .i64 (↑(f.snd + x) : Int))), (90, .ptr 6 0 0), (91, .d (.list 1 (map u8 f.fst))), (92, .d (.int .i64 (↑(map u8 f.fst).length : Int))), (93, .d (.bool (decide ((↑(f.snd + x) : Int) < (↑(map u8 f.fst).length : Int))))), (94, .d (.bool (decide ((↑(f.snd + x) : Int) < (↑(map u8 f.fst).length : Int)))))] [] (fun kz L hL => ?_) ?_
      · refine ⟨qF3, run_amongF hL _ [] [0, 1, 2, 3, 4, 5, 6, 7, 8, 9, 10, 11, 12, 13, 14, 15, 16, 17] (by intro p hp; cases hp) (by kernel_rfl) ?_⟩
        refine Run.ap [0, 1, 2, 3, 4, 5, 6] [(77, .d (.int .i64 (↑x : Int))), (78, .ptr 3 0 1), (79, .d (.list 1 (map intD keep))), (80, .d (.int .i64 (↑i : Int))), (81, .ptr 3 0 1), (82, .d (.list 1 (map intD keep))), (83, .d (.int .i64 (↑(map intD keep).length : Int)))] [] ?_
        refine Run.lk 7 (.d (.int .i64 (irem (↑i : Int) (↑(map intD keep).length : Int)))) [(.tmp 80), (.tmp 83)] (fun tm' σ2 hv hr => rem_ok (t := 3) (ty := 3) (x := (.tmp 80)) (y := (.tmp 83)) (k := IntKind.i64) (a := (↑i : Int)) (b := (↑(map intD keep).length : Int)) (by kernel_rfl) (evv hv) (evv hv) (by grind)) ?_
        refine Run.lk 8 (.ep 1 (D.int IntKind.i64 v) 0) [(.tmp 79), (.tmp 84)] (fun tm' σ2 hv hr => ixData_ok (t := 46) (x := (.tmp 79)) (i := (.tmp 84)) (k := IntKind.i64) (n := irem (↑i : Int) (↑(map intD keep).length : Int)) (sz := 1) (xs := map intD keep) (d := intD v) (by kernel_rfl) (evl hv) (evv hv) (by kernel_rfl) (by simp <;> omega) (map_get hw)) ?_
        refine Run.append (A := [9, 10]) (srunF_ok (tm' := mk 133 [(0, .ptr 0 0 0), (3, .ptr 3 0 0), (4, .d (.list 2 (map nmD l))), (7, .row 5), (8, .row 4), (9, .d (.int .i64 (↑i : Int))), (10, .ptr 6 0 0), (14, .d (.int .i64 (↑(f.snd + x) : Int))), (15, .d (.int .i64 (↑x : Int))), (44, .row 1), (45, .d (.int .i64 (↑d.files.length : Int))), (46, .d (.int .i64 (↑i : Int))), (77, .d (.int .i64 (↑x : Int))), (78, .ptr 3 0 1), (79, .d (.list 1 (map intD keep))), (80, .d (.int .i64 (↑i : Int))), (81, .ptr 3 0 1), (82, .d (.list 1 (map intD keep))), (83, .d (.int .i64 (↑(map intD keep).length : Int))), (84, .d (.int .i64 (irem (↑i : Int) (↑(map intD keep).length : Int)))), (85, .ep 1 (D.int IntKind.i64 v) 0), (86, .d (.int .i64 v)), (87, .d (.bool (decide ((↑x : Int) < v))))]) (σ' := [.cells (rC 1 2 d), .row 2 (map fileD d.files) false, .row 3 (map chD d.ch) false, .cells [.d (.int .i64 dir), .d (.list 1 (map intD keep))], .row 2 (map nmD l') true, .row 2 (map fileD fs) true, .cells [.d (.list 1 (map u8 f.fst)), .d (.int .i64 (↑f.snd : Int))]]) (by kernel_rfl)) ?_
        rw [hg]
        exact Run.fin
      refine .if' (decide ((↑(f.snd + x) : Int) < (↑(map u8 f.fst).length : Int))) (G79 129 [false, true, false, false, true, true]) (G79 129 [false, true, false, false, true, false]) (fun h1 => ?_) (fun h1 => ?_)
      · simp only [bsX] at h1
        omega
      · simp only [bsX] at h1
        refine .seg 1 [0, 3, 4, 7, 8, 9, 10, 14, 15, 44, 45, 46, 77, 78, 79, 80, 81, 82, 83, 84, 85, 86, 87, 88, 89, 90, 91, 92, 93, 94] (T' := cgo 130 [false, true, false, false, true, false] [.code B79]) (tm' := mk 133 [(0, .ptr 0 0 0), (3, .ptr 3 0 0), (4, .d (.list 2 (map nmD l))), (7, .row 5), (8, .row 4), (9, .d (.int .i64 (↑i : Int))), (10, .ptr 6 0 0), (14, .d (.int .i64 (↑(f.snd + x) : Int))), (15, .d (.int .i64 (↑x : Int))), (44, .row 1), (45, .d (.int .i64 (↑d.files.length : Int))), (46, .d (.int .i64 (↑i : Int))), (77, .d (.int .i64 (↑x : Int))), (78, .ptr 3 0 1), (79, .d (.list 1 (map intD keep))), (80, .d (.int .i64 (↑i : Int))), (81, .ptr 3 0 1), (82, .d (.list 1 (map intD keep))), (83, .d (.int .i64 (↑(map intD keep).length : Int))), (84, .d (.int .i64 (irem (↑i : Int) (↑(map intD keep).length : Int)))), (85, .ep 1 (D.int IntKind.i64 v) 0), (86, .d (.int .i64 v)), (87, .d (.bool true)), (88, .d (.bool true)), (89, .d (.int .i64 (↑(f.snd + x) : Int))), (90, .ptr 6 0 0), (91, .d (.list 1 (map u8 f.fst))), (92, .d (.int .i64 (↑(map u8 f.fst).length : Int))), (93, .d (.bool (decide ((↑(f.snd + x) : Int) < (↑(map u8 f.fst).length : Int))))), (94, .d (.bool (decide ((↑(f.snd + x) : Int) < (↑(map u8 f.fst).length : Int)))))]) (σ' := [.cells (rC 1 2 d), .row 2 (map fileD d.files) false, .row 3 (map chD d.ch) false, .cells [.d (.int .i64 dir), .d (.list 1 (map intD keep))], .row 2 (map nmD l') true, .row 2 (map fileD fs) true, .cells [.d (.list 1 (map u8 f.fst)), .d (.int .i64 (↑f.snd : Int))]]) (by kernel_rfl) ?_
        simp only [List.length_map]
        simp (disch := omega) only [bsW]
        exact .seg 0 [0, 3, 4, 7, 8, 10, 14, 44, 45, 46] (by kernel_rfl) hnext
    · have hg : decide ((x : Int) < v) = false := by simpa using hg
      refine .sg0 2 [0, 3, 4, 7, 8, 9, 10, 14, 15, 44, 45, 46] (G79 127 [false, true, false, false, true]) [] ?_
      refine .dr (G79 128 [false, true, false, false, true]) [(77, .d (.int .i64 (↑x : Int))), (78, .ptr 3 0 1), (79, .d (.list 1 (map intD keep))), (80, .d (.int .i64 (↑i : Int))), (81, .ptr 3 0 1), (82, .d (.list 1 (map intD keep))), (83, .d (.int .i64 (↑(map intD keep).length : Int))), (84, .d (.int .i64 (irem (↑i : Int) (↑(map intD keep).length : Int)))), (85, .ep 1 (D.int IntKind.i64 v) 0), (86, .d (.int .i64 v)), (87, .d (.bool false)), (88, .d (.bool false)), (89, .tuple []), (90, .tuple []), (91, .tuple []), (92, .tuple []), (93, .tuple []), (94, .d (.bool false))] [] (fun kz L hL => ?_) ?_
      · refine ⟨[nF, fA 3, fR 3, nF, fA 3, fR 3, nF, nF, nF, nF, nF, nF, nF, nF, nF, nF, nF, nF], run_amongF hL _ [] [0, 1, 2, 3, 4, 5, 6, 7, 8, 9, 10, 11, 12, 13, 14, 15, 16, 17] (by intro p hp; cases hp) (by kernel_rfl) ?_⟩
        refine Run.ap [0, 1, 2, 3, 4, 5, 6] [(77, .d (.int .i64 (↑x : Int))), (78, .ptr 3 0 1), (79, .d (.list 1 (map intD keep))), (80, .d (.int .i64 (↑i : Int))), (81, .ptr 3 0 1), (82, .d (.list 1 (map intD keep))), (83, .d (.int .i64 (↑(map intD keep).length : Int)))] [] ?_
        refine Run.lk 7 (.d (.int .i64 (irem (↑i : Int) (↑(map intD keep).length : Int)))) [(.tmp 80), (.tmp 83)] (fun tm' σ2 hv hr => rem_ok (t := 3) (ty := 3) (x := (.tmp 80)) (y := (.tmp 83)) (k := IntKind.i64) (a := (↑i : Int)) (b := (↑(map intD keep).length : Int)) (by kernel_rfl) (evv hv) (evv hv) (by grind)) ?_
        refine Run.lk 8 (.ep 1 (D.int IntKind.i64 v) 0) [(.tmp 79), (.tmp 84)] (fun tm' σ2 hv hr => ixData_ok (t := 46) (x := (.tmp 79)) (i := (.tmp 84)) (k := IntKind.i64) (n := irem (↑i : Int) (↑(map intD keep).length : Int)) (sz := 1) (xs := map intD keep) (d := intD v) (by kernel_rfl) (evl hv) (evv hv) (by kernel_rfl) (by simp <;> omega) (map_get hw)) ?_
        refine Run.append (A := [9, 10]) (srunF_ok (tm' := mk 133 [(0, .ptr 0 0 0), (3, .ptr 3 0 0), (4, .d (.list 2 (map nmD l))), (7, .row 5), (8, .row 4), (9, .d (.int .i64 (↑i : Int))), (10, .ptr 6 0 0), (14, .d (.int .i64 (↑(f.snd + x) : Int))), (15, .d (.int .i64 (↑x : Int))), (44, .row 1), (45, .d (.int .i64 (↑d.files.length : Int))), (46, .d (.int .i64 (↑i : Int))), (77, .d (.int .i64 (↑x : Int))), (78, .ptr 3 0 1), (79, .d (.list 1 (map intD keep))), (80, .d (.int .i64 (↑i : Int))), (81, .ptr 3 0 1), (82, .d (.list 1 (map intD keep))), (83, .d (.int .i64 (↑(map intD keep).length : Int))), (84, .d (.int .i64 (irem (↑i : Int) (↑(map intD keep).length : Int)))), (85, .ep 1 (D.int IntKind.i64 v) 0), (86, .d (.int .i64 v)), (87, .d (.bool (decide ((↑x : Int) < v))))]) (σ' := [.cells (rC 1 2 d), .row 2 (map fileD d.files) false, .row 3 (map chD d.ch) false, .cells [.d (.int .i64 dir), .d (.list 1 (map intD keep))], .row 2 (map nmD l') true, .row 2 (map fileD fs) true, .cells [.d (.list 1 (map u8 f.fst)), .d (.int .i64 (↑f.snd : Int))]]) (by kernel_rfl)) ?_
        rw [hg]
        exact Run.fin
      refine .seg 2 [0, 3, 4, 7, 8, 9, 10, 14, 15, 44, 45, 46, 77, 78, 79, 80, 81, 82, 83, 84, 85, 86, 87, 88, 89, 90, 91, 92, 93, 94] (T' := cgo 130 [false, true, false, false, true, false] [.code B79]) (tm' := mk 133 [(0, .ptr 0 0 0), (3, .ptr 3 0 0), (4, .d (.list 2 (map nmD l))), (7, .row 5), (8, .row 4), (9, .d (.int .i64 (↑i : Int))), (10, .ptr 6 0 0), (14, .d (.int .i64 (↑(f.snd + x) : Int))), (15, .d (.int .i64 (↑x : Int))), (44, .row 1), (45, .d (.int .i64 (↑d.files.length : Int))), (46, .d (.int .i64 (↑i : Int))), (77, .d (.int .i64 (↑x : Int))), (78, .ptr 3 0 1), (79, .d (.list 1 (map intD keep))), (80, .d (.int .i64 (↑i : Int))), (81, .ptr 3 0 1), (82, .d (.list 1 (map intD keep))), (83, .d (.int .i64 (↑(map intD keep).length : Int))), (84, .d (.int .i64 (irem (↑i : Int) (↑(map intD keep).length : Int)))), (85, .ep 1 (D.int IntKind.i64 v) 0), (86, .d (.int .i64 v)), (87, .d (.bool false)), (88, .d (.bool false)), (89, .tuple []), (90, .tuple []), (91, .tuple []), (92, .tuple []), (93, .tuple []), (94, .d (.bool false))]) (σ' := [.cells (rC 1 2 d), .row 2 (map fileD d.files) false, .row 3 (map chD d.ch) false, .cells [.d (.int .i64 dir), .d (.list 1 (map intD keep))], .row 2 (map nmD l') true, .row 2 (map fileD fs) true, .cells [.d (.list 1 (map u8 f.fst)), .d (.int .i64 (↑f.snd : Int))]]) (by kernel_rfl) ?_
      simp only [List.length_map]
      simp (disch := omega) only [bsW]
      exact .seg 0 [0, 3, 4, 7, 8, 10, 14, 44, 45, 46] (by kernel_rfl) hnext
  | succ m ih =>
    intro x hx
    have hg : decide ((x : Int) < v) = true := by simp only [decide_eq_true_eq]; omega
    have hx2 : f.2 + x < f.1.length := by omega
    have hx3 : (List.map u8 f.1).length = f.1.length := by simp
    clear hnext
    refine .sg0 2 [0, 3, 4, 7, 8, 9, 10, 14, 15, 44, 45, 46] (G79 127 [false, true, false, false, true]) [] ?_
    refine .dr (G79 128 [false, true, false, false, true]) [(77, .d (.int .i64 (↑x : Int))), (78, .ptr 3 0 1), (79, .d (.list 1 (map intD keep))), (80, .d (.int .i64 (↑i : Int))), (81, .ptr 3 0 1), (82, .d (.list 1 (map intD keep))), (83, .d (.int .i64 (↑(map intD keep).length : Int))), (84, .d (.int .i64 (irem (↑i : Int) (↑(map intD keep).length : Int)))), (85, .ep 1 (D.int IntKind.i64 v) 0), (86, .d (.int .i64 v)), (87, .d (.bool true)), (88, .d (.bool true)), (89, .d (.int .i64 (↑(f.snd + x) : Int))), (90, .ptr 6 0 0), (91, .d (.list 1 (map u8 f.fst))), (92, .d (.int .i64 (↑(map u8 f.fst).length : Int))), (93, .d (.bool (decide ((↑(f.snd + x) : Int) < (↑(map u8 f.fst).length : Int))))), (94, .d (.bool (decide ((↑(f.snd + x) : Int) < (↑(map u8 f.fst).length : Int)))))] [] (fun kz L hL => ?_) ?_
    · refine ⟨qF3, run_amongF hL _ [] [0, 1, 2, 3, 4, 5, 6, 7, 8, 9, 10, 11, 12, 13, 14, 15, 16, 17] (by intro p hp; cases hp) (by kernel_rfl) ?_⟩
      refine Run.ap [0, 1, 2, 3, 4, 5, 6] [(77, .d (.int .i64 (↑x : Int))), (78, .ptr 3 0 1), (79, .d (.list 1 (map intD keep))), (80, .d (.int .i64 (↑i : Int))), (81, .ptr 3 0 1), (82, .d (.list 1 (map intD keep))), (83, .d (.int .i64 (↑(map intD keep).length : Int)))] [] ?_
      refine Run.lk 7 (.d (.int .i64 (irem (↑i : Int) (↑(map intD keep).length : Int)))) [(.tmp 80), (.tmp 83)] (fun tm' σ2 hv hr => rem_ok (t := 3) (ty := 3) (x := (.tmp 80)) (y := (.tmp 83)) (k := IntKind.i64) (a := (↑i : Int)) (b := (↑(map intD keep).length : Int)) (by kernel_rfl) (evv hv) (evv hv) (by grind)) ?_
      refine Run.lk 8 (.ep 1 (D.int IntKind.i64 v) 0) [(.tmp 79), (.tmp 84)] (fun tm' σ2 hv hr => ixData_ok (t := 46) (x := (.tmp 79)) (i := (.tmp 84)) (k := IntKind.i64) (n := irem (↑i : Int) (↑(map intD keep).length : Int)) (sz := 1) (xs := map intD keep) (d := intD v) (by kernel_rfl) (evl hv) (evv hv) (by kernel_rfl) (by simp <;> omega) (map_get hw)) ?_
      refine Run.append (A := [9, 10]) (srunF_ok (tm' := mk 133 [(0, .ptr 0 0 0), (3, .ptr 3 0 0), (4, .d (.list 2 (map nmD l))), (7, .row 5), (8, .row 4), (9, .d (.int .i64 (↑i : Int))), (10, .ptr 6 0 0), (14, .d (.int .i64 (↑(f.snd + x) : Int))), (15, .d (.int .i64 (↑x : Int))), (44, .row 1), (45, .d (.int .i64 (↑d.files.length : Int))), (46, .d (.int .i64 (↑i : Int))), (77, .d (.int .i64 (↑x : Int))), (78, .ptr 3 0 1), (79, .d (.list 1 (map intD keep))), (80, .d (.int .i64 (↑i : Int))), (81, .ptr 3 0 1), (82, .d (.list 1 (map intD keep))), (83, .d (.int .i64 (↑(map intD keep).length : Int))), (84, .d (.int .i64 (irem (↑i : Int) (↑(map intD keep).length : Int)))), (85, .ep 1 (D.int IntKind.i64 v) 0), (86, .d (.int .i64 v)), (87, .d (.bool (decide ((↑x : Int) < v))))]) (σ' := [.cells (rC 1 2 d), .row 2 (map fileD d.files) false, .row 3 (map chD d.ch) false, .cells [.d (.int .i64 dir), .d (.list 1 (map intD keep))], .row 2 (map nmD l') true, .row 2 (map fileD fs) true, .cells [.d (.list 1 (map u8 f.fst)), .d (.int .i64 (↑f.snd : Int))]]) (by kernel_rfl)) ?_
      rw [hg]
      exact Run.fin
    refine .if' (decide ((↑(f.snd + x) : Int) < (↑(map u8 f.fst).length : Int))) (G79 129 [false, true, false, false, true, true]) (G79 129 [false, true, false, false, true, false]) (fun h1 => ?_) (fun h1 => ?_)
    · simp only [bsX] at h1
      refine .sg0 14 [0, 3, 4, 7, 8, 9, 10, 14, 15, 44, 45, 46, 77, 78, 79, 80, 81, 82, 83, 84, 85, 86, 87, 88, 89, 90, 91, 92, 93, 94, 95, 96, 97, 98] (G79 143 [false, true, false, false, true, true]) [(14, .d (.int .i64 (IntKind.i64.wrap ((↑(f.snd + x) : Int) + 1)))), (15, .d (.int .i64 (IntKind.i64.wrap ((↑x : Int) + 1)))), (95, .d (.int .i64 (↑x : Int))), (96, .d (.int .i64 (IntKind.i64.wrap ((↑x : Int) + 1)))), (97, .d (.int .i64 (↑(f.snd + x) : Int))), (98, .d (.int .i64 (IntKind.i64.wrap ((↑(f.snd + x) : Int) + 1))))] ?_
      simp only [List.length_map]
      simp (disch := omega) only [bsW]
      refine .kp [0, 3, 4, 7, 8, 9, 10, 14, 15, 44, 45, 46] ?_
      refine .su [0, 1, 2, 3, 4, 5, 6] (mk 133 [(0, .ptr 0 0 0), (3, .ptr 3 0 0), (4, .d (.list 2 (l.map nmD))), (7, .row 5), (8, .row 4), (9, .d (.int .i64 (i : Nat))), (10, .ptr 6 0 0), (14, .d (.int .i64 ((f.2 + (x + 1) : Nat) : Int))), (15, .d (.int .i64 ((x + 1 : Nat) : Int))), (44, .row 1), (45, .d (.int .i64 (d.files.length : Nat))), (46, .d (.int .i64 (i : Nat)))]) (S79c d dir keep l' fs f) ?_
      exact .seg 1 [0, 3, 4, 7, 8, 9, 10, 14, 15, 44, 45, 46] (by kernel_rfl) (ih (x + 1) (by omega))
    · simp only [bsX] at h1
      omega
end Go.Proofs.Ytoelkgbeefoplaa
