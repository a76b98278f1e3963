/- Part 12 of this proof. -/
import Derived.Test.YtoelkgbeefoplaaM11
set_option linter.unusedSimpArgs false
set_option linter.unusedVariables false
set_option linter.constructorNameAsVariable false
namespace Go.Proofs.Ytoelkgbeefoplaa
open Go Go.Br Go.Proofs
open List (map)
theorem Rk.file_ok {b : Rk} {N : Nat} (h : b.Ok N) (hN : N + 1 ≤ 50000) : ({ b with files := b.files ++ [([], 0)] } : Rk).Ok (N + 1) := by
 have := h.fl; have := h.nl; have := h.chl; have := h.cl
 refine ⟨fun p hp => ?_, fun f hf => ?_, by simp; omega, by show b.now.length ≤ _; omega, by show b.ch.length ≤ _; omega, h.c0, by show b.calls ≤ _; omega, h.s0, h.s1, h.q0, h.q1, hN⟩
 · have := h.nn p hp
   rw [List.length_append]
   exact ⟨this.1, by omega⟩
 · rcases List.mem_append.1 hf with h1 | h1
   · exact h.fs f h1
   · rw [List.mem_singleton.1 h1]; exact ⟨Nat.le_refl _, by simp⟩
theorem kind0 (b : Rk) (N : Nat) (h : b.Ok N) (hN : N + 1 ≤ 50000) (x y : ByteArray) (hx : x.size < 1000000000) (v4 : V) (hm : mayName x = true) (h0 : 0 ≤ atR b.now x ∨ (b.now.length : Int) < 1024) :
    AW Try.prog 77 none 3 (G77 47 [false, false, false]) (mk 214 [(0, .ptr 0 0 0), (1, .d (.int .i64 0)), (2, .d (.str x)), (3, .d (.str y)), (4, v4), (10, .d (.int .i64 0))]) (SR b false) [] fun r σ' => r = .ret (.d (.int .i64 0)) ∧ σ' = SR { b with files := b.files ++ [([], 0)], now := applyR b.now (noName, x, ((b.files.length : Nat) : Int)), ch := b.ch ++ [(noName, x, ((b.files.length : Nat) : Int))] } true := by
  have hnl := h.nl
  have hnb := h.nb
  have hfl := h.fl
  have hfs := h.fs
  refine .raises [1, 2] ?_
  have hend := tail77 { b with files := b.files ++ [([], 0)] } (N + 1) (Rk.file_ok h hN) (noName, x, ((b.files.length : Nat) : Int))
  have e1 : IntKind.i64.wrap (((List.map fileD b.files ++ [D.agg [D.list 1 [], D.int IntKind.i64 0]]).length : Int) - 1) = (b.files.length : Nat) := by
    rw [wrap_i64 (by simp <;> omega) (by simp <;> omega)]
    simp
  have e2 : List.map fileD b.files ++ [D.agg [D.list 1 [], D.int IntKind.i64 0]] = (b.files ++ [([], 0)]).map fileD := by simp [fileD, bsD, i64]
  clear h hfs
  refine .sge 7 [0, 1, 2, 3, 4, 10, 44, 45, 46, 47] (G77 54 [false, false, false]) ?_
  refine .cd (G77 55 [false, false, false]) F29 (@spec_29 (x) (by omega)) ?_
  refine .sg0 3 [0, 1, 2, 3, 4, 10, 44, 45, 46, 47, 48, 49, 50, 51] (G77 58 [false, false, false]) [(49, .d (.bool !mayName x)), (50, .d (.bool !mayName x)), (51, .d (.bool !mayName x))] ?_
  rcases Bool.eq_false_or_eq_true (!mayName x) with h1 | h1
  · rw [h1]
    simp only [bsX] at h1
    simp_all
  · rw [h1]
    simp only [bsX] at h1
    refine .sge 18 [0, 1, 2, 3, 4, 10, 60, 61, 62, 63, 64] (G77 76 [false, false, false, false]) ?_
    refine .cd (G77 77 [false, false, false, false]) F102 (@spec_102 (b.now) (x) (by omega)) ?_
    refine .sg 42 [0, 2, 10, 11, 12, 82, 83, 84] (G77 119 [false, false, false, false, false, true]) [(11, .d (.int .i64 (atR b.now x))), (12, .ptr 3 0 0), (82, .d (.int .i64 (atR b.now x))), (83, .d (.bool (decide (atR b.now x < 0)))), (84, .d (.bool (decide (atR b.now x < 0))))] [(3, .cells [.d (.str (ByteArray.mk #[])), .d (.str (ByteArray.mk #[])), .d (.int .i64 0)])] ?_
    rcases Bool.eq_false_or_eq_true (decide (atR b.now x < 0)) with h2 | h2
    · rw [h2]
      simp only [bsX] at h2
      refine .sg0 8 [0, 2, 10, 12, 91] (G77 127 [false, false, false, false, false, true]) [(91, .d (.bool (decide ((↑(map nmD b.now).length : Int) ≥ 1024))))] ?_
      simp only [List.length_map]
      refine .if' (decide ((↑b.now.length : Int) ≥ 1024)) (G77 128 [false, false, false, false, false, true, true]) (G77 128 [false, false, false, false, false, true, false]) (fun h3 => ?_) (fun h3 => ?_)
      · simp only [bsX] at h3
        omega
      · simp only [bsX] at h3
        refine .sge 10 [0, 2, 10, 12, 92, 93, 94, 95, 96, 97, 98] (G77 138 [false, false, false, false, false, true, false]) ?_
        refine .op' (G77 139 [false, false, false, false, false, true, false]) (appRow_ok (s := (.tmp 96)) (x := (.tmp 98)) (t := 68) (t2 := 68) (sz := 2) (by' := 32) (ys := [D.agg [D.list 1 [], D.int IntKind.i64 0]]) (l := 1) (xs := map fileD b.files) (mv := true) (by kernel_rfl) (by kernel_rfl) (by kernel_rfl) (by kernel_rfl) (by kernel_rfl) (by kernel_rfl) (by simp <;> omega) (by first | (simp [maxLen] <;> omega) | omega)) ?_
        refine .sg 18 [0, 10, 12] (G77 157 [false, false, false, false, false, true, false]) [] [(0, .cells (rC 1 2 b)), (3, .cells [.d (.str (ByteArray.mk #[])), .d (.str x), .d (.int .i64 (IntKind.i64.wrap ((↑(map fileD b.files ++ [D.agg [D.list 1 [], D.int IntKind.i64 0]]).length : Int) - 1)))])] ?_
        rw [e1, e2]
        refine .su [0, 1, 2, 3] (mk 214 [(0, .ptr 0 0 0), (10, .d (.int .i64 0)), (12, .ptr 3 0 0)]) [.cells [.row 1, .d (.list 2 (b.now.map nmD)), .d (.list 2 (b.sure.map nmD)), .row 2, .d (.int .i64 b.quota), .d (.bool b.full), .d (.bool b.off), .d (.int .i64 b.stop), .d (.int .i64 b.calls)],
          .row 2 ((b.files ++ [([], 0)]).map fileD) true, .row 3 (b.ch.map chD) true, .cells [.d (.str noName), .d (.str x), .d (.int .i64 (b.files.length : Nat))]] ?_
        exact .goes [0, 10, 12] (by kernel_rfl) (by kernel_rfl) (by kernel_rfl) hend
    · rw [h2]
      simp only [bsX] at h2
      refine .sge 19 [0, 2, 10, 12, 92, 93, 94, 95, 96, 97, 98] (G77 138 [false, false, false, false, false, true, false]) ?_
      refine .op' (G77 139 [false, false, false, false, false, true, false]) (appRow_ok (s := (.tmp 96)) (x := (.tmp 98)) (t := 68) (t2 := 68) (sz := 2) (by' := 32) (ys := [D.agg [D.list 1 [], D.int IntKind.i64 0]]) (l := 1) (xs := map fileD b.files) (mv := true) (by kernel_rfl) (by kernel_rfl) (by kernel_rfl) (by kernel_rfl) (by kernel_rfl) (by kernel_rfl) (by simp <;> omega) (by first | (simp [maxLen] <;> omega) | omega)) ?_
      refine .sg 18 [0, 10, 12] (G77 157 [false, false, false, false, false, true, false]) [] [(0, .cells (rC 1 2 b)), (3, .cells [.d (.str (ByteArray.mk #[])), .d (.str x), .d (.int .i64 (IntKind.i64.wrap ((↑(map fileD b.files ++ [D.agg [D.list 1 [], D.int IntKind.i64 0]]).length : Int) - 1)))])] ?_
      rw [e1, e2]
      refine .su [0, 1, 2, 3] (mk 214 [(0, .ptr 0 0 0), (10, .d (.int .i64 0)), (12, .ptr 3 0 0)]) [.cells [.row 1, .d (.list 2 (b.now.map nmD)), .d (.list 2 (b.sure.map nmD)), .row 2, .d (.int .i64 b.quota), .d (.bool b.full), .d (.bool b.off), .d (.int .i64 b.stop), .d (.int .i64 b.calls)],
        .row 2 ((b.files ++ [([], 0)]).map fileD) true, .row 3 (b.ch.map chD) true, .cells [.d (.str noName), .d (.str x), .d (.int .i64 (b.files.length : Nat))]] ?_
      exact .goes [0, 10, 12] (by kernel_rfl) (by kernel_rfl) (by kernel_rfl) hend
theorem kind0b (b : Rk) (N : Nat) (h : b.Ok N) (x y : ByteArray) (hx : x.size < 1000000000) (v4 : V) (hm : mayName x = true) (h0 : atR b.now x < 0) (h1024 : 1024 ≤ b.now.length) :
    AW Try.prog 77 none 3 (G77 47 [false, false, false]) (mk 214 [(0, .ptr 0 0 0), (1, .d (.int .i64 0)), (2, .d (.str x)), (3, .d (.str y)), (4, v4), (10, .d (.int .i64 0))]) (SR b false) [] fun r σ' => r = .ret (.d (.int .i64 2)) ∧ σ' = SR b true := by
  have hnl := h.nl
  have hnb := h.nb
  have hfl := h.fl
  have hfs := h.fs
  refine .raises [1, 2] ?_
  clear h hfs
  refine .sge 7 [0, 1, 2, 3, 4, 10, 44, 45, 46, 47] (G77 54 [false, false, false]) ?_
  refine .cd (G77 55 [false, false, false]) F29 (@spec_29 (x) (by omega)) ?_
  refine .sg0 3 [0, 1, 2, 3, 4, 10, 44, 45, 46, 47, 48, 49, 50, 51] (G77 58 [false, false, false]) [(49, .d (.bool !mayName x)), (50, .d (.bool !mayName x)), (51, .d (.bool !mayName x))] ?_
  rcases Bool.eq_false_or_eq_true (!mayName x) with h1 | h1
  · rw [h1]
    simp only [bsX] at h1
    simp_all
  · rw [h1]
    simp only [bsX] at h1
    refine .sge 18 [0, 1, 2, 3, 4, 10, 60, 61, 62, 63, 64] (G77 76 [false, false, false, false]) ?_
    refine .cd (G77 77 [false, false, false, false]) F102 (@spec_102 (b.now) (x) (by omega)) ?_
    refine .sg 42 [0, 2, 10, 11, 12, 82, 83, 84] (G77 119 [false, false, false, false, false, true]) [(11, .d (.int .i64 (atR b.now x))), (12, .ptr 3 0 0), (82, .d (.int .i64 (atR b.now x))), (83, .d (.bool (decide (atR b.now x < 0)))), (84, .d (.bool (decide (atR b.now x < 0))))] [(3, .cells [.d (.str (ByteArray.mk #[])), .d (.str (ByteArray.mk #[])), .d (.int .i64 0)])] ?_
    rcases Bool.eq_false_or_eq_true (decide (atR b.now x < 0)) with h2 | h2
    · rw [h2]
      simp only [bsX] at h2
      refine .sg0 8 [0, 2, 10, 12, 91] (G77 127 [false, false, false, false, false, true]) [(91, .d (.bool (decide ((↑(map nmD b.now).length : Int) ≥ 1024))))] ?_
      simp only [List.length_map]
      refine .if' (decide ((↑b.now.length : Int) ≥ 1024)) (G77 128 [false, false, false, false, false, true, true]) (G77 128 [false, false, false, false, false, true, false]) (fun h3 => ?_) (fun h3 => ?_)
      · simp only [bsX] at h3
        refine .sg0 4 [0, 2, 10, 12] (G77 132 [false, false, false, false, false, true, true]) [(10, .d (.int .i64 2))] ?_
        refine .kp [10] ?_
        refine .su [0, 1, 2] (mk 214 [(10, .d (.int .i64 2))]) (SQ b true []) ?_
        refine .rt F77 (V.d (D.int IntKind.i64 2)) ?_
        exact ⟨rfl, by kernel_rfl⟩
      · simp only [bsX] at h3
        omega
    · rw [h2]
      simp only [bsX] at h2
      omega
theorem Rk.used_le {d : Rk} {N : Nat} (h : d.Ok N) : d.used ≤ 52428800000 := by
 have h1 := Rk.acc_le h d.now.length
 have h2 := h.nl
 have h3 := h.nb
 unfold Rk.acc at h1
 rw [List.take_length] at h1
 unfold Rk.used
 omega
theorem kind1a (b : Rk) (N : Nat) (h : b.Ok N) (x y : ByteArray) (hx : x.size < 1000000000) (bs : List UInt8) (hb : bs.length < 1000000) (hm : mayName x = true) (h0 : 0 ≤ atR b.now x) (f : List UInt8 × Nat) (hf : b.files[(atR b.now x).toNat]? = some f) (hbig : 1048576 < f.1.length + bs.length) :
    AW Try.prog 77 none 3 (G77 47 [false, false, false]) (mk 214 [(0, .ptr 0 0 0), (1, .d (.int .i64 1)), (2, .d (.str x)), (3, .d (.str y)), (4, .d (.list 1 (bs.map u8))), (10, .d (.int .i64 0))]) (SR b false) [] fun r σ' => r = .ret (.d (.int .i64 2)) ∧ σ' = SR b true := by
  have hnl := h.nl
  have hnb := h.nb
  have hfl := h.fl
  have hfs := h.fs
  refine .raises [1, 2] ?_
  have hff := (hfs f (List.mem_of_getElem? hf)).2
  clear h hfs
  refine .sge 7 [0, 1, 2, 3, 4, 10, 44, 45, 46, 47] (G77 54 [false, false, false]) ?_
  refine .cd (G77 55 [false, false, false]) F29 (@spec_29 (x) (by omega)) ?_
  refine .sg0 3 [0, 1, 2, 3, 4, 10, 44, 45, 46, 47, 48, 49, 50, 51] (G77 58 [false, false, false]) [(49, .d (.bool !mayName x)), (50, .d (.bool !mayName x)), (51, .d (.bool !mayName x))] ?_
  rcases Bool.eq_false_or_eq_true (!mayName x) with h1 | h1
  · rw [h1]
    simp only [bsX] at h1
    simp_all
  · rw [h1]
    simp only [bsX] at h1
    refine .sge 18 [0, 1, 2, 3, 4, 10, 60, 61, 62, 63, 64] (G77 76 [false, false, false, false]) ?_
    refine .cd (G77 77 [false, false, false, false]) F102 (@spec_102 (b.now) (x) (by omega)) ?_
    refine .sge 16 [0, 1, 2, 3, 4, 10, 11, 75] (G77 93 [false, false, false, false]) ?_
    refine .if' (decide (atR b.now x < 0)) (G77 94 [false, false, false, false, true]) (G77 94 [false, false, false, false, false]) (fun h2 => ?_) (fun h2 => ?_)
    · simp only [bsX] at h2
      omega
    · simp only [bsX] at h2
      refine .sge 33 [0, 4, 10, 11, 12, 113, 114, 115, 116, 117] (G77 127 [false, false, false, false, false, false, true]) ?_
      refine .op' (G77 128 [false, false, false, false, false, false, true]) (ixRow_ok (t := 68) (x := (.tmp 116)) (i := (.tmp 117)) (k := IntKind.i64) (n := atR b.now x) (l := 1) (sz := 2) (xs := map fileD b.files) (mv := true) (by kernel_rfl) (by kernel_rfl) (by kernel_rfl) (by kernel_rfl) (by kernel_rfl) (by assumption) (by grind)) ?_
      refine .sge 1 [0, 4, 10, 11, 12, 113, 114, 115, 116, 117, 118, 119] (G77 129 [false, false, false, false, false, false, true]) ?_
      refine .ld (G77 130 [false, false, false, false, false, false, true]) (xs := map fileD b.files) (map_get hf) ?_
      refine .sg0 6 [0, 4, 10, 11, 12, 125] (G77 136 [false, false, false, false, false, false, true]) [(125, .d (.bool (decide (IntKind.i64.wrap ((↑(map u8 f.fst).length : Int) + (↑(map u8 bs).length : Int)) > 1048576))))] ?_
      simp only [List.length_map]
      simp (disch := omega) only [bsW]
      refine .if' (decide ((↑f.fst.length : Int) + (↑bs.length : Int) > 1048576)) (G77 137 [false, false, false, false, false, false, true, true]) (G77 137 [false, false, false, false, false, false, true, false]) (fun h3 => ?_) (fun h3 => ?_)
      · simp only [bsX] at h3
        refine .sg0 4 [0, 4, 10, 11, 12] (G77 141 [false, false, false, false, false, false, true, true]) [(10, .d (.int .i64 2))] ?_
        refine .kp [10] ?_
        refine .su [0, 1, 2] (mk 214 [(10, .d (.int .i64 2))]) (SQ b true []) ?_
        refine .rt F77 (V.d (D.int IntKind.i64 2)) ?_
        exact ⟨rfl, by kernel_rfl⟩
      · simp only [bsX] at h3
        omega
theorem kind1b (b : Rk) (N : Nat) (h : b.Ok N) (x y : ByteArray) (hx : x.size < 1000000000) (bs : List UInt8) (hb : bs.length < 1000000) (hm : mayName x = true) (h0 : 0 ≤ atR b.now x) (f : List UInt8 × Nat) (hf : b.files[(atR b.now x).toNat]? = some f) (hbig : f.1.length + bs.length ≤ 1048576) (hq : b.quota < b.used + bs.length) :
    AW Try.prog 77 none 3 (G77 47 [false, false, false]) (mk 214 [(0, .ptr 0 0 0), (1, .d (.int .i64 1)), (2, .d (.str x)), (3, .d (.str y)), (4, .d (.list 1 (bs.map u8))), (10, .d (.int .i64 0))]) (SR b false) [] fun r σ' => r = .ret (.d (.int .i64 4)) ∧ σ' = SR { b with full := true } true := by
  have hnl := h.nl
  have hnb := h.nb
  have hfl := h.fl
  have hfs := h.fs
  refine .raises [1, 2] ?_
  have hff := (hfs f (List.mem_of_getElem? hf)).2
  have hu := Rk.used_le h
  have hw : IntKind.i64.wrap ((b.used : Int) + ((bs.map u8).length : Int)) = b.used + bs.length := by rw [List.length_map]; exact wrap_i64 (by omega) (by omega)
  have hw2 : IntKind.i64.wrap ((b.used : Int) + ((bs.map u8).length : Int)) > b.quota := by rw [hw]; omega
  clear hw
  clear hfs
  refine .sge 7 [0, 1, 2, 3, 4, 10, 44, 45, 46, 47] (G77 54 [false, false, false]) ?_
  refine .cd (G77 55 [false, false, false]) F29 (@spec_29 (x) (by omega)) ?_
  refine .sg0 3 [0, 1, 2, 3, 4, 10, 44, 45, 46, 47, 48, 49, 50, 51] (G77 58 [false, false, false]) [(49, .d (.bool !mayName x)), (50, .d (.bool !mayName x)), (51, .d (.bool !mayName x))] ?_
  rcases Bool.eq_false_or_eq_true (!mayName x) with h1 | h1
  · rw [h1]
    simp only [bsX] at h1
    simp_all
  · rw [h1]
    simp only [bsX] at h1
    refine .sge 18 [0, 1, 2, 3, 4, 10, 60, 61, 62, 63, 64] (G77 76 [false, false, false, false]) ?_
    refine .cd (G77 77 [false, false, false, false]) F102 (@spec_102 (b.now) (x) (by omega)) ?_
    refine .sge 16 [0, 1, 2, 3, 4, 10, 11, 75] (G77 93 [false, false, false, false]) ?_
    refine .if' (decide (atR b.now x < 0)) (G77 94 [false, false, false, false, true]) (G77 94 [false, false, false, false, false]) (fun h2 => ?_) (fun h2 => ?_)
    · simp only [bsX] at h2
      omega
    · simp only [bsX] at h2
      refine .sge 33 [0, 4, 10, 11, 12, 113, 114, 115, 116, 117] (G77 127 [false, false, false, false, false, false, true]) ?_
      refine .op' (G77 128 [false, false, false, false, false, false, true]) (ixRow_ok (t := 68) (x := (.tmp 116)) (i := (.tmp 117)) (k := IntKind.i64) (n := atR b.now x) (l := 1) (sz := 2) (xs := map fileD b.files) (mv := true) (by kernel_rfl) (by kernel_rfl) (by kernel_rfl) (by kernel_rfl) (by kernel_rfl) (by assumption) (by grind)) ?_
      refine .sge 1 [0, 4, 10, 11, 12, 113, 114, 115, 116, 117, 118, 119] (G77 129 [false, false, false, false, false, false, true]) ?_
      refine .ld (G77 130 [false, false, false, false, false, false, true]) (xs := map fileD b.files) (map_get hf) ?_
      refine .sg0 6 [0, 4, 10, 11, 12, 125] (G77 136 [false, false, false, false, false, false, true]) [(125, .d (.bool (decide (IntKind.i64.wrap ((↑(map u8 f.fst).length : Int) + (↑(map u8 bs).length : Int)) > 1048576))))] ?_
      simp only [List.length_map]
      simp (disch := omega) only [bsW]
      refine .if' (decide ((↑f.fst.length : Int) + (↑bs.length : Int) > 1048576)) (G77 137 [false, false, false, false, false, false, true, true]) (G77 137 [false, false, false, false, false, false, true, false]) (fun h3 => ?_) (fun h3 => ?_)
      · simp only [bsX] at h3
        omega
      · simp only [bsX] at h3
        refine .sg0 3 [0, 4, 10, 11, 12] (G77 140 [false, false, false, false, false, false, true, false]) [] ?_
        refine .dr (G77 141 [false, false, false, false, false, false, true, false]) [(126, .ptr 0 0 0), (127, .d (.int .i64 (↑b.used : Int))), (128, .d (.list 1 (map u8 bs))), (129, .d (.int .i64 (↑(map u8 bs).length : Int))), (130, .d (.int .i64 (IntKind.i64.wrap ((↑b.used : Int) + (↑(map u8 bs).length : Int))))), (131, .ptr 0 0 0), (132, .ptr 0 0 0), (133, .ptr 0 0 4), (134, .d (.int .i64 b.quota)), (135, .d (.bool (decide (IntKind.i64.wrap ((↑b.used : Int) + (↑(map u8 bs).length : Int)) > b.quota))))] [] (fun kz L hL => ?_) ?_
        · refine ⟨[fO 0, fX [0, 1, 2] [] [] [] [0, 1, 2], nF, nF, nF, fO 0, fA 0, fA 0, fX [0] [] [] [] [0, 1, 2], nF], run_amongF hL _ [] [0, 2, 5, 6, 7, 8, 1, 3, 4, 9] (by intro p hp; cases hp) (by kernel_rfl) ?_⟩
          refine Run.ap [0, 2, 5, 6, 7, 8] [(126, .ptr 0 0 0), (128, .d (.list 1 (map u8 bs))), (131, .ptr 0 0 0), (132, .ptr 0 0 0), (133, .ptr 0 0 4), (134, .d (.int .i64 b.quota))] [] ?_
          refine Run.cll 1 [0, 1, 2] F83 (@spec_83 (b) (N) (by assumption)) ?_
          exact Run.fin
        refine .if' (decide (IntKind.i64.wrap ((↑b.used : Int) + (↑(map u8 bs).length : Int)) > b.quota)) (G77 142 [false, false, false, false, false, false, true, false, true]) (G77 142 [false, false, false, false, false, false, true, false, false]) (fun h7 => ?_) (fun h7 => ?_)
        · simp only [bsX] at h7
          refine .sge 11 [0, 4, 10, 11, 12] (G77 153 [false, false, false, false, false, false, true, false, true]) ?_
          refine .kp [10] ?_
          refine .su [0, 1, 2] (mk 214 [(10, .d (.int .i64 4))]) [.cells [.row 1, .d (.list 2 (map nmD b.now)), .d (.list 2 (map nmD b.sure)), .row 2, .d (.int .i64 b.quota), .d (.bool true), .d (.bool b.off), .d (.int .i64 b.stop), .d (.int .i64 b.calls)], .row 2 (map fileD b.files) true, .row 3 (map chD b.ch) true] ?_
          refine .rt F77 (V.d (D.int IntKind.i64 4)) ?_
          exact ⟨rfl, by kernel_rfl⟩
        · simp only [bsX] at h7
          omega
theorem kind1c (b : Rk) (N : Nat) (h : b.Ok N) (x y : ByteArray) (hx : x.size < 1000000000) (bs : List UInt8) (hb : bs.length < 1000000) (hm : mayName x = true) (h0 : 0 ≤ atR b.now x) (f : List UInt8 × Nat) (hf : b.files[(atR b.now x).toNat]? = some f) (hbig : f.1.length + bs.length ≤ 1048576) (hq : b.used + bs.length ≤ b.quota) :
    AW Try.prog 77 none 3 (G77 47 [false, false, false]) (mk 214 [(0, .ptr 0 0 0), (1, .d (.int .i64 1)), (2, .d (.str x)), (3, .d (.str y)), (4, .d (.list 1 (bs.map u8))), (10, .d (.int .i64 0))]) (SR b false) [] fun r σ' => r = .ret (.d (.int .i64 0)) ∧ σ' = SR { b with files := b.files.set (atR b.now x).toNat (f.1 ++ bs, f.2) } true := by
  have hnl := h.nl
  have hnb := h.nb
  have hfl := h.fl
  have hfs := h.fs
  refine .raises [1, 2] ?_
  have hff := (hfs f (List.mem_of_getElem? hf)).2
  have hu := Rk.used_le h
  have hw : IntKind.i64.wrap ((b.used : Int) + ((bs.map u8).length : Int)) = b.used + bs.length := by rw [List.length_map]; exact wrap_i64 (by omega) (by omega)
  have hw2 : ¬(IntKind.i64.wrap ((b.used : Int) + ((bs.map u8).length : Int)) > b.quota) := by rw [hw]; omega
  clear hw
  clear hfs
  refine .sg0 7 [0, 1, 2, 3, 4, 10, 44, 45, 46, 47] (G77 54 [false, false, false]) [(44, .d (.int .i64 1)), (45, .d (.bool true)), (46, .d (.bool true)), (47, .d (.str x))] ?_
  refine .cd (G77 55 [false, false, false]) F29 (@spec_29 (x) (by omega)) ?_
  refine .sg0 3 [0, 1, 2, 3, 4, 10, 44, 45, 46, 47, 48, 49, 50, 51] (G77 58 [false, false, false]) [(49, .d (.bool !mayName x)), (50, .d (.bool !mayName x)), (51, .d (.bool !mayName x))] ?_
  rcases Bool.eq_false_or_eq_true (!mayName x) with h1 | h1
  · rw [h1]
    simp only [bsX] at h1
    simp_all
  · rw [h1]
    simp only [bsX] at h1
    refine .sg0 18 [0, 1, 2, 3, 4, 10, 60, 61, 62, 63, 64] (G77 76 [false, false, false, false]) [(60, .ptr 0 0 0), (61, .ptr 0 0 0), (62, .ptr 0 0 1), (63, .d (.list 2 (map nmD b.now))), (64, .d (.str x))] ?_
    refine .cd (G77 77 [false, false, false, false]) F102 (@spec_102 (b.now) (x) (by omega)) ?_
    refine .sg0 16 [0, 1, 2, 3, 4, 10, 11, 75] (G77 93 [false, false, false, false]) [(11, .d (.int .i64 (atR b.now x))), (75, .d (.bool (decide (atR b.now x < 0))))] ?_
    refine .if' (decide (atR b.now x < 0)) (G77 94 [false, false, false, false, true]) (G77 94 [false, false, false, false, false]) (fun h2 => ?_) (fun h2 => ?_)
    · simp only [bsX] at h2
      omega
    · simp only [bsX] at h2
      refine .sg 33 [0, 4, 10, 11, 12, 113, 114, 115, 116, 117] (G77 127 [false, false, false, false, false, false, true]) [(12, .ptr 3 0 0), (113, .ptr 0 0 0), (114, .ptr 0 0 0), (115, .ptr 0 0 0), (116, .row 1), (117, .d (.int .i64 (atR b.now x)))] [(3, .cells [.d (.str (ByteArray.mk #[])), .d (.str (ByteArray.mk #[])), .d (.int .i64 0)])] ?_
      refine .op' (G77 128 [false, false, false, false, false, false, true]) (ixRow_ok (t := 68) (x := (.tmp 116)) (i := (.tmp 117)) (k := IntKind.i64) (n := atR b.now x) (l := 1) (sz := 2) (xs := map fileD b.files) (mv := true) (by kernel_rfl) (by kernel_rfl) (by kernel_rfl) (by kernel_rfl) (by kernel_rfl) (by assumption) (by grind)) ?_
      refine .sg0 1 [0, 4, 10, 11, 12, 113, 114, 115, 116, 117, 118, 119] (G77 129 [false, false, false, false, false, false, true]) [(119, .ptr 1 (atR b.now x).toNat 0)] ?_
      refine .ld (G77 130 [false, false, false, false, false, false, true]) (xs := map fileD b.files) (map_get hf) ?_
      refine .sg0 6 [0, 4, 10, 11, 12, 125] (G77 136 [false, false, false, false, false, false, true]) [(125, .d (.bool (decide (IntKind.i64.wrap ((↑(map u8 f.fst).length : Int) + (↑(map u8 bs).length : Int)) > 1048576))))] ?_
      simp only [List.length_map]
      simp (disch := omega) only [bsW]
      refine .if' (decide ((↑f.fst.length : Int) + (↑bs.length : Int) > 1048576)) (G77 137 [false, false, false, false, false, false, true, true]) (G77 137 [false, false, false, false, false, false, true, false]) (fun h3 => ?_) (fun h3 => ?_)
      · simp only [bsX] at h3
        omega
      · simp only [bsX] at h3
        refine .sg0 3 [0, 4, 10, 11, 12] (G77 140 [false, false, false, false, false, false, true, false]) [] ?_
        refine .dr (G77 141 [false, false, false, false, false, false, true, false]) [(126, .ptr 0 0 0), (127, .d (.int .i64 (↑b.used : Int))), (128, .d (.list 1 (map u8 bs))), (129, .d (.int .i64 (↑(map u8 bs).length : Int))), (130, .d (.int .i64 (IntKind.i64.wrap ((↑b.used : Int) + (↑(map u8 bs).length : Int))))), (131, .ptr 0 0 0), (132, .ptr 0 0 0), (133, .ptr 0 0 4), (134, .d (.int .i64 b.quota)), (135, .d (.bool (decide (IntKind.i64.wrap ((↑b.used : Int) + (↑(map u8 bs).length : Int)) > b.quota))))] [] (fun kz L hL => ?_) ?_
        · refine ⟨[fO 0, fX [0, 1, 2] [] [] [] [0, 1, 2], nF, nF, nF, fO 0, fA 0, fA 0, fX [0] [] [] [] [0, 1, 2], nF], run_amongF hL _ [] [0, 2, 5, 6, 7, 8, 1, 3, 4, 9] (by intro p hp; cases hp) (by kernel_rfl) ?_⟩
          refine Run.ap [0, 2, 5, 6, 7, 8] [(126, .ptr 0 0 0), (128, .d (.list 1 (map u8 bs))), (131, .ptr 0 0 0), (132, .ptr 0 0 0), (133, .ptr 0 0 4), (134, .d (.int .i64 b.quota))] [] ?_
          refine Run.cll 1 [0, 1, 2] F83 (@spec_83 (b) (N) (by assumption)) ?_
          exact Run.fin
        refine .if' (decide (IntKind.i64.wrap ((↑b.used : Int) + (↑(map u8 bs).length : Int)) > b.quota)) (G77 142 [false, false, false, false, false, false, true, false, true]) (G77 142 [false, false, false, false, false, false, true, false, false]) (fun h7 => ?_) (fun h7 => ?_)
        · simp only [bsX] at h7
          omega
        · simp only [bsX] at h7
          refine .sg0 2 [0, 4, 10, 11, 12] (G77 144 [false, false, false, false, false, false, true, false, false]) [] ?_
          refine .newVirt 1 ?_
          refine .dr (G77 145 [false, false, false, false, false, false, true, false, false]) [(139, .ptr 0 0 0), (140, .ptr 0 0 0), (141, .ptr 0 0 0), (142, .row 1), (143, .d (.int .i64 (atR b.now x))), (145, .ptr 0 0 0), (146, .ptr 0 0 0), (147, .ptr 0 0 0), (148, .row 1), (149, .d (.int .i64 (atR b.now x))), (150, .ptr 1 (atR b.now x).toNat 0), (151, .ptr 1 (atR b.now x).toNat 0), (152, .d (.list 1 (map u8 f.fst))), (154, .d (.list 1 (map u8 bs))), (155, .d (.list 1 ([] ++ map u8 f.fst ++ map u8 bs))), (156, .ptr 1 (atR b.now x).toNat 0), (157, .ptr 1 (atR b.now x).toNat 0)] [(1, .row 2 ((map fileD b.files).set (atR b.now x).toNat (D.agg [D.list 1 ([] ++ map u8 f.fst ++ map u8 bs), D.int IntKind.i64 (↑f.snd : Int)])) true), (4, .row 1 [] true)] (fun kz L hL => ?_) ?_
          · refine ⟨[fO 0, fA 0, fA 0, fX [0] [] [] [1] [0, 1, 2], nF, fX [4] [] [] [4] [], fO 0, fA 0, fA 0, fX [0] [] [] [1] [0, 1, 2], nF, fX [1] [] [] [1] [1], fA 1, fR 1, fX [4] [4] [4] [4] [4], nF, fX [4] [4] [4] [] [4], fX [1] [] [] [1] [1], fA 1, fX [1] [1] [] [] [1]], run_amongF hL _ [] [0, 1, 2, 3, 4, 6, 7, 8, 9, 10, 11, 12, 13, 15, 5, 14, 16, 17, 18, 19] (by intro p hp; cases hp) (by kernel_rfl) ?_⟩
            refine Run.ap [0, 1, 2, 3, 4, 6, 7, 8, 9, 10] [(139, .ptr 0 0 0), (140, .ptr 0 0 0), (141, .ptr 0 0 0), (142, .row 1), (143, .d (.int .i64 (atR b.now x))), (145, .ptr 0 0 0), (146, .ptr 0 0 0), (147, .ptr 0 0 0), (148, .row 1), (149, .d (.int .i64 (atR b.now x)))] [] ?_
            refine Run.lk 11 (.ptr 1 (atR b.now x).toNat 0) [(.tmp 148), (.tmp 149)] (fun tm' σ2 hv hr => ixRow_ok (t := 68) (x := (.tmp 148)) (i := (.tmp 149)) (k := IntKind.i64) (n := atR b.now x) (l := 1) (sz := 2) (xs := map fileD b.files) (mv := true) (by kernel_rfl) (evv hv) (evv hv) (atr hr) (by kernel_rfl) (by assumption) (by grind)) ?_
            refine Run.ap [12] [(151, .ptr 1 (atR b.now x).toNat 0)] [] ?_
            refine Run.lk 13 (.d (.list 1 (map u8 f.fst))) [(.tmp 151)] (fun tm' σ2 hv hr => ldRow_ok (t := 22) (x := (.tmp 151)) (l := 1) (i := (atR b.now x).toNat) (s := 0) (sz := 2) (xs := map fileD b.files) (mv := true) (d := fileD f) (v := .d (.list 1 (map u8 f.fst))) (by kernel_rfl) (evv hv) (atr hr) (map_get hf) (by kernel_rfl)) ?_
            refine Run.ap [15] [(154, .d (.list 1 (map u8 bs)))] [] ?_
            refine Run.lk 5 (.row 4) [] (fun tm' σ2 hv hr => build0V_ok (t := 22) (e := 5) (sz := typeSize Try.prog (sliceElem Try.prog 22)) (sz' := typeSize Try.prog (sliceElem Try.prog 22)) (l := 4) (mv := false) (by kernel_rfl) (by kernel_rfl) (by kernel_rfl) (atr hr)) ?_
            refine Run.one (StepF.moves (o := ((drawOf (G77 144 [false, false, false, false, false, false, true, false, false]))[14]?).getD default) (v := .row 4) [(.tmp 144), (.tmp 152)] 4 (.row 1 ([] ++ map u8 f.fst) true) (by kernel_rfl) rfl (by kernel_rfl) (by kernel_rfl) (by kernel_rfl) (by kernel_rfl) (by kernel_rfl) (by kernel_rfl) (fun tm' σ2 hv hr => appRow_ok (s := (.tmp 144)) (x := (.tmp 152)) (t := 22) (t2 := 22) (sz := 1) (by' := 1) (ys := map u8 f.fst) (l := 4) (xs := []) (mv := false) (by kernel_rfl) (evv hv) (atr hr) (by rw [hv _ (by simp)]; exact (cont_at fun l hl => hr l (subB_in (by kernel_rfl) hl)).trans (by kernel_rfl)) (by kernel_rfl) (by kernel_rfl) (by simp <;> omega) (by first | (simp [maxLen] <;> omega) | omega))) ?_
            refine Run.one (StepF.moves (o := ((drawOf (G77 144 [false, false, false, false, false, false, true, false, false]))[16]?).getD default) (v := .d (.list 1 ([] ++ map u8 f.fst ++ map u8 bs))) [(.tmp 153), (.tmp 154)] 4 (.row 1 [] true) (by kernel_rfl) rfl (by kernel_rfl) (by kernel_rfl) (by kernel_rfl) (by kernel_rfl) (by kernel_rfl) (by kernel_rfl) (fun tm' σ2 hv hr => appRowD_ok (s := (.tmp 153)) (x := (.tmp 154)) (t := 22) (t2 := 22) (sz := 1) (by' := 1) (ys := map u8 bs) (l := 4) (xs := [] ++ map u8 f.fst) (mv := true) (by kernel_rfl) (evv hv) (atr hr) (by rw [hv _ (by simp)]; exact (cont_at fun l hl => hr l (subB_in (by kernel_rfl) hl)).trans (by kernel_rfl)) (by kernel_rfl) (by kernel_rfl) (by simp <;> omega) (by first | (simp [maxLen] <;> omega) | omega))) ?_
            refine Run.lk 17 (.ptr 1 (atR b.now x).toNat 0) [(.tmp 142), (.tmp 143)] (fun tm' σ2 hv hr => ixRow_ok (t := 68) (x := (.tmp 142)) (i := (.tmp 143)) (k := IntKind.i64) (n := atR b.now x) (l := 1) (sz := 2) (xs := map fileD b.files) (mv := true) (by kernel_rfl) (evv hv) (evv hv) (atr hr) (by kernel_rfl) (by assumption) (by grind)) ?_
            refine Run.ap [18] [(157, .ptr 1 (atR b.now x).toNat 0)] [] ?_
            refine Run.one (StepF.sets (o := ((drawOf (G77 144 [false, false, false, false, false, false, true, false, false]))[19]?).getD default) (v := .undef) [(.tmp 157), (.tmp 155)] 1 (.row 2 ((map fileD b.files).set (atR b.now x).toNat (D.agg [D.list 1 ([] ++ map u8 f.fst ++ map u8 bs), D.int IntKind.i64 (↑f.snd : Int)])) true) (by kernel_rfl) rfl (by kernel_rfl) (by kernel_rfl) (by kernel_rfl) (by kernel_rfl) (by kernel_rfl) (fun tm' σ2 hv hr => stRow_ok (t := 22) (x := (.tmp 157)) (y := (.tmp 155)) (l := 1) (i := (atR b.now x).toNat) (s := 0) (sz := 2) (xs := map fileD b.files) (mv := true) (d := fileD f) (d' := D.agg [D.list 1 ([] ++ map u8 f.fst ++ map u8 bs), D.int IntKind.i64 (↑f.snd : Int)]) (by kernel_rfl) (evv hv) (atr hr) (map_get hf) (by unfold storeE; rw [hv _ (by simp)]; kernel_rfl))) ?_
            exact Run.fin
          refine .sg0 4 [0, 10, 12] (G77 149 [false, false, false, false, false, false, true, false, false]) [] ?_
          refine .kp [10] ?_
          refine .su [0, 1, 2] (mk 214 [(10, .d (.int .i64 0))]) [.cells (rC 1 2 b), .row 2 ((map fileD b.files).set (atR b.now x).toNat (D.agg [D.list 1 ([] ++ map u8 f.fst ++ map u8 bs), D.int IntKind.i64 (↑f.snd : Int)])) true, .row 3 (map chD b.ch) true] ?_
          refine .rt F77 (V.d (D.int IntKind.i64 0)) ?_
          exact ⟨rfl, by simp [rC, SR, fileD, bsD, List.map_set, i64]⟩
theorem kinde0 (b : Rk) (N : Nat) (h : b.Ok N) (x y : ByteArray) (hx : x.size < 1000000000) (v4 : V) (hm : mayName x = false) :
   AW Try.prog 77 none 3 (G77 47 [false, false, false]) (mk 214 [(0, .ptr 0 0 0), (1, .d (.int .i64 0)), (2, .d (.str x)), (3, .d (.str y)), (4, v4), (10, .d (.int .i64 0))]) (SR b false) [] fun r σ' => r = .ret (.d (.int .i64 1)) ∧ σ' = SR b true := by
 have hnl := h.nl
 have hnb := h.nb
 have hfl := h.fl
 have hfs := h.fs
 refine .raises [1, 2] ?_
 clear h hfs
 refine .sge 7 [0, 1, 2, 3, 4, 10, 44, 45, 46, 47] (G77 54 [false, false, false]) ?_
 refine .cd (G77 55 [false, false, false]) F29 (@spec_29 (x) (by omega)) ?_
 refine .sg0 3 [0, 1, 2, 3, 4, 10, 44, 45, 46, 47, 48, 49, 50, 51] (G77 58 [false, false, false]) [(49, .d (.bool !mayName x)), (50, .d (.bool !mayName x)), (51, .d (.bool !mayName x))] ?_
 rcases Bool.eq_false_or_eq_true (!mayName x) with h1 | h1
 · rw [h1]
   simp only [bsX] at h1
   refine .sge 14 [0, 1, 2, 3, 4, 10] (cgo 72 [false, false, false, true] [.code B77]) ?_
   refine .rt F77 (V.d (D.int IntKind.i64 1)) ?_
   exact ⟨rfl, by kernel_rfl⟩
 · rw [h1]
   simp only [bsX] at h1
   simp_all
theorem kinde1 (b : Rk) (N : Nat) (h : b.Ok N) (x y : ByteArray) (hx : x.size < 1000000000) (v4 : V) (hm : mayName x = false) :
   AW Try.prog 77 none 3 (G77 47 [false, false, false]) (mk 214 [(0, .ptr 0 0 0), (1, .d (.int .i64 1)), (2, .d (.str x)), (3, .d (.str y)), (4, v4), (10, .d (.int .i64 0))]) (SR b false) [] fun r σ' => r = .ret (.d (.int .i64 1)) ∧ σ' = SR b true := by
 have hnl := h.nl
 have hnb := h.nb
 have hfl := h.fl
 have hfs := h.fs
 refine .raises [1, 2] ?_
 clear h hfs
 refine .sge 7 [0, 1, 2, 3, 4, 10, 44, 45, 46, 47] (G77 54 [false, false, false]) ?_
 refine .cd (G77 55 [false, false, false]) F29 (@spec_29 (x) (by omega)) ?_
 refine .sg0 3 [0, 1, 2, 3, 4, 10, 44, 45, 46, 47, 48, 49, 50, 51] (G77 58 [false, false, false]) [(49, .d (.bool !mayName x)), (50, .d (.bool !mayName x)), (51, .d (.bool !mayName x))] ?_
 rcases Bool.eq_false_or_eq_true (!mayName x) with h1 | h1
 · rw [h1]
   simp only [bsX] at h1
   refine .sge 14 [0, 1, 2, 3, 4, 10] (cgo 72 [false, false, false, true] [.code B77]) ?_
   refine .rt F77 (V.d (D.int IntKind.i64 1)) ?_
   exact ⟨rfl, by kernel_rfl⟩
 · rw [h1]
   simp only [bsX] at h1
   simp_all
theorem kinde2 (b : Rk) (N : Nat) (h : b.Ok N) (x y : ByteArray) (hx : x.size < 1000000000) (v4 : V) (hm : mayName x = false) :
   AW Try.prog 77 none 3 (G77 47 [false, false, false]) (mk 214 [(0, .ptr 0 0 0), (1, .d (.int .i64 2)), (2, .d (.str x)), (3, .d (.str y)), (4, v4), (10, .d (.int .i64 0))]) (SR b false) [] fun r σ' => r = .ret (.d (.int .i64 1)) ∧ σ' = SR b true := by
 have hnl := h.nl
 have hnb := h.nb
 have hfl := h.fl
 have hfs := h.fs
 refine .raises [1, 2] ?_
 clear h hfs
 refine .sge 7 [0, 1, 2, 3, 4, 10, 44, 45, 46, 47] (G77 54 [false, false, false]) ?_
 refine .cd (G77 55 [false, false, false]) F29 (@spec_29 (x) (by omega)) ?_
 refine .sg0 3 [0, 1, 2, 3, 4, 10, 44, 45, 46, 47, 48, 49, 50, 51] (G77 58 [false, false, false]) [(49, .d (.bool !mayName x)), (50, .d (.bool !mayName x)), (51, .d (.bool !mayName x))] ?_
 rcases Bool.eq_false_or_eq_true (!mayName x) with h1 | h1
 · rw [h1]
   simp only [bsX] at h1
   refine .sge 14 [0, 1, 2, 3, 4, 10] (cgo 72 [false, false, false, true] [.code B77]) ?_
   refine .rt F77 (V.d (D.int IntKind.i64 1)) ?_
   exact ⟨rfl, by kernel_rfl⟩
 · rw [h1]
   simp only [bsX] at h1
   simp_all
theorem kinde5 (b : Rk) (N : Nat) (h : b.Ok N) (x y : ByteArray) (hx : x.size < 1000000000) (v4 : V) (hm : mayName x = false) :
   AW Try.prog 77 none 3 (G77 47 [false, false, false]) (mk 214 [(0, .ptr 0 0 0), (1, .d (.int .i64 5)), (2, .d (.str x)), (3, .d (.str y)), (4, v4), (10, .d (.int .i64 0))]) (SR b false) [] fun r σ' => r = .ret (.d (.int .i64 1)) ∧ σ' = SR b true := by
 have hnl := h.nl
 have hnb := h.nb
 have hfl := h.fl
 have hfs := h.fs
 refine .raises [1, 2] ?_
 clear h hfs
 refine .sge 7 [0, 1, 2, 3, 4, 10, 44, 45, 46, 47] (G77 54 [false, false, false]) ?_
 refine .cd (G77 55 [false, false, false]) F29 (@spec_29 (x) (by omega)) ?_
 refine .sg0 3 [0, 1, 2, 3, 4, 10, 44, 45, 46, 47, 48, 49, 50, 51] (G77 58 [false, false, false]) [(49, .d (.bool !mayName x)), (50, .d (.bool !mayName x)), (51, .d (.bool !mayName x))] ?_
 rcases Bool.eq_false_or_eq_true (!mayName x) with h1 | h1
 · rw [h1]
   simp only [bsX] at h1
   refine .sge 14 [0, 1, 2, 3, 4, 10] (cgo 72 [false, false, false, true] [.code B77]) ?_
   refine .rt F77 (V.d (D.int IntKind.i64 1)) ?_
   exact ⟨rfl, by kernel_rfl⟩
 · rw [h1]
   simp only [bsX] at h1
   simp_all
theorem kinde4 (b : Rk) (N : Nat) (h : b.Ok N) (x y : ByteArray) (hx : x.size < 1000000000) (hy : y.size < 1000000000) (v4 : V) (hm : mayName x = false ∨ mayName y = false) :
    AW Try.prog 77 none 3 (G77 47 [false, false, false]) (mk 214 [(0, .ptr 0 0 0), (1, .d (.int .i64 4)), (2, .d (.str x)), (3, .d (.str y)), (4, v4), (10, .d (.int .i64 0))]) (SR b false) [] fun r σ' => r = .ret (.d (.int .i64 1)) ∧ σ' = SR b true := by
  have hnl := h.nl
  have hnb := h.nb
  have hfl := h.fl
  have hfs := h.fs
  refine .raises [1, 2] ?_
  clear h hfs
  rcases Bool.eq_false_or_eq_true (mayName x) with hm1 | hm1
  · rcases hm with hm | hm
    · rw [hm1] at hm; cases hm
    · refine .sge 7 [0, 1, 2, 3, 4, 10, 44, 45, 46, 47] (G77 54 [false, false, false]) ?_
      refine .cd (G77 55 [false, false, false]) F29 (@spec_29 (x) (by omega)) ?_
      refine .sg0 3 [0, 1, 2, 3, 4, 10, 44, 45, 46, 47, 48, 49, 50, 51] (G77 58 [false, false, false]) [(49, .d (.bool !mayName x)), (50, .d (.bool !mayName x)), (51, .d (.bool !mayName x))] ?_
      rcases Bool.eq_false_or_eq_true (!mayName x) with h1 | h1
      · rw [h1]
        simp only [bsX] at h1
        simp_all
      · rw [h1]
        simp only [bsX] at h1
        refine .sge 4 [0, 1, 2, 3, 4, 10, 44, 45, 46, 47, 48, 49, 50, 51, 52, 53, 54, 55] (G77 62 [false, false, false]) ?_
        refine .cd (G77 63 [false, false, false]) F29 (@spec_29 (y) (by omega)) ?_
        refine .sg0 4 [0, 1, 2, 3, 4, 10, 59] (G77 67 [false, false, false]) [(59, .d (.bool !mayName y))] ?_
        refine .if' (!mayName y) (G77 68 [false, false, false, true]) (G77 68 [false, false, false, false]) (fun h2 => ?_) (fun h2 => ?_)
        · simp only [bsX] at h2
          refine .sge 4 [0, 1, 2, 3, 4, 10] (cgo 72 [false, false, false, true] [.code B77]) ?_
          refine .rt F77 (V.d (D.int IntKind.i64 1)) ?_
          exact ⟨rfl, by kernel_rfl⟩
        · simp only [bsX] at h2
          simp_all
  · clear hm
    refine .sge 7 [0, 1, 2, 3, 4, 10, 44, 45, 46, 47] (G77 54 [false, false, false]) ?_
    refine .cd (G77 55 [false, false, false]) F29 (@spec_29 (x) (by omega)) ?_
    refine .sg0 3 [0, 1, 2, 3, 4, 10, 44, 45, 46, 47, 48, 49, 50, 51] (G77 58 [false, false, false]) [(49, .d (.bool !mayName x)), (50, .d (.bool !mayName x)), (51, .d (.bool !mayName x))] ?_
    rcases Bool.eq_false_or_eq_true (!mayName x) with h1 | h1
    · rw [h1]
      simp only [bsX] at h1
      refine .sge 14 [0, 1, 2, 3, 4, 10] (cgo 72 [false, false, false, true] [.code B77]) ?_
      refine .rt F77 (V.d (D.int IntKind.i64 1)) ?_
      exact ⟨rfl, by kernel_rfl⟩
    · rw [h1]
      simp only [bsX] at h1
      simp_all
theorem kindn1 (b : Rk) (N : Nat) (h : b.Ok N) (x y : ByteArray) (hx : x.size < 1000000000) (hy : y.size < 1000000000) (v4 : V) (hm : mayName x = true) (h0 : atR b.now x < 0) :
   AW Try.prog 77 none 3 (G77 47 [false, false, false]) (mk 214 [(0, .ptr 0 0 0), (1, .d (.int .i64 1)), (2, .d (.str x)), (3, .d (.str y)), (4, v4), (10, .d (.int .i64 0))]) (SR b false) [] fun r σ' => r = .ret (.d (.int .i64 3)) ∧ σ' = SR b true := by
 have hnl := h.nl
 have hnb := h.nb
 have hfl := h.fl
 have hfs := h.fs
 refine .raises [1, 2] ?_
 clear h hfs
 refine .sge 7 [0, 1, 2, 3, 4, 10, 44, 45, 46, 47] (G77 54 [false, false, false]) ?_
 refine .cd (G77 55 [false, false, false]) F29 (@spec_29 (x) (by omega)) ?_
 refine .sg0 3 [0, 1, 2, 3, 4, 10, 44, 45, 46, 47, 48, 49, 50, 51] (G77 58 [false, false, false]) [(49, .d (.bool !mayName x)), (50, .d (.bool !mayName x)), (51, .d (.bool !mayName x))] ?_
 rcases Bool.eq_false_or_eq_true (!mayName x) with h1 | h1
 · rw [h1]
   simp only [bsX] at h1
   simp_all
 · rw [h1]
   simp only [bsX] at h1
   refine .sge 18 [0, 1, 2, 3, 4, 10, 60, 61, 62, 63, 64] (G77 76 [false, false, false, false]) ?_
   refine .cd (G77 77 [false, false, false, false]) F102 (@spec_102 (b.now) (x) (by omega)) ?_
   refine .sge 16 [0, 1, 2, 3, 4, 10, 11, 75] (G77 93 [false, false, false, false]) ?_
   refine .if' (decide (atR b.now x < 0)) (G77 94 [false, false, false, false, true]) (G77 94 [false, false, false, false, false]) (fun h2 => ?_) (fun h2 => ?_)
   · simp only [bsX] at h2
     refine .sge 4 [0, 1, 2, 3, 4, 10, 11] (cgo 98 [false, false, false, false, true] [.code B77]) ?_
     refine .rt F77 (V.d (D.int IntKind.i64 3)) ?_
     exact ⟨rfl, by kernel_rfl⟩
   · simp only [bsX] at h2
     omega
theorem kindn2 (b : Rk) (N : Nat) (h : b.Ok N) (x y : ByteArray) (hx : x.size < 1000000000) (hy : y.size < 1000000000) (v4 : V) (hm : mayName x = true) (h0 : atR b.now x < 0) :
   AW Try.prog 77 none 3 (G77 47 [false, false, false]) (mk 214 [(0, .ptr 0 0 0), (1, .d (.int .i64 2)), (2, .d (.str x)), (3, .d (.str y)), (4, v4), (10, .d (.int .i64 0))]) (SR b false) [] fun r σ' => r = .ret (.d (.int .i64 3)) ∧ σ' = SR b true := by
 have hnl := h.nl
 have hnb := h.nb
 have hfl := h.fl
 have hfs := h.fs
 refine .raises [1, 2] ?_
 clear h hfs
 refine .sge 7 [0, 1, 2, 3, 4, 10, 44, 45, 46, 47] (G77 54 [false, false, false]) ?_
 refine .cd (G77 55 [false, false, false]) F29 (@spec_29 (x) (by omega)) ?_
 refine .sg0 3 [0, 1, 2, 3, 4, 10, 44, 45, 46, 47, 48, 49, 50, 51] (G77 58 [false, false, false]) [(49, .d (.bool !mayName x)), (50, .d (.bool !mayName x)), (51, .d (.bool !mayName x))] ?_
 rcases Bool.eq_false_or_eq_true (!mayName x) with h1 | h1
 · rw [h1]
   simp only [bsX] at h1
   simp_all
 · rw [h1]
   simp only [bsX] at h1
   refine .sge 18 [0, 1, 2, 3, 4, 10, 60, 61, 62, 63, 64] (G77 76 [false, false, false, false]) ?_
   refine .cd (G77 77 [false, false, false, false]) F102 (@spec_102 (b.now) (x) (by omega)) ?_
   refine .sge 16 [0, 1, 2, 3, 4, 10, 11, 75] (G77 93 [false, false, false, false]) ?_
   refine .if' (decide (atR b.now x < 0)) (G77 94 [false, false, false, false, true]) (G77 94 [false, false, false, false, false]) (fun h2 => ?_) (fun h2 => ?_)
   · simp only [bsX] at h2
     refine .sge 4 [0, 1, 2, 3, 4, 10, 11] (cgo 98 [false, false, false, false, true] [.code B77]) ?_
     refine .rt F77 (V.d (D.int IntKind.i64 3)) ?_
     exact ⟨rfl, by kernel_rfl⟩
   · simp only [bsX] at h2
     omega
theorem kindn4 (b : Rk) (N : Nat) (h : b.Ok N) (x y : ByteArray) (hx : x.size < 1000000000) (hy : y.size < 1000000000) (v4 : V) (hm : mayName x = true) (hm2 : mayName y = true) (h0 : atR b.now x < 0) :
    AW Try.prog 77 none 3 (G77 47 [false, false, false]) (mk 214 [(0, .ptr 0 0 0), (1, .d (.int .i64 4)), (2, .d (.str x)), (3, .d (.str y)), (4, v4), (10, .d (.int .i64 0))]) (SR b false) [] fun r σ' => r = .ret (.d (.int .i64 3)) ∧ σ' = SR b true := by
  have hnl := h.nl
  have hnb := h.nb
  have hfl := h.fl
  have hfs := h.fs
  refine .raises [1, 2] ?_
  clear h hfs
  refine .sge 7 [0, 1, 2, 3, 4, 10, 44, 45, 46, 47] (G77 54 [false, false, false]) ?_
  refine .cd (G77 55 [false, false, false]) F29 (@spec_29 (x) (by omega)) ?_
  refine .sg0 3 [0, 1, 2, 3, 4, 10, 44, 45, 46, 47, 48, 49, 50, 51] (G77 58 [false, false, false]) [(49, .d (.bool !mayName x)), (50, .d (.bool !mayName x)), (51, .d (.bool !mayName x))] ?_
  rcases Bool.eq_false_or_eq_true (!mayName x) with h1 | h1
  · rw [h1]
    simp only [bsX] at h1
    simp_all
  · rw [h1]
    simp only [bsX] at h1
    refine .sge 4 [0, 1, 2, 3, 4, 10, 44, 45, 46, 47, 48, 49, 50, 51, 52, 53, 54, 55] (G77 62 [false, false, false]) ?_
    refine .cd (G77 63 [false, false, false]) F29 (@spec_29 (y) (by omega)) ?_
    refine .sg0 4 [0, 1, 2, 3, 4, 10, 59] (G77 67 [false, false, false]) [(59, .d (.bool !mayName y))] ?_
    refine .if' (!mayName y) (G77 68 [false, false, false, true]) (G77 68 [false, false, false, false]) (fun h2 => ?_) (fun h2 => ?_)
    · simp only [bsX] at h2
      simp_all
    · simp only [bsX] at h2
      refine .sge 8 [0, 1, 2, 3, 4, 10, 60, 61, 62, 63, 64] (G77 76 [false, false, false, false]) ?_
      refine .cd (G77 77 [false, false, false, false]) F102 (@spec_102 (b.now) (x) (by omega)) ?_
      refine .sge 16 [0, 1, 2, 3, 4, 10, 11, 75] (G77 93 [false, false, false, false]) ?_
      refine .if' (decide (atR b.now x < 0)) (G77 94 [false, false, false, false, true]) (G77 94 [false, false, false, false, false]) (fun h3 => ?_) (fun h3 => ?_)
      · simp only [bsX] at h3
        refine .sge 4 [0, 1, 2, 3, 4, 10, 11] (cgo 98 [false, false, false, false, true] [.code B77]) ?_
        refine .rt F77 (V.d (D.int IntKind.i64 3)) ?_
        exact ⟨rfl, by kernel_rfl⟩
      · simp only [bsX] at h3
        omega
theorem kindn5 (b : Rk) (N : Nat) (h : b.Ok N) (x y : ByteArray) (hx : x.size < 1000000000) (hy : y.size < 1000000000) (v4 : V) (hm : mayName x = true) (h0 : atR b.now x < 0) :
   AW Try.prog 77 none 3 (G77 47 [false, false, false]) (mk 214 [(0, .ptr 0 0 0), (1, .d (.int .i64 5)), (2, .d (.str x)), (3, .d (.str y)), (4, v4), (10, .d (.int .i64 0))]) (SR b false) [] fun r σ' => r = .ret (.d (.int .i64 3)) ∧ σ' = SR b true := by
 have hnl := h.nl
 have hnb := h.nb
 have hfl := h.fl
 have hfs := h.fs
 refine .raises [1, 2] ?_
 clear h hfs
 refine .sge 7 [0, 1, 2, 3, 4, 10, 44, 45, 46, 47] (G77 54 [false, false, false]) ?_
 refine .cd (G77 55 [false, false, false]) F29 (@spec_29 (x) (by omega)) ?_
 refine .sg0 3 [0, 1, 2, 3, 4, 10, 44, 45, 46, 47, 48, 49, 50, 51] (G77 58 [false, false, false]) [(49, .d (.bool !mayName x)), (50, .d (.bool !mayName x)), (51, .d (.bool !mayName x))] ?_
 rcases Bool.eq_false_or_eq_true (!mayName x) with h1 | h1
 · rw [h1]
   simp only [bsX] at h1
   simp_all
 · rw [h1]
   simp only [bsX] at h1
   refine .sge 18 [0, 1, 2, 3, 4, 10, 60, 61, 62, 63, 64] (G77 76 [false, false, false, false]) ?_
   refine .cd (G77 77 [false, false, false, false]) F102 (@spec_102 (b.now) (x) (by omega)) ?_
   refine .sge 16 [0, 1, 2, 3, 4, 10, 11, 75] (G77 93 [false, false, false, false]) ?_
   refine .if' (decide (atR b.now x < 0)) (G77 94 [false, false, false, false, true]) (G77 94 [false, false, false, false, false]) (fun h2 => ?_) (fun h2 => ?_)
   · simp only [bsX] at h2
     refine .sge 4 [0, 1, 2, 3, 4, 10, 11] (cgo 98 [false, false, false, false, true] [.code B77]) ?_
     refine .rt F77 (V.d (D.int IntKind.i64 3)) ?_
     exact ⟨rfl, by kernel_rfl⟩
   · simp only [bsX] at h2
     omega
section
variable {b : Dk} {x y : ByteArray}
theorem err_off (ho : b.off = true) (th : Bool) (l : List ByteArray) : b.err th l = 5 := by unfold Dk.err; rw [if_pos ho]
theorem errF (ho : b.off = false) (x : ByteArray) : b.err false [x] = if mayName x then 0 else 1 := by
 unfold Dk.err; rw [if_neg (by simp [ho])]; simp
theorem errT (ho : b.off = false) (x : ByteArray) : b.err true [x] = if mayName x then (if (look b.nk b.nv x).isNone then 3 else 0) else 1 := by
 unfold Dk.err; rw [if_neg (by simp [ho])]; simp
theorem errTT (ho : b.off = false) (x y : ByteArray) : b.err true [x, y] = if mayName x = true ∧ mayName y = true then (if (look b.nk b.nv x).isNone then 3 else 0) else 1 := by
 unfold Dk.err; rw [if_neg (by simp [ho])]; simp
theorem at_some {t : Int} {N : Nat} (h : b.Ok N) {v : Int} (hv : look b.nk b.nv x = some v) : atR (Rof b t).now x = v ∧ 0 ≤ v ∧ b.num x = v.toNat ∧ (Rof b t).files[v.toNat]? = some (b.file v.toNat) := by
 have h1 : (look b.nk b.nv x).isSome := by rw [hv]; rfl
 have h2 := h.nn v (look_mem hv)
 have h3 := Dk.num_lt h h1
 have h4 : b.num x = v.toNat := by unfold Dk.num; rw [hv]; rfl
 refine ⟨by rw [Rof_at h, hv]; rfl, h2.1, h4, ?_⟩
 show b.files[v.toNat]? = _
 rw [h4] at h3
 unfold Dk.file
 rw [List.getD_eq_getElem?_getD, List.getElem?_eq_getElem h3]; rfl
theorem at_none {t : Int} {N : Nat} (h : b.Ok N) (hv : look b.nk b.nv x = none) : atR (Rof b t).now x = -1 := by rw [Rof_at h, hv]; rfl
end
def After (e : Int) (d' : Dk) (t' : Int) (r : AE) (σ' : Store) : Prop := r = .ret (.d (.int .i64 e)) ∧ σ' = SR (Rof d' t') true
theorem call_head (d : Dk) (t : Int) (N : Nat) (h : d.Ok N) (ht : Rt d t) (k : Int) (x y : ByteArray) (v4 : V) (e : Int) (d' : Dk) (hoff : d.begun.off = true → e = 5 ∧ d' = d.begun)
   (hon : d.begun.off = false → ∀ t1, Rb t1 → AW Try.prog 77 none 3 (G77 47 [false, false, false]) (mk 214 [(0, .ptr 0 0 0), (1, .d (.int .i64 k)), (2, .d (.str x)), (3, .d (.str y)), (4, v4), (10, .d (.int .i64 0))]) (SR (Rof d.begun t1) false) [] (After e d' t1)) :
   CallsA Try.prog 77 [.ptr 0 0 0, .d (.int .i64 k), .d (.str x), .d (.str y), v4] (SR (Rof d t) false) (After e d' (tb d t)) := by
 obtain ⟨e1, r1⟩ := Rof_begun h ht
 refine head77 (Rof d t) N (Rof_ok h ht.b) k x y v4 _ (fun ho => ?_) (fun ho => ?_)
 · rw [e1] at ho ⊢
   obtain ⟨h1, h2⟩ := hoff ho
   subst h1; subst h2
   exact ⟨rfl, rfl⟩
 · rw [e1] at ho ⊢
   exact hon ho _ r1
theorem call0 (d : Dk) (t : Int) (N : Nat) (h : d.Ok N) (hn : d.Nm) (hN : N + 3 ≤ 50000) (ht : Rt d t) (x y : ByteArray) (hx : x.size < 1000000000) (v4 : V) :
    CallsA Try.prog 77 [.ptr 0 0 0, .d (.int .i64 0), .d (.str x), .d (.str y), v4] (SR (Rof d t) false) (After (d.begun.createE x) (d.begun.createD x) (tb d t)) := by
  have k1 := Dk.begun_ok h (by omega)
  have n1 := begun_nm hn
  refine call_head d t N h ht 0 x y v4 _ _ (fun ho => ?_) (fun ho t1 r1 => ?_)
  · have e : d.begun.createE x = 5 := by unfold Dk.createE; rw [err_off ho, if_pos (by simp)]
    exact ⟨e, by unfold Dk.createD; rw [e, if_neg (by simp)]⟩
  · generalize d.begun = b at *
    have kr := Rof_ok k1 r1
    cases hm : mayName x with
    | false =>
      have e : b.createE x = 1 := by unfold Dk.createE; rw [errF ho, hm]; simp
      have e2 : b.createD x = b := by unfold Dk.createD; rw [e, if_neg (by simp)]
      rw [e, e2]
      refine (kinde0 (Rof b t1) _ kr x y hx v4 hm).mono ?_
      rintro r s ⟨h1, h2⟩
      exact ⟨h1, h2⟩
    | true =>
      have e0 : b.err false [x] = 0 := by rw [errF ho, hm]; rfl
      by_cases hb : (look b.nk b.nv x).isNone ∧ 1024 ≤ b.nk.length
      · have e : b.createE x = 2 := by unfold Dk.createE; rw [e0, if_neg (by simp), if_pos hb]
        have e2 : b.createD x = b := by unfold Dk.createD; rw [e, if_neg (by simp)]
        rw [e, e2]
        have hl : look b.nk b.nv x = none := by simpa using hb.1
        refine (kind0b (Rof b t1) _ kr x y hx v4 hm (by rw [at_none k1 hl]; omega) (by rw [Rof_len k1]; exact hb.2)).mono ?_
        rintro r s ⟨h1, h2⟩
        exact ⟨h1, h2⟩
      · have e : b.createE x = 0 := by unfold Dk.createE; rw [e0, if_neg (by simp), if_neg hb]
        have e2 : b.createD x = ({ b with files := b.files ++ [([], 0)] } : Dk).turn noName x b.files.length := by unfold Dk.createD; rw [if_pos e]
        have h0 : 0 ≤ atR (Rof b t1).now x ∨ ((Rof b t1).now.length : Int) < 1024 := by
          cases hl : look b.nk b.nv x with
          | some v =>
            obtain ⟨a1, a2, _, _⟩ := at_some (t := t1) k1 hl
            exact .inl (by rw [a1]; exact a2)
          | none =>
            rw [hl] at hb
            simp only [Option.isNone_none, true_and] at hb
            rw [Rof_len k1]
            exact .inr (by omega)
        rw [e, e2]
        refine (kind0 (Rof b t1) _ kr (by omega) x y hx v4 hm h0).mono ?_
        rintro r s ⟨h1, h2⟩
        refine ⟨h1, ?_⟩
        rw [h2]
        have kf : ({ b with files := b.files ++ [([], 0)] } : Dk).Ok (N + 2) := by
          have := Dk.createD_ok k1 (by omega) x
          rw [e2] at this
          refine ⟨k1.nr, k1.sr, k1.nl, k1.sl, k1.nn.more (by simp), k1.sn.more (by simp), fun c hc => ?_, fun f hf => ?_, ?_, ?_, ?_, ?_, ?_, k1.c0, ?_, k1.s0, k1.s1, k1.q0, k1.q1, by omega⟩
          · have := k1.cn c hc
            exact ⟨this.1, fun h => by rw [List.length_append]; have := this.2 h; omega⟩
          · rcases List.mem_append.1 hf with h1 | h1
            · exact k1.fs f h1
            · rw [List.mem_singleton.1 h1]; exact ⟨Nat.le_refl _, by simp⟩
          · have := k1.fl; simp; omega
          · have := k1.chl; exact Nat.le_trans this (by omega)
          · have := k1.nkl; exact Nat.le_trans this (by omega)
          · have := k1.skl; exact Nat.le_trans this (by omega)
          · have := k1.skc; exact Nat.le_trans this (by omega)
          · have := k1.cl; exact Int.le_trans this (by omega)
        exact congrArg (fun z => SR z true) (Rof_turn (t := t1) kf ⟨n1.nk, n1.sk⟩ noName x b.files.length)
theorem call3 (d : Dk) (t : Int) (N : Nat) (h : d.Ok N) (hN : N + 3 ≤ 50000) (ht : Rt d t) (x y : ByteArray) (v4 : V) :
  CallsA Try.prog 77 [.ptr 0 0 0, .d (.int .i64 3), .d (.str x), .d (.str y), v4] (SR (Rof d t) false) (After (d.begun.err false []) d.begun.syncDirD (tb d t)) := by
 have k1 := Dk.begun_ok h (by omega)
 refine call_head d t N h ht 3 x y v4 _ _ (fun ho => ⟨err_off ho _ _, by unfold Dk.syncDirD; rw [if_pos ho]⟩) (fun ho t1 r1 => ?_)
 generalize d.begun = b at *
 have e : b.err false [] = 0 := by unfold Dk.err; rw [if_neg (by simp [ho])]; simp
 have e2 : b.syncDirD = { b with sk := b.nk, sv := b.nv, ch := [] } := by unfold Dk.syncDirD; rw [if_neg (by simp [ho])]
 rw [e, e2]
 refine (kind3 (Rof b t1) _ (Rof_ok k1 r1) x y v4).mono ?_
 rintro r s ⟨h1, h2⟩
 exact ⟨h1, h2⟩
theorem call2 (d : Dk) (t : Int) (N : Nat) (h : d.Ok N) (hN : N + 3 ≤ 50000) (ht : Rt d t) (x y : ByteArray) (hx : x.size < 1000000000) (hy : y.size < 1000000000) (v4 : V) :
   CallsA Try.prog 77 [.ptr 0 0 0, .d (.int .i64 2), .d (.str x), .d (.str y), v4] (SR (Rof d t) false) (After (d.begun.err true [x]) (d.begun.syncD x) (tb d t)) := by
 have k1 := Dk.begun_ok h (by omega)
 refine call_head d t N h ht 2 x y v4 _ _ (fun ho => ⟨err_off ho _ _, by unfold Dk.syncD; rw [err_off ho, if_neg (by simp)]⟩) (fun ho t1 r1 => ?_)
 generalize d.begun = b at *
 have kr := Rof_ok k1 r1
 cases hm : mayName x with
 | false =>
   have e : b.err true [x] = 1 := by rw [errT ho, hm]; rfl
   have e2 : b.syncD x = b := by unfold Dk.syncD; rw [e, if_neg (by simp)]
   rw [e, e2]
   refine (kinde2 (Rof b t1) _ kr x y hx v4 hm).mono ?_
   rintro r s ⟨h1, h2⟩
   exact ⟨h1, h2⟩
 | true =>
   cases hl : look b.nk b.nv x with
   | none =>
     have e : b.err true [x] = 3 := by rw [errT ho, hm, hl]; rfl
     have e2 : b.syncD x = b := by unfold Dk.syncD; rw [e, if_neg (by simp)]
     rw [e, e2]
     refine (kindn2 (Rof b t1) _ kr x y hx hy v4 hm (by rw [at_none k1 hl]; omega)).mono ?_
     rintro r s ⟨h1, h2⟩
     exact ⟨h1, h2⟩
   | some v =>
     obtain ⟨a1, a2, a3, a4⟩ := at_some (t := t1) k1 hl
     have e : b.err true [x] = 0 := by rw [errT ho, hm, hl]; rfl
     have e2 : b.syncD x = { b with files := b.files.set v.toNat ((b.file v.toNat).1, (b.file v.toNat).1.length) } := by unfold Dk.syncD; rw [if_pos e, a3]
     rw [e, e2]
     refine (kind2 (Rof b t1) _ kr x y hx v4 hm (by rw [a1]; exact a2) (b.file v.toNat) (by rw [a1]; exact a4)).mono ?_
     rintro r s ⟨h1, h2⟩
     rw [a1] at h2
     exact ⟨h1, h2⟩
theorem call5 (d : Dk) (t : Int) (N : Nat) (h : d.Ok N) (hn : d.Nm) (hN : N + 3 ≤ 50000) (ht : Rt d t) (x y : ByteArray) (hx : x.size < 1000000000) (hy : y.size < 1000000000) (v4 : V) :
   CallsA Try.prog 77 [.ptr 0 0 0, .d (.int .i64 5), .d (.str x), .d (.str y), v4] (SR (Rof d t) false) (After (d.begun.err true [x]) (d.begun.removeD x) (tb d t)) := by
 have k1 := Dk.begun_ok h (by omega)
 have n1 := begun_nm hn
 refine call_head d t N h ht 5 x y v4 _ _ (fun ho => ⟨err_off ho _ _, by unfold Dk.removeD; rw [err_off ho, if_neg (by simp)]⟩) (fun ho t1 r1 => ?_)
 generalize d.begun = b at *
 have kr := Rof_ok k1 r1
 cases hm : mayName x with
 | false =>
   have e : b.err true [x] = 1 := by rw [errT ho, hm]; rfl
   have e2 : b.removeD x = b := by unfold Dk.removeD; rw [e, if_neg (by simp)]
   rw [e, e2]
   refine (kinde5 (Rof b t1) _ kr x y hx v4 hm).mono ?_
   rintro r s ⟨h1, h2⟩
   exact ⟨h1, h2⟩
 | true =>
   cases hl : look b.nk b.nv x with
   | none =>
     have e : b.err true [x] = 3 := by rw [errT ho, hm, hl]; rfl
     have e2 : b.removeD x = b := by unfold Dk.removeD; rw [e, if_neg (by simp)]
     rw [e, e2]
     refine (kindn5 (Rof b t1) _ kr x y hx hy v4 hm (by rw [at_none k1 hl]; omega)).mono ?_
     rintro r s ⟨h1, h2⟩
     exact ⟨h1, h2⟩
   | some v =>
     obtain ⟨a1, a2, a3, a4⟩ := at_some (t := t1) k1 hl
     have e : b.err true [x] = 0 := by rw [errT ho, hm, hl]; rfl
     have e2 : b.removeD x = b.turn x noName 0 := by unfold Dk.removeD; rw [if_pos e]
     rw [e, e2]
     refine (kind5 (Rof b t1) _ kr x y hx v4 hm (by rw [a1]; exact a2)).mono ?_
     rintro r s ⟨h1, h2⟩
     refine ⟨h1, ?_⟩
     rw [h2]
     exact congrArg (fun z => SR z true) (Rof_turn (t := t1) k1 n1 x noName 0)
theorem call4 (d : Dk) (t : Int) (N : Nat) (h : d.Ok N) (hn : d.Nm) (hN : N + 3 ≤ 50000) (ht : Rt d t) (x y : ByteArray) (hx : x.size < 1000000000) (hy : y.size < 1000000000) (v4 : V) :
   CallsA Try.prog 77 [.ptr 0 0 0, .d (.int .i64 4), .d (.str x), .d (.str y), v4] (SR (Rof d t) false) (After (d.begun.err true [x, y]) (d.begun.renameD x y) (tb d t)) := by
 have k1 := Dk.begun_ok h (by omega)
 have n1 := begun_nm hn
 refine call_head d t N h ht 4 x y v4 _ _ (fun ho => ⟨err_off ho _ _, by unfold Dk.renameD; rw [err_off ho, if_neg (by simp)]⟩) (fun ho t1 r1 => ?_)
 generalize d.begun = b at *
 have kr := Rof_ok k1 r1
 by_cases hm : mayName x = true ∧ mayName y = true
 · cases hl : look b.nk b.nv x with
   | none =>
     have e : b.err true [x, y] = 3 := by rw [errTT ho, if_pos hm, hl]; rfl
     have e2 : b.renameD x y = b := by unfold Dk.renameD; rw [e, if_neg (by simp)]
     rw [e, e2]
     refine (kindn4 (Rof b t1) _ kr x y hx hy v4 hm.1 hm.2 (by rw [at_none k1 hl]; omega)).mono ?_
     rintro r s ⟨h1, h2⟩
     exact ⟨h1, h2⟩
   | some v =>
     obtain ⟨a1, a2, a3, a4⟩ := at_some (t := t1) k1 hl
     have e : b.err true [x, y] = 0 := by rw [errTT ho, if_pos hm, hl]; rfl
     have e2 : b.renameD x y = b.turn x y v := by unfold Dk.renameD; rw [if_pos e, hl]; rfl
     rw [e, e2]
     refine (kind4 (Rof b t1) _ kr x y hx hy v4 hm.1 hm.2 (by rw [a1]; exact a2)).mono ?_
     rintro r s ⟨h1, h2⟩
     refine ⟨h1, ?_⟩
     rw [h2, a1]
     exact congrArg (fun z => SR z true) (Rof_turn (t := t1) k1 n1 x y v)
 · have e : b.err true [x, y] = 1 := by rw [errTT ho, if_neg hm]
   have e2 : b.renameD x y = b := by unfold Dk.renameD; rw [e, if_neg (by simp)]
   rw [e, e2]
   refine (kinde4 (Rof b t1) _ kr x y hx hy v4 (by cases h1 : mayName x <;> cases h2 : mayName y <;> simp_all)).mono ?_
   rintro r s ⟨h1, h2⟩
   exact ⟨h1, h2⟩
theorem call1 (d : Dk) (t : Int) (N : Nat) (h : d.Ok N) (hN : N + 3 ≤ 50000) (ht : Rt d t) (x y : ByteArray) (hx : x.size < 1000000000) (hy : y.size < 1000000000) (bs : List UInt8) (hb : bs.length < 1000000) :
    CallsA Try.prog 77 [.ptr 0 0 0, .d (.int .i64 1), .d (.str x), .d (.str y), .d (.list 1 (bs.map u8))] (SR (Rof d t) false) (After (d.begun.appendE x bs) (d.begun.appendD x bs) (tb d t)) := by
  have k1 := Dk.begun_ok h (by omega)
  refine call_head d t N h ht 1 x y _ _ _ (fun ho => ?_) (fun ho t1 r1 => ?_)
  · have e : d.begun.appendE x bs = 5 := by unfold Dk.appendE; rw [err_off ho, if_pos (by simp)]
    exact ⟨e, by unfold Dk.appendD; rw [e, if_neg (by simp), if_neg (by simp)]⟩
  · generalize d.begun = b at *
    have kr := Rof_ok k1 r1
    cases hm : mayName x with
    | false =>
      have e : b.appendE x bs = 1 := by unfold Dk.appendE; rw [errT ho, hm]; simp
      have e2 : b.appendD x bs = b := by unfold Dk.appendD; rw [e, if_neg (by simp), if_neg (by simp)]
      rw [e, e2]
      refine (kinde1 (Rof b t1) _ kr x y hx _ hm).mono ?_
      rintro r s ⟨h1, h2⟩
      exact ⟨h1, h2⟩
    | true =>
      cases hl : look b.nk b.nv x with
      | none =>
        have e : b.appendE x bs = 3 := by unfold Dk.appendE; rw [errT ho, hm, hl]; simp
        have e2 : b.appendD x bs = b := by unfold Dk.appendD; rw [e, if_neg (by simp), if_neg (by simp)]
        rw [e, e2]
        refine (kindn1 (Rof b t1) _ kr x y hx hy _ hm (by rw [at_none k1 hl]; omega)).mono ?_
        rintro r s ⟨h1, h2⟩
        exact ⟨h1, h2⟩
      | some v =>
        obtain ⟨a1, a2, a3, a4⟩ := at_some (t := t1) k1 hl
        have e0 : b.err true [x] = 0 := by rw [errT ho, hm, hl]; rfl
        have hu := Rof_used (t := t1) k1
        by_cases hbig : (b.file v.toNat).1.length + bs.length ≤ 1048576
        · by_cases hq : (b.used : Int) + bs.length ≤ b.quota
          · have e : b.appendE x bs = 0 := by unfold Dk.appendE; rw [e0, a3, if_neg (by simp), if_neg (by omega), if_neg (by omega)]
            have e2 : b.appendD x bs = { b with files := b.files.set v.toNat ((b.file v.toNat).1 ++ bs, (b.file v.toNat).2) } := by unfold Dk.appendD; rw [if_pos e, a3]
            rw [e, e2]
            refine (kind1c (Rof b t1) _ kr x y hx bs hb hm (by rw [a1]; exact a2) (b.file v.toNat) (by rw [a1]; exact a4) hbig (by rw [hu]; exact hq)).mono ?_
            rintro r s ⟨h1, h2⟩
            rw [a1] at h2
            exact ⟨h1, h2⟩
          · have e : b.appendE x bs = 4 := by unfold Dk.appendE; rw [e0, a3, if_neg (by simp), if_neg (by omega), if_pos (by omega)]
            have e2 : b.appendD x bs = { b with full := true } := by unfold Dk.appendD; rw [e, if_neg (by simp), if_pos rfl]
            rw [e, e2]
            refine (kind1b (Rof b t1) _ kr x y hx bs hb hm (by rw [a1]; exact a2) (b.file v.toNat) (by rw [a1]; exact a4) hbig (by rw [hu]; show b.quota < _; omega)).mono ?_
            rintro r s ⟨h1, h2⟩
            exact ⟨h1, h2⟩
        · have e : b.appendE x bs = 2 := by unfold Dk.appendE; rw [e0, a3, if_neg (by simp), if_pos (by omega)]
          have e2 : b.appendD x bs = b := by unfold Dk.appendD; rw [e, if_neg (by simp), if_neg (by simp)]
          rw [e, e2]
          refine (kind1a (Rof b t1) _ kr x y hx bs hb hm (by rw [a1]; exact a2) (b.file v.toNat) (by rw [a1]; exact a4) (by omega)).mono ?_
          rintro r s ⟨h1, h2⟩
          exact ⟨h1, h2⟩
theorem wrap_u64 (n : Nat) : IntKind.u64.wrap (n : Int) = ((BitVec.ofNat 64 n).toNat : Int) := by
 simp [IntKind.wrap, IntKind.bits, IntKind.signed]
theorem iand_u64 (x y : BitVec 64) : iand .u64 (x.toNat : Int) (y.toNat : Int) = ((x &&& y).toNat : Int) := by
 show IntKind.u64.wrap (BitVec.ofInt 64 (x.toNat : Int) &&& BitVec.ofInt 64 (y.toNat : Int)).toNat = _
 rw [show BitVec.ofInt 64 (x.toNat : Int) = x by simp, show BitVec.ofInt 64 (y.toNat : Int) = y by simp, wrap_u64]; simp
theorem ior_u64 (x y : BitVec 64) : ior .u64 (x.toNat : Int) (y.toNat : Int) = ((x ||| y).toNat : Int) := by
 show IntKind.u64.wrap (BitVec.ofInt 64 (x.toNat : Int) ||| BitVec.ofInt 64 (y.toNat : Int)).toNat = _
 rw [show BitVec.ofInt 64 (x.toNat : Int) = x by simp, show BitVec.ofInt 64 (y.toNat : Int) = y by simp, wrap_u64]; simp
theorem ishr_u64 (x : BitVec 64) (n : Nat) : ishr .u64 (x.toNat : Int) (n : Int) = ((x >>> n).toNat : Int) := by
 show Int.fdiv (x.toNat : Int) (2 ^ min (n : Int).toNat 64) = _
 have h1 : ((2 : Int) ^ min (n : Int).toNat 64) = ((2 ^ min n 64 : Nat) : Int) := by simp
 rw [h1, Int.fdiv_eq_ediv_of_nonneg _ (Int.natCast_nonneg _), ← Int.natCast_ediv]
 congr 1
 rw [BitVec.toNat_ushiftRight, Nat.shiftRight_eq_div_pow]
 by_cases hn : n ≤ 64
 · rw [Nat.min_eq_left hn]
 · rw [Nat.min_eq_right (by omega)]
   have h2 : x.toNat < 2 ^ 64 := x.isLt
   rw [Nat.div_eq_of_lt h2, Nat.div_eq_of_lt (Nat.lt_of_lt_of_le h2 (Nat.pow_le_pow_right (by omega) (by omega)))]
theorem ishl_u64 (n : Nat) (hn : n < 64) : ishl .u64 1 (n : Int) = ((1#64 <<< n).toNat : Int) := by
 show IntKind.u64.wrap (1 * 2 ^ min (n : Int).toNat 64) = _
 have h1 : (1 * (2 : Int) ^ min (n : Int).toNat 64) = ((2 ^ n : Nat) : Int) := by
  rw [Int.one_mul, Int.toNat_natCast, Nat.min_eq_left (by omega)]; simp
 rw [h1, wrap_u64]
 congr 1
 rw [BitVec.toNat_shiftLeft, BitVec.toNat_ofNat, Nat.shiftLeft_eq]
 simp
def w64 (x : BitVec 64) : D := .int .u64 (x.toNat : Int)
def bitsHas (ws : List (BitVec 64)) (n : Nat) : Bool := (ws.getD (n / 64) 0#64).getLsbD (n % 64)
theorem bit_and (x : BitVec 64) (k : Nat) : (iand .u64 (ishr .u64 (x.toNat : Int) (k : Int)) 1 == 1) = x.getLsbD k := by
 rw [ishr_u64, show (1 : Int) = ((1#64).toNat : Int) by rfl, iand_u64, BitVec.and_one_eq_setWidth_ofBool_getLsbD, BitVec.getLsbD_ushiftRight, Nat.add_zero]
 cases x.getLsbD k <;> decide
noncomputable def B99 : Code := (Try.f99.body).getD .skip
noncomputable def G99 (n l) := cgo n l [.code B99]
theorem F99 : Fnc Try.prog 99 Try.f99 B99 := ⟨Try.func99, by kernel_rfl, by kernel_rfl⟩
noncomputable def B74 : Code := (Try.f74.body).getD .skip
noncomputable def G74 (n l) := cgo n l [.code B74]
theorem F74 : Fnc Try.prog 74 Try.f74 B74 := ⟨Try.func74, by kernel_rfl, by kernel_rfl⟩
theorem spec_99 (ws : List D) : CallsA Try.prog 99 [.ptr 0 0 0] [.cells [.row 1], .row 1 ws false] fun r σ' => r = .ret (.row 1) ∧ σ' = [.cells [.row 1], .row 1 ws false] := by
 refine CallsA.start F99 (tm := mk (Try.f99.ntmps) [(0, .ptr 0 0 0)]) (by kernel_rfl) ?_
 refine .sge 20 [2] (cgo 20 [false] [.code B99]) ?_
 refine .rt F99 (V.row 1) ?_
 exact ⟨rfl, by kernel_rfl⟩
theorem spec_74 (ws : List (BitVec 64)) (n : Nat) (hn : n < 1000000000) (hw : ws.length < 1000000000) : CallsA Try.prog 74 [.ptr 0 0 0, .d (.int .i64 (n : Nat))] [.cells [.row 1], .row 1 (ws.map w64) false] fun r σ' => r = .ret (.d (.bool (bitsHas ws n))) ∧ σ' = [.cells [.row 1], .row 1 (ws.map w64) false] := by
 refine CallsA.start F74 (tm := mk (Try.f74.ntmps) [(0, .ptr 0 0 0), (1, .d (.int .i64 (n : Nat)))]) (by kernel_rfl) ?_
 refine .sge 7 [0, 1, 4, 6] (G74 7 []) ?_
 refine .ca [0, 1] (G74 8 []) F99 (@spec_99 (map w64 ws)) ?_
 rintro r0 s0 ⟨rfl, rfl⟩
 refine ⟨_, rfl, ?_⟩
 refine .sg0 14 [1, 4, 5, 8, 9, 10, 11, 12, 13, 14, 15, 16, 17] (G74 22 []) [(5, .row 1), (8, .d (.int .i64 (↑n : Int))), (9, .d (.bool true)), (10, .d (.bool true)), (11, .d (.int .i64 (↑n : Int))), (12, .d (.int .i64 (IntKind.i64.wrap ((↑n : Int).tdiv 64)))), (13, .row 1), (14, .d (.int .i64 (↑(map w64 ws).length : Int))), (15, .d (.bool (decide (IntKind.i64.wrap ((↑n : Int).tdiv 64) < (↑(map w64 ws).length : Int))))), (16, .d (.bool (decide (IntKind.i64.wrap ((↑n : Int).tdiv 64) < (↑(map w64 ws).length : Int))))), (17, .d (.bool (decide (IntKind.i64.wrap ((↑n : Int).tdiv 64) < (↑(map w64 ws).length : Int)))))] ?_
 simp only [List.length_map]
 simp (disch := omega) only [bsW]
 rcases Bool.eq_false_or_eq_true (decide ((↑n : Int) / 64 < (↑ws.length : Int))) with h2 | h2
 · rw [h2]
   simp only [bsX] at h2
   refine .sg0 3 [1, 4, 5, 8, 9, 10, 11, 12, 13, 14, 15, 16, 17, 18, 19, 20] (G74 25 []) [(12, .d (.int .i64 ((↑n : Int) / 64))), (18, .row 1), (19, .d (.int .i64 (↑n : Int))), (20, .d (.int .i64 (IntKind.i64.wrap ((↑n : Int).tdiv 64))))] ?_
   simp (disch := omega) only [bsW]
   refine .op' (G74 26 []) (ixRow_ok (t := 124) (x := (.tmp 18)) (i := (.tmp 20)) (k := IntKind.i64) (n := (↑n : Int) / 64) (l := 1) (sz := 1) (xs := map w64 ws) (mv := false) (by kernel_rfl) (by kernel_rfl) (by kernel_rfl) (by kernel_rfl) (by kernel_rfl) (by omega) (by simp <;> omega)) ?_
   obtain ⟨y3, hy3⟩ := get_some (l := ws) (i := ((↑n : Int) / 64).toNat) (by omega)
   refine .ld (G74 27 []) (xs := map w64 ws) (map_get hy3) ?_
   refine .seg 8 [4] (T' := cgo 35 [] [.code B74]) (tm' := mk 29 [(4, .d (.bool (IntKind.u64.wrap (↑(BitVec.ofInt IntKind.u64.bits ((↑y3.toNat : Int).fdiv (2 ^ min ((↑n : Int).tmod 64).toNat IntKind.u64.bits)) &&& BitVec.ofInt IntKind.u64.bits 1).toNat : Int) == 1)))]) (σ' := [.cells [.row 1], .row 1 (map w64 ws) false]) (by kernel_rfl) ?_
   simp (disch := omega) only [bsW]
   refine .rt F74 (V.d (D.bool (IntKind.u64.wrap (↑(BitVec.ofInt IntKind.u64.bits ((↑y3.toNat : Int).fdiv (2 ^ min ((↑n : Int) % 64).toNat IntKind.u64.bits)) &&& BitVec.ofInt IntKind.u64.bits 1).toNat : Int) == 1))) ?_
   have e1 : (n : Int) % 64 = ((n % 64 : Nat) : Int) := by omega
   have e2 : ((n : Int) / 64).toNat = n / 64 := by omega
   rw [e2] at hy3
   rw [e1]
   have e3 : bitsHas ws n = y3.getLsbD (n % 64) := by unfold bitsHas; rw [List.getD_eq_getElem?_getD, hy3]; rfl
   rw [e3, ← bit_and]
   exact ⟨rfl, rfl⟩
 · rw [h2]
   simp only [bsX] at h2
   refine .seg 13 [4] (T' := cgo 35 [] [.code B74]) (tm' := mk 29 [(4, .d (.bool false))]) (σ' := [.cells [.row 1], .row 1 (map w64 ws) false]) (by kernel_rfl) ?_
   refine .rt F74 (V.d (D.bool false)) ?_
   have e3 : bitsHas ws n = false := by
    unfold bitsHas
    rw [List.getD_eq_getElem?_getD, List.getElem?_eq_none (by omega)]
    simp
   rw [e3]
   exact ⟨rfl, rfl⟩
noncomputable def B73 : Code := (Try.f73.body).getD .skip
noncomputable def G73 (n l) := cgo n l [.code B73]
theorem F73 : Fnc Try.prog 73 Try.f73 B73 := ⟨Try.func73, by kernel_rfl, by kernel_rfl⟩
def bitsSet (ws : List (BitVec 64)) (n : Nat) : List (BitVec 64) := ws.set (n / 64) (ws.getD (n / 64) 0#64 ||| (1#64 <<< (n % 64)))
def bitsPut (ws : List (BitVec 64)) (n : Nat) : List (BitVec 64) := if bitsHas ws n then ws else bitsSet (ws ++ List.replicate (n / 64 + 1 - ws.length) 0#64) n
theorem lo73 (n : Nat) (hn : n < 65536) : ∀ (m : Nat) (ws : List (BitVec 64)) (mv : Bool), (ws.length + m = n / 64 + 1 ∨ (m = 0 ∧ n / 64 < ws.length)) → ws.length < 1000000000 →
    AW Try.prog 73 none 2 (G73 28 [false]) (mk 50 [(0, .ptr 0 0 0), (1, .d (.int .i64 (n : Nat)))]) [.cells [.row 1], .row 1 (ws.map w64) mv] [] fun r σ' => r = .ret (.d (.bool true)) ∧ σ' = [.cells [.row 1], .row 1 ((bitsSet (ws ++ List.replicate m 0#64) n).map w64) true] := by
  have hq : IntKind.i64.wrap ((n : Int).tdiv 64) = ((n / 64 : Nat) : Int) := by
    rw [tdiv_nn (by omega), wrap_i64 (by omega) (by omega)]; omega
  intro m
  induction m with
  | zero =>
    intro ws mv hm hw
    have hlt : n / 64 < ws.length := by omega
    obtain ⟨y, hy⟩ := get_some (l := ws) (i := (IntKind.i64.wrap ((n : Int).tdiv 64)).toNat) (by omega)
    refine .raises [1] ?_
    refine .sg0 12 [0, 1, 20, 21, 22, 23, 24, 25, 26, 27] (G73 40 [false]) [(20, .ptr 0 0 0), (21, .ptr 0 0 0), (22, .ptr 0 0 0), (23, .row 1), (24, .d (.int .i64 (↑(map w64 ws).length : Int))), (25, .d (.int .i64 (↑n : Int))), (26, .d (.int .i64 (IntKind.i64.wrap ((↑n : Int).tdiv 64)))), (27, .d (.bool (decide ((↑(map w64 ws).length : Int) ≤ IntKind.i64.wrap ((↑n : Int).tdiv 64)))))] ?_
    simp only [List.length_map]
    simp (disch := omega) only [bsW]
    refine .if' (decide ((↑ws.length : Int) ≤ (↑n : Int) / 64)) (G73 41 [false, true]) (G73 41 [false, false]) (fun h1 => ?_) (fun h1 => ?_)
    · simp only [bsX] at h1
      omega
    · simp only [bsX] at h1
      refine .sg0 2 [0, 1] (G73 43 [false, false]) [] ?_
      refine .dr (G73 44 [false, false]) [(37, .ptr 0 0 0), (38, .ptr 0 0 0), (39, .ptr 0 0 0), (40, .row 1), (41, .d (.int .i64 (↑n : Int))), (42, .d (.int .i64 (IntKind.i64.wrap ((↑n : Int).tdiv 64)))), (43, .ptr 1 (IntKind.i64.wrap ((↑n : Int).tdiv 64)).toNat 0), (44, .d (.int .u64 (↑y.toNat : Int))), (45, .d (.int .i64 (↑n : Int))), (46, .d (.int .i64 ((↑n : Int).tmod 64))), (47, .d (.int .u64 (IntKind.u64.wrap (1 * 2 ^ min ((↑n : Int).tmod 64).toNat IntKind.u64.bits)))), (48, .d (.int .u64 (IntKind.u64.wrap (↑(BitVec.ofInt IntKind.u64.bits (↑y.toNat : Int) ||| BitVec.ofInt IntKind.u64.bits (IntKind.u64.wrap (1 * 2 ^ min ((↑n : Int).tmod 64).toNat IntKind.u64.bits))).toNat : Int)))), (49, .ptr 1 (IntKind.i64.wrap ((↑n : Int).tdiv 64)).toNat 0)] [(1, .row 1 ((map w64 ws).set (IntKind.i64.wrap ((↑n : Int).tdiv 64)).toNat (D.int IntKind.u64 (IntKind.u64.wrap (↑(BitVec.ofInt IntKind.u64.bits (↑y.toNat : Int) ||| BitVec.ofInt IntKind.u64.bits (IntKind.u64.wrap (1 * 2 ^ min ((↑n : Int).tmod 64).toNat IntKind.u64.bits))).toNat : Int)))) true)] (fun kz L hL => ?_) ?_
      · refine ⟨[fO 0, fA 0, fA 0, fB 0 1, nF, nF, fX [1] [] [] [1] [1], fR 1, nF, nF, nF, nF, fX [1] [] [] [1] [1], fX [1] [1] [] [] [1]], run_amongF hL _ [] [0, 1, 2, 3, 4, 5, 6, 7, 8, 9, 10, 11, 12, 13] (by intro p hp; cases hp) (by kernel_rfl) ?_⟩
        refine Run.ap [0, 1, 2, 3, 4, 5] [(37, .ptr 0 0 0), (38, .ptr 0 0 0), (39, .ptr 0 0 0), (40, .row 1), (41, .d (.int .i64 (↑n : Int))), (42, .d (.int .i64 (IntKind.i64.wrap ((↑n : Int).tdiv 64))))] [] ?_
        refine Run.lk 6 (.ptr 1 (IntKind.i64.wrap ((↑n : Int).tdiv 64)).toNat 0) [(.tmp 40), (.tmp 42)] (fun tm' σ2 hv hr => ixRow_ok (t := 124) (x := (.tmp 40)) (i := (.tmp 42)) (k := IntKind.i64) (n := IntKind.i64.wrap ((↑n : Int).tdiv 64)) (l := 1) (sz := 1) (xs := map w64 ws) (mv := true) (by kernel_rfl) (evv hv) (evv hv) (atr hr) (by kernel_rfl) (by omega) (by simp at * <;> omega)) ?_
        refine Run.lk 7 (.d (.int .u64 (↑y.toNat : Int))) [(.tmp 43)] (fun tm' σ2 hv hr => ldRow_ok (t := 151) (x := (.tmp 43)) (l := 1) (i := (IntKind.i64.wrap ((↑n : Int).tdiv 64)).toNat) (s := 0) (sz := 1) (xs := map w64 ws) (mv := true) (d := w64 y) (v := .d (.int .u64 (↑y.toNat : Int))) (by kernel_rfl) (evv hv) (atr hr) (map_get hy) (by kernel_rfl)) ?_
        refine Run.ap [8, 9, 10, 11] [(45, .d (.int .i64 (↑n : Int))), (46, .d (.int .i64 ((↑n : Int).tmod 64))), (47, .d (.int .u64 (IntKind.u64.wrap (1 * 2 ^ min ((↑n : Int).tmod 64).toNat IntKind.u64.bits)))), (48, .d (.int .u64 (IntKind.u64.wrap (↑(BitVec.ofInt IntKind.u64.bits (↑y.toNat : Int) ||| BitVec.ofInt IntKind.u64.bits (IntKind.u64.wrap (1 * 2 ^ min ((↑n : Int).tmod 64).toNat IntKind.u64.bits))).toNat : Int))))] [] ?_
        refine Run.lk 12 (.ptr 1 (IntKind.i64.wrap ((↑n : Int).tdiv 64)).toNat 0) [(.tmp 40), (.tmp 42)] (fun tm' σ2 hv hr => ixRow_ok (t := 124) (x := (.tmp 40)) (i := (.tmp 42)) (k := IntKind.i64) (n := IntKind.i64.wrap ((↑n : Int).tdiv 64)) (l := 1) (sz := 1) (xs := map w64 ws) (mv := true) (by kernel_rfl) (evv hv) (evv hv) (atr hr) (by kernel_rfl) (by omega) (by simp at * <;> omega)) ?_
        refine Run.one (StepF.sets (o := ((drawOf (G73 43 [false, false]))[13]?).getD default) (v := .undef) [(.tmp 49), (.tmp 48)] 1 (.row 1 ((map w64 ws).set (IntKind.i64.wrap ((↑n : Int).tdiv 64)).toNat (D.int IntKind.u64 (IntKind.u64.wrap (↑(BitVec.ofInt IntKind.u64.bits (↑y.toNat : Int) ||| BitVec.ofInt IntKind.u64.bits (IntKind.u64.wrap (1 * 2 ^ min ((↑n : Int).tmod 64).toNat IntKind.u64.bits))).toNat : Int)))) true) (by kernel_rfl) rfl (by kernel_rfl) (by kernel_rfl) (by kernel_rfl) (by kernel_rfl) (by kernel_rfl) (fun tm' σ2 hv hr => stRow_ok (t := 151) (x := (.tmp 49)) (y := (.tmp 48)) (l := 1) (i := (IntKind.i64.wrap ((↑n : Int).tdiv 64)).toNat) (s := 0) (sz := 1) (xs := map w64 ws) (mv := true) (d := w64 y) (d' := D.int IntKind.u64 (IntKind.u64.wrap (↑(BitVec.ofInt IntKind.u64.bits (↑y.toNat : Int) ||| BitVec.ofInt IntKind.u64.bits (IntKind.u64.wrap (1 * 2 ^ min ((↑n : Int).tmod 64).toNat IntKind.u64.bits))).toNat : Int))) (by kernel_rfl) (evv hv) (atr hr) (map_get hy) (by unfold storeE; rw [hv _ (by simp)]; kernel_rfl))) ?_
        exact Run.fin
      refine .seg 4 [4] (T' := cgo 48 [false, false] [.code B73]) (tm' := mk 50 [(4, .d (.bool true))]) (σ' := [.cells [.row 1], .row 1 ((map w64 ws).set (IntKind.i64.wrap ((↑n : Int).tdiv 64)).toNat (D.int IntKind.u64 (IntKind.u64.wrap (↑(BitVec.ofInt IntKind.u64.bits (↑y.toNat : Int) ||| BitVec.ofInt IntKind.u64.bits (IntKind.u64.wrap (1 * 2 ^ min ((↑n : Int).tmod 64).toNat IntKind.u64.bits))).toNat : Int)))) true]) (by kernel_rfl) ?_
      simp (disch := omega) only [bsW]
      refine .rt F73 (V.d (D.bool true)) ?_
      have e1 : (n : Int) % 64 = ((n % 64 : Nat) : Int) := by omega
      have e2 : ((n : Int) / 64).toNat = n / 64 := by omega
      have e3 : ior .u64 (y.toNat : Int) (ishl .u64 1 ((n % 64 : Nat) : Int)) = ((y ||| (1#64 <<< (n % 64))).toNat : Int) := by rw [ishl_u64 _ (Nat.mod_lt _ (by omega)), ior_u64]
      rw [hq, Int.toNat_natCast] at hy
      rw [e1, e2]
      change _ ∧ [O.cells [V.row 1], O.row 1 ((List.map w64 ws).set (n / 64) (D.int .u64 (ior .u64 (y.toNat : Int) (ishl .u64 1 ((n % 64 : Nat) : Int))))) true] = _
      rw [e3]
      have e4 : ws.getD (n / 64) 0#64 = y := by rw [List.getD_eq_getElem?_getD, hy]; rfl
      refine ⟨rfl, ?_⟩
      rw [List.replicate_zero, List.append_nil]
      unfold bitsSet
      rw [e4, List.map_set]
      rfl
  | succ m ih =>
    intro ws mv hm hw
    refine .sg0 12 [0, 1, 20, 21, 22, 23, 24, 25, 26, 27] (G73 40 [false]) [(20, .ptr 0 0 0), (21, .ptr 0 0 0), (22, .ptr 0 0 0), (23, .row 1), (24, .d (.int .i64 (↑(map w64 ws).length : Int))), (25, .d (.int .i64 (↑n : Int))), (26, .d (.int .i64 (IntKind.i64.wrap ((↑n : Int).tdiv 64)))), (27, .d (.bool (decide ((↑(map w64 ws).length : Int) ≤ IntKind.i64.wrap ((↑n : Int).tdiv 64)))))] ?_
    simp only [List.length_map]
    simp (disch := omega) only [bsW]
    refine .if' (decide ((↑ws.length : Int) ≤ (↑n : Int) / 64)) (G73 41 [false, true]) (G73 41 [false, false]) (fun h1 => ?_) (fun h1 => ?_)
    · simp only [bsX] at h1
      refine .sge 9 [0, 1, 20, 21, 22, 23, 24, 25, 26, 27, 28, 29, 30, 31, 32, 33] (G73 50 [false, true]) ?_
      refine .op' (G73 51 [false, true]) (appRow_ok (s := (.tmp 32)) (x := (.tmp 33)) (t := 124) (t2 := 124) (sz := 1) (by' := 8) (ys := [D.int IntKind.u64 0]) (l := 1) (xs := map w64 ws) (mv := mv) (by kernel_rfl) (by kernel_rfl) (by kernel_rfl) (by kernel_rfl) (by kernel_rfl) (by kernel_rfl) (by simp <;> omega) (by first | (simp [maxLen] <;> omega) | omega)) ?_
      refine .sg 5 [0, 1, 20, 21, 22, 24, 25, 26, 27, 28, 29, 30, 31, 33, 34, 35, 36] (G73 56 [false, true]) [(35, .ptr 0 0 0), (36, .ptr 0 0 0)] [(0, .cells [.row 1])] ?_
      rw [show List.map w64 ws ++ [D.int IntKind.u64 0] = List.map w64 (ws ++ [0#64]) by simp [w64]]
      refine .kp [0, 1] ?_
      refine .su [0, 1] (mk 50 [(0, .ptr 0 0 0), (1, .d (.int .i64 (n : Nat)))]) [.cells [.row 1], .row 1 ((ws ++ [0#64]).map w64) true] ?_
      refine AW.mono (.seg 1 [0, 1] (by kernel_rfl) (ih (ws ++ [0#64]) true (by simp; omega) (by simp; omega))) ?_
      rintro r σ' ⟨rfl, rfl⟩
      exact ⟨rfl, by rw [List.append_assoc]; rfl⟩
    · simp only [bsX] at h1
      omega
theorem spec_73 (ws : List (BitVec 64)) (n : Nat) (hn : n < 65536) (hw : ws.length < 900000000) : CallsA Try.prog 73 [.ptr 0 0 0, .d (.int .i64 (n : Nat))] [.cells [.row 1], .row 1 (ws.map w64) false] fun r σ' => r = .ret (.d (.bool (!bitsHas ws n))) ∧ σ' = [.cells [.row 1], .row 1 ((bitsPut ws n).map w64) true] := by
 refine CallsA.start F73 (tm := mk (Try.f73.ntmps) [(0, .ptr 0 0 0), (1, .d (.int .i64 (n : Nat)))]) (by kernel_rfl) ?_
 refine .sg0 18 [0, 1, 4, 5, 6, 7, 8, 9, 10, 11, 12, 13, 14, 15] (G73 18 []) [(4, .d (.bool false)), (5, .ptr 0 0 0), (6, .d (.bool false)), (7, .d (.bool false)), (8, .d (.int .i64 (↑n : Int))), (9, .d (.bool false)), (10, .d (.bool false)), (11, .d (.bool false)), (12, .d (.int .i64 (↑n : Int))), (13, .d (.bool (decide ((↑n : Int) ≥ 65536)))), (14, .d (.bool (decide ((↑n : Int) ≥ 65536)))), (15, .d (.bool (decide ((↑n : Int) ≥ 65536))))] ?_
 rcases Bool.eq_false_or_eq_true (decide ((↑n : Int) ≥ 65536)) with h1 | h1
 · rw [h1]
   simp only [bsX] at h1
   omega
 · rw [h1]
   simp only [bsX] at h1
   refine .sge 2 [0, 1, 4, 5, 6, 7, 8, 9, 10, 11, 12, 13, 14, 15, 16, 17] (G73 20 []) ?_
   refine .ca [0, 1] (G73 21 []) F74 (@spec_74 (ws) (n) (by omega) (by omega)) ?_
   rintro r1 s1 ⟨rfl, rfl⟩
   refine ⟨_, rfl, ?_⟩
   refine .sge 2 [0, 1, 4, 19] (G73 23 []) ?_
   refine .if' (bitsHas ws n) (G73 24 [true]) (G73 24 [false]) (fun h3 => ?_) (fun h3 => ?_)
   · refine .seg 4 [0, 1, 4] (T' := cgo 28 [true] [.code B73]) (tm' := mk 50 [(0, .ptr 0 0 0), (1, .d (.int .i64 (↑n : Int))), (4, .d (.bool false))]) (σ' := [.cells [.row 1], .row 1 (map w64 ws) false]) (by kernel_rfl) ?_
     refine .raise 1 rfl rfl ?_
     refine .rt F73 (V.d (D.bool false)) ?_
     simp_all [bitsPut]
   · refine .sg0 3 [0, 1, 4] (G73 27 [false]) [] ?_
     refine AW.mono (.seg 1 [0, 1] (by kernel_rfl) (lo73 n hn (n / 64 + 1 - ws.length) ws false (by omega) (by omega))) ?_
     rintro r σ' ⟨rfl, rfl⟩
     simp_all [bitsPut]
theorem bitsHas_grow (ws : List (BitVec 64)) (k m : Nat) : bitsHas (ws ++ List.replicate k 0#64) m = bitsHas ws m := by
 unfold bitsHas
 congr 1
 rw [List.getD_eq_getElem?_getD, List.getD_eq_getElem?_getD]
 by_cases h : m / 64 < ws.length
 · rw [List.getElem?_append_left h]
 · rw [List.getElem?_append_right (by omega), List.getElem?_eq_none (show ws.length ≤ m / 64 by omega), List.getElem?_replicate]
   split <;> rfl
theorem bitsHas_set (ws : List (BitVec 64)) (n m : Nat) (h : n / 64 < ws.length) : bitsHas (bitsSet ws n) m = (m == n || bitsHas ws m) := by
  unfold bitsHas bitsSet
  rw [List.getD_eq_getElem?_getD, List.getElem?_set]
  by_cases h1 : n / 64 = m / 64
  · rw [if_pos h1, if_pos h, Option.getD_some, BitVec.getLsbD_or, BitVec.getLsbD_shiftLeft, h1]
    by_cases h2 : m = n
    · subst h2
      have : m % 64 < 64 := Nat.mod_lt _ (by omega)
      simp [this]
    · have h3 : m % 64 ≠ n % 64 := by omega
      have h4 : (m == n) = false := by simpa using h2
      rw [h4, Bool.false_or]
      rcases Nat.lt_or_ge (m % 64) (n % 64) with h5 | h5
      · simp [h5]
      · have : m % 64 - n % 64 ≠ 0 := by omega
        rw [BitVec.getLsbD_one]
        simp [this]
  · rw [if_neg h1]
    have h2 : m ≠ n := fun e => h1 (by rw [e])
    have h4 : (m == n) = false := by simpa using h2
    rw [h4, Bool.false_or, List.getD_eq_getElem?_getD]
theorem bitsHas_put (ws : List (BitVec 64)) (n m : Nat) : bitsHas (bitsPut ws n) m = (m == n || bitsHas ws m) := by
 unfold bitsPut
 split
 · rename_i h
   by_cases h2 : m = n
   · subst h2; simp [h]
   · simp [h2]
 · rw [bitsHas_set _ _ _ (by simp; omega), bitsHas_grow]
theorem bitsPut_len (ws : List (BitVec 64)) (n : Nat) (hn : n < 65536) (h : ws.length ≤ 1024) : (bitsPut ws n).length ≤ 1024 := by
 unfold bitsPut
 split
 · exact h
 · unfold bitsSet; simp; omega
noncomputable def B75 : Code := (Try.f75.body).getD .skip
noncomputable def G75 (n l) := cgo n l [.code B75]
theorem F75 : Fnc Try.prog 75 Try.f75 B75 := ⟨Try.func75, by kernel_rfl, by kernel_rfl⟩
theorem spec_75 (bs : List UInt8) (s i : Nat) (keep : List Int) (hf : s ≤ bs.length ∧ bs.length ≤ 1048576) (hi : i < 1000000000) (hk : keep.length < 1000000000) (hkv : ∀ v ∈ keep, -9223372036854775808 ≤ v ∧ v < 9223372036854775808) :
    Br.Pure Try.prog 75 [.d (.agg [.list 1 (bs.map u8), .int .i64 (s : Nat)]), .d (.int .i64 (i : Nat)), .d (.list 1 (keep.map intD))] (.d (.int .i64 (leftOf (bs, s) i keep : Nat))) := by
  refine CallsA.start F75 (tm := mk (Try.f75.ntmps) [(0, .d (.agg [.list 1 (bs.map u8), .int .i64 (s : Nat)])), (1, .d (.int .i64 (i : Nat))), (2, .d (.list 1 (keep.map intD)))]) (by kernel_rfl) ?_
  have hf1 := hf.1
  have hf2 := hf.2
  by_cases hk0 : keep = []
  · subst hk0
    have e : leftOf (bs, s) i [] = s := by simp [leftOf]
    rw [e]
    refine .sge 19 [1, 2, 3, 6] (G75 19 [true]) ?_
    refine .kp [6] ?_
    refine .su [] (mk 32 [(6, .d (.int .i64 (↑s : Int)))]) [] ?_
    refine .rt F75 (V.d (D.int IntKind.i64 (↑s : Int))) ?_
    exact ⟨rfl, by kernel_rfl⟩
  · have hpos : 0 < keep.length := List.length_pos_iff.2 hk0
    have hlt : i % keep.length < keep.length := Nat.mod_lt _ hpos
    have hq := irem_n i keep.length
    obtain ⟨v, hw⟩ := get_some (l := keep) (i := (irem (i : Int) ((List.map intD keep).length : Int)).toNat) (by rw [List.length_map, hq, Int.toNat_natCast]; exact hlt)
    have hvb := hkv v (List.mem_of_getElem? hw)
    refine .sg 12 [1, 2, 3, 6, 10] (G75 12 []) [(3, .ptr 0 0 0), (6, .d (.int .i64 0)), (10, .d (.bool ((↑(map intD keep).length : Int) == 0)))] [(0, .cells [.d (.list 1 (map u8 bs)), .d (.int .i64 (↑s : Int))])] ?_
    simp only [List.length_map]
    refine .if' ((↑keep.length : Int) == 0) (G75 13 [true]) (G75 13 [false]) (fun h1 => ?_) (fun h1 => ?_)
    · simp only [bsX] at h1
      omega
    · simp only [bsX] at h1
      refine .sg0 12 [1, 2, 3, 6, 7] (G75 25 [false]) [(7, .d (.int .i64 (IntKind.i64.wrap ((↑(map u8 bs).length : Int) - (↑s : Int)))))] ?_
      simp only [List.length_map]
      simp (disch := omega) only [bsW]
      refine .dr (G75 26 [false]) [(6, .d (.int .i64 (IntKind.i64.wrap ((↑s : Int) + if (if (↑bs.length : Int) - (↑s : Int) < v then (↑bs.length : Int) - (↑s : Int) else v) > 0 then if (↑bs.length : Int) - (↑s : Int) < v then (↑bs.length : Int) - (↑s : Int) else v else 0)))), (19, .ptr 0 0 1), (20, .d (.int .i64 (↑s : Int))), (21, .d (.list 1 (map intD keep))), (22, .d (.int .i64 (↑i : Int))), (23, .d (.list 1 (map intD keep))), (24, .d (.int .i64 (↑(map intD keep).length : Int))), (25, .d (.int .i64 (irem (↑i : Int) (↑(map intD keep).length : Int)))), (26, .ep 1 (D.int IntKind.i64 v) 0), (27, .d (.int .i64 v)), (28, .d (.int .i64 ((↑bs.length : Int) - (↑s : Int)))), (29, .d (.int .i64 (if (↑bs.length : Int) - (↑s : Int) < v then (↑bs.length : Int) - (↑s : Int) else v))), (30, .d (.int .i64 (if (if (↑bs.length : Int) - (↑s : Int) < v then (↑bs.length : Int) - (↑s : Int) else v) > 0 then if (↑bs.length : Int) - (↑s : Int) < v then (↑bs.length : Int) - (↑s : Int) else v else 0))), (31, .d (.int .i64 (IntKind.i64.wrap ((↑s : Int) + if (if (↑bs.length : Int) - (↑s : Int) < v then (↑bs.length : Int) - (↑s : Int) else v) > 0 then if (↑bs.length : Int) - (↑s : Int) < v then (↑bs.length : Int) - (↑s : Int) else v else 0))))] [] (fun kz L hL => ?_) ?_
      · refine ⟨[fA 0, fR 0, nF, nF, nF, nF, nF, nF, nF, nF, nF, nF, nF, nF], run_amongF hL _ [] [0, 1, 2, 3, 4, 9, 5, 6, 7, 8, 10, 11, 12, 13] (by intro p hp; cases hp) (by kernel_rfl) ?_⟩
        refine Run.ap [0, 1, 2, 3, 4, 9, 5] [(19, .ptr 0 0 1), (20, .d (.int .i64 (↑s : Int))), (21, .d (.list 1 (map intD keep))), (22, .d (.int .i64 (↑i : Int))), (23, .d (.list 1 (map intD keep))), (24, .d (.int .i64 (↑(map intD keep).length : Int))), (28, .d (.int .i64 ((↑bs.length : Int) - (↑s : Int))))] [] ?_
        refine Run.lk 6 (.d (.int .i64 (irem (↑i : Int) (↑(map intD keep).length : Int)))) [(.tmp 22), (.tmp 24)] (fun tm' σ2 hv hr => rem_ok (t := 3) (ty := 3) (x := (.tmp 22)) (y := (.tmp 24)) (k := IntKind.i64) (a := (↑i : Int)) (b := (↑(map intD keep).length : Int)) (by kernel_rfl) (evv hv) (evv hv) (by simp <;> omega)) ?_
        refine Run.lk 7 (.ep 1 (D.int IntKind.i64 v) 0) [(.tmp 21), (.tmp 25)] (fun tm' σ2 hv hr => ixData_ok (t := 46) (x := (.tmp 21)) (i := (.tmp 25)) (k := IntKind.i64) (n := irem (↑i : Int) (↑(map intD keep).length : Int)) (sz := 1) (xs := map intD keep) (d := intD v) (by kernel_rfl) (evl hv) (evv hv) (by kernel_rfl) (by simp <;> omega) (map_get hw)) ?_
        exact Run.fin
      refine .kp [6] ?_
      refine .su [] (mk 32 [(6, .d (.int .i64 (IntKind.i64.wrap ((↑s : Int) + if (if (↑bs.length : Int) - (↑s : Int) < v then (↑bs.length : Int) - (↑s : Int) else v) > 0 then if (↑bs.length : Int) - (↑s : Int) < v then (↑bs.length : Int) - (↑s : Int) else v else 0))))]) [] ?_
      refine .rt F75 (V.d (D.int IntKind.i64 (IntKind.i64.wrap ((↑s : Int) + if (if (↑bs.length : Int) - (↑s : Int) < v then (↑bs.length : Int) - (↑s : Int) else v) > 0 then if (↑bs.length : Int) - (↑s : Int) < v then (↑bs.length : Int) - (↑s : Int) else v else 0)))) ?_
      rw [List.length_map, hq, Int.toNat_natCast] at hw
      have e : (leftOf (bs, s) i keep : Int) = s + (min v ((bs.length : Int) - s)).toNat := by
        unfold leftOf
        rw [if_neg hk0, List.getD_eq_getElem?_getD, hw]
        simp
      refine ⟨?_, rfl⟩
      rw [e, wrap_i64 (by split <;> split <;> omega) (by split <;> split <;> omega)]
      congr 3
      split <;> split <;> omega
end Go.Proofs.Ytoelkgbeefoplaa
