/- Texts of this proof, part 10: CheckA, UsedA, TurnK, OpsA, OpsB, OpsC. -/
import Derived.Test.YtoelkgbeefoplaaM9
set_option linter.unusedSimpArgs false
set_option linter.unusedVariables false
set_option linter.constructorNameAsVariable false
namespace Go.Proofs.Ytoelkgbeefoplaa
open Go Go.Br Go.Proofs
open List (map)
noncomputable def B64 : Code := (Try.f64.body).getD .skip
noncomputable def G64 (n : Nat) (l : List Bool) : List Item := cgo n l [.code B64]
theorem F64 : Fnc Try.prog 64 Try.f64 B64 := ⟨Try.func64, by kernel_rfl, by kernel_rfl⟩
theorem lo64 (b : Dk) (N : Nat) (h : b.Ok N) (there : Bool) (names : List ByteArray) (hn : names ≠ []) (hs : ∀ s ∈ names, s.size < 1000000000) (hn2 : names.length < 1000000) (ho : b.off = false) : ∀ (m i : Nat), i + m = names.length → (∀ s ∈ names.take i, mayName s = true) →
    AW Try.prog 64 none 7 (G64 22 [false]) (mk 35 [(0, V.ptr 0 0 0), (1, V.d (D.bool there)), (2, V.row 6), (14, V.row 6), (15, V.d (D.int IntKind.i64 (names.length : Nat))), (16, V.d (D.int IntKind.i64 (i : Nat)))]) (SD b false ++ [.row 1 (names.map strD) false]) [] fun r σ' => r = .ret (.d (.int .i64 (b.err there names))) ∧ σ' = SD b false ++ [.row 1 (names.map strD) false] := by
  have q1 := h.nr
  have q2 := h.nl
  have q3 := h.nkl
  have q4 := h.nb
  have q5 : ∀ x k, look b.nk b.nv x = some k → 0 ≤ k ∧ k < b.files.length := fun x k hk => h.nn k (look_mem hk)
  intro m
  induction m with
  | zero =>
    intro i hi hm
    have hi : i = names.length := by omega
    subst hi
    rw [List.take_length] at hm
    have hal : names.all mayName = true := List.all_eq_true.2 hm
    have h0 : 0 < names.length := List.length_pos_iff.2 hn
    obtain ⟨x, hx⟩ := get_some (l := names) (i := 0) h0
    have hd : names.headD default = x := by
      cases names with
      | nil => simp at h0
      | cons a l => simpa using hx
    have q6 := q5 x
    cases hk : look b.nk b.nv x with
    | none =>
      refine .sg0 5 [0, 1, 2, 14, 15, 16, 17] (G64 27 [false]) [(17, .d (.bool (decide ((↑names.length : Int) < (↑names.length : Int)))))] ?_
      refine .if' (decide ((↑names.length : Int) < (↑names.length : Int))) (G64 28 [false, true]) (G64 28 [false, false]) (fun h1 => ?_) (fun h1 => ?_)
      · simp only [bsX] at h1
        omega
      · simp only [bsX] at h1
        refine .sg0 6 [0, 2, 24] (G64 34 [false, false]) [(24, .d (.bool there))] ?_
        refine .if' (there) (G64 35 [false, false, true]) (G64 35 [false, false, false]) (fun h2 => ?_) (fun h2 => ?_)
        · refine .sg0 4 [0, 2, 26, 27] (G64 39 [false, false, true]) [(26, .ptr 0 0 0), (27, .row 6)] ?_
          refine .op' (G64 40 [false, false, true]) (ixRow_ok (t := 66) (x := (.tmp 27)) (i := (.const (Value.int IntKind.i64 0))) (k := IntKind.i64) (n := 0) (l := 6) (sz := 1) (xs := map strD names) (mv := false) (by kernel_rfl) (by kernel_rfl) (by kernel_rfl) (by kernel_rfl) (by kernel_rfl) (by omega) (by simp <;> omega)) ?_
          refine .op' (G64 41 [false, false, true]) (ldRow_ok (t := 9) (x := (.tmp 28)) (l := 6) (i := 0) (s := 0) (sz := 1) (xs := map strD names) (mv := false) (d := strD x) (v := .d (.str x)) (by kernel_rfl) (by kernel_rfl) (by kernel_rfl) (map_get hx) (by kernel_rfl)) ?_
          refine .ca [0, 1, 2, 3, 4, 5] (G64 42 [false, false, true]) F65 (@spec_65 (b) (x) (none) (by assumption) (by assumption) (by assumption) (by omega) (by assumption)) ?_
          rintro r2 s2 ⟨rfl, rfl⟩
          refine ⟨_, rfl, ?_⟩
          refine .seg 16 [6] (T' := cgo 58 [false, false, true, true] [.code B64]) (tm' := mk 35 [(6, .d (.int .i64 3))]) (σ' := [.cells (hC 1 2 5 b), .row 2 (map fileD b.files) false, .cells [.row 3, .row 4], .row 1 (map strD b.nk) false, .row 1 (map intD b.nv) false, .row 3 (map chD b.ch) false, .row 1 (map strD names) false]) (by kernel_rfl) ?_
          refine .rt F64 (V.d (D.int IntKind.i64 3)) ?_
          simp_all [hC, Dk.err, SD, dirD]
        · refine .seg 5 [6] (T' := cgo 40 [false, false, false] [.code B64]) (tm' := mk 35 [(6, .d (.int .i64 0))]) (σ' := [.cells (hC 1 2 5 b), .row 2 (map fileD b.files) false, .cells [.row 3, .row 4], .row 1 (map strD b.nk) false, .row 1 (map intD b.nv) false, .row 3 (map chD b.ch) false, .row 1 (map strD names) false]) (by kernel_rfl) ?_
          refine .rt F64 (V.d (D.int IntKind.i64 0)) ?_
          simp_all [hC, Dk.err, SD, dirD]
    | some k =>
      refine .sg0 5 [0, 1, 2, 14, 15, 16, 17] (G64 27 [false]) [(17, .d (.bool (decide ((↑names.length : Int) < (↑names.length : Int)))))] ?_
      refine .if' (decide ((↑names.length : Int) < (↑names.length : Int))) (G64 28 [false, true]) (G64 28 [false, false]) (fun h1 => ?_) (fun h1 => ?_)
      · simp only [bsX] at h1
        omega
      · simp only [bsX] at h1
        refine .sg0 6 [0, 2, 24] (G64 34 [false, false]) [(24, .d (.bool there))] ?_
        refine .if' (there) (G64 35 [false, false, true]) (G64 35 [false, false, false]) (fun h2 => ?_) (fun h2 => ?_)
        · refine .sg0 4 [0, 2, 26, 27] (G64 39 [false, false, true]) [(26, .ptr 0 0 0), (27, .row 6)] ?_
          refine .op' (G64 40 [false, false, true]) (ixRow_ok (t := 66) (x := (.tmp 27)) (i := (.const (Value.int IntKind.i64 0))) (k := IntKind.i64) (n := 0) (l := 6) (sz := 1) (xs := map strD names) (mv := false) (by kernel_rfl) (by kernel_rfl) (by kernel_rfl) (by kernel_rfl) (by kernel_rfl) (by omega) (by simp <;> omega)) ?_
          refine .op' (G64 41 [false, false, true]) (ldRow_ok (t := 9) (x := (.tmp 28)) (l := 6) (i := 0) (s := 0) (sz := 1) (xs := map strD names) (mv := false) (d := strD x) (v := .d (.str x)) (by kernel_rfl) (by kernel_rfl) (by kernel_rfl) (map_get hx) (by kernel_rfl)) ?_
          refine .ca [0, 1, 2, 3, 4, 5] (G64 42 [false, false, true]) F65 (@spec_65 (b) (x) (some k) (by assumption) (by assumption) (by assumption) (by omega) (by assumption)) ?_
          rintro r2 s2 ⟨rfl, rfl⟩
          refine ⟨_, rfl, ?_⟩
          refine .seg 17 [6] (T' := cgo 59 [false, false, true, false] [.code B64]) (tm' := mk 35 [(6, .d (.int .i64 0))]) (σ' := [.cells (hC 1 2 5 b), .row 2 (map fileD b.files) false, .cells [.row 3, .row 4], .row 1 (map strD b.nk) false, .row 1 (map intD b.nv) false, .row 3 (map chD b.ch) false, .row 1 (map strD names) false]) (by kernel_rfl) ?_
          refine .rt F64 (V.d (D.int IntKind.i64 0)) ?_
          simp_all [hC, Dk.err, SD, dirD]
        · refine .seg 5 [6] (T' := cgo 40 [false, false, false] [.code B64]) (tm' := mk 35 [(6, .d (.int .i64 0))]) (σ' := [.cells (hC 1 2 5 b), .row 2 (map fileD b.files) false, .cells [.row 3, .row 4], .row 1 (map strD b.nk) false, .row 1 (map intD b.nv) false, .row 3 (map chD b.ch) false, .row 1 (map strD names) false]) (by kernel_rfl) ?_
          refine .rt F64 (V.d (D.int IntKind.i64 0)) ?_
          simp_all [hC, Dk.err, SD, dirD]
  | succ m ih =>
    intro i hi hm
    obtain ⟨x, hx⟩ := get_some (l := names) (i := i) (by omega)
    have hxs : x.size < 9223372036854775807 := by have := hs x (List.mem_of_getElem? hx); omega
    have hno : mayName x = false → b.err there names = 1 := fun e => by
      have : names.all mayName = false := by
        rw [List.all_eq_false]
        exact ⟨x, List.mem_of_getElem? hx, by simp [e]⟩
      unfold Dk.err
      rw [if_neg (by simp [ho]), if_neg (by rw [this]; simp)]
    have hyes : mayName x = true → ∀ s ∈ names.take (i + 1), mayName s = true := fun e s hsm => by
      obtain ⟨hi', rfl⟩ := List.getElem?_eq_some_iff.1 hx
      rw [List.take_succ_eq_append_getElem hi'] at hsm
      rcases List.mem_append.1 hsm with h1 | h1
      · exact hm s h1
      · rw [List.mem_singleton.1 h1]; exact e
    refine .sg0 5 [0, 1, 2, 14, 15, 16, 17] (G64 27 [false]) [(17, .d (.bool (decide ((↑i : Int) < (↑names.length : Int)))))] ?_
    refine .if' (decide ((↑i : Int) < (↑names.length : Int))) (G64 28 [false, true]) (G64 28 [false, false]) (fun h1 => ?_) (fun h1 => ?_)
    · simp only [bsX] at h1
      refine .sg0 5 [0, 1, 2, 14, 15, 16, 17] (G64 33 [false, true]) [] ?_
      refine .op' (G64 34 [false, true]) (ixRow_ok (t := 66) (x := (.tmp 14)) (i := (.tmp 16)) (k := IntKind.i64) (n := (↑i : Int)) (l := 6) (sz := 1) (xs := map strD names) (mv := false) (by kernel_rfl) (by kernel_rfl) (by kernel_rfl) (by kernel_rfl) (by kernel_rfl) (by omega) (by simp <;> omega)) ?_
      refine .op' (G64 35 [false, true]) (ldRow_ok (t := 9) (x := (.tmp 18)) (l := 6) (i := (↑i : Int).toNat) (s := 0) (sz := 1) (xs := map strD names) (mv := false) (d := strD x) (v := .d (.str x)) (by kernel_rfl) (by kernel_rfl) (by kernel_rfl) (map_get hx) (by kernel_rfl)) ?_
      refine .sg0 5 [0, 1, 2, 8, 14, 15, 16, 17, 18, 19, 20] (G64 40 [false, true]) [(8, .d (.str x)), (20, .d (.str x))] ?_
      refine .cd (G64 41 [false, true]) F28 (@spec_28 (x) (by assumption)) ?_
      refine .sg0 2 [0, 1, 2, 8, 14, 15, 16, 17, 18, 19, 20, 21, 22] (G64 43 [false, true]) [(22, .d (.bool !mayName x))] ?_
      refine .if' (!mayName x) (G64 44 [false, true, true]) (G64 44 [false, true, false]) (fun h2 => ?_) (fun h2 => ?_)
      · simp only [bsX] at h2
        refine .seg 4 [0, 1, 2, 6, 8, 14, 15, 16, 17, 18, 19, 20, 21, 22] (T' := cgo 48 [false, true, true] [.code B64]) (tm' := mk 35 [(0, .ptr 0 0 0), (1, .d (.bool there)), (2, .row 6), (6, .d (.int .i64 1)), (8, .d (.str x)), (14, .row 6), (15, .d (.int .i64 (↑names.length : Int))), (16, .d (.int .i64 (↑i : Int))), (17, .d (.bool (decide ((↑i : Int) < (↑names.length : Int))))), (18, .ptr 6 (↑i : Int).toNat 0), (19, .d (.str x)), (20, .d (.str x)), (21, .d (.bool (mayName x))), (22, .d (.bool !mayName x))]) (σ' := [.cells (hC 1 2 5 b), .row 2 (map fileD b.files) false, .cells [.row 3, .row 4], .row 1 (map strD b.nk) false, .row 1 (map intD b.nv) false, .row 3 (map chD b.ch) false, .row 1 (map strD names) false]) (by kernel_rfl) ?_
        refine .rt F64 (V.d (D.int IntKind.i64 1)) ?_
        simp_all [hC, SD, dirD]
      · simp only [bsX] at h2
        refine .seg 6 [0, 1, 2, 8, 14, 15, 16, 17, 18, 19, 20, 21, 22, 23] (T' := cgo 50 [false, true, false] [.code B64]) (tm' := mk 35 [(0, .ptr 0 0 0), (1, .d (.bool there)), (2, .row 6), (8, .d (.str x)), (14, .row 6), (15, .d (.int .i64 (↑names.length : Int))), (16, .d (.int .i64 (IntKind.i64.wrap ((↑i : Int) + 1)))), (17, .d (.bool (decide ((↑i : Int) < (↑names.length : Int))))), (18, .ptr 6 (↑i : Int).toNat 0), (19, .d (.str x)), (20, .d (.str x)), (21, .d (.bool (mayName x))), (22, .d (.bool !mayName x)), (23, .d (.int .i64 (IntKind.i64.wrap ((↑i : Int) + 1))))]) (σ' := [.cells (hC 1 2 5 b), .row 2 (map fileD b.files) false, .cells [.row 3, .row 4], .row 1 (map strD b.nk) false, .row 1 (map intD b.nv) false, .row 3 (map chD b.ch) false, .row 1 (map strD names) false]) (by kernel_rfl) ?_
        simp (disch := omega) only [bsW]
        exact .seg 1 [0, 1, 2, 14, 15, 16] (by kernel_rfl) (ih (i + 1) (by omega) (hyes (by assumption)))
    · simp only [bsX] at h1
      omega
theorem check64 (d : Dk) (N : Nat) (h : d.Ok N) (there : Bool) (names : List ByteArray) (hn : names ≠ []) (hs : ∀ s ∈ names, s.size < 1000000000) (hn2 : names.length < 1000000) (hN : N + 1 ≤ 50000) :
   CallsA Try.prog 64 [.ptr 0 0 0, .d (.bool there), .row 6] (SD d false ++ [.row 1 (names.map strD) false]) fun r σ' => r = .ret (.d (.int .i64 (d.begun.err there names))) ∧ σ' = SD d.begun false ++ [.row 1 (names.map strD) false] := by
 have hc := h.c0
 have hc' := h.cl
 have hs1 := h.s0
 have hs2 := h.s1
 refine CallsA.start F64 (tm := mk (Try.f64.ntmps) [(0, .ptr 0 0 0), (1, .d (.bool there)), (2, .row 6)]) (by kernel_rfl) ?_
 have hk := Dk.begun_ok h hN
 refine .sg0 8 [0, 1, 2, 6, 11] (G64 8 []) [(6, .d (.int .i64 0)), (11, .ptr 0 0 0)] ?_
 refine .ca [0, 1, 2, 3, 4, 5] (G64 9 []) F94 (@spec_94 (d) (by assumption) (by omega) (by assumption) (by assumption)) ?_
 rintro r0 s0 ⟨rfl, rfl⟩
 refine ⟨_, rfl, ?_⟩
 refine .sg0 2 [0, 1, 2, 6, 13] (G64 11 []) [(13, .d (.bool !!d.begun.off))] ?_
 refine .if' (!!d.begun.off) (G64 12 [true]) (G64 12 [false]) (fun h2 => ?_) (fun h2 => ?_)
 · simp only [bsX] at h2
   refine .seg 4 [0, 1, 2, 6] (T' := cgo 16 [true] [.code B64]) (tm' := mk 35 [(0, .ptr 0 0 0), (1, .d (.bool there)), (2, .row 6), (6, .d (.int .i64 5))]) (σ' := [.cells (hC 1 2 5 d.begun), .row 2 (map fileD d.begun.files) false, .cells [.row 3, .row 4], .row 1 (map strD d.begun.nk) false, .row 1 (map intD d.begun.nv) false, .row 3 (map chD d.begun.ch) false, .row 1 (map strD names) false]) (by kernel_rfl) ?_
   refine .rt F64 (V.d (D.int IntKind.i64 5)) ?_
   simp_all [hC, Dk.err, SD, dirD]
 · simp only [bsX] at h2
   refine .seg 9 [0, 1, 2, 6, 14, 15, 16] (T' := cgo 21 [false] [.code B64]) (tm' := mk 35 [(0, .ptr 0 0 0), (1, .d (.bool there)), (2, .row 6), (6, .d (.int .i64 0)), (14, .row 6), (15, .d (.int .i64 (↑(map strD names).length : Int))), (16, .d (.int .i64 0))]) (σ' := [.cells (hC 1 2 5 d.begun), .row 2 (map fileD d.begun.files) false, .cells [.row 3, .row 4], .row 1 (map strD d.begun.nk) false, .row 1 (map intD d.begun.nv) false, .row 3 (map chD d.begun.ch) false, .row 1 (map strD names) false]) (by kernel_rfl) ?_
   simp only [List.length_map]
   exact .seg 1 [0, 1, 2, 14, 15, 16] (by kernel_rfl) (lo64 d.begun (N + 1) hk there names hn hs hn2 (by simp_all) names.length 0 (by omega) (by simp))
theorem spec_64b (d : Dk) (N : Nat) (h : d.Ok N) (there : Bool) (names : List ByteArray) (ds : List D) (hds : ds = names.map strD) (hn : names ≠ []) (hs : ∀ s ∈ names, s.size < 1000000000) (hn2 : names.length < 1000000) (hN : N + 1 ≤ 50000) :
  CallsA Try.prog 64 [.ptr 0 0 0, .d (.bool there), .row 6] (SD d false ++ [.row 1 ds false]) fun r σ' => r = .ret (.d (.int .i64 (d.begun.err there names))) ∧ σ' = SD d.begun false ++ [.row 1 ds false] := by
 subst hds
 exact check64 d N h there names hn hs hn2 hN
theorem lo64n (b : Dk) (ho : b.off = false) :
  AW Try.prog 64 none 6 (G64 22 [false]) (mk 35 [(0, V.ptr 0 0 0), (1, V.d (D.bool false)), (2, V.d (D.list 1 [])), (14, V.d (D.list 1 [])), (15, V.d (D.int IntKind.i64 0)), (16, V.d (D.int IntKind.i64 0))]) (SD b false) [] fun r σ' => r = .ret (.d (.int .i64 (b.err false []))) ∧ σ' = SD b false := by
 have e2 : b.err false [] = 0 := by simp [Dk.err, ho]
 refine .seg 18 [6] (T' := cgo 40 [false, false, false] [.code B64]) (tm' := mk 35 [(6, .d (.int .i64 0))]) (σ' := [.cells (hC 1 2 5 b), .row 2 (map fileD b.files) false, .cells [.row 3, .row 4], .row 1 (map strD b.nk) false, .row 1 (map intD b.nv) false, .row 3 (map chD b.ch) false]) (by kernel_rfl) ?_
 refine .rt F64 (V.d (D.int IntKind.i64 0)) ?_
 simp_all [hC, SD, dirD]
theorem spec_64 (d : Dk) (N : Nat) (h : d.Ok N) (hN : N + 1 ≤ 50000) :
   CallsA Try.prog 64 [.ptr 0 0 0, .d (.bool false), .d (.list 1 [])] (SD d false) fun r σ' => r = .ret (.d (.int .i64 (d.begun.err false []))) ∧ σ' = SD d.begun false := by
 have hc := h.c0
 have hc' := h.cl
 have hs1 := h.s0
 have hs2 := h.s1
 refine CallsA.start F64 (tm := mk (Try.f64.ntmps) [(0, .ptr 0 0 0), (1, .d (.bool false)), (2, .d (.list 1 []))]) (by kernel_rfl) ?_
 have e1 : d.begun.off = true → d.begun.err false [] = 5 := fun e => by simp [Dk.err, e]
 refine .sg0 8 [0, 1, 2, 6, 11] (G64 8 []) [(6, .d (.int .i64 0)), (11, .ptr 0 0 0)] ?_
 refine .ca [0, 1, 2, 3, 4, 5] (G64 9 []) F94 (@spec_94 (d) (by assumption) (by omega) (by assumption) (by assumption)) ?_
 rintro r0 s0 ⟨rfl, rfl⟩
 refine ⟨_, rfl, ?_⟩
 refine .sg0 2 [0, 1, 2, 6, 13] (G64 11 []) [(13, .d (.bool !!d.begun.off))] ?_
 refine .if' (!!d.begun.off) (G64 12 [true]) (G64 12 [false]) (fun h2 => ?_) (fun h2 => ?_)
 · simp only [bsX] at h2
   refine .seg 4 [0, 1, 2, 6] (T' := cgo 16 [true] [.code B64]) (tm' := mk 35 [(0, .ptr 0 0 0), (1, .d (.bool false)), (2, .d (.list 1 [])), (6, .d (.int .i64 5))]) (σ' := [.cells (hC 1 2 5 d.begun), .row 2 (map fileD d.begun.files) false, .cells [.row 3, .row 4], .row 1 (map strD d.begun.nk) false, .row 1 (map intD d.begun.nv) false, .row 3 (map chD d.begun.ch) false]) (by kernel_rfl) ?_
   refine .rt F64 (V.d (D.int IntKind.i64 5)) ?_
   simp_all [hC, SD, dirD]
 · simp only [bsX] at h2
   refine .seg 9 [0, 1, 2, 6, 14, 15, 16] (T' := cgo 21 [false] [.code B64]) (tm' := mk 35 [(0, .ptr 0 0 0), (1, .d (.bool false)), (2, .d (.list 1 [])), (6, .d (.int .i64 0)), (14, .d (.list 1 [])), (15, .d (.int .i64 0)), (16, .d (.int .i64 0))]) (σ' := [.cells (hC 1 2 5 d.begun), .row 2 (map fileD d.begun.files) false, .cells [.row 3, .row 4], .row 1 (map strD d.begun.nk) false, .row 1 (map intD d.begun.nv) false, .row 3 (map chD d.begun.ch) false]) (by kernel_rfl) ?_
   exact .seg 1 [0, 1, 2, 14, 15, 16] (by kernel_rfl) (lo64n d.begun (by simp_all))
end Go.Proofs.Ytoelkgbeefoplaa
namespace Go.Proofs.Ytoelkgbeefoplaa
open Go Go.Br Go.Proofs
open List (map)
noncomputable def B68 : Code := (Try.f68.body).getD .skip
noncomputable def G68 (n : Nat) (l : List Bool) : List Item := cgo n l [.code B68]
theorem F68 : Fnc Try.prog 68 Try.f68 B68 := ⟨Try.func68, by kernel_rfl, by kernel_rfl⟩
def Dk.acc (d : Dk) (i : Nat) : Nat := ((d.nv.take i).map fun k => (d.file k.toNat).1.length).sum
theorem Dk.acc_succ {d : Dk} {i : Nat} {v : Int} {f : List UInt8 × Nat} (hy : d.nv[i]? = some v) (hf : d.files[v.toNat]? = some f) : d.acc (i + 1) = d.acc i + f.1.length := by
 obtain ⟨hi, rfl⟩ := List.getElem?_eq_some_iff.1 hy
 unfold Dk.acc
 rw [List.take_succ_eq_append_getElem hi, List.map_append, List.sum_append]
 simp [Dk.file, List.getD_eq_getElem?_getD, hf]
theorem Dk.acc_le {d : Dk} {N : Nat} (h : d.Ok N) : ∀ i, d.acc i ≤ i * 1048576
 | 0 => by simp [Dk.acc]
 | i + 1 => by
   have ih := Dk.acc_le h i
   cases hy : d.nv[i]? with
   | none =>
     have := List.getElem?_eq_none_iff.1 hy
     have e : d.nv.take (i + 1) = d.nv.take i := by rw [List.take_of_length_le this, List.take_of_length_le (by omega)]
     have : d.acc (i + 1) = d.acc i := by unfold Dk.acc; rw [e]
     omega
   | some v =>
     have hv := h.nn v (List.mem_of_getElem? hy)
     have hlt : v.toNat < d.files.length := by omega
     have hf := List.getElem?_eq_getElem hlt
     have hm := h.fs _ (List.getElem_mem hlt)
     rw [Dk.acc_succ hy hf]; omega
noncomputable def R68 : List Item := [.code (rfAs (G68 26 [true])), .beginRound, .code (rfBd (G68 26 [true]))]
noncomputable def S68 (d : Dk) (i : Nat) (st : LoopState) : Store :=
  [.cells [.row 1, .ptr 2 0 0, .ep 2 (dirD d.sk d.sv) 0, .row 5, .d (.int .i64 d.quota), .d (.bool d.full), .d (.bool d.off), .d (.int .i64 d.stop), .d (.int .i64 d.calls)], .row 2 (d.files.map fileD) false, .cells [.row 3, .row 4], .row 1 (d.nk.map strD) false, .row 1 (d.nv.map intD) false, .row 3 (d.ch.map chD) false,
    .cells [.ptr 0 0 0], .cells [.d (.int .i64 (d.acc i : Nat))], .cells [.ptr 2 0 0], .cells [.fn (.func 98) [] []], .defd, lp (G68 26 [true]) 68 (mk 27 [(1, V.ptr 6 0 0), (2, V.d (D.int IntKind.i64 0)), (3, V.ptr 7 0 0), (12, V.fn (Fn.func 109) [] [V.ptr 8 0 0, V.ptr 9 0 0])]) st]
theorem body68 (d : Dk) (N : Nat) (h : d.Ok N) (i : Nat) (x : ByteArray) (v : Int) (hx : d.nk[i]? = some x) (hy : d.nv[i]? = some v) :
   AW Try.prog 68 (some 11) 12 R68 (mk 27 [(1, V.ptr 6 0 0), (2, V.d (D.int IntKind.i64 0)), (3, V.ptr 7 0 0), (12, V.fn (Fn.func 109) [] [V.ptr 8 0 0, V.ptr 9 0 0]), (13, .d (.str x)), (14, .d (.int .i64 v))]) (S68 d i .ready) [] fun a σ' => a = .ret (.d (.bool true)) ∧ σ' = S68 d (i + 1) .ready := by
 refine .at (T' := cgo 0 [] R68) rfl ?_
 have hi := (List.getElem?_eq_some_iff.1 hx).1
 have hv := h.nn v (List.mem_of_getElem? hy)
 have hlt : v.toNat < d.files.length := by omega
 obtain ⟨f, hf⟩ := get_some (l := d.files) (i := v.toNat) hlt
 have hm := h.fs f (List.mem_of_getElem? hf)
 have ha := Dk.acc_le h i
 have hb := h.nkl
 have hc := h.nb
 have he := Dk.acc_succ hy hf
 have hv1 := hv.1
 have hv2 := hv.2
 have hw : IntKind.i64.wrap ((d.acc i : Int) + (f.1.length : Int)) = ((d.acc (i + 1) : Nat) : Int) := by
   rw [wrap_i64 (by omega) (by omega), he]; omega
 refine .sg0 3 [1, 2, 3, 5, 12, 14] (cgo 3 [] R68) [(5, .d (.int .i64 v))] ?_
 refine .beginL (T0 := cgo 26 [true] [Item.code B68]) (fn := 68) (tml := (mk 27 [(1, V.ptr 6 0 0), (2, V.d (D.int IntKind.i64 0)), (3, V.ptr 7 0 0), (12, V.fn (Fn.func 109) [] [V.ptr 8 0 0, V.ptr 9 0 0])])) (by kernel_rfl) (T' := cgo 4 [] R68) (by kernel_rfl) (σ' := (SP 1 2 d false [.cells [.ptr 0 0 0], .cells [.d (.int .i64 (↑(d.acc i) : Int))], .cells [.ptr 2 0 0], .cells [.fn (Fn.func 98) [] []], .defd, lp (G68 26 [true]) 68 (mk 27 [(1, .ptr 6 0 0), (2, .d (.int .i64 0)), (3, .ptr 7 0 0), (12, .fn (Fn.func 109) [] [.ptr 8 0 0, .ptr 9 0 0])]) LoopState.busy])) (by kernel_rfl) (by kernel_rfl) ?_
 refine .sg0 1 [1, 2, 3, 5] (cgo 5 [] R68) [] ?_
 refine .dr (cgo 6 [] R68) [(15, .d (.int .i64 (↑(d.acc i) : Int))), (16, .ptr 0 0 0), (17, .ptr 0 0 0), (18, .ptr 0 0 0), (19, .row 1), (20, .d (.int .i64 v)), (21, .ptr 1 v.toNat 0), (22, .ptr 1 v.toNat 0), (23, .d (.list 1 (map u8 f.fst))), (24, .d (.int .i64 (↑(map u8 f.fst).length : Int))), (25, .d (.int .i64 (IntKind.i64.wrap ((↑(d.acc i) : Int) + (↑(map u8 f.fst).length : Int)))))] [(7, .cells [.d (.int .i64 (IntKind.i64.wrap ((↑(d.acc i) : Int) + (↑(map u8 f.fst).length : Int))))])] (fun kz L hL => ?_) ?_
 · refine ⟨[fR 7, fB 6 0, fA 0, fA 0, ⟨[0], [], [], [1], [0, 1, 2, 5], [], true, false⟩, nF, ⟨[1], [], [], [1], [1], [], true, false⟩, fA 1, fR 1, nF, nF, ⟨[7], [7], [], [], [7], [], true, false⟩], run_amongF hL _ [] [0, 1, 2, 3, 4, 5, 6, 7, 8, 9, 10, 11] (by intro p hp; cases hp) (by kernel_rfl) ?_⟩
   refine Run.ap [0, 1, 2, 3, 4, 5] [(15, .d (.int .i64 (↑(d.acc i) : Int))), (16, .ptr 0 0 0), (17, .ptr 0 0 0), (18, .ptr 0 0 0), (19, .row 1), (20, .d (.int .i64 v))] [] ?_
   refine Run.lk 6 (.ptr 1 v.toNat 0) [(.tmp 19), (.tmp 20)] (fun tm' σ2 hv hr => ixRow_ok (t := 105) (x := (.tmp 19)) (i := (.tmp 20)) (k := IntKind.i64) (n := v) (l := 1) (sz := 2) (xs := map fileD d.files) (mv := false) (by kernel_rfl) (evv hv) (evv hv) (atr hr) (by kernel_rfl) (by assumption) (by simp <;> omega)) ?_
   refine Run.ap [7] [(22, .ptr 1 v.toNat 0)] [] ?_
   refine Run.lk 8 (.d (.list 1 (map u8 f.fst))) [(.tmp 22)] (fun tm' σ2 hv hr => ldRow_ok (t := 22) (x := (.tmp 22)) (l := 1) (i := v.toNat) (s := 0) (sz := 2) (xs := map fileD d.files) (mv := false) (d := fileD f) (v := .d (.list 1 (map u8 f.fst))) (by kernel_rfl) (evv hv) (atr hr) (map_get hf) (by kernel_rfl)) ?_
   exact Run.fin
 refine .sg0 1 [2] (cgo 7 [] R68) [] ?_
 simp only [List.length_map]
 simp (disch := omega) only [bsW]
 refine .roundEndL (T0 := cgo 26 [true] [Item.code B68]) (fn := 68) (tml := (mk 27 [(1, V.ptr 6 0 0), (2, V.d (D.int IntKind.i64 0)), (3, V.ptr 7 0 0), (12, V.fn (Fn.func 109) [] [V.ptr 8 0 0, V.ptr 9 0 0])])) (st := LoopState.busy) (by kernel_rfl) (by kernel_rfl) (σ' := (SP 1 2 d false [.cells [.ptr 0 0 0], .cells [.d (.int .i64 ((↑(d.acc i) : Int) + (↑f.fst.length : Int)))], .cells [.ptr 2 0 0], .cells [.fn (Fn.func 98) [] []], .defd, lp (G68 26 [true]) 68 (mk 27 [(1, .ptr 6 0 0), (2, .d (.int .i64 0)), (3, .ptr 7 0 0), (12, .fn (Fn.func 109) [] [.ptr 8 0 0, .ptr 9 0 0])]) LoopState.ready])) (by kernel_rfl) ?_
 simp_all [S68, dirD]
theorem lo68 (d : Dk) (N : Nat) (h : d.Ok N) (hl : d.nk.length < 60000) (hv : d.nv.length = d.nk.length) : ∀ (m i : Nat), i + m = (d.nk).length →
    AW Try.prog 109 none 12 (G109 24 [false]) (mk 43 [(0, V.yield 11), (5, V.d (.list 1 ((d.nk).map strD))), (6, V.d (.list 1 ((d.nv).map intD))), (27, V.d (.int .i64 ((d.nk).length : Nat))), (28, V.d (.int .i64 (i : Nat)))]) (S68 d i .ready) [] fun r σ' => r = .ret (.tuple []) ∧ σ' = S68 d (d.nk).length .ready := by
  intro m
  induction m with
  | zero =>
    intro i hi
    have hi : i = (d.nk).length := by omega
    subst hi
    refine .sg0 5 [0, 5, 6, 27, 28, 29] (G109 29 [false]) [(29, .d (.bool (decide ((↑d.nk.length : Int) < (↑d.nk.length : Int)))))] ?_
    refine .if' (decide ((↑d.nk.length : Int) < (↑d.nk.length : Int))) (G109 30 [false, true]) (G109 30 [false, false]) (fun h1 => ?_) (fun h1 => ?_)
    · simp only [bsX] at h1
      omega
    · simp only [bsX] at h1
      refine .seg 1 [] (T' := cgo 31 [false, false] [.code B109]) (tm' := mk 43 []) (σ' := [.cells (hC 1 2 5 d), .row 2 (map fileD d.files) false, .cells [.row 3, .row 4], .row 1 (map strD d.nk) false, .row 1 (map intD d.nv) false, .row 3 (map chD d.ch) false, .cells [.ptr 0 0 0], .cells [.d (.int .i64 (↑(d.acc d.nk.length) : Int))], .cells [.ptr 2 0 0], .cells [.fn (Fn.func 98) [] []], .defd, lp (G68 26 [true]) 68 (mk 27 [(1, .ptr 6 0 0), (2, .d (.int .i64 0)), (3, .ptr 7 0 0), (12, .fn (Fn.func 109) [] [.ptr 8 0 0, .ptr 9 0 0])]) LoopState.ready]) (by kernel_rfl) ?_
      refine .rt F109 (V.tuple []) ?_
      exact ⟨rfl, rfl⟩
  | succ m ih =>
    intro i hi
    obtain ⟨x, hx⟩ := get_some (l := d.nk) (i := i) (by omega)
    obtain ⟨v, hy⟩ := get_some (l := d.nv) (i := i) (by omega)
    have hYi := body68 d N h i x v hx hy
    refine .sg0 5 [0, 5, 6, 27, 28, 29] (G109 29 [false]) [(29, .d (.bool (decide ((↑i : Int) < (↑d.nk.length : Int)))))] ?_
    refine .if' (decide ((↑i : Int) < (↑d.nk.length : Int))) (G109 30 [false, true]) (G109 30 [false, false]) (fun h1 => ?_) (fun h1 => ?_)
    · simp only [bsX] at h1
      refine .sg0 9 [0, 5, 6, 7, 27, 28, 29, 30] (G109 39 [false, true]) [(7, .d (.int .i64 (↑i : Int))), (30, .d (.int .i64 (↑i : Int)))] ?_
      refine .dr (G109 40 [false, true]) [(31, .yield 11), (32, .d (.list 1 (map strD d.nk))), (33, .d (.int .i64 (↑i : Int))), (34, .ep 1 (D.str x) 0), (35, .d (.str x)), (36, .d (.list 1 (map intD d.nv))), (37, .d (.int .i64 (↑i : Int))), (38, .ep 1 (D.int IntKind.i64 v) 0), (39, .d (.int .i64 v)), (40, .d (.bool true)), (41, .d (.bool false))] [(7, .cells [.d (.int .i64 (↑(d.acc (i + 1)) : Int))])] (fun kz L hL => ?_) ?_
      · refine ⟨[fO 11, nF, nF, nF, nF, nF, nF, nF, nF, ⟨[], [], [], [], [], [], false, true⟩, nF], run_amongF hL _ [] [0, 1, 2, 3, 4, 5, 6, 7, 8, 9, 10] (by intro p hp; cases hp) (by kernel_rfl) ?_⟩
        refine Run.ap [0, 1, 2] [(31, .yield 11), (32, .d (.list 1 (map strD d.nk))), (33, .d (.int .i64 (↑i : Int)))] [] ?_
        refine Run.lk 3 (.ep 1 (D.str x) 0) [(.tmp 32), (.tmp 33)] (fun tm' σ2 hv hr => ixData_ok (t := 66) (x := (.tmp 32)) (i := (.tmp 33)) (k := IntKind.i64) (n := (↑i : Int)) (sz := 1) (xs := map strD d.nk) (d := strD x) (by kernel_rfl) (evl hv) (evv hv) (by kernel_rfl) (by omega) (map_get hx)) ?_
        refine Run.ap [4, 5, 6] [(35, .d (.str x)), (36, .d (.list 1 (map intD d.nv))), (37, .d (.int .i64 (↑i : Int)))] [] ?_
        refine Run.lk 7 (.ep 1 (D.int IntKind.i64 v) 0) [(.tmp 36), (.tmp 37)] (fun tm' σ2 hv hr => ixData_ok (t := 46) (x := (.tmp 36)) (i := (.tmp 37)) (k := IntKind.i64) (n := (↑i : Int)) (sz := 1) (xs := map intD d.nv) (d := intD v) (by kernel_rfl) (evl hv) (evv hv) (by kernel_rfl) (by omega) (map_get hy)) ?_
        refine Run.ap [8] [(39, .d (.int .i64 v))] [] ?_
        refine Run.one (s1 := (mk 43 [(0, .yield 11), (5, .d (.list 1 (map strD d.nk))), (6, .d (.list 1 (map intD d.nv))), (7, .d (.int .i64 (↑i : Int))), (27, .d (.int .i64 (↑d.nk.length : Int))), (28, .d (.int .i64 (↑i : Int))), (29, .d (.bool (decide ((↑i : Int) < (↑d.nk.length : Int))))), (30, .d (.int .i64 (↑i : Int))), (31, .yield 11), (32, .d (.list 1 (map strD d.nk))), (33, .d (.int .i64 (↑i : Int))), (34, .ep 1 (D.str x) 0), (35, .d (.str x)), (36, .d (.list 1 (map intD d.nv))), (37, .d (.int .i64 (↑i : Int))), (38, .ep 1 (D.int IntKind.i64 v) 0), (39, .d (.int .i64 v)), (40, .d (.bool true))], [.cells (hC 1 2 5 d), .row 2 (map fileD d.files) false, .cells [.row 3, .row 4], .row 1 (map strD d.nk) false, .row 1 (map intD d.nv) false, .row 3 (map chD d.ch) false, .cells [.ptr 0 0 0], .cells [.d (.int .i64 (↑(d.acc (i + 1)) : Int))], .cells [.ptr 2 0 0], .cells [.fn (Fn.func 98) [] []], .defd, lp (G68 26 [true]) 68 (mk 27 [(1, .ptr 6 0 0), (2, .d (.int .i64 0)), (3, .ptr 7 0 0), (12, .fn (Fn.func 109) [] [.ptr 8 0 0, .ptr 9 0 0])]) LoopState.ready])) (StepF.all (o := ((drawOf (G109 39 [false, true]))[9]?).getD default) (by kernel_rfl) (by kernel_rfl) fun rest hn => AW.yieldD (T0 := cgo 26 [true] [Item.code B68]) (x := (.tmp 31)) (args := #[(.tmp 35), (.tmp 39)]) (ts := #[9, 3]) (l := 11) (st := LoopState.ready) (fn := 68) (tml := (mk 27 [(1, .ptr 6 0 0), (2, .d (.int .i64 0)), (3, .ptr 7 0 0), (12, .fn (Fn.func 109) [] [.ptr 8 0 0, .ptr 9 0 0])])) (R := R68) (o := ((drawOf (G109 39 [false, true]))[9]?).getD default) (N := 12) (by kernel_rfl) (by kernel_rfl) (by kernel_rfl) (by kernel_rfl) (by kernel_rfl) (by kernel_rfl) (by kernel_rfl) (by kernel_rfl) (by kernel_rfl) hYi (by rintro r s ⟨rfl, rfl⟩; exact ⟨_, rfl, AW.as (by kernel_rfl) (by kernel_rfl) hn⟩)) ?_
        exact Run.fin
      refine .seg 7 [0, 5, 6, 7, 27, 28, 29, 30, 31, 32, 33, 34, 35, 36, 37, 38, 39, 40, 41, 42] (T' := cgo 47 [false, true, false] [.code B109]) (tm' := mk 43 [(0, .yield 11), (5, .d (.list 1 (map strD d.nk))), (6, .d (.list 1 (map intD d.nv))), (7, .d (.int .i64 (↑i : Int))), (27, .d (.int .i64 (↑d.nk.length : Int))), (28, .d (.int .i64 (IntKind.i64.wrap ((↑i : Int) + 1)))), (29, .d (.bool (decide ((↑i : Int) < (↑d.nk.length : Int))))), (30, .d (.int .i64 (↑i : Int))), (31, .yield 11), (32, .d (.list 1 (map strD d.nk))), (33, .d (.int .i64 (↑i : Int))), (34, .ep 1 (D.str x) 0), (35, .d (.str x)), (36, .d (.list 1 (map intD d.nv))), (37, .d (.int .i64 (↑i : Int))), (38, .ep 1 (D.int IntKind.i64 v) 0), (39, .d (.int .i64 v)), (40, .d (.bool true)), (41, .d (.bool false)), (42, .d (.int .i64 (IntKind.i64.wrap ((↑i : Int) + 1))))]) (σ' := [.cells (hC 1 2 5 d), .row 2 (map fileD d.files) false, .cells [.row 3, .row 4], .row 1 (map strD d.nk) false, .row 1 (map intD d.nv) false, .row 3 (map chD d.ch) false, .cells [.ptr 0 0 0], .cells [.d (.int .i64 (↑(d.acc (i + 1)) : Int))], .cells [.ptr 2 0 0], .cells [.fn (Fn.func 98) [] []], .defd, lp (G68 26 [true]) 68 (mk 27 [(1, .ptr 6 0 0), (2, .d (.int .i64 0)), (3, .ptr 7 0 0), (12, .fn (Fn.func 109) [] [.ptr 8 0 0, .ptr 9 0 0])]) LoopState.ready]) (by kernel_rfl) ?_
      simp (disch := omega) only [bsW]
      exact .seg 1 [0, 5, 6, 27, 28] (by kernel_rfl) (ih (i + 1) (by omega))
    · simp only [bsX] at h1
      omega
theorem it68 (d : Dk) (N : Nat) (h : d.Ok N) : CallsA Try.prog 109 [.yield 11, .ptr 8 0 0, .ptr 9 0 0] (S68 d 0 .ready) fun r σ' => r = .ret (.tuple []) ∧ σ' = S68 d (d.nk).length .ready := by
 have hl : d.nk.length < 60000 := by have := h.nkl; have := h.nb; omega
 have hv := h.nl
 refine CallsA.start F109 (tm := mk (Try.f109.ntmps) [(0, .yield 11), (1, .ptr 8 0 0), (2, .ptr 9 0 0)]) (by kernel_rfl) ?_
 refine .sg0 11 [0, 1, 2, 10] (G109 11 [false]) [(10, .fn (Fn.func 98) [] [])] ?_
 refine .cd (G109 12 [false]) F98 (@spec_98) ?_
 refine .sg0 3 [0, 1, 4] (G109 15 [false]) [(4, .d (.int .i64 0))] ?_
 refine .dr (G109 16 [false]) [(5, .d (.list 1 (List.take ((map strD d.nk).length - 0) (List.drop 0 (map strD d.nk))))), (6, .d (.list 1 (List.take ((map intD d.nv).length - 0) (List.drop 0 (map intD d.nv))))), (12, .ptr 2 0 0), (13, .ptr 2 0 0), (14, .ptr 2 0 0), (15, .row 3), (16, .d (.int .i64 0)), (17, .sl 3 0 ((map strD d.nk).length - 0) none), (18, .d (.list 1 (List.take ((map strD d.nk).length - 0) (List.drop 0 (map strD d.nk))))), (19, .ptr 2 0 0), (20, .ptr 2 0 0), (21, .ptr 2 0 1), (22, .row 4), (23, .d (.int .i64 0)), (24, .sl 4 0 ((map intD d.nv).length - 0) none), (25, .d (.list 1 (List.take ((map intD d.nv).length - 0) (List.drop 0 (map intD d.nv)))))] [] (fun kz L hL => ?_) ?_
 · refine ⟨[fB 8 2, fA 2, fA 2, ⟨[2], [], [], [3], [2, 3, 4], [], true, false⟩, nF, ⟨[3], [], [], [3], [3], [], true, false⟩, ⟨[3], [3], [], [], [3], [], true, false⟩, fB 8 2, fA 2, fA 2, ⟨[2], [], [], [4], [2, 3, 4], [], true, false⟩, nF, ⟨[4], [], [], [4], [4], [], true, false⟩, fR 4, nF, nF], run_amongF hL _ [] [0, 1, 2, 3, 4, 5, 7, 8, 9, 10, 11, 12, 6, 13, 14, 15] (by intro p hp; cases hp) (by kernel_rfl) ?_⟩
   refine Run.ap [0, 1, 2, 3, 4] [(12, .ptr 2 0 0), (13, .ptr 2 0 0), (14, .ptr 2 0 0), (15, .row 3), (16, .d (.int .i64 0))] [] ?_
   refine Run.lk 5 (.sl 3 0 ((map strD d.nk).length - 0) none) [(.tmp 15), (.tmp 16)] (fun tm' σ2 hv hr => slRow_ok (t := 66) (x := (.tmp 15)) (lo := (some (.tmp 16))) (hi := none) (lc := 3) (sz := 1) (xs := map strD d.nk) (mv := false) (0) ((map strD d.nk).length) (by kernel_rfl) (evv hv) (atr hr) (by kernel_rfl) (bnd_some (k := IntKind.i64) (i := 0) (evv hv) (by omega) (by rfl)) rfl (by omega) (by omega)) ?_
   refine Run.ap [7, 8, 9, 10, 11] [(19, .ptr 2 0 0), (20, .ptr 2 0 0), (21, .ptr 2 0 1), (22, .row 4), (23, .d (.int .i64 0))] [] ?_
   refine Run.lk 12 (.sl 4 0 ((map intD d.nv).length - 0) none) [(.tmp 22), (.tmp 23)] (fun tm' σ2 hv hr => slRow_ok (t := 46) (x := (.tmp 22)) (lo := (some (.tmp 23))) (hi := none) (lc := 4) (sz := 1) (xs := map intD d.nv) (mv := false) (0) ((map intD d.nv).length) (by kernel_rfl) (evv hv) (atr hr) (by kernel_rfl) (bnd_some (k := IntKind.i64) (i := 0) (evv hv) (by omega) (by rfl)) rfl (by omega) (by omega)) ?_
   refine Run.cl 6 [3] F110 (@spec_110b (map strD d.nk) (0) ((map strD d.nk).length - 0) (none) (by omega) (by simp <;> omega)) ?_
   refine Run.cll 13 [4] F111 (@spec_111b (map intD d.nv) (0) ((map intD d.nv).length - 0) (none) (by omega) (by simp <;> omega)) ?_
   exact Run.fin
 refine .seg 7 [0, 5, 6, 27, 28] (T' := cgo 23 [false] [.code B109]) (tm' := mk 43 [(0, .yield 11), (5, .d (.list 1 (List.take ((map strD d.nk).length - 0) (List.drop 0 (map strD d.nk))))), (6, .d (.list 1 (List.take ((map intD d.nv).length - 0) (List.drop 0 (map intD d.nv))))), (27, .d (.int .i64 (↑(List.take ((map strD d.nk).length - 0) (List.drop 0 (map strD d.nk))).length : Int))), (28, .d (.int .i64 0))]) (σ' := [.cells (hC 1 2 5 d), .row 2 (map fileD d.files) false, .cells [.row 3, .row 4], .row 1 (map strD d.nk) false, .row 1 (map intD d.nv) false, .row 3 (map chD d.ch) false, .cells [.ptr 0 0 0], .cells [.d (.int .i64 (↑(d.acc 0) : Int))], .cells [.ptr 2 0 0], .cells [.fn (Fn.func 98) [] []], .defd, lp (G68 26 [true]) 68 (mk 27 [(1, .ptr 6 0 0), (2, .d (.int .i64 0)), (3, .ptr 7 0 0), (12, .fn (Fn.func 109) [] [.ptr 8 0 0, .ptr 9 0 0])]) LoopState.ready]) (by kernel_rfl) ?_
 simp only [List.length_map]
 rw [show List.take ((d.nk).length - 0) (List.drop 0 (List.map strD (d.nk))) = List.map strD (d.nk) by rw [Nat.sub_zero, List.drop_zero, List.take_of_length_le (by simp)], show List.take ((d.nv).length - 0) (List.drop 0 (List.map intD (d.nv))) = List.map intD (d.nv) by rw [Nat.sub_zero, List.drop_zero, List.take_of_length_le (by simp)], List.length_map]
 exact .seg 1 [0, 5, 6, 27, 28] (by kernel_rfl) (lo68 d N h hl hv (d.nk).length 0 (by omega))
theorem spec_68 (d : Dk) (N : Nat) (h : d.Ok N) :
  CallsA Try.prog 68 [.ptr 0 0 0] (SD d false) fun r σ' => r = .ret (.d (.int .i64 (d.used : Nat))) ∧ σ' = SD d false := by
 refine CallsA.start F68 (tm := mk (Try.f68.ntmps) [(0, .ptr 0 0 0)]) (by kernel_rfl) ?_
 refine .sg 23 [1, 2, 3, 8, 9, 10, 11] (G68 23 [true]) [(1, .ptr 6 0 0), (2, .d (.int .i64 0)), (3, .ptr 7 0 0), (8, .ptr 0 0 0), (9, .ptr 0 0 0), (10, .ptr 0 0 1), (11, .ptr 2 0 0)] [(6, .cells [.ptr 0 0 0]), (7, .cells [.d (.int .i64 0)])] ?_
 refine .ca [2, 3, 4] (G68 24 [true]) F72 (@spec_72 (map strD d.nk) (map intD d.nv)) ?_
 rintro r0 s0 ⟨rfl, rfl⟩
 refine ⟨_, rfl, ?_⟩
 refine .sg0 2 [1, 2, 3, 12] (G68 26 [true]) [] ?_
 refine .rangeH (first := []) (cap := [.ptr 8 0 0, .ptr 9 0 0]) (List.range 12) [.yield 11, .ptr 8 0 0, .ptr 9 0 0] (S68 d 0 .ready) F109 (by kernel_rfl) (T' := cgo 27 [true] [Item.code B68]) (by kernel_rfl) (by kernel_rfl) (it68 d N h) (by kernel_rfl) (by kernel_rfl) (by refine ⟨rfl, by kernel_rfl, ?_⟩; kernel_rfl) ?_
 rintro r σc' ⟨rfl, rfl⟩
 refine ⟨.tuple [], .ready, (mk 27 [(1, V.ptr 6 0 0), (2, V.d (D.int IntKind.i64 0)), (3, V.ptr 7 0 0), (12, V.fn (Fn.func 109) [] [V.ptr 8 0 0, V.ptr 9 0 0])]), rfPs (G68 26 [true]), rfAs (G68 26 [true]), rfBd (G68 26 [true]), 68, rfl, by simp, by kernel_rfl, ?_⟩
 have e1 : d.acc d.nk.length = d.used := by unfold Dk.acc Dk.used; rw [← h.nl, List.take_length]
 refine .seg 6 [2] (T' := cgo 33 [true] [.code B68]) (tm' := mk 27 [(2, .d (.int .i64 (↑(d.acc d.nk.length) : Int)))]) (σ' := [.cells (hC 1 2 5 d), .row 2 (map fileD d.files) false, .cells [.row 3, .row 4], .row 1 (map strD d.nk) false, .row 1 (map intD d.nv) false, .row 3 (map chD d.ch) false, .cells [.ptr 0 0 0], .cells [.d (.int .i64 (↑(d.acc d.nk.length) : Int))], .cells [.ptr 2 0 0], .cells [.fn (Fn.func 98) [] []], .defd, lp (G68 26 [true]) 68 (mk 27 [(1, .ptr 6 0 0), (2, .d (.int .i64 0)), (3, .ptr 7 0 0), (12, .fn (Fn.func 109) [] [.ptr 8 0 0, .ptr 9 0 0])]) LoopState.exhausted]) (by kernel_rfl) ?_
 refine .retX (v := V.d (D.int IntKind.i64 (↑(d.acc d.nk.length) : Int))) [0, 1, 2, 3, 4, 5] (V.d (D.int IntKind.i64 (↑(d.acc d.nk.length) : Int))) F68 (by kernel_rfl) ⟨by kernel_rfl, by kernel_rfl⟩ (σ1 := (SP 1 2 d false [O.cells [V.ptr 0 0 0], O.cells [V.d (D.int IntKind.i64 (↑(d.acc d.nk.length) : Int))], O.cells [V.ptr 2 0 0], O.cells [V.fn (Fn.func 98) [] []], O.dead, lp (G68 26 [true]) 68 (mk 27 [(1, V.ptr 6 0 0), (2, V.d (D.int IntKind.i64 0)), (3, V.ptr 7 0 0), (12, V.fn (Fn.func 109) [] [V.ptr 8 0 0, V.ptr 9 0 0])]) LoopState.exhausted])) (by kernel_rfl) (by kernel_rfl) (σ2 := (SP 1 2 d false [])) ⟨rfl, rfl, by kernel_rfl⟩ (by kernel_rfl) ⟨Nat.le_of_ble_eq_true (by kernel_rfl), by kernel_rfl⟩ (by kernel_rfl) ?_
 simp_all [hC, SD, dirD]
end Go.Proofs.Ytoelkgbeefoplaa
namespace Go.Proofs.Ytoelkgbeefoplaa
open Go Go.Br Go.Proofs
open List (map)
noncomputable def B67 : Code := (Try.f67.body).getD .skip
noncomputable def G67 (n : Nat) (l : List Bool) : List Item := cgo n l [.code B67]
theorem F67 : Fnc Try.prog 67 Try.f67 B67 := ⟨Try.func67, by kernel_rfl, by kernel_rfl⟩
theorem spec_67 (fs : List D) (su : D) (ch : List D) (nk : List ByteArray) (nv : List Int) (q s c : Int) (fu off : Bool) (g n : ByteArray) (k : Int) (h1 : Rising nk) (h2 : nv.length = nk.length) (h3 : nk.length < 60000) (h4 : ch.length < 60000) :
   CallsA Try.prog 67 [.ptr 0 0 0, .d (.agg [.str g, .str n, .int .i64 k])] [.cells [.row 1, .ptr 2 0 0, .ep 2 su 0, .row 5, .d (.int .i64 q), .d (.bool fu), .d (.bool off), .d (.int .i64 s), .d (.int .i64 c)], .row 2 fs false, .cells [.row 3, .row 4], .row 1 (nk.map strD) false, .row 1 (nv.map intD) false, .row 3 ch false] fun r σ' => r = .ret (.tuple []) ∧ σ' = [.cells [.row 1, .ptr 2 0 0, .ep 2 su 0, .row 5, .d (.int .i64 q), .d (.bool fu), .d (.bool off), .d (.int .i64 s), .d (.int .i64 c)], .row 2 fs false, .cells [.row 3, .row 4], .row 1 ((kapply nk nv g n k).1.map strD) true, .row 1 ((kapply nk nv g n k).2.map intD) true, .row 3 (ch ++ [.agg [.str g, .str n, .int .i64 k]]) true] := by
 refine CallsA.start F67 (tm := mk (Try.f67.ntmps) [(0, .ptr 0 0 0), (1, .d (.agg [.str g, .str n, .int .i64 k]))]) (by kernel_rfl) ?_
 refine .sg 5 [0, 3] (G67 5 []) [(3, .ptr 6 0 0)] [(6, .cells [.d (.str g), .d (.str n), .d (.int .i64 k)])] ?_
 refine .dr (G67 6 []) [(4, .ptr 0 0 0), (5, .ptr 0 0 0), (6, .ptr 0 0 1), (7, .ptr 2 0 0), (8, .d (.agg [D.str g, D.str n, D.int IntKind.i64 k])), (9, .tuple [])] [(3, .row 1 (map strD (kapply nk nv g n k).fst) true), (4, .row 1 (map intD (kapply nk nv g n k).snd) true)] (fun kz L hL => ?_) ?_
 · refine ⟨[fO 0, fA 0, fA 0, ⟨[0], [], [], [2], [0, 1, 2, 5], [], true, false⟩, fR 6, ⟨[2, 3, 4], [2, 3, 4], [3, 4], [3, 4], [2, 3, 4], [], true, false⟩], run_amongF hL _ [] [0, 1, 2, 3, 4, 5] (by intro p hp; cases hp) (by kernel_rfl) ?_⟩
   refine Run.ap [0, 1, 2, 3, 4] [(4, .ptr 0 0 0), (5, .ptr 0 0 0), (6, .ptr 0 0 1), (7, .ptr 2 0 0), (8, .d (.agg [D.str g, D.str n, D.int IntKind.i64 k]))] [] ?_
   refine Run.cl 5 [2, 3, 4] F71 (@spec_71 (nk) (nv) (g) (n) (k) (by assumption) (by omega) (by assumption)) ?_
   exact Run.fin
 refine .newVirt 3 ?_
 refine .dr (G67 7 []) [(10, .ptr 0 0 0), (11, .ptr 0 0 0), (12, .ptr 0 0 0), (13, .ptr 0 0 3), (15, .d (.agg [D.str g, D.str n, D.int IntKind.i64 k])), (16, .row 7), (17, .row 5), (18, .ptr 0 0 0), (19, .ptr 0 0 3)] [(5, .row 3 (ch ++ [D.agg [D.str g, D.str n, D.int IntKind.i64 k]]) true), (7, .row 3 [D.agg [D.str g, D.str n, D.int IntKind.i64 k]] true)] (fun kz L hL => ?_) ?_
 · refine ⟨[fO 0, fO 0, fA 0, fA 0, ⟨[0], [], [], [5], [0, 1, 2, 5], [], true, false⟩, fR 6, ⟨[7], [7], [7], [7], [], [], true, false⟩, ⟨[5, 7], [5], [5], [5], [5, 7], [], true, false⟩, fA 0, fA 0, ⟨[0], [0], [], [1, 2, 5], [0, 5, 1, 2], [], false, false⟩], run_amongF hL _ [] [0, 1, 2, 3, 4, 5, 6, 7, 8, 9, 10] (by intro p hp; cases hp) (by kernel_rfl) ?_⟩
   refine Run.ap [0, 1, 2, 3, 4, 5] [(10, .ptr 0 0 0), (11, .ptr 0 0 0), (12, .ptr 0 0 0), (13, .ptr 0 0 3), (14, .row 5), (15, .d (.agg [D.str g, D.str n, D.int IntKind.i64 k]))] [] ?_
   refine Run.one (StepF.build (o := ((drawOf (G67 6 []))[6]?).getD default) (t := 106) (len := 1) (parts := #[(0, (.tmp 15))]) (l := 7) (ds := [D.agg [D.str g, D.str n, D.int IntKind.i64 k]]) (sz := 3) (mv := false) (by kernel_rfl) rfl (by kernel_rfl) (by kernel_rfl) (by kernel_rfl) (by kernel_rfl) (by kernel_rfl) (by kernel_rfl) (by kernel_rfl) (by kernel_rfl)) ?_
   refine Run.one (StepF.moves (o := ((drawOf (G67 6 []))[7]?).getD default) (v := .row 5) [(.tmp 14), (.tmp 16)] 5 (.row 3 (ch ++ [D.agg [D.str g, D.str n, D.int IntKind.i64 k]]) true) (by kernel_rfl) rfl (by kernel_rfl) (by kernel_rfl) (by kernel_rfl) (by kernel_rfl) (by kernel_rfl) (by kernel_rfl) (fun tm' σ2 hv hr => appRow_ok (s := (.tmp 14)) (x := (.tmp 16)) (t := 106) (t2 := 106) (sz := 3) (by' := 40) (ys := [D.agg [D.str g, D.str n, D.int IntKind.i64 k]]) (l := 5) (xs := ch) (mv := false) (by kernel_rfl) (evv hv) (atr hr) (by rw [hv _ (by simp)]; exact (cont_at fun l hl => hr l (subB_in (by kernel_rfl) hl)).trans (by kernel_rfl)) (by kernel_rfl) (by kernel_rfl) (by simp <;> omega) (by first | (simp [maxLen] <;> omega) | omega))) ?_
   exact Run.fin
 refine .kp [] ?_
 refine .su [0, 1, 2, 3, 4, 5] (mk 20 []) [.cells [.row 1, .ptr 2 0 0, .ep 2 su 0, .row 5, .d (.int .i64 q), .d (.bool fu), .d (.bool off), .d (.int .i64 s), .d (.int .i64 c)], .row 2 fs false, .cells [.row 3, .row 4], .row 1 (map strD (kapply nk nv g n k).fst) true, .row 1 (map intD (kapply nk nv g n k).snd) true, .row 3 (ch ++ [D.agg [D.str g, D.str n, D.int IntKind.i64 k]]) true] ?_
 refine .rt F67 (V.tuple []) ?_
 exact ⟨rfl, rfl⟩
end Go.Proofs.Ytoelkgbeefoplaa
namespace Go.Proofs.Ytoelkgbeefoplaa
open Go Go.Br Go.Proofs
open List (map)
noncomputable def B26 : Code := (Try.f26.body).getD .skip
noncomputable def G26 (n : Nat) (l : List Bool) : List Item := cgo n l [.code B26]
theorem F26 : Fnc Try.prog 26 Try.f26 B26 := ⟨Try.func26, by kernel_rfl, by kernel_rfl⟩
theorem spec_26 (d : Dk) (N : Nat) (h : d.Ok N) (hN : N + 2 ≤ 50000) (x : ByteArray) (hx : x.size < 1000000000) :
    CallsA Try.prog 26 [.ptr 0 0 0, .d (.str x)] (SD d false) fun r σ' => r = .ret (.d (.int .i64 (d.begun.createE x))) ∧ σ' = SD (d.begun.createD x) true := by
  refine CallsA.start F26 (tm := mk (Try.f26.ntmps) [(0, .ptr 0 0 0), (1, .d (.str x))]) (by kernel_rfl) ?_
  have hk := Dk.begun_ok h (by omega : N + 1 ≤ 50000)
  have q1 := hk.nr
  have q2 := hk.nl
  have q3 := hk.nkl
  have q4 := hk.nb
  have q7 := hk.chl
  have q8 := hk.fl
  have q5 : ∀ k, look d.begun.nk d.begun.nv x = some k → 0 ≤ k ∧ k < d.begun.files.length := fun k hk' => hk.nn k (look_mem hk')
  have hn1 : [D.str x] = List.map strD [x] := rfl
  cases hl : look d.begun.nk d.begun.nv x with
  | none =>
    refine .sg 10 [0, 1, 4, 8, 9, 10] (G26 10 []) [(4, .d (.int .i64 0)), (8, .ptr 0 0 0), (9, .d (.str x)), (10, .row 6)] [(6, .row 1 [D.str x] false)] ?_
    refine .ca [0, 1, 2, 3, 4, 5, 6] (G26 11 []) F64 (@spec_64b (d) (N) (by assumption) (false) ([x]) ([D.str x]) (by assumption) (by simp; done) (by simp <;> omega) (by simp; done) (by assumption)) ?_
    rintro r0 s0 ⟨rfl, rfl⟩
    refine ⟨_, rfl, ?_⟩
    refine .sg0 7 [0, 1, 4, 5, 13] (G26 18 []) [(5, .d (.int .i64 (d.begun.err false [x]))), (13, .d (.bool (d.begun.err false [x] != 0)))] ?_
    refine .if' (d.begun.err false [x] != 0) (G26 19 [true]) (G26 19 [false]) (fun h2 => ?_) (fun h2 => ?_)
    · simp only [bsX] at h2
      refine .sg0 5 [0, 1, 4] (G26 24 [true]) [(4, .d (.int .i64 (d.begun.err false [x])))] ?_
      refine .raises [1, 3, 4, 5] ?_
      refine .kp [4] ?_
      refine .su [0, 1, 2, 3, 4, 5] (mk 51 [(4, .d (.int .i64 (d.begun.err false [x])))]) [.cells (hC 1 2 5 d.begun), .row 2 (map fileD d.begun.files) true, .cells [.row 3, .row 4], .row 1 (map strD d.begun.nk) true, .row 1 (map intD d.begun.nv) true, .row 3 (map chD d.begun.ch) true] ?_
      refine .rt F26 (V.d (D.int IntKind.i64 (d.begun.err false [x]))) ?_
      simp_all [hC, SD, dirD, Dk.createE, Dk.createD, Dk.turn, fileD, chD, bsD, noName, i64]
    · simp only [bsX] at h2
      refine .sg0 6 [0, 1, 4, 16, 17] (G26 25 [false]) [(16, .ptr 0 0 0), (17, .d (.str x))] ?_
      refine .ca [0, 1, 2, 3, 4, 5] (G26 26 [false]) F65 (@spec_65 (d.begun) (x) (none) (by assumption) (by assumption) (by assumption) (by omega) (by assumption)) ?_
      rintro r2 s2 ⟨rfl, rfl⟩
      refine ⟨_, rfl, ?_⟩
      refine .sg0 15 [0, 1, 4, 7, 21, 22, 23, 24, 25, 26, 27] (G26 41 [false]) [(7, .d (.bool false)), (21, .d (.bool false)), (22, .d (.bool true)), (23, .d (.bool true)), (24, .ptr 0 0 0), (25, .ptr 0 0 0), (26, .ptr 0 0 1), (27, .ptr 2 0 0)] ?_
      refine .ca [2, 3, 4] (G26 42 [false]) F66 (@spec_66 (d.begun.nk) (d.begun.nv)) ?_
      rintro r3 s3 ⟨rfl, rfl⟩
      refine ⟨_, rfl, ?_⟩
      refine .sg0 3 [0, 1, 4, 30] (G26 45 [false]) [(30, .d (.bool (decide ((↑d.begun.nk.length : Int) ≥ 1024))))] ?_
      refine .if' (decide ((↑d.begun.nk.length : Int) ≥ 1024)) (G26 46 [false, true]) (G26 46 [false, false]) (fun h5 => ?_) (fun h5 => ?_)
      · simp only [bsX] at h5
        refine .sg0 4 [0, 1, 4] (G26 50 [false, true]) [(4, .d (.int .i64 2))] ?_
        refine .raises [1, 3, 4, 5] ?_
        refine .kp [4] ?_
        refine .su [0, 1, 2, 3, 4, 5] (mk 51 [(4, .d (.int .i64 2))]) [.cells (hC 1 2 5 d.begun), .row 2 (map fileD d.begun.files) true, .cells [.row 3, .row 4], .row 1 (map strD d.begun.nk) true, .row 1 (map intD d.begun.nv) true, .row 3 (map chD d.begun.ch) true] ?_
        refine .rt F26 (V.d (D.int IntKind.i64 2)) ?_
        have e : d.begun.createE x = 2 := by simp [Dk.createE, h2, hl]; omega
        have e' : d.begun.createD x = d.begun := by simp [Dk.createD, e]
        exact ⟨by rw [e], by rw [e']; rfl⟩
      · simp only [bsX] at h5
        refine .sg 10 [0, 1, 4, 31, 32, 33, 34, 35, 36, 37] (G26 56 [false, false]) [(31, .ptr 0 0 0), (32, .ptr 0 0 0), (33, .ptr 0 0 0), (34, .ptr 0 0 0), (35, .row 1), (36, .agg [.ex 1 [], .d (.int .i64 0)]), (37, .row 7)] [(7, .row 2 [D.agg [D.list 1 [], D.int IntKind.i64 0]] false)] ?_
        refine .op' (G26 57 [false, false]) (appRow_ok (s := (.tmp 35)) (x := (.tmp 37)) (t := 105) (t2 := 105) (sz := 2) (by' := 32) (ys := [D.agg [D.list 1 [], D.int IntKind.i64 0]]) (l := 1) (xs := map fileD d.begun.files) (mv := false) (by kernel_rfl) (by kernel_rfl) (by kernel_rfl) (by kernel_rfl) (by kernel_rfl) (by kernel_rfl) (by simp <;> omega) (by first | (simp [maxLen] <;> omega) | omega)) ?_
        refine .sg 15 [0, 1, 4, 41, 42, 43, 44, 45, 46, 47, 48, 49] (G26 72 [false, false]) [(41, .ptr 0 0 0), (42, .d (.str x)), (43, .ptr 0 0 0), (44, .ptr 0 0 0), (45, .ptr 0 0 0), (46, .row 1), (47, .d (.int .i64 (↑(map fileD d.begun.files ++ [D.agg [D.list 1 [], D.int IntKind.i64 0]]).length : Int))), (48, .d (.int .i64 (IntKind.i64.wrap ((↑(map fileD d.begun.files ++ [D.agg [D.list 1 [], D.int IntKind.i64 0]]).length : Int) - 1)))), (49, .d (.agg [D.str (ByteArray.mk #[]), D.str x, D.int IntKind.i64 (IntKind.i64.wrap ((↑(map fileD d.begun.files ++ [D.agg [D.list 1 [], D.int IntKind.i64 0]]).length : Int) - 1))]))] [(0, .cells (hC 1 2 5 d.begun))] ?_
        refine .ca [0, 1, 2, 3, 4, 5] (G26 73 [false, false]) F67 (@spec_67 (map fileD d.begun.files ++ [D.agg [D.list 1 [], D.int IntKind.i64 0]]) (D.agg [D.list 1 (map strD d.begun.sk), D.list 1 (map intD d.begun.sv)]) (map chD d.begun.ch) (d.begun.nk) (d.begun.nv) (d.begun.quota) (d.begun.stop) (d.begun.calls) (d.begun.full) (d.begun.off) (ByteArray.mk #[]) (x) (IntKind.i64.wrap ((↑(map fileD d.begun.files ++ [D.agg [D.list 1 [], D.int IntKind.i64 0]]).length : Int) - 1)) (by assumption) (by assumption) (by omega) (by simp <;> omega)) ?_
        rintro r5 s5 ⟨rfl, rfl⟩
        refine ⟨_, rfl, ?_⟩
        refine .sg0 5 [4] (G26 78 [false, false]) [] ?_
        refine .kp [4] ?_
        refine .su [0, 1, 2, 3, 4, 5] (mk 51 [(4, .d (.int .i64 0))]) [.cells (hC 1 2 5 d.begun), .row 2 (map fileD d.begun.files ++ [D.agg [D.list 1 [], D.int IntKind.i64 0]]) true, .cells [.row 3, .row 4], .row 1 (map strD (kapply d.begun.nk d.begun.nv (ByteArray.mk #[]) x (IntKind.i64.wrap ((↑(map fileD d.begun.files ++ [D.agg [D.list 1 [], D.int IntKind.i64 0]]).length : Int) - 1))).fst) true, .row 1 (map intD (kapply d.begun.nk d.begun.nv (ByteArray.mk #[]) x (IntKind.i64.wrap ((↑(map fileD d.begun.files ++ [D.agg [D.list 1 [], D.int IntKind.i64 0]]).length : Int) - 1))).snd) true, .row 3 (map chD d.begun.ch ++ [D.agg [D.str (ByteArray.mk #[]), D.str x, D.int IntKind.i64 (IntKind.i64.wrap ((↑(map fileD d.begun.files ++ [D.agg [D.list 1 [], D.int IntKind.i64 0]]).length : Int) - 1))]]) true] ?_
        refine .rt F26 (V.d (D.int IntKind.i64 0)) ?_
        have e : d.begun.createE x = 0 := by simp [Dk.createE, h2, hl]; omega
        have hw : IntKind.i64.wrap (((List.map fileD d.begun.files ++ [D.agg [D.list 1 [], D.int IntKind.i64 0]]).length : Int) - 1) = (d.begun.files.length : Int) := by rw [wrap_i64 (by simp <;> omega) (by simp <;> omega)]; simp
        rw [hw]
        exact ⟨by rw [e], by simp [hC, SD, dirD, Dk.createD, e, Dk.turn, fileD, chD, bsD, noName, i64]⟩
  | some k =>
    refine .sg 10 [0, 1, 4, 8, 9, 10] (G26 10 []) [(4, .d (.int .i64 0)), (8, .ptr 0 0 0), (9, .d (.str x)), (10, .row 6)] [(6, .row 1 [D.str x] false)] ?_
    refine .ca [0, 1, 2, 3, 4, 5, 6] (G26 11 []) F64 (@spec_64b (d) (N) (by assumption) (false) ([x]) ([D.str x]) (by assumption) (by simp; done) (by simp <;> omega) (by simp; done) (by assumption)) ?_
    rintro r0 s0 ⟨rfl, rfl⟩
    refine ⟨_, rfl, ?_⟩
    refine .sg0 7 [0, 1, 4, 5, 13] (G26 18 []) [(5, .d (.int .i64 (d.begun.err false [x]))), (13, .d (.bool (d.begun.err false [x] != 0)))] ?_
    refine .if' (d.begun.err false [x] != 0) (G26 19 [true]) (G26 19 [false]) (fun h2 => ?_) (fun h2 => ?_)
    · simp only [bsX] at h2
      refine .sg0 5 [0, 1, 4] (G26 24 [true]) [(4, .d (.int .i64 (d.begun.err false [x])))] ?_
      refine .raises [1, 3, 4, 5] ?_
      refine .kp [4] ?_
      refine .su [0, 1, 2, 3, 4, 5] (mk 51 [(4, .d (.int .i64 (d.begun.err false [x])))]) [.cells (hC 1 2 5 d.begun), .row 2 (map fileD d.begun.files) true, .cells [.row 3, .row 4], .row 1 (map strD d.begun.nk) true, .row 1 (map intD d.begun.nv) true, .row 3 (map chD d.begun.ch) true] ?_
      refine .rt F26 (V.d (D.int IntKind.i64 (d.begun.err false [x]))) ?_
      simp_all [hC, SD, dirD, Dk.createE, Dk.createD, Dk.turn, fileD, chD, bsD, noName, i64]
    · simp only [bsX] at h2
      refine .sg0 6 [0, 1, 4, 16, 17] (G26 25 [false]) [(16, .ptr 0 0 0), (17, .d (.str x))] ?_
      refine .ca [0, 1, 2, 3, 4, 5] (G26 26 [false]) F65 (@spec_65 (d.begun) (x) (some k) (by assumption) (by assumption) (by assumption) (by omega) (by assumption)) ?_
      rintro r2 s2 ⟨rfl, rfl⟩
      refine ⟨_, rfl, ?_⟩
      refine .sg 30 [0, 1, 4, 31, 32, 33, 34, 35, 36, 37] (G26 56 [false, false]) [(31, .ptr 0 0 0), (32, .ptr 0 0 0), (33, .ptr 0 0 0), (34, .ptr 0 0 0), (35, .row 1), (36, .agg [.ex 1 [], .d (.int .i64 0)]), (37, .row 7)] [(7, .row 2 [D.agg [D.list 1 [], D.int IntKind.i64 0]] false)] ?_
      refine .op' (G26 57 [false, false]) (appRow_ok (s := (.tmp 35)) (x := (.tmp 37)) (t := 105) (t2 := 105) (sz := 2) (by' := 32) (ys := [D.agg [D.list 1 [], D.int IntKind.i64 0]]) (l := 1) (xs := map fileD d.begun.files) (mv := false) (by kernel_rfl) (by kernel_rfl) (by kernel_rfl) (by kernel_rfl) (by kernel_rfl) (by kernel_rfl) (by simp <;> omega) (by first | (simp [maxLen] <;> omega) | omega)) ?_
      refine .sg 15 [0, 1, 4, 41, 42, 43, 44, 45, 46, 47, 48, 49] (G26 72 [false, false]) [(41, .ptr 0 0 0), (42, .d (.str x)), (43, .ptr 0 0 0), (44, .ptr 0 0 0), (45, .ptr 0 0 0), (46, .row 1), (47, .d (.int .i64 (↑(map fileD d.begun.files ++ [D.agg [D.list 1 [], D.int IntKind.i64 0]]).length : Int))), (48, .d (.int .i64 (IntKind.i64.wrap ((↑(map fileD d.begun.files ++ [D.agg [D.list 1 [], D.int IntKind.i64 0]]).length : Int) - 1)))), (49, .d (.agg [D.str (ByteArray.mk #[]), D.str x, D.int IntKind.i64 (IntKind.i64.wrap ((↑(map fileD d.begun.files ++ [D.agg [D.list 1 [], D.int IntKind.i64 0]]).length : Int) - 1))]))] [(0, .cells (hC 1 2 5 d.begun))] ?_
      refine .ca [0, 1, 2, 3, 4, 5] (G26 73 [false, false]) F67 (@spec_67 (map fileD d.begun.files ++ [D.agg [D.list 1 [], D.int IntKind.i64 0]]) (D.agg [D.list 1 (map strD d.begun.sk), D.list 1 (map intD d.begun.sv)]) (map chD d.begun.ch) (d.begun.nk) (d.begun.nv) (d.begun.quota) (d.begun.stop) (d.begun.calls) (d.begun.full) (d.begun.off) (ByteArray.mk #[]) (x) (IntKind.i64.wrap ((↑(map fileD d.begun.files ++ [D.agg [D.list 1 [], D.int IntKind.i64 0]]).length : Int) - 1)) (by assumption) (by assumption) (by omega) (by simp <;> omega)) ?_
      rintro r3 s3 ⟨rfl, rfl⟩
      refine ⟨_, rfl, ?_⟩
      refine .sg0 5 [4] (G26 78 [false, false]) [] ?_
      refine .kp [4] ?_
      refine .su [0, 1, 2, 3, 4, 5] (mk 51 [(4, .d (.int .i64 0))]) [.cells (hC 1 2 5 d.begun), .row 2 (map fileD d.begun.files ++ [D.agg [D.list 1 [], D.int IntKind.i64 0]]) true, .cells [.row 3, .row 4], .row 1 (map strD (kapply d.begun.nk d.begun.nv (ByteArray.mk #[]) x (IntKind.i64.wrap ((↑(map fileD d.begun.files ++ [D.agg [D.list 1 [], D.int IntKind.i64 0]]).length : Int) - 1))).fst) true, .row 1 (map intD (kapply d.begun.nk d.begun.nv (ByteArray.mk #[]) x (IntKind.i64.wrap ((↑(map fileD d.begun.files ++ [D.agg [D.list 1 [], D.int IntKind.i64 0]]).length : Int) - 1))).snd) true, .row 3 (map chD d.begun.ch ++ [D.agg [D.str (ByteArray.mk #[]), D.str x, D.int IntKind.i64 (IntKind.i64.wrap ((↑(map fileD d.begun.files ++ [D.agg [D.list 1 [], D.int IntKind.i64 0]]).length : Int) - 1))]]) true] ?_
      refine .rt F26 (V.d (D.int IntKind.i64 0)) ?_
      have e : d.begun.createE x = 0 := by simp [Dk.createE, h2, hl]
      have hw : IntKind.i64.wrap (((List.map fileD d.begun.files ++ [D.agg [D.list 1 [], D.int IntKind.i64 0]]).length : Int) - 1) = (d.begun.files.length : Int) := by rw [wrap_i64 (by simp <;> omega) (by simp <;> omega)]; simp
      rw [hw]
      exact ⟨by rw [e], by simp [hC, SD, dirD, Dk.createD, e, Dk.turn, fileD, chD, bsD, noName, i64]⟩
end Go.Proofs.Ytoelkgbeefoplaa
namespace Go.Proofs.Ytoelkgbeefoplaa
open Go Go.Br Go.Proofs
open List (map)
theorem Dk.err4 (d : Dk) (b : Bool) (l : List ByteArray) : d.err b l ≠ 4 := by
 unfold Dk.err
 split
 · simp
 · split
   · split <;> simp
   · simp
theorem Dk.used_le {d : Dk} {N : Nat} (h : d.Ok N) : d.used ≤ 52428800000 := by
 have e1 : d.acc d.nk.length = d.used := by unfold Dk.acc Dk.used; rw [← h.nl, List.take_length]
 have h2 := Dk.acc_le h d.nk.length
 have h3 := h.nkl
 have h4 := h.nb
 rw [e1] at h2
 omega
noncomputable def B31 : Code := (Try.f31.body).getD .skip
noncomputable def G31 (n : Nat) (l : List Bool) : List Item := cgo n l [.code B31]
theorem F31 : Fnc Try.prog 31 Try.f31 B31 := ⟨Try.func31, by kernel_rfl, by kernel_rfl⟩
theorem spec_31 (d : Dk) (N : Nat) (h : d.Ok N) (hN : N + 2 ≤ 50000) (x : ByteArray) (hx : x.size < 1000000000) (bs : List UInt8) (hb : bs.length < 1000000000) :
    CallsA Try.prog 31 [.ptr 0 0 0, .d (.str x), .d (bsD bs)] (SD d false) fun r σ' => r = .ret (.d (.int .i64 (d.begun.appendE x bs))) ∧ σ' = SD (d.begun.appendD x bs) true := by
  refine CallsA.start F31 (tm := mk (Try.f31.ntmps) [(0, .ptr 0 0 0), (1, .d (.str x)), (2, .d (bsD bs))]) (by kernel_rfl) ?_
  have hk := Dk.begun_ok h (by omega : N + 1 ≤ 50000)
  have q1 := hk.nr
  have q2 := hk.nl
  have q3 := hk.nkl
  have q4 := hk.nb
  have q7 := hk.chl
  have q8 := hk.fl
  have q5 : ∀ k, look d.begun.nk d.begun.nv x = some k → 0 ≤ k ∧ k < d.begun.files.length := fun k hk' => hk.nn k (look_mem hk')
  have hn1 : [D.str x] = List.map strD [x] := rfl
  cases hl : look d.begun.nk d.begun.nv x with
  | none =>
    have he : d.begun.err true [x] ≠ 0 := by
      unfold Dk.err
      split
      · simp
      · split <;> simp [hl]
    refine .sg 10 [0, 1, 2, 6, 10, 11, 12] (G31 10 []) [(6, .d (.int .i64 0)), (10, .ptr 0 0 0), (11, .d (.str x)), (12, .row 6)] [(6, .row 1 [D.str x] false)] ?_
    refine .ca [0, 1, 2, 3, 4, 5, 6] (G31 11 []) F64 (@spec_64b (d) (N) (by assumption) (true) ([x]) ([D.str x]) (by assumption) (by simp; done) (by simp <;> omega) (by simp; done) (by assumption)) ?_
    rintro r0 s0 ⟨rfl, rfl⟩
    refine ⟨_, rfl, ?_⟩
    refine .sg0 7 [0, 1, 2, 6, 7, 15] (G31 18 []) [(7, .d (.int .i64 (d.begun.err true [x]))), (15, .d (.bool (d.begun.err true [x] != 0)))] ?_
    refine .if' (d.begun.err true [x] != 0) (G31 19 [true]) (G31 19 [false]) (fun h2 => ?_) (fun h2 => ?_)
    · simp only [bsX] at h2
      refine .sg0 5 [0, 1, 2, 6] (G31 24 [true]) [(6, .d (.int .i64 (d.begun.err true [x])))] ?_
      refine .raises [1, 3, 4, 5] ?_
      refine .kp [6] ?_
      refine .su [0, 1, 2, 3, 4, 5] (mk 67 [(6, .d (.int .i64 (d.begun.err true [x])))]) [.cells (hC 1 2 5 d.begun), .row 2 (map fileD d.begun.files) true, .cells [.row 3, .row 4], .row 1 (map strD d.begun.nk) true, .row 1 (map intD d.begun.nv) true, .row 3 (map chD d.begun.ch) true] ?_
      refine .rt F31 (V.d (D.int IntKind.i64 (d.begun.err true [x]))) ?_
      have e : d.begun.appendE x bs = d.begun.err true [x] := by simp [Dk.appendE, h2]
      have e4 := d.begun.err4 true [x]
      have e' : d.begun.appendD x bs = d.begun := by simp [Dk.appendD, e, h2, e4]
      exact ⟨by rw [e], by rw [e']; rfl⟩
    · simp only [bsX] at h2
      omega
  | some k =>
    have q6 := q5 k hl
    have q61 := q6.1
    have hlt : k.toNat < d.begun.files.length := by omega
    obtain ⟨f, hf⟩ := get_some (l := d.begun.files) (i := k.toNat) hlt
    have hm := hk.fs f (List.mem_of_getElem? hf)
    have hfile : d.begun.file (d.begun.num x) = f := by simp [Dk.file, Dk.num, hl, List.getD_eq_getElem?_getD, hf]
    have hnum : d.begun.num x = k.toNat := by simp [Dk.num, hl]
    refine .sg 10 [0, 1, 2, 6, 10, 11, 12] (G31 10 []) [(6, .d (.int .i64 0)), (10, .ptr 0 0 0), (11, .d (.str x)), (12, .row 6)] [(6, .row 1 [D.str x] false)] ?_
    refine .ca [0, 1, 2, 3, 4, 5, 6] (G31 11 []) F64 (@spec_64b (d) (N) (by assumption) (true) ([x]) ([D.str x]) (by assumption) (by simp; done) (by simp <;> omega) (by simp; done) (by assumption)) ?_
    rintro r0 s0 ⟨rfl, rfl⟩
    refine ⟨_, rfl, ?_⟩
    refine .sg0 7 [0, 1, 2, 6, 7, 15] (G31 18 []) [(7, .d (.int .i64 (d.begun.err true [x]))), (15, .d (.bool (d.begun.err true [x] != 0)))] ?_
    refine .if' (d.begun.err true [x] != 0) (G31 19 [true]) (G31 19 [false]) (fun h2 => ?_) (fun h2 => ?_)
    · simp only [bsX] at h2
      refine .sg0 5 [0, 1, 2, 6] (G31 24 [true]) [(6, .d (.int .i64 (d.begun.err true [x])))] ?_
      refine .raises [1, 3, 4, 5] ?_
      refine .kp [6] ?_
      refine .su [0, 1, 2, 3, 4, 5] (mk 67 [(6, .d (.int .i64 (d.begun.err true [x])))]) [.cells (hC 1 2 5 d.begun), .row 2 (map fileD d.begun.files) true, .cells [.row 3, .row 4], .row 1 (map strD d.begun.nk) true, .row 1 (map intD d.begun.nv) true, .row 3 (map chD d.begun.ch) true] ?_
      refine .rt F31 (V.d (D.int IntKind.i64 (d.begun.err true [x]))) ?_
      have e : d.begun.appendE x bs = d.begun.err true [x] := by simp [Dk.appendE, h2]
      have e4 := d.begun.err4 true [x]
      have e' : d.begun.appendD x bs = d.begun := by simp [Dk.appendD, e, h2, e4]
      exact ⟨by rw [e], by rw [e']; rfl⟩
    · simp only [bsX] at h2
      refine .sg0 5 [0, 1, 2, 6, 18, 19] (G31 24 [false]) [(18, .ptr 0 0 0), (19, .d (.str x))] ?_
      refine .ca [0, 1, 2, 3, 4, 5] (G31 25 [false]) F65 (@spec_65 (d.begun) (x) (some k) (by assumption) (by assumption) (by assumption) (by omega) (by assumption)) ?_
      rintro r2 s2 ⟨rfl, rfl⟩
      refine ⟨_, rfl, ?_⟩
      refine .sg0 15 [0, 2, 6, 8, 24, 25, 26, 27, 28] (G31 40 [false]) [(8, .ptr 1 k.toNat 0), (24, .d (.list 1 (map u8 bs))), (25, .d (.int .i64 (↑(map u8 bs).length : Int))), (26, .ptr 1 k.toNat 0), (27, .ptr 1 k.toNat 0), (28, .ptr 1 k.toNat 0)] ?_
      simp only [List.length_map]
      refine .op' (G31 41 [false]) (ldRow_ok (t := 22) (x := (.tmp 28)) (l := 1) (i := k.toNat) (s := 0) (sz := 2) (xs := map fileD d.begun.files) (mv := false) (d := fileD f) (v := .d (.list 1 (map u8 f.fst))) (by kernel_rfl) (by kernel_rfl) (by kernel_rfl) (map_get hf) (by kernel_rfl)) ?_
      refine .sg0 5 [0, 2, 6, 8, 23] (G31 46 [false]) [(23, .d (.bool (decide ((↑bs.length : Int) > IntKind.i64.wrap (1048576 - (↑(map u8 f.fst).length : Int))))))] ?_
      simp only [List.length_map]
      simp (disch := omega) only [bsW]
      refine .if' (decide ((↑bs.length : Int) > 1048576 - (↑f.fst.length : Int))) (G31 47 [false, true]) (G31 47 [false, false]) (fun h4 => ?_) (fun h4 => ?_)
      · simp only [bsX] at h4
        refine .sg0 4 [2, 6, 8] (G31 51 [false, true]) [(6, .d (.int .i64 2))] ?_
        refine .raises [1, 3, 4, 5] ?_
        refine .kp [6] ?_
        refine .su [0, 1, 2, 3, 4, 5] (mk 67 [(6, .d (.int .i64 2))]) [.cells (hC 1 2 5 d.begun), .row 2 (map fileD d.begun.files) true, .cells [.row 3, .row 4], .row 1 (map strD d.begun.nk) true, .row 1 (map intD d.begun.nv) true, .row 3 (map chD d.begun.ch) true] ?_
        refine .rt F31 (V.d (D.int IntKind.i64 2)) ?_
        simp_all [hC, SD, dirD, Dk.appendE, Dk.appendD]
      · simp only [bsX] at h4
        refine .sg0 1 [0, 2, 6, 8] (G31 48 [false, false]) [] ?_
        refine .dr (G31 49 [false, false]) [(33, .d (.bool (decide ((↑(map u8 bs).length : Int) > IntKind.i64.wrap (d.begun.quota - (↑d.begun.used : Int)))))), (34, .d (.list 1 (map u8 bs))), (35, .d (.int .i64 (↑(map u8 bs).length : Int))), (36, .ptr 0 0 0), (37, .ptr 0 0 0), (38, .ptr 0 0 4), (39, .d (.int .i64 d.begun.quota)), (40, .ptr 0 0 0), (41, .d (.int .i64 (↑d.begun.used : Int))), (42, .d (.int .i64 (IntKind.i64.wrap (d.begun.quota - (↑d.begun.used : Int))))), (43, .d (.bool (decide ((↑(map u8 bs).length : Int) > IntKind.i64.wrap (d.begun.quota - (↑d.begun.used : Int))))))] [] (fun kz L hL => ?_) ?_
        · refine ⟨[nF, nF, fO 0, fA 0, fA 0, ⟨[0], [], [], [], [0, 1, 2, 5], [], true, false⟩, fO 0, ⟨[0, 1, 2, 3, 4, 5], [], [], [], [0, 1, 2, 5, 3, 4], [], true, false⟩, nF, nF, nF], run_amongF hL _ [] [0, 2, 3, 4, 5, 6, 1, 7, 8, 9, 10] (by intro p hp; cases hp) (by kernel_rfl) ?_⟩
          refine Run.ap [0, 2, 3, 4, 5, 6, 1] [(34, .d (.list 1 (map u8 bs))), (35, .d (.int .i64 (↑(map u8 bs).length : Int))), (36, .ptr 0 0 0), (37, .ptr 0 0 0), (38, .ptr 0 0 4), (39, .d (.int .i64 d.begun.quota)), (40, .ptr 0 0 0)] [] ?_
          refine Run.cll 7 [0, 1, 2, 3, 4, 5] F68 (@spec_68 (d.begun) (N + 1) (by assumption)) ?_
          exact Run.fin
        refine .if' (decide ((↑(map u8 bs).length : Int) > IntKind.i64.wrap (d.begun.quota - (↑d.begun.used : Int)))) (G31 50 [false, false, true]) (G31 50 [false, false, false]) (fun h8 => ?_) (fun h8 => ?_)
        · simp only [bsX] at h8
          refine .sg 11 [2, 6, 8] (G31 61 [false, false, true]) [(6, .d (.int .i64 4))] [(0, .cells [.row 1, .ptr 2 0 0, .ep 2 (D.agg [D.list 1 (map strD d.begun.sk), D.list 1 (map intD d.begun.sv)]) 0, .row 5, .d (.int .i64 d.begun.quota), .d (.bool true), .d (.bool d.begun.off), .d (.int .i64 d.begun.stop), .d (.int .i64 d.begun.calls)])] ?_
          refine .raises [1, 3, 4, 5] ?_
          refine .kp [6] ?_
          refine .su [0, 1, 2, 3, 4, 5] (mk 67 [(6, .d (.int .i64 4))]) [.cells [.row 1, .ptr 2 0 0, .ep 2 (D.agg [D.list 1 (map strD d.begun.sk), D.list 1 (map intD d.begun.sv)]) 0, .row 5, .d (.int .i64 d.begun.quota), .d (.bool true), .d (.bool d.begun.off), .d (.int .i64 d.begun.stop), .d (.int .i64 d.begun.calls)], .row 2 (map fileD d.begun.files) true, .cells [.row 3, .row 4], .row 1 (map strD d.begun.nk) true, .row 1 (map intD d.begun.nv) true, .row 3 (map chD d.begun.ch) true] ?_
          refine .rt F31 (V.d (D.int IntKind.i64 4)) ?_
          have hu := Dk.used_le hk
          have hq0 := hk.q0
          have hq1 := hk.q1
          have hw : IntKind.i64.wrap (d.begun.quota - (d.begun.used : Int)) = d.begun.quota - (d.begun.used : Int) := wrap_i64 (by omega) (by omega)
          rw [hw, List.length_map] at h8
          have e : d.begun.appendE x bs = 4 := by
            unfold Dk.appendE
            rw [if_neg (by simp [h2]), hfile, if_neg (by omega), if_pos (by omega)]
          have e' : d.begun.appendD x bs = { d.begun with full := true } := by simp [Dk.appendD, e]
          exact ⟨by rw [e], by rw [e']; rfl⟩
        · simp only [bsX] at h8
          refine .sg0 3 [2, 6, 8] (G31 53 [false, false, false]) [] ?_
          refine .dr (G31 54 [false, false, false]) [(47, .ptr 1 k.toNat 0), (48, .ptr 1 k.toNat 0), (49, .ptr 1 k.toNat 0), (50, .ptr 1 k.toNat 0), (51, .d (.list 1 (map u8 f.fst))), (52, .ptr 1 k.toNat 0), (53, .ptr 1 k.toNat 0), (54, .ptr 1 k.toNat 0), (55, .d (.list 1 (map u8 f.fst))), (56, .d (.int .i64 (↑(map u8 f.fst).length : Int))), (57, .ptr 1 k.toNat 0), (58, .ptr 1 k.toNat 0), (59, .ptr 1 k.toNat 0), (60, .d (.list 1 (map u8 f.fst))), (61, .d (.int .i64 (↑(map u8 f.fst).length : Int))), (62, .ex 1 (List.drop 0 (List.take (map u8 f.fst).length (map u8 f.fst)))), (63, .d (.list 1 (map u8 bs))), (64, .d (.list 1 (List.drop 0 (List.take (map u8 f.fst).length (map u8 f.fst)) ++ map u8 bs))), (65, .ptr 1 k.toNat 0), (66, .ptr 1 k.toNat 0)] [(1, .row 2 ((map fileD d.begun.files).set k.toNat (D.agg [D.list 1 (List.drop 0 (List.take (map u8 f.fst).length (map u8 f.fst)) ++ map u8 bs), D.int IntKind.i64 (↑f.snd : Int)])) false)] (fun kz L hL => ?_) ?_
          · refine ⟨[fO 1, fO 1, fA 1, fA 1, fR 1, fO 1, fA 1, fA 1, fR 1, nF, fO 1, fA 1, fA 1, fR 1, nF, nF, nF, nF, fA 1, fA 1, ⟨[1], [1], [], [], [1], [], true, false⟩], run_amongF hL _ [] [0, 1, 2, 3, 4, 5, 6, 7, 8, 10, 11, 12, 13, 16, 9, 14, 15, 17, 18, 19, 20] (by intro p hp; cases hp) (by kernel_rfl) ?_⟩
            refine Run.ap [0, 1, 2, 3] [(47, .ptr 1 k.toNat 0), (48, .ptr 1 k.toNat 0), (49, .ptr 1 k.toNat 0), (50, .ptr 1 k.toNat 0)] [] ?_
            refine Run.lk 4 (.d (.list 1 (map u8 f.fst))) [(.tmp 50)] (fun tm' σ2 hv hr => ldRow_ok (t := 22) (x := (.tmp 50)) (l := 1) (i := k.toNat) (s := 0) (sz := 2) (xs := map fileD d.begun.files) (mv := false) (d := fileD f) (v := .d (.list 1 (map u8 f.fst))) (by kernel_rfl) (evv hv) (atr hr) (map_get hf) (by kernel_rfl)) ?_
            refine Run.ap [5, 6, 7] [(52, .ptr 1 k.toNat 0), (53, .ptr 1 k.toNat 0), (54, .ptr 1 k.toNat 0)] [] ?_
            refine Run.lk 8 (.d (.list 1 (map u8 f.fst))) [(.tmp 54)] (fun tm' σ2 hv hr => ldRow_ok (t := 22) (x := (.tmp 54)) (l := 1) (i := k.toNat) (s := 0) (sz := 2) (xs := map fileD d.begun.files) (mv := false) (d := fileD f) (v := .d (.list 1 (map u8 f.fst))) (by kernel_rfl) (evv hv) (atr hr) (map_get hf) (by kernel_rfl)) ?_
            refine Run.ap [10, 11, 12] [(57, .ptr 1 k.toNat 0), (58, .ptr 1 k.toNat 0), (59, .ptr 1 k.toNat 0)] [] ?_
            refine Run.lk 13 (.d (.list 1 (map u8 f.fst))) [(.tmp 59)] (fun tm' σ2 hv hr => ldRow_ok (t := 22) (x := (.tmp 59)) (l := 1) (i := k.toNat) (s := 0) (sz := 2) (xs := map fileD d.begun.files) (mv := false) (d := fileD f) (v := .d (.list 1 (map u8 f.fst))) (by kernel_rfl) (evv hv) (atr hr) (map_get hf) (by kernel_rfl)) ?_
            refine Run.ap [16, 9, 14] [(56, .d (.int .i64 (↑(map u8 f.fst).length : Int))), (61, .d (.int .i64 (↑(map u8 f.fst).length : Int))), (63, .d (.list 1 (map u8 bs)))] [] ?_
            refine Run.lk 15 (.ex 1 (List.drop 0 (List.take (map u8 f.fst).length (map u8 f.fst)))) [(.tmp 51), (.tmp 56), (.tmp 61)] (fun tm' σ2 hv hr => sl3Data_ok (t := 22) (x := (.tmp 51)) (lo := none) (y := (.tmp 56)) (z := (.tmp 61)) (sz := 1) (xs := map u8 f.fst) (0) ((map u8 f.fst).length) (by kernel_rfl) (evl hv) (by kernel_rfl) rfl (bnd_some (k := IntKind.i64) (i := (↑(map u8 f.fst).length : Int)) (evv hv) (by omega) (by rfl)) (bnd_some (k := IntKind.i64) (i := (↑(map u8 f.fst).length : Int)) (evv hv) (by omega) (by rfl)) (by omega) (by omega)) ?_
            refine Run.lk 17 (.d (.list 1 (List.drop 0 (List.take (map u8 f.fst).length (map u8 f.fst)) ++ map u8 bs))) [(.tmp 62), (.tmp 63)] (fun tm' σ2 hv hr => appExD_ok (s := (.tmp 62)) (x := (.tmp 63)) (t := 22) (t2 := 22) (sz := 1) (by' := 1) (ys := map u8 bs) (xs := List.drop 0 (List.take (map u8 f.fst).length (map u8 f.fst))) (by kernel_rfl) (evv hv) (by rw [hv _ (by simp)]; exact (cont_at fun l hl => hr l (subB_in (by kernel_rfl) hl)).trans (by kernel_rfl)) (by kernel_rfl) (by kernel_rfl) (by simp <;> omega) (by first | (simp [maxLen] <;> omega) | omega)) ?_
            refine Run.ap [18, 19] [(65, .ptr 1 k.toNat 0), (66, .ptr 1 k.toNat 0)] [] ?_
            refine Run.one (StepF.sets (o := ((drawOf (G31 53 [false, false, false]))[20]?).getD default) (v := .undef) [(.tmp 66), (.tmp 64)] 1 (.row 2 ((map fileD d.begun.files).set k.toNat (D.agg [D.list 1 (List.drop 0 (List.take (map u8 f.fst).length (map u8 f.fst)) ++ map u8 bs), D.int IntKind.i64 (↑f.snd : Int)])) false) (by kernel_rfl) rfl (by kernel_rfl) (by kernel_rfl) (by kernel_rfl) (by kernel_rfl) (by kernel_rfl) (fun tm' σ2 hv hr => stRow_ok (t := 22) (x := (.tmp 66)) (y := (.tmp 64)) (l := 1) (i := k.toNat) (s := 0) (sz := 2) (xs := map fileD d.begun.files) (mv := false) (d := fileD f) (d' := D.agg [D.list 1 (List.drop 0 (List.take (map u8 f.fst).length (map u8 f.fst)) ++ map u8 bs), D.int IntKind.i64 (↑f.snd : Int)]) (by kernel_rfl) (evv hv) (atr hr) (map_get hf) (by unfold storeE; rw [hv _ (by simp)]; kernel_rfl))) ?_
            exact Run.fin
          refine .sg0 4 [6] (G31 58 [false, false, false]) [] ?_
          simp only [List.length_map]
          refine .raises [1, 3, 4, 5] ?_
          refine .kp [6] ?_
          refine .su [0, 1, 2, 3, 4, 5] (mk 67 [(6, .d (.int .i64 0))]) [.cells (hC 1 2 5 d.begun), .row 2 ((map fileD d.begun.files).set k.toNat (D.agg [D.list 1 (List.drop 0 (List.take f.fst.length (map u8 f.fst)) ++ map u8 bs), D.int IntKind.i64 (↑f.snd : Int)])) true, .cells [.row 3, .row 4], .row 1 (map strD d.begun.nk) true, .row 1 (map intD d.begun.nv) true, .row 3 (map chD d.begun.ch) true] ?_
          refine .rt F31 (V.d (D.int IntKind.i64 0)) ?_
          have hu := Dk.used_le hk
          have hq0 := hk.q0
          have hq1 := hk.q1
          have hw : IntKind.i64.wrap (d.begun.quota - (d.begun.used : Int)) = d.begun.quota - (d.begun.used : Int) := wrap_i64 (by omega) (by omega)
          rw [hw, List.length_map] at h8
          have e : d.begun.appendE x bs = 0 := by
            unfold Dk.appendE
            rw [if_neg (by simp [h2]), hfile, if_neg (by omega), if_neg (by omega)]
          have hf2 : d.begun.file k.toNat = f := by rw [← hnum]; exact hfile
          have e' : d.begun.appendD x bs = { d.begun with files := d.begun.files.set k.toNat (f.1 ++ bs, f.2) } := by simp [Dk.appendD, e, hf2, hnum]
          have e3 : List.take f.1.length (List.map u8 f.1) = List.map u8 f.1 := List.take_of_length_le (by simp)
          refine ⟨by rw [e], ?_⟩
          rw [e', e3]
          simp [hC, SD, dirD, List.map_set, fileD, bsD, i64]
end Go.Proofs.Ytoelkgbeefoplaa
namespace Go.Proofs.Ytoelkgbeefoplaa
open Go Go.Br Go.Proofs
open List (map)
noncomputable def B32 : Code := (Try.f32.body).getD .skip
noncomputable def G32 (n : Nat) (l : List Bool) : List Item := cgo n l [.code B32]
theorem F32 : Fnc Try.prog 32 Try.f32 B32 := ⟨Try.func32, by kernel_rfl, by kernel_rfl⟩
noncomputable def B34 : Code := (Try.f34.body).getD .skip
noncomputable def G34 (n : Nat) (l : List Bool) : List Item := cgo n l [.code B34]
theorem F34 : Fnc Try.prog 34 Try.f34 B34 := ⟨Try.func34, by kernel_rfl, by kernel_rfl⟩
noncomputable def B78 : Code := (Try.f78.body).getD .skip
noncomputable def G78 (n : Nat) (l : List Bool) : List Item := cgo n l [.code B78]
theorem F78 : Fnc Try.prog 78 Try.f78 B78 := ⟨Try.func78, by kernel_rfl, by kernel_rfl⟩
theorem spec_32 (d : Dk) (N : Nat) (h : d.Ok N) (hN : N + 2 ≤ 50000) (x : ByteArray) (hx : x.size < 1000000000) :
   CallsA Try.prog 32 [.ptr 0 0 0, .d (.str x)] (SD d false) fun r σ' => r = .ret (.d (.int .i64 (d.begun.err true [x]))) ∧ σ' = SD (d.begun.syncD x) true := by
 refine CallsA.start F32 (tm := mk (Try.f32.ntmps) [(0, .ptr 0 0 0), (1, .d (.str x))]) (by kernel_rfl) ?_
 have hk := Dk.begun_ok h (by omega : N + 1 ≤ 50000)
 have q1 := hk.nr
 have q2 := hk.nl
 have q3 := hk.nkl
 have q4 := hk.nb
 have q7 := hk.chl
 have q8 := hk.fl
 have q5 : ∀ k, look d.begun.nk d.begun.nv x = some k → 0 ≤ k ∧ k < d.begun.files.length := fun k hk' => hk.nn k (look_mem hk')
 have hn1 : [D.str x] = List.map strD [x] := rfl
 cases hl : look d.begun.nk d.begun.nv x with
 | none =>
   have he : d.begun.err true [x] ≠ 0 := by
     unfold Dk.err
     split
     · simp
     · split <;> simp [hl]
   refine .sg 10 [0, 1, 4, 8, 9, 10] (G32 10 []) [(4, .d (.int .i64 0)), (8, .ptr 0 0 0), (9, .d (.str x)), (10, .row 6)] [(6, .row 1 [D.str x] false)] ?_
   refine .ca [0, 1, 2, 3, 4, 5, 6] (G32 11 []) F64 (@spec_64b (d) (N) (by assumption) (true) ([x]) ([D.str x]) (by assumption) (by simp; done) (by simp <;> omega) (by simp; done) (by assumption)) ?_
   rintro r0 s0 ⟨rfl, rfl⟩
   refine ⟨_, rfl, ?_⟩
   refine .sg0 7 [0, 1, 4, 5, 13] (G32 18 []) [(5, .d (.int .i64 (d.begun.err true [x]))), (13, .d (.bool (d.begun.err true [x] != 0)))] ?_
   refine .if' (d.begun.err true [x] != 0) (G32 19 [true]) (G32 19 [false]) (fun h2 => ?_) (fun h2 => ?_)
   · simp only [bsX] at h2
     refine .sg0 5 [0, 1, 4] (G32 24 [true]) [(4, .d (.int .i64 (d.begun.err true [x])))] ?_
     refine .raises [1, 3, 4, 5] ?_
     refine .kp [4] ?_
     refine .su [0, 1, 2, 3, 4, 5] (mk 29 [(4, .d (.int .i64 (d.begun.err true [x])))]) [.cells (hC 1 2 5 d.begun), .row 2 (map fileD d.begun.files) true, .cells [.row 3, .row 4], .row 1 (map strD d.begun.nk) true, .row 1 (map intD d.begun.nv) true, .row 3 (map chD d.begun.ch) true] ?_
     refine .rt F32 (V.d (D.int IntKind.i64 (d.begun.err true [x]))) ?_
     simp_all [hC, SD, dirD, Dk.syncD]
   · simp only [bsX] at h2
     omega
 | some k =>
   have q6 := q5 k hl
   have q61 := q6.1
   have hlt : k.toNat < d.begun.files.length := by omega
   obtain ⟨f, hf⟩ := get_some (l := d.begun.files) (i := k.toNat) hlt
   have hm := hk.fs f (List.mem_of_getElem? hf)
   have hfile : d.begun.file (d.begun.num x) = f := by simp [Dk.file, Dk.num, hl, List.getD_eq_getElem?_getD, hf]
   have hnum : d.begun.num x = k.toNat := by simp [Dk.num, hl]
   refine .sg 10 [0, 1, 4, 8, 9, 10] (G32 10 []) [(4, .d (.int .i64 0)), (8, .ptr 0 0 0), (9, .d (.str x)), (10, .row 6)] [(6, .row 1 [D.str x] false)] ?_
   refine .ca [0, 1, 2, 3, 4, 5, 6] (G32 11 []) F64 (@spec_64b (d) (N) (by assumption) (true) ([x]) ([D.str x]) (by assumption) (by simp; done) (by simp <;> omega) (by simp; done) (by assumption)) ?_
   rintro r0 s0 ⟨rfl, rfl⟩
   refine ⟨_, rfl, ?_⟩
   refine .sg0 7 [0, 1, 4, 5, 13] (G32 18 []) [(5, .d (.int .i64 (d.begun.err true [x]))), (13, .d (.bool (d.begun.err true [x] != 0)))] ?_
   refine .if' (d.begun.err true [x] != 0) (G32 19 [true]) (G32 19 [false]) (fun h2 => ?_) (fun h2 => ?_)
   · simp only [bsX] at h2
     refine .sg0 5 [0, 1, 4] (G32 24 [true]) [(4, .d (.int .i64 (d.begun.err true [x])))] ?_
     refine .raises [1, 3, 4, 5] ?_
     refine .kp [4] ?_
     refine .su [0, 1, 2, 3, 4, 5] (mk 29 [(4, .d (.int .i64 (d.begun.err true [x])))]) [.cells (hC 1 2 5 d.begun), .row 2 (map fileD d.begun.files) true, .cells [.row 3, .row 4], .row 1 (map strD d.begun.nk) true, .row 1 (map intD d.begun.nv) true, .row 3 (map chD d.begun.ch) true] ?_
     refine .rt F32 (V.d (D.int IntKind.i64 (d.begun.err true [x]))) ?_
     simp_all [hC, SD, dirD, Dk.syncD, fileD, bsD, i64]
   · simp only [bsX] at h2
     refine .sg0 5 [0, 1, 4, 16, 17] (G32 24 [false]) [(16, .ptr 0 0 0), (17, .d (.str x))] ?_
     refine .ca [0, 1, 2, 3, 4, 5] (G32 25 [false]) F65 (@spec_65 (d.begun) (x) (some k) (by assumption) (by assumption) (by assumption) (by omega) (by assumption)) ?_
     rintro r2 s2 ⟨rfl, rfl⟩
     refine ⟨_, rfl, ?_⟩
     refine .sg0 12 [4, 6, 21, 22, 23, 24] (G32 37 [false]) [(6, .ptr 1 k.toNat 0), (21, .ptr 1 k.toNat 0), (22, .ptr 1 k.toNat 0), (23, .ptr 1 k.toNat 0), (24, .ptr 1 k.toNat 0)] ?_
     refine .op' (G32 38 [false]) (ldRow_ok (t := 22) (x := (.tmp 24)) (l := 1) (i := k.toNat) (s := 0) (sz := 2) (xs := map fileD d.begun.files) (mv := false) (d := fileD f) (v := .d (.list 1 (map u8 f.fst))) (by kernel_rfl) (by kernel_rfl) (by kernel_rfl) (map_get hf) (by kernel_rfl)) ?_
     refine .sg0 3 [4, 6, 21, 22, 23, 24, 25, 26, 27, 28] (G32 41 [false]) [(26, .d (.int .i64 (↑(map u8 f.fst).length : Int))), (27, .ptr 1 k.toNat 0), (28, .ptr 1 k.toNat 1)] ?_
     simp only [List.length_map]
     refine .op' (G32 42 [false]) (stRow_ok (t := 3) (x := (.tmp 28)) (y := (.tmp 26)) (l := 1) (i := k.toNat) (s := 1) (sz := 2) (xs := map fileD d.begun.files) (mv := false) (d := fileD f) (d' := D.agg [D.list 1 (map u8 f.fst), D.int IntKind.i64 (↑f.fst.length : Int)]) (by kernel_rfl) (by kernel_rfl) (by kernel_rfl) (map_get hf) (by kernel_rfl)) ?_
     refine .sg0 5 [4] (G32 47 [false]) [] ?_
     refine .raises [1, 3, 4, 5] ?_
     refine .kp [4] ?_
     refine .su [0, 1, 2, 3, 4, 5] (mk 29 [(4, .d (.int .i64 0))]) [.cells (hC 1 2 5 d.begun), .row 2 ((map fileD d.begun.files).set k.toNat (D.agg [D.list 1 (map u8 f.fst), D.int IntKind.i64 (↑f.fst.length : Int)])) true, .cells [.row 3, .row 4], .row 1 (map strD d.begun.nk) true, .row 1 (map intD d.begun.nv) true, .row 3 (map chD d.begun.ch) true] ?_
     refine .rt F32 (V.d (D.int IntKind.i64 0)) ?_
     simp_all [hC, SD, dirD, Dk.syncD, fileD, bsD, i64]
theorem spec_34 (d : Dk) (N : Nat) (h : d.Ok N) (hN : N + 2 ≤ 50000) (x y : ByteArray) (hx : x.size < 1000000000) (hy : y.size < 1000000000) :
   CallsA Try.prog 34 [.ptr 0 0 0, .d (.str x), .d (.str y)] (SD d false) fun r σ' => r = .ret (.d (.int .i64 (d.begun.err true [x, y]))) ∧ σ' = SD (d.begun.renameD x y) true := by
 refine CallsA.start F34 (tm := mk (Try.f34.ntmps) [(0, .ptr 0 0 0), (1, .d (.str x)), (2, .d (.str y))]) (by kernel_rfl) ?_
 have hk := Dk.begun_ok h (by omega : N + 1 ≤ 50000)
 have q1 := hk.nr
 have q2 := hk.nl
 have q3 := hk.nkl
 have q4 := hk.nb
 have q7 := hk.chl
 have q8 := hk.fl
 have q5 : ∀ k, look d.begun.nk d.begun.nv x = some k → 0 ≤ k ∧ k < d.begun.files.length := fun k hk' => hk.nn k (look_mem hk')
 have hn1 : [D.str x, D.str y] = List.map strD [x, y] := rfl
 cases hl : look d.begun.nk d.begun.nv x with
 | none =>
   have he : d.begun.err true [x, y] ≠ 0 := by
     unfold Dk.err
     split
     · simp
     · split <;> simp [hl]
   refine .sg 11 [0, 1, 2, 6, 10, 11, 12, 13] (G34 11 []) [(6, .d (.int .i64 0)), (10, .ptr 0 0 0), (11, .d (.str x)), (12, .d (.str y)), (13, .row 6)] [(6, .row 1 [D.str x, D.str y] false)] ?_
   refine .ca [0, 1, 2, 3, 4, 5, 6] (G34 12 []) F64 (@spec_64b (d) (N) (by assumption) (true) ([x, y]) ([D.str x, D.str y]) (by assumption) (by simp; done) (by simp <;> omega) (by simp; done) (by assumption)) ?_
   rintro r0 s0 ⟨rfl, rfl⟩
   refine ⟨_, rfl, ?_⟩
   refine .sg0 7 [0, 1, 2, 6, 7, 16] (G34 19 []) [(7, .d (.int .i64 (d.begun.err true [x, y]))), (16, .d (.bool (d.begun.err true [x, y] != 0)))] ?_
   refine .if' (d.begun.err true [x, y] != 0) (G34 20 [true]) (G34 20 [false]) (fun h2 => ?_) (fun h2 => ?_)
   · simp only [bsX] at h2
     refine .sg0 5 [0, 1, 2, 6] (G34 25 [true]) [(6, .d (.int .i64 (d.begun.err true [x, y])))] ?_
     refine .raises [1, 3, 4, 5] ?_
     refine .kp [6] ?_
     refine .su [0, 1, 2, 3, 4, 5] (mk 33 [(6, .d (.int .i64 (d.begun.err true [x, y])))]) [.cells (hC 1 2 5 d.begun), .row 2 (map fileD d.begun.files) true, .cells [.row 3, .row 4], .row 1 (map strD d.begun.nk) true, .row 1 (map intD d.begun.nv) true, .row 3 (map chD d.begun.ch) true] ?_
     refine .rt F34 (V.d (D.int IntKind.i64 (d.begun.err true [x, y]))) ?_
     simp_all [hC, SD, dirD, Dk.renameD]
   · simp only [bsX] at h2
     omega
 | some k =>
   have q6 := q5 k hl
   have q61 := q6.1
   have hlt : k.toNat < d.begun.files.length := by omega
   obtain ⟨f, hf⟩ := get_some (l := d.begun.files) (i := k.toNat) hlt
   have hm := hk.fs f (List.mem_of_getElem? hf)
   have hfile : d.begun.file (d.begun.num x) = f := by simp [Dk.file, Dk.num, hl, List.getD_eq_getElem?_getD, hf]
   have hnum : d.begun.num x = k.toNat := by simp [Dk.num, hl]
   refine .sg 11 [0, 1, 2, 6, 10, 11, 12, 13] (G34 11 []) [(6, .d (.int .i64 0)), (10, .ptr 0 0 0), (11, .d (.str x)), (12, .d (.str y)), (13, .row 6)] [(6, .row 1 [D.str x, D.str y] false)] ?_
   refine .ca [0, 1, 2, 3, 4, 5, 6] (G34 12 []) F64 (@spec_64b (d) (N) (by assumption) (true) ([x, y]) ([D.str x, D.str y]) (by assumption) (by simp; done) (by simp <;> omega) (by simp; done) (by assumption)) ?_
   rintro r0 s0 ⟨rfl, rfl⟩
   refine ⟨_, rfl, ?_⟩
   refine .sg0 7 [0, 1, 2, 6, 7, 16] (G34 19 []) [(7, .d (.int .i64 (d.begun.err true [x, y]))), (16, .d (.bool (d.begun.err true [x, y] != 0)))] ?_
   refine .if' (d.begun.err true [x, y] != 0) (G34 20 [true]) (G34 20 [false]) (fun h2 => ?_) (fun h2 => ?_)
   · simp only [bsX] at h2
     refine .sg0 5 [0, 1, 2, 6] (G34 25 [true]) [(6, .d (.int .i64 (d.begun.err true [x, y])))] ?_
     refine .raises [1, 3, 4, 5] ?_
     refine .kp [6] ?_
     refine .su [0, 1, 2, 3, 4, 5] (mk 33 [(6, .d (.int .i64 (d.begun.err true [x, y])))]) [.cells (hC 1 2 5 d.begun), .row 2 (map fileD d.begun.files) true, .cells [.row 3, .row 4], .row 1 (map strD d.begun.nk) true, .row 1 (map intD d.begun.nv) true, .row 3 (map chD d.begun.ch) true] ?_
     refine .rt F34 (V.d (D.int IntKind.i64 (d.begun.err true [x, y]))) ?_
     simp_all [hC, SD, dirD, Dk.renameD, Dk.turn, chD]
   · simp only [bsX] at h2
     refine .sg0 8 [0, 1, 2, 6, 19, 20, 21, 22, 23] (G34 28 [false]) [(19, .ptr 0 0 0), (20, .ptr 0 0 0), (21, .ptr 0 0 1), (22, .ptr 2 0 0), (23, .d (.str x))] ?_
     refine .ca [2, 3, 4] (G34 29 [false]) F70 (@spec_70 (d.begun.nk) (x) (d.begun.nv) (by assumption) (by omega) (by assumption)) ?_
     rintro r2 s2 ⟨rfl, rfl⟩
     refine ⟨_, rfl, ?_⟩
     refine .sg0 13 [0, 1, 2, 6, 8, 27, 28, 29, 30, 31] (G34 42 [false]) [(8, .d (.int .i64 ((look d.begun.nk d.begun.nv x).getD 0))), (27, .ptr 0 0 0), (28, .d (.str x)), (29, .d (.str y)), (30, .d (.int .i64 ((look d.begun.nk d.begun.nv x).getD 0))), (31, .d (.agg [D.str x, D.str y, D.int IntKind.i64 ((look d.begun.nk d.begun.nv x).getD 0)]))] ?_
     refine .ca [0, 1, 2, 3, 4, 5] (G34 43 [false]) F67 (@spec_67 (map fileD d.begun.files) (D.agg [D.list 1 (map strD d.begun.sk), D.list 1 (map intD d.begun.sv)]) (map chD d.begun.ch) (d.begun.nk) (d.begun.nv) (d.begun.quota) (d.begun.stop) (d.begun.calls) (d.begun.full) (d.begun.off) (x) (y) ((look d.begun.nk d.begun.nv x).getD 0) (by assumption) (by assumption) (by omega) (by simp <;> omega)) ?_
     rintro r3 s3 ⟨rfl, rfl⟩
     refine ⟨_, rfl, ?_⟩
     refine .sg0 5 [6] (G34 48 [false]) [] ?_
     refine .raises [1] ?_
     refine .kp [6] ?_
     refine .su [0, 1, 2, 3, 4, 5] (mk 33 [(6, .d (.int .i64 0))]) [.cells (hC 1 2 5 d.begun), .row 2 (map fileD d.begun.files) true, .cells [.row 3, .row 4], .row 1 (map strD (kapply d.begun.nk d.begun.nv x y ((look d.begun.nk d.begun.nv x).getD 0)).fst) true, .row 1 (map intD (kapply d.begun.nk d.begun.nv x y ((look d.begun.nk d.begun.nv x).getD 0)).snd) true, .row 3 (map chD d.begun.ch ++ [D.agg [D.str x, D.str y, D.int IntKind.i64 ((look d.begun.nk d.begun.nv x).getD 0)]]) true] ?_
     refine .rt F34 (V.d (D.int IntKind.i64 0)) ?_
     simp_all [hC, SD, dirD, Dk.renameD, Dk.turn, chD]
theorem spec_78 (d : Dk) (N : Nat) (h : d.Ok N) (hN : N + 2 ≤ 50000) (x : ByteArray) (hx : x.size < 1000000000) :
   CallsA Try.prog 78 [.ptr 0 0 0, .d (.str x)] (SD d false) fun r σ' => r = .ret (.d (.int .i64 (d.begun.err true [x]))) ∧ σ' = SD (d.begun.removeD x) true := by
 refine CallsA.start F78 (tm := mk (Try.f78.ntmps) [(0, .ptr 0 0 0), (1, .d (.str x))]) (by kernel_rfl) ?_
 have hk := Dk.begun_ok h (by omega : N + 1 ≤ 50000)
 have q1 := hk.nr
 have q2 := hk.nl
 have q3 := hk.nkl
 have q4 := hk.nb
 have q7 := hk.chl
 have q8 := hk.fl
 have q5 : ∀ k, look d.begun.nk d.begun.nv x = some k → 0 ≤ k ∧ k < d.begun.files.length := fun k hk' => hk.nn k (look_mem hk')
 have hn1 : [D.str x] = List.map strD [x] := rfl
 cases hl : look d.begun.nk d.begun.nv x with
 | none =>
   have he : d.begun.err true [x] ≠ 0 := by
     unfold Dk.err
     split
     · simp
     · split <;> simp [hl]
   refine .sg 10 [0, 1, 4, 6, 7, 8] (G78 10 []) [(4, .d (.int .i64 0)), (6, .ptr 0 0 0), (7, .d (.str x)), (8, .row 6)] [(6, .row 1 [D.str x] false)] ?_
   refine .ca [0, 1, 2, 3, 4, 5, 6] (G78 11 []) F64 (@spec_64b (d) (N) (by assumption) (true) ([x]) ([D.str x]) (by assumption) (by simp; done) (by simp <;> omega) (by simp; done) (by assumption)) ?_
   rintro r0 s0 ⟨rfl, rfl⟩
   refine ⟨_, rfl, ?_⟩
   refine .sg0 7 [0, 1, 4, 5, 11] (G78 18 []) [(5, .d (.int .i64 (d.begun.err true [x]))), (11, .d (.bool (d.begun.err true [x] != 0)))] ?_
   refine .if' (d.begun.err true [x] != 0) (G78 19 [true]) (G78 19 [false]) (fun h2 => ?_) (fun h2 => ?_)
   · simp only [bsX] at h2
     refine .sg0 5 [0, 1, 4] (G78 24 [true]) [(4, .d (.int .i64 (d.begun.err true [x])))] ?_
     refine .raises [1, 3, 4, 5] ?_
     refine .kp [4] ?_
     refine .su [0, 1, 2, 3, 4, 5] (mk 17 [(4, .d (.int .i64 (d.begun.err true [x])))]) [.cells (hC 1 2 5 d.begun), .row 2 (map fileD d.begun.files) true, .cells [.row 3, .row 4], .row 1 (map strD d.begun.nk) true, .row 1 (map intD d.begun.nv) true, .row 3 (map chD d.begun.ch) true] ?_
     refine .rt F78 (V.d (D.int IntKind.i64 (d.begun.err true [x]))) ?_
     simp_all [hC, SD, dirD, Dk.removeD]
   · simp only [bsX] at h2
     omega
 | some k =>
   have q6 := q5 k hl
   have q61 := q6.1
   have hlt : k.toNat < d.begun.files.length := by omega
   obtain ⟨f, hf⟩ := get_some (l := d.begun.files) (i := k.toNat) hlt
   have hm := hk.fs f (List.mem_of_getElem? hf)
   have hfile : d.begun.file (d.begun.num x) = f := by simp [Dk.file, Dk.num, hl, List.getD_eq_getElem?_getD, hf]
   have hnum : d.begun.num x = k.toNat := by simp [Dk.num, hl]
   refine .sg 10 [0, 1, 4, 6, 7, 8] (G78 10 []) [(4, .d (.int .i64 0)), (6, .ptr 0 0 0), (7, .d (.str x)), (8, .row 6)] [(6, .row 1 [D.str x] false)] ?_
   refine .ca [0, 1, 2, 3, 4, 5, 6] (G78 11 []) F64 (@spec_64b (d) (N) (by assumption) (true) ([x]) ([D.str x]) (by assumption) (by simp; done) (by simp <;> omega) (by simp; done) (by assumption)) ?_
   rintro r0 s0 ⟨rfl, rfl⟩
   refine ⟨_, rfl, ?_⟩
   refine .sg0 7 [0, 1, 4, 5, 11] (G78 18 []) [(5, .d (.int .i64 (d.begun.err true [x]))), (11, .d (.bool (d.begun.err true [x] != 0)))] ?_
   refine .if' (d.begun.err true [x] != 0) (G78 19 [true]) (G78 19 [false]) (fun h2 => ?_) (fun h2 => ?_)
   · simp only [bsX] at h2
     refine .sg0 5 [0, 1, 4] (G78 24 [true]) [(4, .d (.int .i64 (d.begun.err true [x])))] ?_
     refine .raises [1, 3, 4, 5] ?_
     refine .kp [4] ?_
     refine .su [0, 1, 2, 3, 4, 5] (mk 17 [(4, .d (.int .i64 (d.begun.err true [x])))]) [.cells (hC 1 2 5 d.begun), .row 2 (map fileD d.begun.files) true, .cells [.row 3, .row 4], .row 1 (map strD d.begun.nk) true, .row 1 (map intD d.begun.nv) true, .row 3 (map chD d.begun.ch) true] ?_
     refine .rt F78 (V.d (D.int IntKind.i64 (d.begun.err true [x]))) ?_
     simp_all [hC, SD, dirD, Dk.removeD, Dk.turn, chD, noName]
   · simp only [bsX] at h2
     refine .sg0 6 [0, 1, 4, 13, 14, 15] (G78 25 [false]) [(13, .ptr 0 0 0), (14, .d (.str x)), (15, .d (.agg [D.str x, D.str (ByteArray.mk #[]), D.int IntKind.i64 0]))] ?_
     refine .ca [0, 1, 2, 3, 4, 5] (G78 26 [false]) F67 (@spec_67 (map fileD d.begun.files) (D.agg [D.list 1 (map strD d.begun.sk), D.list 1 (map intD d.begun.sv)]) (map chD d.begun.ch) (d.begun.nk) (d.begun.nv) (d.begun.quota) (d.begun.stop) (d.begun.calls) (d.begun.full) (d.begun.off) (x) (ByteArray.mk #[]) (0) (by assumption) (by assumption) (by omega) (by simp <;> omega)) ?_
     rintro r2 s2 ⟨rfl, rfl⟩
     refine ⟨_, rfl, ?_⟩
     refine .sg0 5 [4] (G78 31 [false]) [] ?_
     refine .raises [1] ?_
     refine .kp [4] ?_
     refine .su [0, 1, 2, 3, 4, 5] (mk 17 [(4, .d (.int .i64 0))]) [.cells (hC 1 2 5 d.begun), .row 2 (map fileD d.begun.files) true, .cells [.row 3, .row 4], .row 1 (map strD (kapply d.begun.nk d.begun.nv x (ByteArray.mk #[]) 0).fst) true, .row 1 (map intD (kapply d.begun.nk d.begun.nv x (ByteArray.mk #[]) 0).snd) true, .row 3 (map chD d.begun.ch ++ [D.agg [D.str x, D.str (ByteArray.mk #[]), D.int IntKind.i64 0]]) true] ?_
     refine .rt F78 (V.d (D.int IntKind.i64 0)) ?_
     simp_all [hC, SD, dirD, Dk.removeD, Dk.turn, chD, noName]
end Go.Proofs.Ytoelkgbeefoplaa
