/- Texts of this proof, part 11: OpsC, CopyB, OpsD, RefA, RefB. -/
import Derived.Test.YtoelkgbeefoplaaM10
set_option linter.unusedSimpArgs false
set_option linter.unusedVariables false
set_option linter.constructorNameAsVariable false
namespace Go.Proofs.Ytoelkgbeefoplaa
open Go Go.Br Go.Proofs
open List (map)
noncomputable def B32 : Code := (Try.f32.body).getD .skip
theorem F32 : Fnc Try.prog 32 Try.f32 B32 := ⟨Try.func32, by kernel_rfl, by kernel_rfl⟩
noncomputable def B34 : Code := (Try.f34.body).getD .skip
theorem F34 : Fnc Try.prog 34 Try.f34 B34 := ⟨Try.func34, by kernel_rfl, by kernel_rfl⟩
noncomputable def B78 : Code := (Try.f78.body).getD .skip
theorem F78 : Fnc Try.prog 78 Try.f78 B78 := ⟨Try.func78, by kernel_rfl, by kernel_rfl⟩
theorem spec_32 (d : Dk) (N : Nat) (h : d.Ok N) (hN : N + 2 ≤ 50000) (x : ByteArray) (hx : x.size < 1000000000) :
    CallsA Try.prog 32 [.ptr 0 0 0, .d (.str x)] (SD d false) fun r σ' => r = .ret (.d (.int .i64 (d.begun.err true [x]))) ∧ σ' = SD (d.begun.syncD x) true := by
  refine CallsA.start F32 (tm := mk (Try.f32.ntmps) [(0, .ptr 0 0 0), (1, .d (.str x))]) (by kernel_rfl) ?_
  have hk := Dk.begun_ok h (by omega : N + 1 ≤ 50000)
  have q1 := hk.nr
  have q2 := hk.nl
  have q3 := hk.nkl
  have q4 := hk.nb
  have q7 := hk.chl
  have q8 := hk.fl
  have q5 : ∀ k, look d.begun.nk d.begun.nv x = some k → 0 ≤ k ∧ k < d.begun.files.length := fun k hk' => hk.nn k (look_mem hk')
  have hn1 : [D.str x] = List.map strD [x] := rfl
  cases hl : look d.begun.nk d.begun.nv x with
  | none =>
    have he : d.begun.err true [x] ≠ 0 := by
      unfold Dk.err
      split
      · simp
      · split <;> simp [hl]
    refine .sg 10 [0, 1, 4, 8, 9, 10] (cgo 10 [] [.code B32]) [(4, .d (.int .i64 0)), (8, .ptr 0 0 0), (9, .d (.str x)), (10, .row 6)] [(6, .row 1 [D.str x] false)] ?_
    refine .ca [0, 1, 2, 3, 4, 5, 6] (cgo 11 [] [.code B32]) F64 (@spec_64b (d) (N) (by assumption) (true) ([x]) ([D.str x]) (by assumption) (by simp; done) (by simp <;> omega) (by simp; done) (by assumption)) ?_
    rintro r0 s0 ⟨rfl, rfl⟩
    refine ⟨_, rfl, ?_⟩
    refine .sg0 7 [0, 1, 4, 5, 13] (cgo 18 [] [.code B32]) [(5, .d (.int .i64 (d.begun.err true [x]))), (13, .d (.bool (d.begun.err true [x] != 0)))] ?_
    refine .if' (d.begun.err true [x] != 0) (cgo 19 [true] [.code B32]) (cgo 19 [false] [.code B32]) (fun h2 => ?_) (fun h2 => ?_)
    · simp only [bsX] at h2
      refine .sg0 5 [0, 1, 4] (cgo 24 [true] [.code B32]) [(4, .d (.int .i64 (d.begun.err true [x])))] ?_
      refine .raises [1, 3, 4, 5] ?_
      refine .kp [4] ?_
      refine .su [0, 1, 2, 3, 4, 5] (mk 29 [(4, .d (.int .i64 (d.begun.err true [x])))]) [.cells [.row 1, .ptr 2 0 0, .ep 2 (D.agg [D.list 1 (map strD d.begun.sk), D.list 1 (map intD d.begun.sv)]) 0, .row 5, .d (.int .i64 d.begun.quota), .d (.bool d.begun.full), .d (.bool d.begun.off), .d (.int .i64 d.begun.stop), .d (.int .i64 d.begun.calls)], .row 2 (map fileD d.begun.files) true, .cells [.row 3, .row 4], .row 1 (map strD d.begun.nk) true, .row 1 (map intD d.begun.nv) true, .row 3 (map chD d.begun.ch) true] ?_
      refine .retH F32 (v := V.d (D.int IntKind.i64 (d.begun.err true [x]))) (by kernel_rfl) (by kernel_rfl) ?_
      simp_all [SD, dirD, Dk.syncD]
    · simp only [bsX] at h2
      omega
  | some k =>
    have q6 := q5 k hl
    have q61 := q6.1
    have hlt : k.toNat < d.begun.files.length := by omega
    obtain ⟨f, hf⟩ := get_some (l := d.begun.files) (i := k.toNat) hlt
    have hm := hk.fs f (List.mem_of_getElem? hf)
    have hfile : d.begun.file (d.begun.num x) = f := by simp [Dk.file, Dk.num, hl, List.getD_eq_getElem?_getD, hf]
    have hnum : d.begun.num x = k.toNat := by simp [Dk.num, hl]
    refine .sg 10 [0, 1, 4, 8, 9, 10] (cgo 10 [] [.code B32]) [(4, .d (.int .i64 0)), (8, .ptr 0 0 0), (9, .d (.str x)), (10, .row 6)] [(6, .row 1 [D.str x] false)] ?_
    refine .ca [0, 1, 2, 3, 4, 5, 6] (cgo 11 [] [.code B32]) F64 (@spec_64b (d) (N) (by assumption) (true) ([x]) ([D.str x]) (by assumption) (by simp; done) (by simp <;> omega) (by simp; done) (by assumption)) ?_
    rintro r0 s0 ⟨rfl, rfl⟩
    refine ⟨_, rfl, ?_⟩
    refine .sg0 7 [0, 1, 4, 5, 13] (cgo 18 [] [.code B32]) [(5, .d (.int .i64 (d.begun.err true [x]))), (13, .d (.bool (d.begun.err true [x] != 0)))] ?_
    refine .if' (d.begun.err true [x] != 0) (cgo 19 [true] [.code B32]) (cgo 19 [false] [.code B32]) (fun h2 => ?_) (fun h2 => ?_)
    · simp only [bsX] at h2
      refine .sg0 5 [0, 1, 4] (cgo 24 [true] [.code B32]) [(4, .d (.int .i64 (d.begun.err true [x])))] ?_
      refine .raises [1, 3, 4, 5] ?_
      refine .kp [4] ?_
      refine .su [0, 1, 2, 3, 4, 5] (mk 29 [(4, .d (.int .i64 (d.begun.err true [x])))]) [.cells [.row 1, .ptr 2 0 0, .ep 2 (D.agg [D.list 1 (map strD d.begun.sk), D.list 1 (map intD d.begun.sv)]) 0, .row 5, .d (.int .i64 d.begun.quota), .d (.bool d.begun.full), .d (.bool d.begun.off), .d (.int .i64 d.begun.stop), .d (.int .i64 d.begun.calls)], .row 2 (map fileD d.begun.files) true, .cells [.row 3, .row 4], .row 1 (map strD d.begun.nk) true, .row 1 (map intD d.begun.nv) true, .row 3 (map chD d.begun.ch) true] ?_
      refine .retH F32 (v := V.d (D.int IntKind.i64 (d.begun.err true [x]))) (by kernel_rfl) (by kernel_rfl) ?_
      simp_all [SD, dirD, Dk.syncD, fileD, bsD, i64]
    · simp only [bsX] at h2
      refine .sg0 5 [0, 1, 4, 16, 17] (cgo 24 [false] [.code B32]) [(16, .ptr 0 0 0), (17, .d (.str x))] ?_
      refine .ca [0, 1, 2, 3, 4, 5] (cgo 25 [false] [.code B32]) F65 (@spec_65 (d.begun) (x) (some k) (by assumption) (by assumption) (by assumption) (by omega) (by assumption)) ?_
      rintro r2 s2 ⟨rfl, rfl⟩
      refine ⟨_, rfl, ?_⟩
      refine .sg0 12 [4, 6, 21, 22, 23, 24] (cgo 37 [false] [.code B32]) [(6, .ptr 1 k.toNat 0), (21, .ptr 1 k.toNat 0), (22, .ptr 1 k.toNat 0), (23, .ptr 1 k.toNat 0), (24, .ptr 1 k.toNat 0)] ?_
      refine .op' (cgo 38 [false] [.code B32]) (ldRow_ok (t := 22) (x := (.tmp 24)) (l := 1) (i := k.toNat) (s := 0) (sz := 2) (xs := map fileD d.begun.files) (mv := false) (d := fileD f) (v := .d (.list 1 (map u8 f.fst))) (by kernel_rfl) (by kernel_rfl) (by kernel_rfl) (map_get hf) (by kernel_rfl)) ?_
      refine .sg0 3 [4, 6, 21, 22, 23, 24, 25, 26, 27, 28] (cgo 41 [false] [.code B32]) [(26, .d (.int .i64 (↑(map u8 f.fst).length : Int))), (27, .ptr 1 k.toNat 0), (28, .ptr 1 k.toNat 1)] ?_
      simp only [List.length_map]
      refine .op' (cgo 42 [false] [.code B32]) (stRow_ok (t := 3) (x := (.tmp 28)) (y := (.tmp 26)) (l := 1) (i := k.toNat) (s := 1) (sz := 2) (xs := map fileD d.begun.files) (mv := false) (d := fileD f) (d' := D.agg [D.list 1 (map u8 f.fst), D.int IntKind.i64 (↑f.fst.length : Int)]) (by kernel_rfl) (by kernel_rfl) (by kernel_rfl) (map_get hf) (by kernel_rfl)) ?_
      refine .sg0 5 [4] (cgo 47 [false] [.code B32]) [] ?_
      refine .raises [1, 3, 4, 5] ?_
      refine .kp [4] ?_
      refine .su [0, 1, 2, 3, 4, 5] (mk 29 [(4, .d (.int .i64 0))]) [.cells [.row 1, .ptr 2 0 0, .ep 2 (D.agg [D.list 1 (map strD d.begun.sk), D.list 1 (map intD d.begun.sv)]) 0, .row 5, .d (.int .i64 d.begun.quota), .d (.bool d.begun.full), .d (.bool d.begun.off), .d (.int .i64 d.begun.stop), .d (.int .i64 d.begun.calls)], .row 2 ((map fileD d.begun.files).set k.toNat (D.agg [D.list 1 (map u8 f.fst), D.int IntKind.i64 (↑f.fst.length : Int)])) true, .cells [.row 3, .row 4], .row 1 (map strD d.begun.nk) true, .row 1 (map intD d.begun.nv) true, .row 3 (map chD d.begun.ch) true] ?_
      refine .retH F32 (v := V.d (D.int IntKind.i64 0)) (by kernel_rfl) (by kernel_rfl) ?_
      simp_all [SD, dirD, Dk.syncD, fileD, bsD, i64]
theorem spec_34 (d : Dk) (N : Nat) (h : d.Ok N) (hN : N + 2 ≤ 50000) (x y : ByteArray) (hx : x.size < 1000000000) (hy : y.size < 1000000000) :
    CallsA Try.prog 34 [.ptr 0 0 0, .d (.str x), .d (.str y)] (SD d false) fun r σ' => r = .ret (.d (.int .i64 (d.begun.err true [x, y]))) ∧ σ' = SD (d.begun.renameD x y) true := by
  refine CallsA.start F34 (tm := mk (Try.f34.ntmps) [(0, .ptr 0 0 0), (1, .d (.str x)), (2, .d (.str y))]) (by kernel_rfl) ?_
  have hk := Dk.begun_ok h (by omega : N + 1 ≤ 50000)
  have q1 := hk.nr
  have q2 := hk.nl
  have q3 := hk.nkl
  have q4 := hk.nb
  have q7 := hk.chl
  have q8 := hk.fl
  have q5 : ∀ k, look d.begun.nk d.begun.nv x = some k → 0 ≤ k ∧ k < d.begun.files.length := fun k hk' => hk.nn k (look_mem hk')
  have hn1 : [D.str x, D.str y] = List.map strD [x, y] := rfl
  cases hl : look d.begun.nk d.begun.nv x with
  | none =>
    have he : d.begun.err true [x, y] ≠ 0 := by
      unfold Dk.err
      split
      · simp
      · split <;> simp [hl]
    refine .sg 11 [0, 1, 2, 6, 10, 11, 12, 13] (cgo 11 [] [.code B34]) [(6, .d (.int .i64 0)), (10, .ptr 0 0 0), (11, .d (.str x)), (12, .d (.str y)), (13, .row 6)] [(6, .row 1 [D.str x, D.str y] false)] ?_
    refine .ca [0, 1, 2, 3, 4, 5, 6] (cgo 12 [] [.code B34]) F64 (@spec_64b (d) (N) (by assumption) (true) ([x, y]) ([D.str x, D.str y]) (by assumption) (by simp; done) (by simp <;> omega) (by simp; done) (by assumption)) ?_
    rintro r0 s0 ⟨rfl, rfl⟩
    refine ⟨_, rfl, ?_⟩
    refine .sg0 7 [0, 1, 2, 6, 7, 16] (cgo 19 [] [.code B34]) [(7, .d (.int .i64 (d.begun.err true [x, y]))), (16, .d (.bool (d.begun.err true [x, y] != 0)))] ?_
    refine .if' (d.begun.err true [x, y] != 0) (cgo 20 [true] [.code B34]) (cgo 20 [false] [.code B34]) (fun h2 => ?_) (fun h2 => ?_)
    · simp only [bsX] at h2
      refine .sg0 5 [0, 1, 2, 6] (cgo 25 [true] [.code B34]) [(6, .d (.int .i64 (d.begun.err true [x, y])))] ?_
      refine .raises [1, 3, 4, 5] ?_
      refine .kp [6] ?_
      refine .su [0, 1, 2, 3, 4, 5] (mk 33 [(6, .d (.int .i64 (d.begun.err true [x, y])))]) [.cells [.row 1, .ptr 2 0 0, .ep 2 (D.agg [D.list 1 (map strD d.begun.sk), D.list 1 (map intD d.begun.sv)]) 0, .row 5, .d (.int .i64 d.begun.quota), .d (.bool d.begun.full), .d (.bool d.begun.off), .d (.int .i64 d.begun.stop), .d (.int .i64 d.begun.calls)], .row 2 (map fileD d.begun.files) true, .cells [.row 3, .row 4], .row 1 (map strD d.begun.nk) true, .row 1 (map intD d.begun.nv) true, .row 3 (map chD d.begun.ch) true] ?_
      refine .retH F34 (v := V.d (D.int IntKind.i64 (d.begun.err true [x, y]))) (by kernel_rfl) (by kernel_rfl) ?_
      simp_all [SD, dirD, Dk.renameD]
    · simp only [bsX] at h2
      omega
  | some k =>
    have q6 := q5 k hl
    have q61 := q6.1
    have hlt : k.toNat < d.begun.files.length := by omega
    obtain ⟨f, hf⟩ := get_some (l := d.begun.files) (i := k.toNat) hlt
    have hm := hk.fs f (List.mem_of_getElem? hf)
    have hfile : d.begun.file (d.begun.num x) = f := by simp [Dk.file, Dk.num, hl, List.getD_eq_getElem?_getD, hf]
    have hnum : d.begun.num x = k.toNat := by simp [Dk.num, hl]
    refine .sg 11 [0, 1, 2, 6, 10, 11, 12, 13] (cgo 11 [] [.code B34]) [(6, .d (.int .i64 0)), (10, .ptr 0 0 0), (11, .d (.str x)), (12, .d (.str y)), (13, .row 6)] [(6, .row 1 [D.str x, D.str y] false)] ?_
    refine .ca [0, 1, 2, 3, 4, 5, 6] (cgo 12 [] [.code B34]) F64 (@spec_64b (d) (N) (by assumption) (true) ([x, y]) ([D.str x, D.str y]) (by assumption) (by simp; done) (by simp <;> omega) (by simp; done) (by assumption)) ?_
    rintro r0 s0 ⟨rfl, rfl⟩
    refine ⟨_, rfl, ?_⟩
    refine .sg0 7 [0, 1, 2, 6, 7, 16] (cgo 19 [] [.code B34]) [(7, .d (.int .i64 (d.begun.err true [x, y]))), (16, .d (.bool (d.begun.err true [x, y] != 0)))] ?_
    refine .if' (d.begun.err true [x, y] != 0) (cgo 20 [true] [.code B34]) (cgo 20 [false] [.code B34]) (fun h2 => ?_) (fun h2 => ?_)
    · simp only [bsX] at h2
      refine .sg0 5 [0, 1, 2, 6] (cgo 25 [true] [.code B34]) [(6, .d (.int .i64 (d.begun.err true [x, y])))] ?_
      refine .raises [1, 3, 4, 5] ?_
      refine .kp [6] ?_
      refine .su [0, 1, 2, 3, 4, 5] (mk 33 [(6, .d (.int .i64 (d.begun.err true [x, y])))]) [.cells [.row 1, .ptr 2 0 0, .ep 2 (D.agg [D.list 1 (map strD d.begun.sk), D.list 1 (map intD d.begun.sv)]) 0, .row 5, .d (.int .i64 d.begun.quota), .d (.bool d.begun.full), .d (.bool d.begun.off), .d (.int .i64 d.begun.stop), .d (.int .i64 d.begun.calls)], .row 2 (map fileD d.begun.files) true, .cells [.row 3, .row 4], .row 1 (map strD d.begun.nk) true, .row 1 (map intD d.begun.nv) true, .row 3 (map chD d.begun.ch) true] ?_
      refine .retH F34 (v := V.d (D.int IntKind.i64 (d.begun.err true [x, y]))) (by kernel_rfl) (by kernel_rfl) ?_
      simp_all [SD, dirD, Dk.renameD, Dk.turn, chD]
    · simp only [bsX] at h2
      refine .sg0 8 [0, 1, 2, 6, 19, 20, 21, 22, 23] (cgo 28 [false] [.code B34]) [(19, .ptr 0 0 0), (20, .ptr 0 0 0), (21, .ptr 0 0 1), (22, .ptr 2 0 0), (23, .d (.str x))] ?_
      refine .ca [2, 3, 4] (cgo 29 [false] [.code B34]) F70 (@spec_70 (d.begun.nk) (x) (d.begun.nv) (by assumption) (by omega) (by assumption)) ?_
      rintro r2 s2 ⟨rfl, rfl⟩
      refine ⟨_, rfl, ?_⟩
      refine .sg0 13 [0, 1, 2, 6, 8, 27, 28, 29, 30, 31] (cgo 42 [false] [.code B34]) [(8, .d (.int .i64 ((look d.begun.nk d.begun.nv x).getD 0))), (27, .ptr 0 0 0), (28, .d (.str x)), (29, .d (.str y)), (30, .d (.int .i64 ((look d.begun.nk d.begun.nv x).getD 0))), (31, .d (.agg [D.str x, D.str y, D.int IntKind.i64 ((look d.begun.nk d.begun.nv x).getD 0)]))] ?_
      refine .ca [0, 1, 2, 3, 4, 5] (cgo 43 [false] [.code B34]) F67 (@spec_67 (map fileD d.begun.files) (D.agg [D.list 1 (map strD d.begun.sk), D.list 1 (map intD d.begun.sv)]) (map chD d.begun.ch) (d.begun.nk) (d.begun.nv) (d.begun.quota) (d.begun.stop) (d.begun.calls) (d.begun.full) (d.begun.off) (x) (y) ((look d.begun.nk d.begun.nv x).getD 0) (by assumption) (by assumption) (by omega) (by simp <;> omega)) ?_
      rintro r3 s3 ⟨rfl, rfl⟩
      refine ⟨_, rfl, ?_⟩
      refine .sg0 5 [6] (cgo 48 [false] [.code B34]) [] ?_
      refine .raises [1] ?_
      refine .kp [6] ?_
      refine .su [0, 1, 2, 3, 4, 5] (mk 33 [(6, .d (.int .i64 0))]) [.cells [.row 1, .ptr 2 0 0, .ep 2 (D.agg [D.list 1 (map strD d.begun.sk), D.list 1 (map intD d.begun.sv)]) 0, .row 5, .d (.int .i64 d.begun.quota), .d (.bool d.begun.full), .d (.bool d.begun.off), .d (.int .i64 d.begun.stop), .d (.int .i64 d.begun.calls)], .row 2 (map fileD d.begun.files) true, .cells [.row 3, .row 4], .row 1 (map strD (kapply d.begun.nk d.begun.nv x y ((look d.begun.nk d.begun.nv x).getD 0)).fst) true, .row 1 (map intD (kapply d.begun.nk d.begun.nv x y ((look d.begun.nk d.begun.nv x).getD 0)).snd) true, .row 3 (map chD d.begun.ch ++ [D.agg [D.str x, D.str y, D.int IntKind.i64 ((look d.begun.nk d.begun.nv x).getD 0)]]) true] ?_
      refine .retH F34 (v := V.d (D.int IntKind.i64 0)) (by kernel_rfl) (by kernel_rfl) ?_
      simp_all [SD, dirD, Dk.renameD, Dk.turn, chD]
theorem spec_78 (d : Dk) (N : Nat) (h : d.Ok N) (hN : N + 2 ≤ 50000) (x : ByteArray) (hx : x.size < 1000000000) :
    CallsA Try.prog 78 [.ptr 0 0 0, .d (.str x)] (SD d false) fun r σ' => r = .ret (.d (.int .i64 (d.begun.err true [x]))) ∧ σ' = SD (d.begun.removeD x) true := by
  refine CallsA.start F78 (tm := mk (Try.f78.ntmps) [(0, .ptr 0 0 0), (1, .d (.str x))]) (by kernel_rfl) ?_
  have hk := Dk.begun_ok h (by omega : N + 1 ≤ 50000)
  have q1 := hk.nr
  have q2 := hk.nl
  have q3 := hk.nkl
  have q4 := hk.nb
  have q7 := hk.chl
  have q8 := hk.fl
  have q5 : ∀ k, look d.begun.nk d.begun.nv x = some k → 0 ≤ k ∧ k < d.begun.files.length := fun k hk' => hk.nn k (look_mem hk')
  have hn1 : [D.str x] = List.map strD [x] := rfl
  cases hl : look d.begun.nk d.begun.nv x with
  | none =>
    have he : d.begun.err true [x] ≠ 0 := by
      unfold Dk.err
      split
      · simp
      · split <;> simp [hl]
    refine .sg 10 [0, 1, 4, 6, 7, 8] (cgo 10 [] [.code B78]) [(4, .d (.int .i64 0)), (6, .ptr 0 0 0), (7, .d (.str x)), (8, .row 6)] [(6, .row 1 [D.str x] false)] ?_
    refine .ca [0, 1, 2, 3, 4, 5, 6] (cgo 11 [] [.code B78]) F64 (@spec_64b (d) (N) (by assumption) (true) ([x]) ([D.str x]) (by assumption) (by simp; done) (by simp <;> omega) (by simp; done) (by assumption)) ?_
    rintro r0 s0 ⟨rfl, rfl⟩
    refine ⟨_, rfl, ?_⟩
    refine .sg0 7 [0, 1, 4, 5, 11] (cgo 18 [] [.code B78]) [(5, .d (.int .i64 (d.begun.err true [x]))), (11, .d (.bool (d.begun.err true [x] != 0)))] ?_
    refine .if' (d.begun.err true [x] != 0) (cgo 19 [true] [.code B78]) (cgo 19 [false] [.code B78]) (fun h2 => ?_) (fun h2 => ?_)
    · simp only [bsX] at h2
      refine .sg0 5 [0, 1, 4] (cgo 24 [true] [.code B78]) [(4, .d (.int .i64 (d.begun.err true [x])))] ?_
      refine .raises [1, 3, 4, 5] ?_
      refine .kp [4] ?_
      refine .su [0, 1, 2, 3, 4, 5] (mk 17 [(4, .d (.int .i64 (d.begun.err true [x])))]) [.cells [.row 1, .ptr 2 0 0, .ep 2 (D.agg [D.list 1 (map strD d.begun.sk), D.list 1 (map intD d.begun.sv)]) 0, .row 5, .d (.int .i64 d.begun.quota), .d (.bool d.begun.full), .d (.bool d.begun.off), .d (.int .i64 d.begun.stop), .d (.int .i64 d.begun.calls)], .row 2 (map fileD d.begun.files) true, .cells [.row 3, .row 4], .row 1 (map strD d.begun.nk) true, .row 1 (map intD d.begun.nv) true, .row 3 (map chD d.begun.ch) true] ?_
      refine .retH F78 (v := V.d (D.int IntKind.i64 (d.begun.err true [x]))) (by kernel_rfl) (by kernel_rfl) ?_
      simp_all [SD, dirD, Dk.removeD]
    · simp only [bsX] at h2
      omega
  | some k =>
    have q6 := q5 k hl
    have q61 := q6.1
    have hlt : k.toNat < d.begun.files.length := by omega
    obtain ⟨f, hf⟩ := get_some (l := d.begun.files) (i := k.toNat) hlt
    have hm := hk.fs f (List.mem_of_getElem? hf)
    have hfile : d.begun.file (d.begun.num x) = f := by simp [Dk.file, Dk.num, hl, List.getD_eq_getElem?_getD, hf]
    have hnum : d.begun.num x = k.toNat := by simp [Dk.num, hl]
    refine .sg 10 [0, 1, 4, 6, 7, 8] (cgo 10 [] [.code B78]) [(4, .d (.int .i64 0)), (6, .ptr 0 0 0), (7, .d (.str x)), (8, .row 6)] [(6, .row 1 [D.str x] false)] ?_
    refine .ca [0, 1, 2, 3, 4, 5, 6] (cgo 11 [] [.code B78]) F64 (@spec_64b (d) (N) (by assumption) (true) ([x]) ([D.str x]) (by assumption) (by simp; done) (by simp <;> omega) (by simp; done) (by assumption)) ?_
    rintro r0 s0 ⟨rfl, rfl⟩
    refine ⟨_, rfl, ?_⟩
    refine .sg0 7 [0, 1, 4, 5, 11] (cgo 18 [] [.code B78]) [(5, .d (.int .i64 (d.begun.err true [x]))), (11, .d (.bool (d.begun.err true [x] != 0)))] ?_
    refine .if' (d.begun.err true [x] != 0) (cgo 19 [true] [.code B78]) (cgo 19 [false] [.code B78]) (fun h2 => ?_) (fun h2 => ?_)
    · simp only [bsX] at h2
      refine .sg0 5 [0, 1, 4] (cgo 24 [true] [.code B78]) [(4, .d (.int .i64 (d.begun.err true [x])))] ?_
      refine .raises [1, 3, 4, 5] ?_
      refine .kp [4] ?_
      refine .su [0, 1, 2, 3, 4, 5] (mk 17 [(4, .d (.int .i64 (d.begun.err true [x])))]) [.cells [.row 1, .ptr 2 0 0, .ep 2 (D.agg [D.list 1 (map strD d.begun.sk), D.list 1 (map intD d.begun.sv)]) 0, .row 5, .d (.int .i64 d.begun.quota), .d (.bool d.begun.full), .d (.bool d.begun.off), .d (.int .i64 d.begun.stop), .d (.int .i64 d.begun.calls)], .row 2 (map fileD d.begun.files) true, .cells [.row 3, .row 4], .row 1 (map strD d.begun.nk) true, .row 1 (map intD d.begun.nv) true, .row 3 (map chD d.begun.ch) true] ?_
      refine .retH F78 (v := V.d (D.int IntKind.i64 (d.begun.err true [x]))) (by kernel_rfl) (by kernel_rfl) ?_
      simp_all [SD, dirD, Dk.removeD, Dk.turn, chD, noName]
    · simp only [bsX] at h2
      refine .sg0 6 [0, 1, 4, 13, 14, 15] (cgo 25 [false] [.code B78]) [(13, .ptr 0 0 0), (14, .d (.str x)), (15, .d (.agg [D.str x, D.str (ByteArray.mk #[]), D.int IntKind.i64 0]))] ?_
      refine .ca [0, 1, 2, 3, 4, 5] (cgo 26 [false] [.code B78]) F67 (@spec_67 (map fileD d.begun.files) (D.agg [D.list 1 (map strD d.begun.sk), D.list 1 (map intD d.begun.sv)]) (map chD d.begun.ch) (d.begun.nk) (d.begun.nv) (d.begun.quota) (d.begun.stop) (d.begun.calls) (d.begun.full) (d.begun.off) (x) (ByteArray.mk #[]) (0) (by assumption) (by assumption) (by omega) (by simp <;> omega)) ?_
      rintro r2 s2 ⟨rfl, rfl⟩
      refine ⟨_, rfl, ?_⟩
      refine .sg0 5 [4] (cgo 31 [false] [.code B78]) [] ?_
      refine .raises [1] ?_
      refine .kp [4] ?_
      refine .su [0, 1, 2, 3, 4, 5] (mk 17 [(4, .d (.int .i64 0))]) [.cells [.row 1, .ptr 2 0 0, .ep 2 (D.agg [D.list 1 (map strD d.begun.sk), D.list 1 (map intD d.begun.sv)]) 0, .row 5, .d (.int .i64 d.begun.quota), .d (.bool d.begun.full), .d (.bool d.begun.off), .d (.int .i64 d.begun.stop), .d (.int .i64 d.begun.calls)], .row 2 (map fileD d.begun.files) true, .cells [.row 3, .row 4], .row 1 (map strD (kapply d.begun.nk d.begun.nv x (ByteArray.mk #[]) 0).fst) true, .row 1 (map intD (kapply d.begun.nk d.begun.nv x (ByteArray.mk #[]) 0).snd) true, .row 3 (map chD d.begun.ch ++ [D.agg [D.str x, D.str (ByteArray.mk #[]), D.int IntKind.i64 0]]) true] ?_
      refine .retH F78 (v := V.d (D.int IntKind.i64 0)) (by kernel_rfl) (by kernel_rfl) ?_
      simp_all [SD, dirD, Dk.removeD, Dk.turn, chD, noName]
end Go.Proofs.Ytoelkgbeefoplaa
namespace Go.Proofs.Ytoelkgbeefoplaa
open Go Go.Br Go.Proofs
open List (map)
theorem spec_97e (x : D) : CallsA Try.prog 97 [.ep 2 x 0, .fn (.func 98) [] []] [] fun r σ' => r = .ret (.fn (.func 109) [] [.ptr 0 0 0, .ptr 1 0 0]) ∧ σ' = [.cells [.ep 2 x 0], .cells [.fn (.func 98) [] []]] := by
  refine CallsA.start F97 (tm := mk (Try.f97.ntmps) [(0, .ep 2 x 0), (1, .fn (.func 98) [] [])]) (by kernel_rfl) ?_
  refine .seg 11 [4] (T' := cgo 11 [] [.code B97]) (tm' := mk 6 [(4, .fn (Fn.func 109) [] [.ptr 0 0 0, .ptr 1 0 0])]) (σ' := [.cells [.ep 2 x 0], .cells [.fn (Fn.func 98) [] []]]) (by kernel_rfl) ?_
  refine .retH F97 (v := V.fn (Fn.func 109) [] [V.ptr 0 0 0, V.ptr 1 0 0]) (by kernel_rfl) (by kernel_rfl) ?_
  exact ⟨rfl, rfl⟩
theorem spec_72e (x : D) : CallsA Try.prog 72 [.ep 2 x 0] [] fun r σ' => r = .ret (.fn (.func 109) [] [.ptr 0 0 0, .ptr 1 0 0]) ∧ σ' = [.cells [.ep 2 x 0], .cells [.fn (.func 98) [] []]] := by
  refine CallsA.start F72 (tm := mk (Try.f72.ntmps) [(0, .ep 2 x 0)]) (by kernel_rfl) ?_
  refine .sg0 7 [0, 2, 3] (cgo 7 [] [.code B72]) [(2, .d (.raw Value.nilFunc)), (3, .ep 2 x 0)] ?_
  refine .ca [] (cgo 8 [] [.code B72]) F97 (@spec_97e (x)) ?_
  rintro r0 s0 ⟨rfl, rfl⟩
  refine ⟨_, rfl, ?_⟩
  refine .seg 2 [2] (T' := cgo 10 [] [.code B72]) (tm' := mk 5 [(2, .fn (Fn.func 109) [] [.ptr 0 0 0, .ptr 1 0 0])]) (σ' := [.cells [.ep 2 x 0], .cells [.fn (Fn.func 98) [] []]]) (by kernel_rfl) ?_
  refine .retH F72 (v := V.fn (Fn.func 109) [] [V.ptr 0 0 0, V.ptr 1 0 0]) (by kernel_rfl) (by kernel_rfl) ?_
  exact ⟨rfl, rfl⟩
noncomputable def S69e (ks : List ByteArray) (V2 : List Int) (i : Nat) (st : LoopState) : Store :=
  [.cells [.row 4, .row 5], .cells [.ptr 0 0 0], .cells [.ep 2 (dirD ks V2) 0], .cells [.fn (.func 98) [] []], .row 1 ((ks.take i).map strD) true, .row 1 ((V2.take i).map intD) true, .defd, lp (cgo 18 [] [Item.code B69]) 69 (mk 17 [(2, V.d (D.raw (Value.pointer none))), (3, V.ptr 1 0 0), (9, V.fn (Fn.func 109) [] [V.ptr 2 0 0, V.ptr 3 0 0])]) st]
theorem body69e (ks : List ByteArray) (V2 : List Int) (hr : Rising ks) (hl : ks.length < 60000) (hv : V2.length = ks.length) (i : Nat) (x : ByteArray) (v : Int) (hx : ks[i]? = some x) (hy : V2[i]? = some v) :
    AW Try.prog 69 (some 7) 8 R69 (mk 17 [(2, V.d (D.raw (Value.pointer none))), (3, V.ptr 1 0 0), (9, V.fn (Fn.func 109) [] [V.ptr 2 0 0, V.ptr 3 0 0]), (10, .d (.str x)), (11, .d (.int .i64 v))]) (S69e ks V2 i .ready) [] fun a σ' => a = .ret (.d (.bool true)) ∧ σ' = S69e ks V2 (i + 1) .ready := by
  refine .at (T' := cgo 0 [] R69) rfl ?_
  have hi := (List.getElem?_eq_some_iff.1 hx).1
  have hk : kput (ks.take i) (V2.take i) x v = (ks.take (i + 1), V2.take (i + 1)) := by
    obtain ⟨_, rfl⟩ := List.getElem?_eq_some_iff.1 hx
    obtain ⟨_, rfl⟩ := List.getElem?_eq_some_iff.1 hy
    exact kput_next hr hv i hi
  have hr2 : Rising (ks.take i) := List.Pairwise.sublist (List.take_sublist _ _) hr
  have hl2 : (ks.take i).length < 1000000 := by simp; omega
  have hv2 : (V2.take i).length = (ks.take i).length := by simp [hv]
  refine .sg0 7 [2, 3, 4, 5, 9, 10, 11] (cgo 7 [] R69) [(4, .d (.str x)), (5, .d (.int .i64 v))] ?_
  refine .beginL (T0 := cgo 18 [] [Item.code B69]) (fn := 69) (tml := (mk 17 [(2, V.d (D.raw (Value.pointer none))), (3, V.ptr 1 0 0), (9, V.fn (Fn.func 109) [] [V.ptr 2 0 0, V.ptr 3 0 0])])) (by kernel_rfl) (T' := cgo 8 [] R69) (by kernel_rfl) (σ' := [.cells [.row 4, .row 5], .cells [.ptr 0 0 0], .cells [.ep 2 (D.agg [D.list 1 (map strD ks), D.list 1 (map intD V2)]) 0], .cells [.fn (Fn.func 98) [] []], .row 1 (map strD (List.take i ks)) true, .row 1 (map intD (List.take i V2)) true, .defd, lp (cgo 18 [] [Item.code B69]) 69 (mk 17 [(2, .d (.raw (Value.pointer none))), (3, .ptr 1 0 0), (9, .fn (Fn.func 109) [] [.ptr 2 0 0, .ptr 3 0 0])]) LoopState.busy]) (by kernel_rfl) (by kernel_rfl) ?_
  refine .sg0 5 [2, 3, 4, 5, 12, 13, 14] (cgo 13 [] R69) [(12, .ptr 0 0 0), (13, .d (.str x)), (14, .d (.int .i64 v))] ?_
  refine .ca [0, 4, 5] (cgo 14 [] R69) F76 (@spec_76 (List.take i ks) (x) (List.take i V2) (v) (by assumption) (by assumption) (by assumption)) ?_
  rintro r0 s0 ⟨rfl, rfl⟩
  refine ⟨_, rfl, ?_⟩
  refine .sg 2 [2] (cgo 16 [] R69) [] [(7, lp (cgo 18 [] [Item.code B69]) 69 (mk 17 [(2, .d (.raw (Value.pointer none))), (3, .ptr 1 0 0), (9, .fn (Fn.func 109) [] [.ptr 2 0 0, .ptr 3 0 0])]) LoopState.busy)] ?_
  refine .roundEndL (T0 := cgo 18 [] [Item.code B69]) (fn := 69) (tml := (mk 17 [(2, V.d (D.raw (Value.pointer none))), (3, V.ptr 1 0 0), (9, V.fn (Fn.func 109) [] [V.ptr 2 0 0, V.ptr 3 0 0])])) (st := LoopState.busy) (by kernel_rfl) (by kernel_rfl) (σ' := [.cells [.row 4, .row 5], .cells [.ptr 0 0 0], .cells [.ep 2 (D.agg [D.list 1 (map strD ks), D.list 1 (map intD V2)]) 0], .cells [.fn (Fn.func 98) [] []], .row 1 (map strD (kput (List.take i ks) (List.take i V2) x v).fst) true, .row 1 (map intD (kput (List.take i ks) (List.take i V2) x v).snd) true, .defd, lp (cgo 18 [] [Item.code B69]) 69 (mk 17 [(2, .d (.raw (Value.pointer none))), (3, .ptr 1 0 0), (9, .fn (Fn.func 109) [] [.ptr 2 0 0, .ptr 3 0 0])]) LoopState.ready]) (by kernel_rfl) ?_
  simp_all [S69e, dirD]
theorem lo69e (ks : List ByteArray) (V2 : List Int) (hr : Rising ks) (hl : ks.length < 60000) (hv : V2.length = ks.length) : ∀ (m i : Nat), i + m = (ks).length →
    AW Try.prog 109 none 8 (cgo 24 [false] [Item.code B109]) (mk 43 [(0, V.yield 7), (5, V.d (.list 1 ((ks).map strD))), (6, V.d (.list 1 ((V2).map intD))), (27, V.d (.int .i64 ((ks).length : Nat))), (28, V.d (.int .i64 (i : Nat)))]) (S69e ks V2 i .ready) [] fun r σ' => r = .ret (.tuple []) ∧ σ' = S69e ks V2 (ks).length .ready := by
  intro m
  induction m with
  | zero =>
    intro i hi
    have hi : i = (ks).length := by omega
    subst hi
    refine .sg0 5 [0, 5, 6, 27, 28, 29] (cgo 29 [false] [.code B109]) [(29, .d (.bool (decide ((↑ks.length : Int) < (↑ks.length : Int)))))] ?_
    refine .if' (decide ((↑ks.length : Int) < (↑ks.length : Int))) (cgo 30 [false, true] [.code B109]) (cgo 30 [false, false] [.code B109]) (fun h1 => ?_) (fun h1 => ?_)
    · simp only [bsX] at h1
      omega
    · simp only [bsX] at h1
      refine .seg 1 [] (T' := cgo 31 [false, false] [.code B109]) (tm' := mk 43 []) (σ' := [.cells [.row 4, .row 5], .cells [.ptr 0 0 0], .cells [.ep 2 (D.agg [D.list 1 (map strD ks), D.list 1 (map intD V2)]) 0], .cells [.fn (Fn.func 98) [] []], .row 1 (map strD (List.take ks.length ks)) true, .row 1 (map intD (List.take ks.length V2)) true, .defd, lp (cgo 18 [] [.code B69]) 69 (mk 17 [(2, .d (.raw (Value.pointer none))), (3, .ptr 1 0 0), (9, .fn (Fn.func 109) [] [.ptr 2 0 0, .ptr 3 0 0])]) LoopState.ready]) (by kernel_rfl) ?_
      refine .retH F109 (v := V.tuple []) (by kernel_rfl) (by kernel_rfl) ?_
      exact ⟨rfl, rfl⟩
  | succ m ih =>
    intro i hi
    obtain ⟨x, hx⟩ := get_some (l := ks) (i := i) (by omega)
    obtain ⟨v, hy⟩ := get_some (l := V2) (i := i) (by omega)
    have hYi := body69e ks V2 hr hl hv i x v hx hy
    refine .sg0 5 [0, 5, 6, 27, 28, 29] (cgo 29 [false] [.code B109]) [(29, .d (.bool (decide ((↑i : Int) < (↑ks.length : Int)))))] ?_
    refine .if' (decide ((↑i : Int) < (↑ks.length : Int))) (cgo 30 [false, true] [.code B109]) (cgo 30 [false, false] [.code B109]) (fun h1 => ?_) (fun h1 => ?_)
    · simp only [bsX] at h1
      refine .sg0 9 [0, 5, 6, 7, 27, 28, 29, 30] (cgo 39 [false, true] [.code B109]) [(7, .d (.int .i64 (↑i : Int))), (30, .d (.int .i64 (↑i : Int)))] ?_
      refine .dr (cgo 40 [false, true] [.code B109]) [(31, .yield 7), (32, .d (.list 1 (map strD ks))), (33, .d (.int .i64 (↑i : Int))), (34, .ep 1 (D.str x) 0), (35, .d (.str x)), (36, .d (.list 1 (map intD V2))), (37, .d (.int .i64 (↑i : Int))), (38, .ep 1 (D.int IntKind.i64 v) 0), (39, .d (.int .i64 v)), (40, .d (.bool true)), (41, .d (.bool false))] [(4, .row 1 (map strD (List.take (i + 1) ks)) true), (5, .row 1 (map intD (List.take (i + 1) V2)) true)] (fun kz L hL => ?_) ?_
      · refine ⟨[⟨[], [], [], [7], [7], [], true, false⟩, nF, nF, nF, nF, nF, nF, nF, nF, ⟨[], [], [], [], [], [], false, true⟩, nF], run_amongF hL _ [] [0, 1, 2, 3, 4, 5, 6, 7, 8, 9, 10] (by intro p hp; cases hp) (by kernel_rfl) ?_⟩
        refine Run.ap [0, 1, 2] [(31, .yield 7), (32, .d (.list 1 (map strD ks))), (33, .d (.int .i64 (↑i : Int)))] [] ?_
        refine Run.lk 3 (.ep 1 (D.str x) 0) [(.tmp 32), (.tmp 33)] (fun tm' σ2 hv hr => ixData_ok (t := 66) (x := (.tmp 32)) (i := (.tmp 33)) (k := IntKind.i64) (n := (↑i : Int)) (sz := 1) (xs := map strD ks) (d := strD x) (by kernel_rfl) (evl hv) (evv hv) (by kernel_rfl) (by omega) (map_get hx)) ?_
        refine Run.ap [4, 5, 6] [(35, .d (.str x)), (36, .d (.list 1 (map intD V2))), (37, .d (.int .i64 (↑i : Int)))] [] ?_
        refine Run.lk 7 (.ep 1 (D.int IntKind.i64 v) 0) [(.tmp 36), (.tmp 37)] (fun tm' σ2 hv hr => ixData_ok (t := 46) (x := (.tmp 36)) (i := (.tmp 37)) (k := IntKind.i64) (n := (↑i : Int)) (sz := 1) (xs := map intD V2) (d := intD v) (by kernel_rfl) (evl hv) (evv hv) (by kernel_rfl) (by omega) (map_get hy)) ?_
        refine Run.ap [8] [(39, .d (.int .i64 v))] [] ?_
        refine Run.one (s1 := (mk 43 [(0, .yield 7), (5, .d (.list 1 (map strD ks))), (6, .d (.list 1 (map intD V2))), (7, .d (.int .i64 (↑i : Int))), (27, .d (.int .i64 (↑ks.length : Int))), (28, .d (.int .i64 (↑i : Int))), (29, .d (.bool (decide ((↑i : Int) < (↑ks.length : Int))))), (30, .d (.int .i64 (↑i : Int))), (31, .yield 7), (32, .d (.list 1 (map strD ks))), (33, .d (.int .i64 (↑i : Int))), (34, .ep 1 (D.str x) 0), (35, .d (.str x)), (36, .d (.list 1 (map intD V2))), (37, .d (.int .i64 (↑i : Int))), (38, .ep 1 (D.int IntKind.i64 v) 0), (39, .d (.int .i64 v)), (40, .d (.bool true))], [.cells [.row 4, .row 5], .cells [.ptr 0 0 0], .cells [.ep 2 (D.agg [D.list 1 (map strD ks), D.list 1 (map intD V2)]) 0], .cells [.fn (Fn.func 98) [] []], .row 1 (map strD (List.take (i + 1) ks)) true, .row 1 (map intD (List.take (i + 1) V2)) true, .defd, lp (cgo 18 [] [Item.code B69]) 69 (mk 17 [(2, .d (.raw (Value.pointer none))), (3, .ptr 1 0 0), (9, .fn (Fn.func 109) [] [.ptr 2 0 0, .ptr 3 0 0])]) LoopState.ready])) (StepF.all (o := ((drawOf (cgo 39 [false, true] [Item.code B109]))[9]?).getD default) (by kernel_rfl) (by kernel_rfl) fun rest hn => AW.yieldD (T0 := cgo 18 [] [Item.code B69]) (x := (.tmp 31)) (args := #[(.tmp 35), (.tmp 39)]) (ts := #[9, 3]) (l := 7) (st := LoopState.ready) (fn := 69) (tml := (mk 17 [(2, .d (.raw (Value.pointer none))), (3, .ptr 1 0 0), (9, .fn (Fn.func 109) [] [.ptr 2 0 0, .ptr 3 0 0])])) (R := R69) (o := ((drawOf (cgo 39 [false, true] [Item.code B109]))[9]?).getD default) (N := 8) (by kernel_rfl) (by kernel_rfl) (by kernel_rfl) (by kernel_rfl) (by kernel_rfl) (by kernel_rfl) (by kernel_rfl) (by kernel_rfl) (by kernel_rfl) hYi (by rintro r s ⟨rfl, rfl⟩; exact ⟨_, rfl, AW.as (by kernel_rfl) (by kernel_rfl) hn⟩)) ?_
        exact Run.fin
      refine .seg 7 [0, 5, 6, 7, 27, 28, 29, 30, 31, 32, 33, 34, 35, 36, 37, 38, 39, 40, 41, 42] (T' := cgo 47 [false, true, false] [.code B109]) (tm' := mk 43 [(0, .yield 7), (5, .d (.list 1 (map strD ks))), (6, .d (.list 1 (map intD V2))), (7, .d (.int .i64 (↑i : Int))), (27, .d (.int .i64 (↑ks.length : Int))), (28, .d (.int .i64 (IntKind.i64.wrap ((↑i : Int) + 1)))), (29, .d (.bool (decide ((↑i : Int) < (↑ks.length : Int))))), (30, .d (.int .i64 (↑i : Int))), (31, .yield 7), (32, .d (.list 1 (map strD ks))), (33, .d (.int .i64 (↑i : Int))), (34, .ep 1 (D.str x) 0), (35, .d (.str x)), (36, .d (.list 1 (map intD V2))), (37, .d (.int .i64 (↑i : Int))), (38, .ep 1 (D.int IntKind.i64 v) 0), (39, .d (.int .i64 v)), (40, .d (.bool true)), (41, .d (.bool false)), (42, .d (.int .i64 (IntKind.i64.wrap ((↑i : Int) + 1))))]) (σ' := [.cells [.row 4, .row 5], .cells [.ptr 0 0 0], .cells [.ep 2 (D.agg [D.list 1 (map strD ks), D.list 1 (map intD V2)]) 0], .cells [.fn (Fn.func 98) [] []], .row 1 (map strD (List.take (i + 1) ks)) true, .row 1 (map intD (List.take (i + 1) V2)) true, .defd, lp (cgo 18 [] [.code B69]) 69 (mk 17 [(2, .d (.raw (Value.pointer none))), (3, .ptr 1 0 0), (9, .fn (Fn.func 109) [] [.ptr 2 0 0, .ptr 3 0 0])]) LoopState.ready]) (by kernel_rfl) ?_
      simp (disch := omega) only [wrap_i64, wrap_u64s, wrap_u32s, wrap_u8s, wrap_i32s, iadd_i64, isub_i64, irem_n, iquo_n, tdiv_nn, tmod_nn]
      exact .seg 1 [0, 5, 6, 27, 28] (by kernel_rfl) (ih (i + 1) (by omega))
    · simp only [bsX] at h1
      omega
theorem it69e (ks : List ByteArray) (V2 : List Int) (hr : Rising ks) (hl : ks.length < 60000) (hv : V2.length = ks.length) : CallsA Try.prog 109 [.yield 7, .ptr 2 0 0, .ptr 3 0 0] (S69e ks V2 0 .ready) fun r σ' => r = .ret (.tuple []) ∧ σ' = S69e ks V2 (ks).length .ready := by
  refine CallsA.start F109 (tm := mk (Try.f109.ntmps) [(0, .yield 7), (1, .ptr 2 0 0), (2, .ptr 3 0 0)]) (by kernel_rfl) ?_
  refine .sg0 11 [0, 1, 2, 10] (cgo 11 [false] [.code B109]) [(10, .fn (Fn.func 98) [] [])] ?_
  refine .cd (cgo 12 [false] [.code B109]) F98 (@spec_98) ?_
  refine .sg0 3 [0, 1, 4] (cgo 15 [false] [.code B109]) [(4, .d (.int .i64 0))] ?_
  refine .dr (cgo 16 [false] [.code B109]) [(5, .d (.list 1 (List.drop 0 (List.take (map strD ks).length (map strD ks))))), (6, .d (.list 1 (List.drop 0 (List.take (map intD V2).length (map intD V2))))), (12, .ep 2 (D.agg [D.list 1 (map strD ks), D.list 1 (map intD V2)]) 0), (13, .ep 2 (D.agg [D.list 1 (map strD ks), D.list 1 (map intD V2)]) 0), (14, .ep 2 (D.agg [D.list 1 (map strD ks), D.list 1 (map intD V2)]) 0), (15, .d (.list 1 (map strD ks))), (16, .d (.int .i64 0)), (17, .d (.list 1 (List.drop 0 (List.take (map strD ks).length (map strD ks))))), (18, .d (.list 1 (List.drop 0 (List.take (map strD ks).length (map strD ks))))), (19, .ep 2 (D.agg [D.list 1 (map strD ks), D.list 1 (map intD V2)]) 0), (20, .ep 2 (D.agg [D.list 1 (map strD ks), D.list 1 (map intD V2)]) 0), (21, .ep 2 (D.agg [D.list 1 (map strD ks), D.list 1 (map intD V2)]) 1), (22, .d (.list 1 (map intD V2))), (23, .d (.int .i64 0)), (24, .d (.list 1 (List.drop 0 (List.take (map intD V2).length (map intD V2))))), (25, .d (.list 1 (List.drop 0 (List.take (map intD V2).length (map intD V2)))))] [] (fun kz L hL => ?_) ?_
  · refine ⟨[⟨[2], [], [], [], [2], [], true, false⟩, nF, nF, nF, nF, nF, nF, ⟨[2], [], [], [], [2], [], true, false⟩, nF, nF, nF, nF, nF, nF, nF, nF], run_amongF hL _ [] [0, 1, 2, 3, 4, 5, 7, 8, 9, 10, 11, 12, 6, 13, 14, 15] (by intro p hp; cases hp) (by kernel_rfl) ?_⟩
    refine Run.ap [0, 1, 2, 3, 4] [(12, .ep 2 (D.agg [D.list 1 (map strD ks), D.list 1 (map intD V2)]) 0), (13, .ep 2 (D.agg [D.list 1 (map strD ks), D.list 1 (map intD V2)]) 0), (14, .ep 2 (D.agg [D.list 1 (map strD ks), D.list 1 (map intD V2)]) 0), (15, .d (.list 1 (map strD ks))), (16, .d (.int .i64 0))] [] ?_
    refine Run.lk 5 (.d (.list 1 (List.drop 0 (List.take (map strD ks).length (map strD ks))))) [(.tmp 15), (.tmp 16)] (fun tm' σ2 hv hr => slData_ok (t := 66) (x := (.tmp 15)) (lo := (some (.tmp 16))) (hi := none) (sz := 1) (xs := map strD ks) (0) ((map strD ks).length) (by kernel_rfl) (evl hv) (by kernel_rfl) (bnd_some (k := IntKind.i64) (i := 0) (evv hv) (by omega) (by rfl)) rfl (by omega) (by omega)) ?_
    refine Run.ap [7, 8, 9, 10, 11] [(19, .ep 2 (D.agg [D.list 1 (map strD ks), D.list 1 (map intD V2)]) 0), (20, .ep 2 (D.agg [D.list 1 (map strD ks), D.list 1 (map intD V2)]) 0), (21, .ep 2 (D.agg [D.list 1 (map strD ks), D.list 1 (map intD V2)]) 1), (22, .d (.list 1 (map intD V2))), (23, .d (.int .i64 0))] [] ?_
    refine Run.lk 12 (.d (.list 1 (List.drop 0 (List.take (map intD V2).length (map intD V2))))) [(.tmp 22), (.tmp 23)] (fun tm' σ2 hv hr => slData_ok (t := 46) (x := (.tmp 22)) (lo := (some (.tmp 23))) (hi := none) (sz := 1) (xs := map intD V2) (0) ((map intD V2).length) (by kernel_rfl) (evl hv) (by kernel_rfl) (bnd_some (k := IntKind.i64) (i := 0) (evv hv) (by omega) (by rfl)) rfl (by omega) (by omega)) ?_
    refine Run.one (StepF.data (o := ((drawOf (cgo 15 [false] [.code B109]))[6]?).getD default) (v := .d (.list 1 (List.drop 0 (List.take (map strD ks).length (map strD ks))))) (by kernel_rfl) rfl (by kernel_rfl) (by kernel_rfl) (by kernel_rfl) (fun s => sem_data0 (x := (.func 110)) (args := #[(.tmp 17)]) (ts := #[66]) (first := []) (cap := []) (ds := [.d (.list 1 (List.drop 0 (List.take (map strD ks).length (map strD ks))))]) (v := .d (.list 1 (List.drop 0 (List.take (map strD ks).length (map strD ks))))) F110 (@spec_110 (List.drop 0 (List.take (map strD ks).length (map strD ks))) (by simp <;> omega)) (by kernel_rfl) (by kernel_rfl) (by kernel_rfl) (by kernel_rfl) (by kernel_rfl) (by kernel_rfl) _)) ?_
    refine Run.one (StepF.data (o := ((drawOf (cgo 15 [false] [.code B109]))[13]?).getD default) (v := .d (.list 1 (List.drop 0 (List.take (map intD V2).length (map intD V2))))) (by kernel_rfl) rfl (by kernel_rfl) (by kernel_rfl) (by kernel_rfl) (fun s => sem_data0 (x := (.func 111)) (args := #[(.tmp 24)]) (ts := #[46]) (first := []) (cap := []) (ds := [.d (.list 1 (List.drop 0 (List.take (map intD V2).length (map intD V2))))]) (v := .d (.list 1 (List.drop 0 (List.take (map intD V2).length (map intD V2))))) F111 (@spec_111 (List.drop 0 (List.take (map intD V2).length (map intD V2))) (by simp <;> omega)) (by kernel_rfl) (by kernel_rfl) (by kernel_rfl) (by kernel_rfl) (by kernel_rfl) (by kernel_rfl) _)) ?_
    exact Run.fin
  refine .seg 7 [0, 5, 6, 27, 28] (T' := cgo 23 [false] [.code B109]) (tm' := mk 43 [(0, .yield 7), (5, .d (.list 1 (List.drop 0 (List.take (map strD ks).length (map strD ks))))), (6, .d (.list 1 (List.drop 0 (List.take (map intD V2).length (map intD V2))))), (27, .d (.int .i64 (↑(List.drop 0 (List.take (map strD ks).length (map strD ks))).length : Int))), (28, .d (.int .i64 0))]) (σ' := [.cells [.row 4, .row 5], .cells [.ptr 0 0 0], .cells [.ep 2 (D.agg [D.list 1 (map strD ks), D.list 1 (map intD V2)]) 0], .cells [.fn (Fn.func 98) [] []], .row 1 [] true, .row 1 [] true, .defd, lp (cgo 18 [] [.code B69]) 69 (mk 17 [(2, .d (.raw (Value.pointer none))), (3, .ptr 1 0 0), (9, .fn (Fn.func 109) [] [.ptr 2 0 0, .ptr 3 0 0])]) LoopState.ready]) (by kernel_rfl) ?_
  simp only [List.length_map]
  rw [eachM (ks) strD, eachM (V2) intD, List.length_map]
  exact .seg 1 [0, 5, 6, 27, 28] (by kernel_rfl) (lo69e ks V2 hr hl hv (ks).length 0 (by omega))
theorem spec_69e (ks : List ByteArray) (V2 : List Int) (hr : Rising ks) (hl : ks.length < 60000) (hv : V2.length = ks.length) :
    CallsA Try.prog 69 [.ep 2 (dirD ks V2) 0] [] fun r σ' => r = .ret (.ptr 0 0 0) ∧ σ' = [.cells [.row 1, .row 2], .row 1 (ks.map strD) true, .row 1 (V2.map intD) true] := by
  refine CallsA.start F69 (tm := mk (Try.f69.ntmps) [(0, .ep 2 (dirD ks V2) 0)]) (by kernel_rfl) ?_
  refine .sg 15 [0, 2, 3, 8] (cgo 15 [] [.code B69]) [(2, .d (.raw (Value.pointer none))), (3, .ptr 1 0 0), (8, .ep 2 (D.agg [D.list 1 (map strD ks), D.list 1 (map intD V2)]) 0)] [(0, .cells [.ex 1 [], .ex 1 []]), (1, .cells [.ptr 0 0 0])] ?_
  refine .ca [] (cgo 16 [] [.code B69]) F72 (@spec_72e (D.agg [D.list 1 (map strD ks), D.list 1 (map intD V2)])) ?_
  rintro r0 s0 ⟨rfl, rfl⟩
  refine ⟨_, rfl, ?_⟩
  refine .seg 2 [2, 3, 9] (T' := cgo 18 [] [.code B69]) (tm' := mk 17 [(2, .d (.raw (Value.pointer none))), (3, .ptr 1 0 0), (9, .fn (Fn.func 109) [] [.ptr 2 0 0, .ptr 3 0 0])]) (σ' := [.cells [.ex 1 [], .ex 1 []], .cells [.ptr 0 0 0], .cells [.ep 2 (D.agg [D.list 1 (map strD ks), D.list 1 (map intD V2)]) 0], .cells [.fn (Fn.func 98) [] []]]) (by kernel_rfl) ?_
  refine .virtX 0 0 1 rfl rfl ?_
  refine .virtX 0 1 1 rfl rfl ?_
  refine .raise 4 rfl rfl ?_
  refine .raise 5 rfl rfl ?_
  refine .rangeH (first := []) (cap := [.ptr 2 0 0, .ptr 3 0 0]) (List.range 8) [.yield 7, .ptr 2 0 0, .ptr 3 0 0] (S69e ks V2 0 .ready) F109 (by kernel_rfl) (T' := cgo 19 [] [Item.code B69]) (by kernel_rfl) (by kernel_rfl) (it69e ks V2 hr hl hv) (by kernel_rfl) (by kernel_rfl) (by refine ⟨rfl, by kernel_rfl, ?_⟩; kernel_rfl) ?_
  rintro r σc' ⟨rfl, rfl⟩
  refine ⟨.tuple [], .ready, (mk 17 [(2, V.d (D.raw (Value.pointer none))), (3, V.ptr 1 0 0), (9, V.fn (Fn.func 109) [] [V.ptr 2 0 0, V.ptr 3 0 0])]), rfPs (cgo 18 [] [Item.code B69]), rfAs (cgo 18 [] [Item.code B69]), rfBd (cgo 18 [] [Item.code B69]), 69, rfl, by simp, by kernel_rfl, ?_⟩
  have e1 : ks.take ks.length = ks := List.take_length
  have e2 : V2.take ks.length = V2 := by rw [← hv]; exact List.take_length
  refine .seg 6 [2] (T' := cgo 25 [] [.code B69]) (tm' := mk 17 [(2, .ptr 0 0 0)]) (σ' := [.cells [.row 4, .row 5], .cells [.ptr 0 0 0], .cells [.ep 2 (D.agg [D.list 1 (map strD ks), D.list 1 (map intD V2)]) 0], .cells [.fn (Fn.func 98) [] []], .row 1 (map strD (List.take ks.length ks)) true, .row 1 (map intD (List.take ks.length V2)) true, .defd, lp (cgo 18 [] [.code B69]) 69 (mk 17 [(2, .d (.raw (Value.pointer none))), (3, .ptr 1 0 0), (9, .fn (Fn.func 109) [] [.ptr 2 0 0, .ptr 3 0 0])]) LoopState.exhausted]) (by kernel_rfl) ?_
  refine .retX (v := V.ptr 0 0 0) [0, 4, 5] (V.ptr 0 0 0) F69 (by kernel_rfl) ⟨by kernel_rfl, by kernel_rfl⟩ (σ1 := [O.cells [V.row 4, V.row 5], O.cells [V.ptr 0 0 0], O.cells [V.ep 2 (D.agg [D.list 1 (map strD ks), D.list 1 (map intD V2)]) 0], O.cells [V.fn (Fn.func 98) [] []], O.row 1 (map strD (List.take ks.length ks)) true, O.row 1 (map intD (List.take ks.length V2)) true, O.dead, lp (cgo 18 [] [Item.code B69]) 69 (mk 17 [(2, V.d (D.raw (Value.pointer none))), (3, V.ptr 1 0 0), (9, V.fn (Fn.func 109) [] [V.ptr 2 0 0, V.ptr 3 0 0])]) LoopState.exhausted]) (by kernel_rfl) (by kernel_rfl) (σ2 := [O.cells [V.row 1, V.row 2], O.row 1 (map strD (List.take ks.length ks)) true, O.row 1 (map intD (List.take ks.length V2)) true]) ⟨rfl, rfl, by kernel_rfl⟩ (by kernel_rfl) ⟨Nat.le_of_ble_eq_true (by kernel_rfl), by kernel_rfl⟩ (by kernel_rfl) ?_
  simp_all
end Go.Proofs.Ytoelkgbeefoplaa
namespace Go.Proofs.Ytoelkgbeefoplaa
open Go Go.Br Go.Proofs
open List (map)
noncomputable def B33 : Code := (Try.f33.body).getD .skip
theorem F33 : Fnc Try.prog 33 Try.f33 B33 := ⟨Try.func33, by kernel_rfl, by kernel_rfl⟩
noncomputable def B27 : Code := (Try.f27.body).getD .skip
theorem F27 : Fnc Try.prog 27 Try.f27 B27 := ⟨Try.func27, by kernel_rfl, by kernel_rfl⟩
noncomputable def B25 : Code := (Try.f25.body).getD .skip
theorem F25 : Fnc Try.prog 25 Try.f25 B25 := ⟨Try.func25, by kernel_rfl, by kernel_rfl⟩
theorem spec_61 (bs : List UInt8) (hlen : bs.length ≤ 140737488355000) : Br.Pure Try.prog 61 [.d (bsD bs)] (.d (bsD bs)) := clone_pure bs hlen
theorem spec_33 (d : Dk) (N : Nat) (h : d.Ok N) (hN : N + 2 ≤ 50000) :
    CallsA Try.prog 33 [.ptr 0 0 0] (SD d false) fun r σ' => r = .ret (.d (.int .i64 (d.begun.err false []))) ∧ σ' = SD d.begun.syncDirD true := by
  refine CallsA.start F33 (tm := mk (Try.f33.ntmps) [(0, .ptr 0 0 0)]) (by kernel_rfl) ?_
  have hk := Dk.begun_ok h (by omega : N + 1 ≤ 50000)
  have q1 := hk.nr
  have q2 := hk.nl
  have q3 := hk.nkl
  have q4 := hk.nb
  refine .sg0 8 [0, 2, 4] (cgo 8 [] [.code B33]) [(2, .d (.int .i64 0)), (4, .ptr 0 0 0)] ?_
  refine .ca [0, 1, 2, 3, 4, 5] (cgo 9 [] [.code B33]) F64 (@spec_64 (d) (N) (by assumption) (by assumption)) ?_
  rintro r0 s0 ⟨rfl, rfl⟩
  refine ⟨_, rfl, ?_⟩
  refine .sg0 7 [0, 2, 3, 7] (cgo 16 [] [.code B33]) [(3, .d (.int .i64 (d.begun.err false []))), (7, .d (.bool (d.begun.err false [] != 0)))] ?_
  refine .if' (d.begun.err false [] != 0) (cgo 17 [true] [.code B33]) (cgo 17 [false] [.code B33]) (fun h2 => ?_) (fun h2 => ?_)
  · simp only [bsX] at h2
    refine .seg 5 [0, 2] (T' := cgo 22 [true] [.code B33]) (tm' := mk 20 [(0, .ptr 0 0 0), (2, .d (.int .i64 (d.begun.err false [])))]) (σ' := [.cells [.row 1, .ptr 2 0 0, .ep 2 (D.agg [D.list 1 (map strD d.begun.sk), D.list 1 (map intD d.begun.sv)]) 0, .row 5, .d (.int .i64 d.begun.quota), .d (.bool d.begun.full), .d (.bool d.begun.off), .d (.int .i64 d.begun.stop), .d (.int .i64 d.begun.calls)], .row 2 (map fileD d.begun.files) false, .cells [.row 3, .row 4], .row 1 (map strD d.begun.nk) false, .row 1 (map intD d.begun.nv) false, .row 3 (map chD d.begun.ch) false]) (by kernel_rfl) ?_
    refine .raise 1 rfl rfl ?_
    refine .raise 3 rfl rfl ?_
    refine .raise 4 rfl rfl ?_
    refine .raise 5 rfl rfl ?_
    refine .retH F33 (v := V.d (D.int IntKind.i64 (d.begun.err false []))) (by kernel_rfl) (by kernel_rfl) ?_
    have e : d.begun.off = true := by
      cases ho : d.begun.off with
      | true => rfl
      | false => simp_all [Dk.err]
    exact ⟨rfl, by simp [SD, dirD, Dk.syncDirD, e]⟩
  · simp only [bsX] at h2
    refine .sg0 9 [0, 2, 9, 10, 11, 12, 13, 14] (cgo 26 [false] [.code B33]) [(9, .ptr 0 0 0), (10, .ptr 0 0 0), (11, .ptr 0 0 0), (12, .ptr 0 0 0), (13, .ptr 0 0 1), (14, .ptr 2 0 0)] ?_
    refine .ca [2, 3, 4] (cgo 27 [false] [.code B33]) F69 (@spec_69 (d.begun.nk) (d.begun.nv) (by assumption) (by omega) (by assumption)) ?_
    rintro r2 s2 ⟨rfl, rfl⟩
    refine ⟨_, rfl, ?_⟩
    refine .seg 11 [2] (T' := cgo 38 [false] [.code B33]) (tm' := mk 20 [(2, .d (.int .i64 0))]) (σ' := [.cells [.row 1, .ptr 2 0 0, .ptr 6 0 0, .ex 3 [], .d (.int .i64 d.begun.quota), .d (.bool d.begun.full), .d (.bool d.begun.off), .d (.int .i64 d.begun.stop), .d (.int .i64 d.begun.calls)], .row 2 (map fileD d.begun.files) false, .cells [.row 3, .row 4], .row 1 (map strD d.begun.nk) false, .row 1 (map intD d.begun.nv) false, .row 3 (map chD d.begun.ch) false, .cells [.row 7, .row 8], .row 1 (map strD d.begun.nk) true, .row 1 (map intD d.begun.nv) true]) (by kernel_rfl) ?_
    refine .freeze 7 (sz := 1) (xs := map strD d.begun.nk) (mv := true) (by kernel_rfl) ?_
    refine .freeze 8 (sz := 1) (xs := map intD d.begun.nv) (mv := true) (by kernel_rfl) ?_
    refine .freezeC 6 (cs0 := [.d (.list 1 (map strD d.begun.nk)), .d (.list 1 (map intD d.begun.nv))]) (ds := [D.list 1 (map strD d.begun.nk), D.list 1 (map intD d.begun.nv)]) (by kernel_rfl) (by kernel_rfl) ?_
    refine .virtX 0 3 3 rfl rfl ?_
    refine .raises [1, 3, 4, 9] ?_
    refine .subM [0, 1, 2, 3, 4, 9] (mk 20 [(2, .d (.int .i64 0))]) [.cells [.row 1, .ptr 2 0 0, .ep 2 (dirD d.begun.nk d.begun.nv) 0, .row 5, .d (.int .i64 d.begun.quota), .d (.bool d.begun.full), .d (.bool d.begun.off), .d (.int .i64 d.begun.stop), .d (.int .i64 d.begun.calls)], .row 2 (map fileD d.begun.files) true, .cells [.row 3, .row 4], .row 1 (map strD d.begun.nk) true, .row 1 (map intD d.begun.nv) true, .row 3 [] true] none [] ⟨rfl, rfl, by kernel_rfl⟩ (by kernel_rfl) ⟨Nat.le_of_ble_eq_true (by kernel_rfl), by kernel_rfl⟩ (by kernel_rfl) ⟨by kernel_rfl, by kernel_rfl⟩ ⟨rfl, rfl⟩ ?_
    refine .retH F33 (v := V.d (D.int IntKind.i64 0)) (by kernel_rfl) (by kernel_rfl) ?_
    have e : d.begun.off = false := by
      cases ho : d.begun.off with
      | false => rfl
      | true => simp_all [Dk.err]
    have e2 : d.begun.err false [] = 0 := by simp [Dk.err, e]
    exact ⟨by rw [e2], by simp [SD, Dk.syncDirD, e]⟩
theorem spec_27 (d : Dk) (N : Nat) (h : d.Ok N) (x : ByteArray) :
    CallsA Try.prog 27 [.ptr 0 0 0, .d (.str x)] (SD d false) fun r σ' => r = .ret (.tuple [.d (if (look d.nk d.nv x).isSome then bsD (d.file (d.num x)).1 else .list 1 []), .d (.int .i64 (if (look d.nk d.nv x).isSome then 0 else 3))]) ∧ σ' = SD d false := by
  refine CallsA.start F27 (tm := mk (Try.f27.ntmps) [(0, .ptr 0 0 0), (1, .d (.str x))]) (by kernel_rfl) ?_
  have q1 := h.nr
  have q2 := h.nl
  have q3 := h.nkl
  have q4 := h.nb
  have q5 : ∀ k, look d.nk d.nv x = some k → 0 ≤ k ∧ k < d.files.length := fun k hk' => h.nn k (look_mem hk')
  cases hl : look d.nk d.nv x with
  | none =>
    refine .sg0 9 [0, 1, 4, 5, 9, 10] (cgo 9 [] [.code B27]) [(4, .nils), (5, .d (.int .i64 0)), (9, .ptr 0 0 0), (10, .d (.str x))] ?_
    refine .ca [0, 1, 2, 3, 4, 5] (cgo 10 [] [.code B27]) F65 (@spec_65 (d) (x) (none) (by assumption) (by assumption) (by assumption) (by omega) (by assumption)) ?_
    rintro r0 s0 ⟨rfl, rfl⟩
    refine ⟨_, rfl, ?_⟩
    refine .sg0 18 [4, 5, 6] (cgo 28 [true] [.code B27]) [(5, .d (.int .i64 3)), (6, .d (.raw (Value.pointer none)))] ?_
    refine .coerce [0, 0, 0, 0, 22, 23] ?_
    refine .retH F27 (v := V.tuple [V.d (D.list 1 []), V.d (D.int IntKind.i64 3)]) (by kernel_rfl) (by kernel_rfl) ?_
    exact ⟨rfl, rfl⟩
  | some k =>
    have q6 := q5 k hl
    have q61 := q6.1
    have hlt : k.toNat < d.files.length := by omega
    obtain ⟨f, hf⟩ := get_some (l := d.files) (i := k.toNat) hlt
    have hm := h.fs f (List.mem_of_getElem? hf)
    have hfile : d.file (d.num x) = f := by simp [Dk.file, Dk.num, hl, List.getD_eq_getElem?_getD, hf]
    have hfb : bsD f.1 = D.list 1 (List.map u8 f.1) := rfl
    refine .sg0 9 [0, 1, 4, 5, 9, 10] (cgo 9 [] [.code B27]) [(4, .nils), (5, .d (.int .i64 0)), (9, .ptr 0 0 0), (10, .d (.str x))] ?_
    refine .ca [0, 1, 2, 3, 4, 5] (cgo 10 [] [.code B27]) F65 (@spec_65 (d) (x) (some k) (by assumption) (by assumption) (by assumption) (by omega) (by assumption)) ?_
    rintro r0 s0 ⟨rfl, rfl⟩
    refine ⟨_, rfl, ?_⟩
    refine .sg0 19 [4, 5, 6, 16, 17, 18] (cgo 29 [false] [.code B27]) [(6, .ptr 1 k.toNat 0), (16, .ptr 1 k.toNat 0), (17, .ptr 1 k.toNat 0), (18, .ptr 1 k.toNat 0)] ?_
    refine .op' (cgo 30 [false] [.code B27]) (ldRow_ok (t := 22) (x := (.tmp 18)) (l := 1) (i := k.toNat) (s := 0) (sz := 2) (xs := map fileD d.files) (mv := false) (d := fileD f) (v := .d (.list 1 (map u8 f.fst))) (by kernel_rfl) (by kernel_rfl) (by kernel_rfl) (map_get hf) (by kernel_rfl)) ?_
    refine .cd (cgo 31 [false] [.code B27]) F61 (@spec_61 (f.fst) (by omega)) ?_
    refine .seg 3 [4, 5] (T' := cgo 34 [false] [.code B27]) (tm' := mk 21 [(4, .d (.list 1 (map u8 f.fst))), (5, .d (.int .i64 0))]) (σ' := [.cells [.row 1, .ptr 2 0 0, .ep 2 (D.agg [D.list 1 (map strD d.sk), D.list 1 (map intD d.sv)]) 0, .row 5, .d (.int .i64 d.quota), .d (.bool d.full), .d (.bool d.off), .d (.int .i64 d.stop), .d (.int .i64 d.calls)], .row 2 (map fileD d.files) false, .cells [.row 3, .row 4], .row 1 (map strD d.nk) false, .row 1 (map intD d.nv) false, .row 3 (map chD d.ch) false]) (by kernel_rfl) ?_
    refine .retH F27 (v := V.tuple [V.d (D.list 1 (map u8 f.fst)), V.d (D.int IntKind.i64 0)]) (by kernel_rfl) (by kernel_rfl) ?_
    simp_all [SD, dirD]
theorem spec_25 (q : Int) : CallsA Try.prog 25 [.d (.int .i64 q)] [] fun r σ' => r = .ret (.ptr 0 0 0) ∧ σ' = SD (Dk.new q) true := by
  refine CallsA.start F25 (tm := mk (Try.f25.ntmps) [(0, .d (.int .i64 q))]) (by kernel_rfl) ?_
  refine .seg 16 [2] (T' := cgo 16 [] [.code B25]) (tm' := mk 11 [(2, .ptr 2 0 0)]) (σ' := [.cells [.ex 1 [], .ex 1 []], .cells [.ex 1 [], .ex 1 []], .cells [.ex 2 [], .ptr 0 0 0, .ptr 1 0 0, .ex 3 [], .d (.int .i64 (if 0 > q then 0 else q)), .d (.bool false), .d (.bool false), .d (.int .i64 (-1)), .d (.int .i64 0)]]) (by kernel_rfl) ?_
  refine .virtX 2 0 2 rfl rfl ?_
  refine .virtX 2 3 3 rfl rfl ?_
  refine .virtX 0 0 1 rfl rfl ?_
  refine .virtX 0 1 1 rfl rfl ?_
  refine .freezeC 1 (cs0 := [V.ex 1 [], V.ex 1 []]) (ds := [D.list 1 [], D.list 1 []]) (by kernel_rfl) (by kernel_rfl) ?_
  refine .raises [3, 4, 5, 6] ?_
  refine .su [2, 3, 0, 5, 6, 4] (mk 11 [(2, .ptr 0 0 0)]) (SD (Dk.new q) true) ?_
  refine .retH F25 (v := V.ptr 0 0 0) (by kernel_rfl) (by kernel_rfl) ?_
  exact ⟨rfl, rfl⟩
end Go.Proofs.Ytoelkgbeefoplaa
namespace Go.Proofs.Ytoelkgbeefoplaa
open Go Go.Br Go.Proofs
open List (map)
def nmD (x : ByteArray × Int) : D := .agg [.str x.1, .int .i64 x.2]
def atR : List (ByteArray × Int) → ByteArray → Int
  | [], _ => -1
  | p :: l, x => if p.1 = x then p.2 else atR l x
noncomputable def B102 : Code := (Try.f102.body).getD .skip
theorem F102 : Fnc Try.prog 102 Try.f102 B102 := ⟨Try.func102, by kernel_rfl, by kernel_rfl⟩
theorem atR_none {l : List (ByteArray × Int)} {x : ByteArray} (h : ∀ p ∈ l, p.1 ≠ x) : atR l x = -1 := by
  induction l with
  | nil => rfl
  | cons p l ih =>
    rw [atR, if_neg (h p (List.mem_cons_self ..)), ih fun q hq => h q (List.mem_cons_of_mem _ hq)]
theorem atR_at {l : List (ByteArray × Int)} {x : ByteArray} {i : Nat} {p : ByteArray × Int} (hp : l[i]? = some p) (h : ∀ q ∈ l.take i, q.1 ≠ x) (hx : p.1 = x) : atR l x = p.2 := by
  induction l generalizing i with
  | nil => simp at hp
  | cons q l ih =>
    cases i with
    | zero =>
      simp only [List.getElem?_cons_zero, Option.some.injEq] at hp
      subst hp
      rw [atR, if_pos hx]
    | succ i =>
      rw [List.take_succ_cons] at h
      rw [atR, if_neg (h q (List.mem_cons_self ..)), ih hp fun q hq => h q (List.mem_cons_of_mem _ hq)]
theorem take_more {α : Type} {l : List α} {i : Nat} {p : α} {q : α → Prop} (hp : l[i]? = some p) (h : ∀ x ∈ l.take i, q x) (hx : q p) : ∀ x ∈ l.take (i + 1), q x := by
  intro s hsm
  obtain ⟨hi', rfl⟩ := List.getElem?_eq_some_iff.1 hp
  rw [List.take_succ_eq_append_getElem hi'] at hsm
  rcases List.mem_append.1 hsm with h1 | h1
  · exact h s h1
  · rw [List.mem_singleton.1 h1]; exact hx
theorem lo102 (l : List (ByteArray × Int)) (x : ByteArray) (hl : l.length < 1000000000) : ∀ (m i : Nat), i + m = l.length → (∀ p ∈ l.take i, p.1 ≠ x) →
    AW Try.prog 102 none 0 (cgo 13 [] [Item.code B102]) (mk 20 [(1, V.d (D.str x)), (4, V.d (D.int IntKind.i64 0)), (7, V.d (D.list 2 (l.map nmD))), (8, V.d (D.int IntKind.i64 (l.length : Nat))), (9, V.d (D.int IntKind.i64 (i : Nat)))]) [] [] fun r _ => r = .ret (.d (.int .i64 (atR l x))) := by
  intro m
  induction m with
  | zero =>
    intro i hi hm
    have hi : i = l.length := by omega
    subst hi
    rw [List.take_length] at hm
    have he : atR l x = -1 := atR_none hm
    refine .sg0 5 [1, 4, 7, 8, 9, 10] (cgo 18 [] [.code B102]) [(10, .d (.bool (decide ((↑l.length : Int) < (↑l.length : Int)))))] ?_
    refine .if' (decide ((↑l.length : Int) < (↑l.length : Int))) (cgo 19 [true] [.code B102]) (cgo 19 [false] [.code B102]) (fun h1 => ?_) (fun h1 => ?_)
    · simp only [bsX] at h1
      omega
    · simp only [bsX] at h1
      refine .seg 5 [4] (T' := cgo 24 [false] [.code B102]) (tm' := mk 20 [(4, .d (.int .i64 (-1)))]) (σ' := []) (by kernel_rfl) ?_
      refine .retH F102 (v := V.d (D.int IntKind.i64 (-1))) (by kernel_rfl) (by kernel_rfl) ?_
      simp_all
  | succ m ih =>
    intro i hi hm
    obtain ⟨p, hp⟩ := get_some (l := l) (i := i) (by omega)
    have hno : ¬(p.1.toList = x.toList) → ∀ q ∈ l.take (i + 1), q.1 ≠ x := fun e => take_more hp hm fun h => e (by rw [h])
    have hyes : p.1.toList = x.toList → atR l x = p.2 := fun e => atR_at hp hm (toList_inj e)
    refine .sg0 5 [1, 4, 7, 8, 9, 10] (cgo 18 [] [.code B102]) [(10, .d (.bool (decide ((↑i : Int) < (↑l.length : Int)))))] ?_
    refine .if' (decide ((↑i : Int) < (↑l.length : Int))) (cgo 19 [true] [.code B102]) (cgo 19 [false] [.code B102]) (fun h1 => ?_) (fun h1 => ?_)
    · simp only [bsX] at h1
      refine .sg0 5 [1, 4, 7, 8, 9, 10] (cgo 24 [true] [.code B102]) [] ?_
      refine .op' (cgo 25 [true] [.code B102]) (ixData_ok (t := 69) (x := (.tmp 7)) (i := (.tmp 9)) (k := IntKind.i64) (n := (↑i : Int)) (sz := 2) (xs := map nmD l) (d := nmD p) (by kernel_rfl) (by kernel_rfl) (by kernel_rfl) (by kernel_rfl) (by omega) (map_get hp)) ?_
      refine .sg 11 [1, 4, 6, 7, 8, 9, 10, 11, 12, 13, 14, 15, 16] (cgo 36 [true] [.code B102]) [(6, .ptr 0 0 0), (12, .d (.agg [D.str p.fst, D.int IntKind.i64 p.snd])), (13, .ptr 0 0 0), (14, .d (.str p.fst)), (15, .d (.str x)), (16, .d (.bool (p.fst.toList == x.toList)))] [(0, .cells [.d (.str p.fst), .d (.int .i64 p.snd)])] ?_
      refine .if' (p.fst.toList == x.toList) (cgo 37 [true, true] [.code B102]) (cgo 37 [true, false] [.code B102]) (fun h2 => ?_) (fun h2 => ?_)
      · simp only [bsX] at h2
        refine .sg0 6 [1, 4, 6, 7, 8, 9, 10, 11, 12, 13, 14, 15, 16, 17, 18] (cgo 43 [true, true] [.code B102]) [(4, .d (.int .i64 p.snd)), (17, .ptr 0 0 1), (18, .d (.int .i64 p.snd))] ?_
        refine .kp [4] ?_
        refine .su [] (mk 20 [(4, .d (.int .i64 p.snd))]) [] ?_
        refine .retH F102 (v := V.d (D.int IntKind.i64 p.snd)) (by kernel_rfl) (by kernel_rfl) ?_
        simp_all
      · simp only [bsX] at h2
        refine .sg0 6 [1, 4, 6, 7, 8, 9, 10, 11, 12, 13, 14, 15, 16, 19] (cgo 43 [true, false] [.code B102]) [(9, .d (.int .i64 (IntKind.i64.wrap ((↑i : Int) + 1)))), (19, .d (.int .i64 (IntKind.i64.wrap ((↑i : Int) + 1))))] ?_
        simp (disch := omega) only [wrap_i64, wrap_u64s, wrap_u32s, wrap_u8s, wrap_i32s, iadd_i64, isub_i64, irem_n, iquo_n, tdiv_nn, tmod_nn]
        refine .sg0 1 [1, 4, 7, 8, 9] (cgo 13 [] [.code B102]) [(9, .d (.int .i64 ((i + 1 : Nat) : Int)))] ?_
        refine .su [] (mk 20 [(1, .d (.str x)), (4, .d (.int .i64 0)), (7, .d (.list 2 (l.map nmD))), (8, .d (.int .i64 (l.length : Nat))), (9, .d (.int .i64 ((i + 1 : Nat) : Int)))]) [] ?_
        exact ih (i + 1) (by omega) (hno (by assumption))
    · simp only [bsX] at h1
      omega
theorem spec_102 (l : List (ByteArray × Int)) (x : ByteArray) (hl : l.length < 1000000000) :
    Br.Pure Try.prog 102 [.d (.list 2 (l.map nmD)), .d (.str x)] (.d (.int .i64 (atR l x))) := by
  refine CallsA.pure ?_ rfl
  refine CallsA.start F102 (tm := mk (Try.f102.ntmps) [(0, .d (.list 2 (l.map nmD))), (1, .d (.str x))]) (by kernel_rfl) ?_
  refine .seg 12 [1, 4, 7, 8, 9] (T' := cgo 12 [] [.code B102]) (tm' := mk 20 [(1, .d (.str x)), (4, .d (.int .i64 0)), (7, .d (.list 2 (map nmD l))), (8, .d (.int .i64 (↑(map nmD l).length : Int))), (9, .d (.int .i64 0))]) (σ' := []) (by kernel_rfl) ?_
  simp only [List.length_map]
  exact .seg 1 [1, 4, 7, 8, 9] (by kernel_rfl) (lo102 l x hl l.length 0 (by omega) (by simp))
end Go.Proofs.Ytoelkgbeefoplaa
namespace Go.Proofs.Ytoelkgbeefoplaa
open Go Go.Br Go.Proofs
open List (map)
noncomputable def B103 : Code := (Try.f103.body).getD .skip
theorem F103 : Fnc Try.prog 103 Try.f103 B103 := ⟨Try.func103, by kernel_rfl, by kernel_rfl⟩
def keepN (c : ByteArray × ByteArray × Int) (p : ByteArray × Int) : Bool := decide (p.1 ≠ c.1) && decide (p.1 ≠ c.2.1)
def fltR (c : ByteArray × ByteArray × Int) (l : List (ByteArray × Int)) : List (ByteArray × Int) := l.filter (keepN c)
theorem fltR_more {c : ByteArray × ByteArray × Int} {l : List (ByteArray × Int)} {i : Nat} {p : ByteArray × Int} (hp : l[i]? = some p) : fltR c (l.take (i + 1)) = fltR c (l.take i) ++ if keepN c p then [p] else [] := by
  obtain ⟨hi', rfl⟩ := List.getElem?_eq_some_iff.1 hp
  rw [List.take_succ_eq_append_getElem hi', fltR, List.filter_append]
  congr 1
  cases h : keepN c l[i] <;> simp [h]
theorem fltR_le {c : ByteArray × ByteArray × Int} {l : List (ByteArray × Int)} (i : Nat) : (fltR c (l.take i)).length ≤ l.length := by
  have h1 := List.length_filter_le (keepN c) (l.take i)
  have h2 : (l.take i).length ≤ l.length := by simp only [List.length_take]; omega
  exact Nat.le_trans h1 h2
theorem lo103 (l : List (ByteArray × Int)) (c : ByteArray × ByteArray × Int) (hl : l.length < 1000000) (Q : AE → Store → Prop)
    (hnext : AW Try.prog 103 none 0 (cgo 30 [false] [Item.code B103]) (mk 68 [(3, V.ptr 0 0 0), (4, V.nils), (5, V.row 1), (33, V.ptr 0 0 1), (34, V.ptr 0 0 1)]) [.cells [.d (.str c.1), .d (.str c.2.1), .d (.int .i64 c.2.2)], .row 2 ((fltR c l).map nmD) true] [] Q) : ∀ (m i : Nat), i + m = l.length →
    AW Try.prog 103 none 0 (cgo 18 [] [Item.code B103]) (mk 68 [(3, .ptr 0 0 0), (4, .nils), (5, .row 1), (9, V.d (D.list 2 (l.map nmD))), (10, V.d (D.int IntKind.i64 (l.length : Nat))), (11, V.d (D.int IntKind.i64 (i : Nat)))])
      [.cells [.d (.str c.1), .d (.str c.2.1), .d (.int .i64 c.2.2)], .row 2 ((fltR c (l.take i)).map nmD) true] [] Q := by
  intro m
  induction m with
  | zero =>
    intro i hi
    have hi : i = l.length := by omega
    subst hi
    rw [List.take_length]
    clear hi
    refine .sg0 5 [3, 4, 5, 9, 10, 11, 12] (cgo 23 [] [.code B103]) [(12, .d (.bool (decide ((↑l.length : Int) < (↑l.length : Int)))))] ?_
    refine .if' (decide ((↑l.length : Int) < (↑l.length : Int))) (cgo 24 [true] [.code B103]) (cgo 24 [false] [.code B103]) (fun h1 => ?_) (fun h1 => ?_)
    · simp only [bsX] at h1
      omega
    · simp only [bsX] at h1
      refine .seg 6 [3, 4, 5, 33, 34] (T' := cgo 30 [false] [.code B103]) (tm' := mk 68 [(3, .ptr 0 0 0), (4, .nils), (5, .row 1), (33, .ptr 0 0 1), (34, .ptr 0 0 1)]) (σ' := [.cells [.d (.str c.fst), .d (.str c.snd.fst), .d (.int .i64 c.snd.snd)], .row 2 (map nmD (fltR c l)) true]) (by kernel_rfl) ?_
      exact hnext
  | succ m ih =>
    intro i hi
    obtain ⟨p, hp⟩ := get_some (l := l) (i := i) (by omega)
    have hf := fltR_more (c := c) hp
    have hb := fltR_le (c := c) (l := l) i
    have hb' : ((fltR c (l.take i)).map nmD).length ≤ l.length := by rw [List.length_map]; exact hb
    refine .sg0 5 [3, 4, 5, 9, 10, 11, 12] (cgo 23 [] [.code B103]) [(12, .d (.bool (decide ((↑i : Int) < (↑l.length : Int)))))] ?_
    refine .if' (decide ((↑i : Int) < (↑l.length : Int))) (cgo 24 [true] [.code B103]) (cgo 24 [false] [.code B103]) (fun h1 => ?_) (fun h1 => ?_)
    · simp only [bsX] at h1
      refine .sg0 5 [3, 4, 5, 9, 10, 11, 12] (cgo 29 [true] [.code B103]) [] ?_
      refine .op' (cgo 30 [true] [.code B103]) (ixData_ok (t := 69) (x := (.tmp 9)) (i := (.tmp 11)) (k := IntKind.i64) (n := (↑i : Int)) (sz := 2) (xs := map nmD l) (d := nmD p) (by kernel_rfl) (by kernel_rfl) (by kernel_rfl) (by kernel_rfl) (by omega) (map_get hp)) ?_
      refine .sg 12 [3, 4, 5, 7, 9, 10, 11, 12, 13, 14, 15, 16, 17, 18, 19, 20] (cgo 42 [true] [.code B103]) [(7, .ptr 2 0 0), (14, .d (.agg [D.str p.fst, D.int IntKind.i64 p.snd])), (15, .ptr 2 0 0), (16, .d (.str p.fst)), (17, .ptr 0 0 0), (18, .d (.str c.fst)), (19, .d (.bool !p.fst.toList == c.fst.toList)), (20, .d (.bool !p.fst.toList == c.fst.toList))] [(2, .cells [.d (.str p.fst), .d (.int .i64 p.snd)])] ?_
      rcases Bool.eq_false_or_eq_true (!p.fst.toList == c.fst.toList) with h2 | h2
      · rw [h2]
        simp only [bsX] at h2
        refine .sg0 8 [3, 4, 5, 7, 9, 10, 11, 12, 13, 14, 15, 16, 17, 18, 19, 20, 21, 22, 23, 24, 25, 26, 27] (cgo 50 [true] [.code B103]) [(21, .ptr 2 0 0), (22, .d (.str p.fst)), (23, .ptr 0 0 1), (24, .ptr 0 0 1), (25, .d (.str c.snd.fst)), (26, .d (.bool !p.fst.toList == c.snd.fst.toList)), (27, .d (.bool !p.fst.toList == c.snd.fst.toList))] ?_
        refine .if' (!p.fst.toList == c.snd.fst.toList) (cgo 51 [true, true] [.code B103]) (cgo 51 [true, false] [.code B103]) (fun h3 => ?_) (fun h3 => ?_)
        · simp only [bsX] at h3
          refine .sg 4 [3, 4, 5, 7, 9, 10, 11, 12, 13, 14, 15, 16, 17, 18, 19, 20, 21, 22, 23, 24, 25, 26, 27, 28, 29, 30] (cgo 55 [true, true] [.code B103]) [(28, .row 1), (29, .d (.agg [D.str p.fst, D.int IntKind.i64 p.snd])), (30, .row 3)] [(3, .row 2 [D.agg [D.str p.fst, D.int IntKind.i64 p.snd]] false)] ?_
          refine .op' (cgo 56 [true, true] [.code B103]) (appRow_ok (s := (.tmp 28)) (x := (.tmp 30)) (t := 69) (t2 := 69) (sz := 2) (by' := 24) (ys := [D.agg [D.str p.fst, D.int IntKind.i64 p.snd]]) (l := 1) (xs := map nmD (fltR c (List.take i l))) (mv := true) (by kernel_rfl) (by kernel_rfl) (by kernel_rfl) (by kernel_rfl) (by kernel_rfl) (by kernel_rfl) (by simp <;> omega) (by first | (simp [maxLen] <;> omega) | omega)) ?_
          refine .sg0 7 [3, 4, 5, 7, 9, 10, 11, 12, 13, 14, 15, 16, 17, 18, 19, 20, 21, 22, 23, 24, 25, 26, 27, 29, 30, 31, 32] (cgo 63 [true, true] [.code B103]) [(5, .row 1), (11, .d (.int .i64 (IntKind.i64.wrap ((↑i : Int) + 1)))), (32, .d (.int .i64 (IntKind.i64.wrap ((↑i : Int) + 1))))] ?_
          simp (disch := omega) only [wrap_i64, wrap_u64s, wrap_u32s, wrap_u8s, wrap_i32s, iadd_i64, isub_i64, irem_n, iquo_n, tdiv_nn, tmod_nn]
          have hX : (fltR c (l.take (i + 1))).map nmD = List.map nmD (fltR c (List.take i l)) ++ [D.agg [D.str p.fst, D.int IntKind.i64 p.snd]] := by rw [hf, show keepN c p = true by simp [keepN]; exact ⟨fun e => h2 (by rw [e]), fun e => h3 (by rw [e])⟩, if_pos rfl, List.map_append]; rfl
          refine .sg0 1 [3, 4, 5, 9, 10, 11] (cgo 18 [] [.code B103]) [(11, .d (.int .i64 ((i + 1 : Nat) : Int)))] ?_
          refine .su [0, 1] (mk 68 [(3, V.ptr 0 0 0), (4, V.nils), (5, V.row 1), (9, V.d (D.list 2 (l.map nmD))), (10, V.d (D.int IntKind.i64 (l.length : Nat))), (11, V.d (D.int IntKind.i64 ((i + 1 : Nat) : Int)))]) [O.cells [V.d (D.str c.fst), V.d (D.str c.snd.fst), V.d (D.int IntKind.i64 c.snd.snd)], O.row 2 (map nmD (fltR c (List.take i l)) ++ [D.agg [D.str p.fst, D.int IntKind.i64 p.snd]]) true] ?_
          rw [← hX]
          exact ih (i + 1) (by omega)
        · simp only [bsX] at h3
          refine .sg0 6 [3, 4, 5, 7, 9, 10, 11, 12, 13, 14, 15, 16, 17, 18, 19, 20, 21, 22, 23, 24, 25, 26, 27, 32] (cgo 57 [true, false] [.code B103]) [(11, .d (.int .i64 (IntKind.i64.wrap ((↑i : Int) + 1)))), (32, .d (.int .i64 (IntKind.i64.wrap ((↑i : Int) + 1))))] ?_
          simp (disch := omega) only [wrap_i64, wrap_u64s, wrap_u32s, wrap_u8s, wrap_i32s, iadd_i64, isub_i64, irem_n, iquo_n, tdiv_nn, tmod_nn]
          have hX : (fltR c (l.take (i + 1))).map nmD = List.map nmD (fltR c (List.take i l)) := by rw [hf, show keepN c p = false by simp [keepN]; exact fun _ => toList_inj h3]; simp
          refine .sg0 1 [3, 4, 5, 9, 10, 11] (cgo 18 [] [.code B103]) [(11, .d (.int .i64 ((i + 1 : Nat) : Int)))] ?_
          refine .su [0, 1] (mk 68 [(3, V.ptr 0 0 0), (4, V.nils), (5, V.row 1), (9, V.d (D.list 2 (l.map nmD))), (10, V.d (D.int IntKind.i64 (l.length : Nat))), (11, V.d (D.int IntKind.i64 ((i + 1 : Nat) : Int)))]) [O.cells [V.d (D.str c.fst), V.d (D.str c.snd.fst), V.d (D.int IntKind.i64 c.snd.snd)], O.row 2 (map nmD (fltR c (List.take i l))) true] ?_
          rw [← hX]
          exact ih (i + 1) (by omega)
      · rw [h2]
        simp only [bsX] at h2
        refine .sg0 15 [3, 4, 5, 7, 9, 10, 11, 12, 13, 14, 15, 16, 17, 18, 19, 20, 21, 22, 23, 24, 25, 26, 27, 32] (cgo 57 [true, false] [.code B103]) [(11, .d (.int .i64 (IntKind.i64.wrap ((↑i : Int) + 1)))), (21, .tuple []), (22, .tuple []), (23, .tuple []), (24, .tuple []), (25, .tuple []), (26, .tuple []), (27, .d (.bool false)), (32, .d (.int .i64 (IntKind.i64.wrap ((↑i : Int) + 1))))] ?_
        simp (disch := omega) only [wrap_i64, wrap_u64s, wrap_u32s, wrap_u8s, wrap_i32s, iadd_i64, isub_i64, irem_n, iquo_n, tdiv_nn, tmod_nn]
        have hX : (fltR c (l.take (i + 1))).map nmD = List.map nmD (fltR c (List.take i l)) := by rw [hf, show keepN c p = false by simp [keepN]; exact fun e => absurd (toList_inj h2) e]; simp
        refine .sg0 1 [3, 4, 5, 9, 10, 11] (cgo 18 [] [.code B103]) [(11, .d (.int .i64 ((i + 1 : Nat) : Int)))] ?_
        refine .su [0, 1] (mk 68 [(3, V.ptr 0 0 0), (4, V.nils), (5, V.row 1), (9, V.d (D.list 2 (l.map nmD))), (10, V.d (D.int IntKind.i64 (l.length : Nat))), (11, V.d (D.int IntKind.i64 ((i + 1 : Nat) : Int)))]) [O.cells [V.d (D.str c.fst), V.d (D.str c.snd.fst), V.d (D.int IntKind.i64 c.snd.snd)], O.row 2 (map nmD (fltR c (List.take i l))) true] ?_
        rw [← hX]
        exact ih (i + 1) (by omega)
    · simp only [bsX] at h1
      omega
def backK (out : List (ByteArray × Int)) (n : ByteArray) : Nat → Nat
  | 0 => 0
  | k + 1 => match out[k]? with
    | some p => if (!(Op.bytesLess p.1.toList n.toList || p.1.toList == n.toList)) = true then backK out n k else k + 1
    | none => k + 1
def insR (out : List (ByteArray × Int)) (c : ByteArray × ByteArray × Int) (k : Nat) : List (ByteArray × Int) := out.take k ++ (c.2.1, c.2.2) :: out.drop k
theorem lo103c (out : List (ByteArray × Int)) (c : ByteArray × ByteArray × Int) (hl : out.length < 1000000) (k : Nat) (hk : k ≤ out.length) :
    AW Try.prog 103 none 0 (cgo 50 [false, false, false] [Item.code B103]) (mk 68 [(3, V.ptr 0 0 0), (4, V.nils), (5, V.d (D.list 2 (List.map nmD out))), (8, V.d (D.int IntKind.i64 (k : Nat)))])
      [.cells [.d (.str c.1), .d (.str c.2.1), .d (.int .i64 c.2.2)], .dead] [] fun r _ => r = .ret (.d (.list 2 ((insR out c k).map nmD))) := by
  have hl' : (List.map nmD out).length < 1000000 := by rw [List.length_map]; exact hl
  have hk' : k ≤ (List.map nmD out).length := by rw [List.length_map]; exact hk
  refine .newVirt 2 ?_
  refine .dr (cgo 51 [false, false, false] [.code B103]) [(4, .d (.list 2 (List.drop 0 (List.take k (map nmD out)) ++ ([D.agg [D.str c.snd.fst, D.int IntKind.i64 c.snd.snd]] ++ List.drop k (List.take (map nmD out).length (map nmD out)))))), (56, .d (.list 2 (map nmD out))), (57, .d (.int .i64 (↑k : Int))), (58, .d (.int .i64 (↑k : Int))), (59, .ex 2 (List.drop 0 (List.take k (map nmD out)))), (60, .ptr 0 0 1), (61, .d (.agg [D.str c.snd.fst, D.int IntKind.i64 c.snd.snd])), (63, .d (.list 2 (map nmD out))), (64, .d (.int .i64 (↑k : Int))), (65, .d (.list 2 (List.drop k (List.take (map nmD out).length (map nmD out))))), (66, .row 2), (67, .d (.list 2 (List.drop 0 (List.take k (map nmD out)) ++ ([D.agg [D.str c.snd.fst, D.int IntKind.i64 c.snd.snd]] ++ List.drop k (List.take (map nmD out).length (map nmD out))))))] [(2, .row 2 ([D.agg [D.str c.snd.fst, D.int IntKind.i64 c.snd.snd]] ++ List.drop k (List.take (map nmD out).length (map nmD out))) true)] (fun kz L hL => ?_) ?_
  · refine ⟨[nF, nF, nF, nF, ⟨[], [], [], [0], [0], [0], true, false⟩, ⟨[0], [], [], [], [0], [], true, false⟩, ⟨[2], [2], [2], [2], [], [], true, false⟩, nF, nF, nF, ⟨[2], [2], [2], [2], [2], [], true, false⟩, ⟨[2], [], [], [], [2], [], true, false⟩, nF], run_amongF hL _ [] [0, 1, 2, 3, 4, 5, 7, 8, 9, 6, 10, 11, 12] (by intro p hp; cases hp) (by kernel_rfl) ?_⟩
    refine Run.ap [0, 1, 2] [(56, .d (.list 2 (map nmD out))), (57, .d (.int .i64 (↑k : Int))), (58, .d (.int .i64 (↑k : Int)))] [] ?_
    refine Run.lk 3 (.ex 2 (List.drop 0 (List.take k (map nmD out)))) [(.tmp 56), (.tmp 57), (.tmp 58)] (fun tm' σ2 hv hr => sl3Data_ok (t := 69) (x := (.tmp 56)) (lo := none) (y := (.tmp 57)) (z := (.tmp 58)) (sz := 2) (xs := map nmD out) (0) (k) (by kernel_rfl) (evl hv) (by kernel_rfl) rfl (bnd_some (k := IntKind.i64) (i := (↑k : Int)) (evv hv) (by omega) (by rfl)) (bnd_some (k := IntKind.i64) (i := (↑k : Int)) (evv hv) (by omega) (by rfl)) (by omega) (by assumption)) ?_
    refine Run.ap [4, 5, 7, 8] [(60, .ptr 0 0 1), (61, .d (.agg [D.str c.snd.fst, D.int IntKind.i64 c.snd.snd])), (63, .d (.list 2 (map nmD out))), (64, .d (.int .i64 (↑k : Int)))] [] ?_
    refine Run.lk 9 (.d (.list 2 (List.drop k (List.take (map nmD out).length (map nmD out))))) [(.tmp 63), (.tmp 64)] (fun tm' σ2 hv hr => slData_ok (t := 69) (x := (.tmp 63)) (lo := (some (.tmp 64))) (hi := none) (sz := 2) (xs := map nmD out) (k) ((map nmD out).length) (by kernel_rfl) (evl hv) (by kernel_rfl) (bnd_some (k := IntKind.i64) (i := (↑k : Int)) (evv hv) (by omega) (by rfl)) rfl (by assumption) (by omega)) ?_
    refine Run.one (StepF.build (o := ((drawOf (cgo 50 [false, false, false] [.code B103]))[6]?).getD default) (t := 69) (len := 1) (parts := #[(0, (.tmp 61))]) (l := 2) (ds := [D.agg [D.str c.snd.fst, D.int IntKind.i64 c.snd.snd]]) (sz := 2) (mv := false) (by kernel_rfl) rfl (by kernel_rfl) (by kernel_rfl) (by kernel_rfl) (by kernel_rfl) (by kernel_rfl) (by kernel_rfl) (by kernel_rfl) (by kernel_rfl)) ?_
    refine Run.one (StepF.moves (o := ((drawOf (cgo 50 [false, false, false] [.code B103]))[10]?).getD default) (v := .row 2) [(.tmp 62), (.tmp 65)] 2 (.row 2 ([D.agg [D.str c.snd.fst, D.int IntKind.i64 c.snd.snd]] ++ List.drop k (List.take (map nmD out).length (map nmD out))) true) (by kernel_rfl) rfl (by kernel_rfl) (by kernel_rfl) (by kernel_rfl) (by kernel_rfl) (by kernel_rfl) (by kernel_rfl) (fun tm' σ2 hv hr => appRow_ok (s := (.tmp 62)) (x := (.tmp 65)) (t := 69) (t2 := 69) (sz := 2) (by' := 24) (ys := List.drop k (List.take (map nmD out).length (map nmD out))) (l := 2) (xs := [D.agg [D.str c.snd.fst, D.int IntKind.i64 c.snd.snd]]) (mv := true) (by kernel_rfl) (evv hv) (atr hr) (by rw [hv _ (by simp)]; exact (cont_at fun l hl => hr l (subB_in (by kernel_rfl) hl)).trans (by kernel_rfl)) (by kernel_rfl) (by kernel_rfl) (by simp <;> omega) (by first | (simp [maxLen] <;> omega) | omega))) ?_
    refine Run.lk 11 (.d (.list 2 (List.drop 0 (List.take k (map nmD out)) ++ ([D.agg [D.str c.snd.fst, D.int IntKind.i64 c.snd.snd]] ++ List.drop k (List.take (map nmD out).length (map nmD out)))))) [(.tmp 59), (.tmp 66)] (fun tm' σ2 hv hr => appExD_ok (s := (.tmp 59)) (x := (.tmp 66)) (t := 69) (t2 := 69) (sz := 2) (by' := 24) (ys := [D.agg [D.str c.snd.fst, D.int IntKind.i64 c.snd.snd]] ++ List.drop k (List.take (map nmD out).length (map nmD out))) (xs := List.drop 0 (List.take k (map nmD out))) (by kernel_rfl) (evv hv) (by rw [hv _ (by simp)]; exact (cont_at fun l hl => hr l (subB_in (by kernel_rfl) hl)).trans (by kernel_rfl)) (by kernel_rfl) (by kernel_rfl) (by simp <;> omega) (by first | (simp [maxLen] <;> omega) | omega)) ?_
    exact Run.fin
  refine .kp [4] ?_
  refine .su [] (mk 68 [(4, .d (.list 2 (List.drop 0 (List.take k (map nmD out)) ++ ([D.agg [D.str c.snd.fst, D.int IntKind.i64 c.snd.snd]] ++ List.drop k (List.take (map nmD out).length (map nmD out))))))]) [] ?_
  refine .retH F103 (v := V.d (D.list 2 (List.drop 0 (List.take k (map nmD out)) ++ ([D.agg [D.str c.snd.fst, D.int IntKind.i64 c.snd.snd]] ++ List.drop k (List.take (map nmD out).length (map nmD out)))))) (by kernel_rfl) (by kernel_rfl) ?_
  rw [List.take_of_length_le (Nat.le_refl (List.map nmD out).length)]
  simp [insR, nmD, List.map_take, List.map_drop]
theorem lo103b (out : List (ByteArray × Int)) (c : ByteArray × ByteArray × Int) (hl : out.length < 1000000) : ∀ (k : Nat), k ≤ out.length →
    AW Try.prog 103 none 0 (cgo 44 [false, false] [Item.code B103]) (mk 68 [(3, V.ptr 0 0 0), (4, V.nils), (5, V.d (D.list 2 (List.map nmD out))), (8, V.d (D.int IntKind.i64 (k : Nat)))])
      [.cells [.d (.str c.1), .d (.str c.2.1), .d (.int .i64 c.2.2)], .dead] [] fun r _ => r = .ret (.d (.list 2 ((insR out c (backK out c.2.1 k)).map nmD))) := by
  intro k
  induction k with
  | zero =>
    intro hk
    refine .sg0 2 [3, 4, 5, 8] (cgo 46 [false, false] [.code B103]) [] ?_
    refine .dr (cgo 47 [false, false] [.code B103]) [(40, .d (.int .i64 0)), (41, .d (.bool false)), (42, .d (.bool false)), (43, .tuple []), (44, .tuple []), (45, .tuple []), (46, .tuple []), (47, .tuple []), (48, .tuple []), (49, .tuple []), (50, .tuple []), (51, .tuple []), (52, .tuple []), (53, .d (.bool false))] [] (fun kz L hL => ?_) ?_
    · refine ⟨[nF, nF, nF, nF, nF, nF, nF, nF, nF, nF, nF, nF, nF, nF], run_amongF hL _ [] [0, 1, 2, 3, 4, 5, 6, 7, 8, 9, 10, 11, 12, 13] (by intro p hp; cases hp) (by kernel_rfl) ?_⟩
      exact Run.fin
    refine .seg 3 [3, 4, 5, 8] (T' := cgo 50 [false, false, false] [.code B103]) (tm' := mk 68 [(3, .ptr 0 0 0), (4, .nils), (5, .d (.list 2 (map nmD out))), (8, .d (.int .i64 0))]) (σ' := [.cells [.d (.str c.fst), .d (.str c.snd.fst), .d (.int .i64 c.snd.snd)], O.dead]) (by kernel_rfl) ?_
    exact lo103c out c hl 0 hk
  | succ k ih =>
    intro hk
    have hw : IntKind.i64.wrap (((k + 1 : Nat) : Int) - 1) = (k : Int) := by rw [wrap_i64 (by omega) (by omega)]; omega
    have hk1 : ((k + 1 : Nat) : Int) - 1 = (k : Nat) := by omega
    obtain ⟨p, hp⟩ := get_some (l := out) (i := k) (by omega)
    have hp' : out[(IntKind.i64.wrap (((k + 1 : Nat) : Int) - 1)).toNat]? = some p := by rw [hw]; exact hp
    have hg : decide (((k + 1 : Nat) : Int) > 0) = true := decide_eq_true (by omega)
    have hb1 : (!(Op.bytesLess p.1.toList c.2.1.toList || p.1.toList == c.2.1.toList)) = true → backK out c.2.1 (k + 1) = backK out c.2.1 k := fun e => by rw [backK, hp]; exact if_pos e
    have hb2 : ¬ (!(Op.bytesLess p.1.toList c.2.1.toList || p.1.toList == c.2.1.toList)) = true → backK out c.2.1 (k + 1) = k + 1 := fun e => by rw [backK, hp]; exact if_neg e
    generalize hB : backK out c.2.1 (k + 1) = B at *
    refine .sg0 2 [3, 4, 5, 8] (cgo 46 [false, false] [.code B103]) [] ?_
    refine .dr (cgo 47 [false, false] [.code B103]) [(40, .d (.int .i64 (↑(k + 1) : Int))), (41, .d (.bool true)), (42, .d (.bool true)), (43, .d (.list 2 (map nmD out))), (44, .d (.int .i64 (↑(k + 1) : Int))), (45, .d (.int .i64 (IntKind.i64.wrap ((↑(k + 1) : Int) - 1)))), (46, .ep 2 (D.agg [D.str p.fst, D.int IntKind.i64 p.snd]) 0), (47, .ep 2 (D.agg [D.str p.fst, D.int IntKind.i64 p.snd]) 0), (48, .d (.str p.fst)), (49, .ptr 0 0 1), (50, .ptr 0 0 1), (51, .d (.str c.snd.fst)), (52, .d (.bool !(Op.bytesLess p.fst.toList c.snd.fst.toList || p.fst.toList == c.snd.fst.toList))), (53, .d (.bool !(Op.bytesLess p.fst.toList c.snd.fst.toList || p.fst.toList == c.snd.fst.toList)))] [] (fun kz L hL => ?_) ?_
    · refine ⟨[nF, nF, nF, nF, nF, nF, nF, nF, nF, ⟨[], [], [], [0], [0], [0], true, false⟩, ⟨[], [], [], [0], [0], [0], true, false⟩, ⟨[0], [], [], [], [0], [], true, false⟩, nF, nF], run_amongF hL _ [] [0, 1, 2, 3, 4, 5, 6, 7, 8, 9, 10, 11, 12, 13] (by intro p hp; cases hp) (by kernel_rfl) ?_⟩
      refine Run.append (A := [0, 1]) (srunF_ok (tm' := mk 68 [(3, .ptr 0 0 0), (4, V.nils), (5, .d (.list 2 (map nmD out))), (8, .d (.int .i64 (↑(k + 1) : Int))), (40, .d (.int .i64 (↑(k + 1) : Int))), (41, .d (.bool (decide ((↑(k + 1) : Int) > 0))))]) (σ' := [.cells [.d (.str c.fst), .d (.str c.snd.fst), .d (.int .i64 c.snd.snd)], O.dead]) (by kernel_rfl)) ?_
      rw [hg]
      refine Run.ap [2, 3, 4, 5] [(42, .d (.bool true)), (43, .d (.list 2 (map nmD out))), (44, .d (.int .i64 (↑(k + 1) : Int))), (45, .d (.int .i64 (IntKind.i64.wrap ((↑(k + 1) : Int) - 1))))] [] ?_
      refine Run.lk 6 (.ep 2 (D.agg [D.str p.fst, D.int IntKind.i64 p.snd]) 0) [(.tmp 43), (.tmp 45)] (fun tm' σ2 hv hr => ixData_ok (t := 69) (x := (.tmp 43)) (i := (.tmp 45)) (k := IntKind.i64) (n := IntKind.i64.wrap ((↑(k + 1) : Int) - 1)) (sz := 2) (xs := map nmD out) (d := nmD p) (by kernel_rfl) (evl hv) (evv hv) (by kernel_rfl) (by omega) (map_get hp')) ?_
      exact Run.fin
    refine .if' (!(Op.bytesLess p.fst.toList c.snd.fst.toList || p.fst.toList == c.snd.fst.toList)) (cgo 48 [false, false, true] [.code B103]) (cgo 48 [false, false, false] [.code B103]) (fun h1 => ?_) (fun h1 => ?_)
    · simp only [bsX] at h1
      refine .sg0 2 [3, 4, 5, 8, 40, 41, 42, 43, 44, 45, 46, 47, 48, 49, 50, 51, 52, 53] (cgo 50 [false, false, true] [.code B103]) [] ?_
      simp (disch := omega) only [wrap_i64, wrap_u64s, wrap_u32s, wrap_u8s, wrap_i32s, iadd_i64, isub_i64, irem_n, iquo_n, tdiv_nn, tmod_nn]
      rw [show B = backK out c.2.1 k from hb1 (by simpa using h1)]
      clear hp' hw hg hb1 hb2
      refine .seg 6 [3, 4, 5, 8, 40, 41, 42, 43, 44, 45, 46, 47, 48, 49, 50, 51, 52, 53, 54, 55] (T' := cgo 56 [false, false, true] [.code B103]) (tm' := mk 68 [(3, .ptr 0 0 0), (4, .nils), (5, .d (.list 2 (map nmD out))), (8, .d (.int .i64 (IntKind.i64.wrap ((↑(k + 1) : Int) - 1)))), (40, .d (.int .i64 (↑(k + 1) : Int))), (41, .d (.bool true)), (42, .d (.bool true)), (43, .d (.list 2 (map nmD out))), (44, .d (.int .i64 (↑(k + 1) : Int))), (45, .d (.int .i64 ((↑(k + 1) : Int) - 1))), (46, .ep 2 (D.agg [D.str p.fst, D.int IntKind.i64 p.snd]) 0), (47, .ep 2 (D.agg [D.str p.fst, D.int IntKind.i64 p.snd]) 0), (48, .d (.str p.fst)), (49, .ptr 0 0 1), (50, .ptr 0 0 1), (51, .d (.str c.snd.fst)), (52, .d (.bool !(Op.bytesLess p.fst.toList c.snd.fst.toList || p.fst.toList == c.snd.fst.toList))), (53, .d (.bool !(Op.bytesLess p.fst.toList c.snd.fst.toList || p.fst.toList == c.snd.fst.toList))), (54, .d (.int .i64 (↑(k + 1) : Int))), (55, .d (.int .i64 (IntKind.i64.wrap ((↑(k + 1) : Int) - 1))))]) (σ' := [.cells [.d (.str c.fst), .d (.str c.snd.fst), .d (.int .i64 c.snd.snd)], O.dead]) (by kernel_rfl) ?_
      simp (disch := omega) only [wrap_i64, wrap_u64s, wrap_u32s, wrap_u8s, wrap_i32s, iadd_i64, isub_i64, irem_n, iquo_n, tdiv_nn, tmod_nn]
      rw [hk1]
      exact .seg 1 [3, 4, 5, 8] (by kernel_rfl) (ih (by omega))
    · simp only [bsX] at h1
      refine .seg 2 [3, 4, 5, 8] (T' := cgo 50 [false, false, false] [.code B103]) (tm' := mk 68 [(3, .ptr 0 0 0), (4, .nils), (5, .d (.list 2 (map nmD out))), (8, .d (.int .i64 (↑(k + 1) : Int)))]) (σ' := [.cells [.d (.str c.fst), .d (.str c.snd.fst), .d (.int .i64 c.snd.snd)], O.dead]) (by kernel_rfl) ?_
      rw [show B = k + 1 from hb2 (by simp only [Bool.not_eq_true, Bool.not_eq_false']; exact h1)]
      exact lo103c out c hl (k + 1) hk
def applyR (l : List (ByteArray × Int)) (c : ByteArray × ByteArray × Int) : List (ByteArray × Int) :=
  if c.2.1.toList = (ByteArray.mk #[]).toList then fltR c l else insR (fltR c l) c (backK (fltR c l) c.2.1 (fltR c l).length)
theorem spec_103 (l : List (ByteArray × Int)) (c : ByteArray × ByteArray × Int) (hl : l.length < 1000000) :
    Br.Pure Try.prog 103 [.d (.list 2 (l.map nmD)), .d (chD c)] (.d (.list 2 ((applyR l c).map nmD))) := by
  refine CallsA.pure ?_ rfl
  refine CallsA.start F103 (tm := mk (Try.f103.ntmps) [(0, .d (.list 2 (l.map nmD))), (1, .d (chD c))]) (by kernel_rfl) ?_
  refine .seg 17 [3, 4, 5, 9, 10, 11] (T' := cgo 17 [] [.code B103]) (tm' := mk 68 [(3, .ptr 0 0 0), (4, .nils), (5, .nils), (9, .d (.list 2 (map nmD l))), (10, .d (.int .i64 (↑(map nmD l).length : Int))), (11, .d (.int .i64 0))]) (σ' := [.cells [.d (.str c.fst), .d (.str c.snd.fst), .d (.int .i64 c.snd.snd)]]) (by kernel_rfl) ?_
  simp only [List.length_map]
  refine .virtT 5 2 (by kernel_rfl) ?_
  refine .raise 1 rfl rfl ?_
  refine .seg 1 [3, 4, 5, 9, 10, 11] (by kernel_rfl) (lo103 l c hl _ ?_ l.length 0 (by omega))
  refine .freeze 1 (sz := 2) (xs := (fltR c l).map nmD) (mv := true) (by kernel_rfl) ?_
  refine .sg0 3 [3, 4, 5, 36] (cgo 33 [false] [.code B103]) [(36, .d (.bool (c.snd.fst.toList == (ByteArray.mk #[]).toList)))] ?_
  refine .if' (c.snd.fst.toList == (ByteArray.mk #[]).toList) (cgo 34 [false, true] [.code B103]) (cgo 34 [false, false] [.code B103]) (fun h1 => ?_) (fun h1 => ?_)
  · simp only [bsX] at h1
    refine .sg0 5 [3, 4, 5] (cgo 39 [false, true] [.code B103]) [(4, .d (.list 2 (map nmD (fltR c l))))] ?_
    refine .kp [4] ?_
    refine .su [] (mk 68 [(4, .d (.list 2 (map nmD (fltR c l))))]) [] ?_
    refine .retH F103 (v := V.d (D.list 2 (map nmD (fltR c l)))) (by kernel_rfl) (by kernel_rfl) ?_
    rw [applyR, if_pos h1]
  · simp only [bsX] at h1
    refine .seg 9 [3, 4, 5, 8] (T' := cgo 43 [false, false] [.code B103]) (tm' := mk 68 [(3, .ptr 0 0 0), (4, .nils), (5, .d (.list 2 (map nmD (fltR c l)))), (8, .d (.int .i64 (↑(map nmD (fltR c l)).length : Int)))]) (σ' := [.cells [.d (.str c.fst), .d (.str c.snd.fst), .d (.int .i64 c.snd.snd)], O.dead]) (by kernel_rfl) ?_
    simp only [List.length_map]
    rw [applyR, if_neg h1]
    exact .seg 1 [3, 4, 5, 8] (by kernel_rfl) (lo103b (fltR c l) c (by have := fltR_le (c := c) (l := l) l.length; rw [List.take_length] at this; omega) (fltR c l).length (Nat.le_refl _))
end Go.Proofs.Ytoelkgbeefoplaa
