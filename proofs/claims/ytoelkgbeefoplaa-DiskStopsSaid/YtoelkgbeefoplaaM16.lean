/- Texts of this proof, part 16: DoB, DoD, DoE, StopP, DoF, DoG. -/
import Derived.Test.YtoelkgbeefoplaaM15
set_option linter.unusedSimpArgs false
set_option linter.unusedVariables false
set_option linter.constructorNameAsVariable false
namespace Go.Proofs.Ytoelkgbeefoplaa
open Go Go.Br Go.Proofs
open List (map)
theorem do2 (d : Dk) (t : Int) (N : Nat) (h : d.Ok N) (hn : d.Nm) (hN : N + 5 ≤ 50000) (ht : Rt d t) (o : DOp) (hs : o.small) (hf : o.fits) (hk : o.kind % 10 = 2) :
    CallsA Try.prog 42 [.ptr 0 0 0, .ptr 6 0 0, .d (dopD o)] (SX d t false) fun r σ' => r = .ret (.d (.bool true)) ∧ σ' = SX (d.begun.syncD o.a) (tb d t) true := by
  refine CallsA.start F42 (tm := mk (Try.f42.ntmps) [(0, .ptr 0 0 0), (1, .ptr 6 0 0), (2, .d (dopD o))]) (by kernel_rfl) ?_
  have ha := hs.a
  have hb := hs.b
  have hd := hs.d
  have hkk := hf.k
  have hk2 : ((o.kind : Int) % 10) = 2 := by omega
  clear hs hf
  refine .sg 13 [0, 1, 5, 6, 7, 8, 9, 10, 11] (cgo 13 [] [.code B42]) [(5, .ptr 9 0 0), (6, .d (.bool false)), (7, .d (.int .i64 (IntKind.i64.wrap ((↑o.kind : Int).tmod 10)))), (8, .ptr 9 0 0), (9, .d (.int .u64 (↑o.kind : Int))), (10, .d (.int .u64 ((↑o.kind : Int).tmod 10))), (11, .d (.int .i64 (IntKind.i64.wrap ((↑o.kind : Int).tmod 10))))] [(9, .cells [.d (.int .u64 (↑o.kind : Int)), .d (.str o.a), .d (.str o.b), .d (.list 1 (map u8 o.data)), .d (.int .i64 o.n), .d (.int .i64 o.dir), .d (.list 1 (map intD o.keep))])] ?_
  simp (disch := omega) only [wrap_i64, wrap_u64s, wrap_u32s, wrap_u8s, wrap_i32s, iadd_i64, isub_i64, irem_n, iquo_n, tdiv_nn, tmod_nn]
  rw [hk2]
  clear hk2 hk
  refine .sg0 25 [0, 1, 5, 6, 7] (cgo 38 [false, false, true] [.code B42]) [] ?_
  refine .dr (cgo 39 [false, false, true] [.code B42]) [(6, .d (.bool (d.begun.err true [o.a] == d.begun.err true [o.a]))), (64, .ptr 0 0 0), (65, .ptr 9 0 1), (66, .d (.str o.a)), (67, .d (.int .i64 (d.begun.err true [o.a]))), (68, .ptr 6 0 0), (69, .d (.int .i64 2)), (70, .ptr 9 0 1), (71, .d (.str o.a)), (72, .d (.int .i64 (d.begun.err true [o.a]))), (73, .d (.bool (d.begun.err true [o.a] == d.begun.err true [o.a])))] [(0, .cells [.row 1, .ptr 2 0 0, .ep 2 (D.agg [D.list 1 (map strD (d.begun.syncD o.a).sk), D.list 1 (map intD (d.begun.syncD o.a).sv)]) 0, .row 5, .d (.int .i64 (d.begun.syncD o.a).quota), .d (.bool (d.begun.syncD o.a).full), .d (.bool (d.begun.syncD o.a).off), .d (.int .i64 (d.begun.syncD o.a).stop), .d (.int .i64 (d.begun.syncD o.a).calls)]), (1, .row 2 (map fileD (d.begun.syncD o.a).files) true), (3, .row 1 (map strD (d.begun.syncD o.a).nk) true), (4, .row 1 (map intD (d.begun.syncD o.a).nv) true), (5, .row 3 (map chD (d.begun.syncD o.a).ch) true), (6, .cells [.row 7, .d (.list 2 (map nmD (Rof (d.begun.syncD o.a) (tb d t)).now)), .d (.list 2 (map nmD (Rof (d.begun.syncD o.a) (tb d t)).sure)), .row 8, .d (.int .i64 (Rof (d.begun.syncD o.a) (tb d t)).quota), .d (.bool (Rof (d.begun.syncD o.a) (tb d t)).full), .d (.bool (Rof (d.begun.syncD o.a) (tb d t)).off), .d (.int .i64 (Rof (d.begun.syncD o.a) (tb d t)).stop), .d (.int .i64 (Rof (d.begun.syncD o.a) (tb d t)).calls)]), (7, .row 2 (map fileD (Rof (d.begun.syncD o.a) (tb d t)).files) true), (8, .row 3 (map chD (Rof (d.begun.syncD o.a) (tb d t)).ch) true)] (fun kz L hL => ?_) ?_
  · refine ⟨[⟨[], [], [], [0], [0], [], true, false⟩, ⟨[], [], [], [9], [9], [9], true, false⟩, ⟨[9], [], [], [], [9], [], true, false⟩, ⟨[0, 1, 2, 3, 4, 5], [0, 1, 2, 3, 4, 5], [1, 3, 4, 5], [1, 2, 5, 3, 4], [0, 1, 2, 5, 3, 4], [], true, false⟩, ⟨[], [], [], [6], [6], [], true, false⟩, nF, ⟨[], [], [], [9], [9], [9], true, false⟩, ⟨[9], [], [], [], [9], [], true, false⟩, ⟨[6, 7, 8], [6, 7, 8], [7, 8], [7, 8], [6, 7, 8], [], true, false⟩, nF, nF], run_amongF hL _ [] [0, 1, 2, 4, 5, 6, 7, 3, 8, 9, 10] (by intro p hp; cases hp) (by kernel_rfl) ?_⟩
    refine Run.ap [0, 1, 2, 4, 5, 6, 7] [(64, .ptr 0 0 0), (65, .ptr 9 0 1), (66, .d (.str o.a)), (68, .ptr 6 0 0), (69, .d (.int .i64 2)), (70, .ptr 9 0 1), (71, .d (.str o.a))] [] ?_
    refine Run.cl 3 [0, 1, 2, 3, 4, 5] F32 (@spec_32 (d) (N) (by assumption) (by omega) (o.a) (by omega)) ?_
    refine Run.cl 8 [6, 7, 8] F77 (@spec_77a3 (d) (t) (N) (by assumption) (by omega) (by assumption) (o.a) (by omega) (.d (.list 1 []))) ?_
    exact Run.fin
  refine .kp [6] ?_
  refine .su [0, 1, 2, 3, 4, 5, 6, 7, 8] (mk 147 [(6, .d (.bool (d.begun.err true [o.a] == d.begun.err true [o.a])))]) [.cells [.row 1, .ptr 2 0 0, .ep 2 (D.agg [D.list 1 (map strD (d.begun.syncD o.a).sk), D.list 1 (map intD (d.begun.syncD o.a).sv)]) 0, .row 5, .d (.int .i64 (d.begun.syncD o.a).quota), .d (.bool (d.begun.syncD o.a).full), .d (.bool (d.begun.syncD o.a).off), .d (.int .i64 (d.begun.syncD o.a).stop), .d (.int .i64 (d.begun.syncD o.a).calls)], .row 2 (map fileD (d.begun.syncD o.a).files) true, .cells [.row 3, .row 4], .row 1 (map strD (d.begun.syncD o.a).nk) true, .row 1 (map intD (d.begun.syncD o.a).nv) true, .row 3 (map chD (d.begun.syncD o.a).ch) true, .cells [.row 7, .d (.list 2 (map nmD (Rof (d.begun.syncD o.a) (tb d t)).now)), .d (.list 2 (map nmD (Rof (d.begun.syncD o.a) (tb d t)).sure)), .row 8, .d (.int .i64 (Rof (d.begun.syncD o.a) (tb d t)).quota), .d (.bool (Rof (d.begun.syncD o.a) (tb d t)).full), .d (.bool (Rof (d.begun.syncD o.a) (tb d t)).off), .d (.int .i64 (Rof (d.begun.syncD o.a) (tb d t)).stop), .d (.int .i64 (Rof (d.begun.syncD o.a) (tb d t)).calls)], .row 2 (map fileD (Rof (d.begun.syncD o.a) (tb d t)).files) true, .row 3 (map chD (Rof (d.begun.syncD o.a) (tb d t)).ch) true] ?_
  refine .retH F42 (v := V.d (D.bool (d.begun.err true [o.a] == d.begun.err true [o.a]))) (by kernel_rfl) (by kernel_rfl) ?_
  exact ⟨by simp, rfl⟩
theorem do3 (d : Dk) (t : Int) (N : Nat) (h : d.Ok N) (hn : d.Nm) (hN : N + 5 ≤ 50000) (ht : Rt d t) (o : DOp) (hs : o.small) (hf : o.fits) (hk : o.kind % 10 = 3) :
    CallsA Try.prog 42 [.ptr 0 0 0, .ptr 6 0 0, .d (dopD o)] (SX d t false) fun r σ' => r = .ret (.d (.bool true)) ∧ σ' = SX (d.begun.syncDirD) (tb d t) true := by
  refine CallsA.start F42 (tm := mk (Try.f42.ntmps) [(0, .ptr 0 0 0), (1, .ptr 6 0 0), (2, .d (dopD o))]) (by kernel_rfl) ?_
  have ha := hs.a
  have hb := hs.b
  have hd := hs.d
  have hkk := hf.k
  have hk2 : ((o.kind : Int) % 10) = 3 := by omega
  clear hs hf
  refine .sg 13 [0, 1, 5, 6, 7, 8, 9, 10, 11] (cgo 13 [] [.code B42]) [(5, .ptr 9 0 0), (6, .d (.bool false)), (7, .d (.int .i64 (IntKind.i64.wrap ((↑o.kind : Int).tmod 10)))), (8, .ptr 9 0 0), (9, .d (.int .u64 (↑o.kind : Int))), (10, .d (.int .u64 ((↑o.kind : Int).tmod 10))), (11, .d (.int .i64 (IntKind.i64.wrap ((↑o.kind : Int).tmod 10))))] [(9, .cells [.d (.int .u64 (↑o.kind : Int)), .d (.str o.a), .d (.str o.b), .d (.list 1 (map u8 o.data)), .d (.int .i64 o.n), .d (.int .i64 o.dir), .d (.list 1 (map intD o.keep))])] ?_
  simp (disch := omega) only [wrap_i64, wrap_u64s, wrap_u32s, wrap_u8s, wrap_i32s, iadd_i64, isub_i64, irem_n, iquo_n, tdiv_nn, tmod_nn]
  rw [hk2]
  clear hk2 hk
  refine .sg0 33 [0, 1, 6, 7, 76] (cgo 46 [false, false, false, true] [.code B42]) [(76, .ptr 0 0 0)] ?_
  refine .ca [0, 1, 2, 3, 4, 5] (cgo 47 [false, false, false, true] [.code B42]) F33 (@spec_33 (d) (N) (by assumption) (by omega)) ?_
  rintro r0 s0 ⟨rfl, rfl⟩
  refine ⟨_, rfl, ?_⟩
  refine .sg0 2 [0, 1, 6, 7, 76, 77, 78, 79] (cgo 49 [false, false, false, true] [.code B42]) [(78, .ptr 6 0 0), (79, .d (.int .i64 3))] ?_
  refine .ca [6, 7, 8] (cgo 50 [false, false, false, true] [.code B42]) F77 (@spec_77a4 (d) (t) (N) (by assumption) (by omega) (by assumption) (ByteArray.mk #[]) (ByteArray.mk #[]) (V.d (D.list 1 []))) ?_
  rintro r1 s1 ⟨rfl, rfl⟩
  refine ⟨_, rfl, ?_⟩
  refine .sg0 3 [6] (cgo 53 [false, false, false, true] [.code B42]) [(6, .d (.bool (d.begun.err false [] == d.begun.err false [])))] ?_
  refine .kp [6] ?_
  refine .su [0, 1, 2, 3, 4, 5, 6, 7, 8] (mk 147 [(6, .d (.bool (d.begun.err false [] == d.begun.err false [])))]) [.cells [.row 1, .ptr 2 0 0, .ep 2 (D.agg [D.list 1 (map strD d.begun.syncDirD.sk), D.list 1 (map intD d.begun.syncDirD.sv)]) 0, .row 5, .d (.int .i64 d.begun.syncDirD.quota), .d (.bool d.begun.syncDirD.full), .d (.bool d.begun.syncDirD.off), .d (.int .i64 d.begun.syncDirD.stop), .d (.int .i64 d.begun.syncDirD.calls)], .row 2 (map fileD d.begun.syncDirD.files) true, .cells [.row 3, .row 4], .row 1 (map strD d.begun.syncDirD.nk) true, .row 1 (map intD d.begun.syncDirD.nv) true, .row 3 (map chD d.begun.syncDirD.ch) true, .cells [.row 7, .d (.list 2 (map nmD (Rof d.begun.syncDirD (tb d t)).now)), .d (.list 2 (map nmD (Rof d.begun.syncDirD (tb d t)).sure)), .row 8, .d (.int .i64 (Rof d.begun.syncDirD (tb d t)).quota), .d (.bool (Rof d.begun.syncDirD (tb d t)).full), .d (.bool (Rof d.begun.syncDirD (tb d t)).off), .d (.int .i64 (Rof d.begun.syncDirD (tb d t)).stop), .d (.int .i64 (Rof d.begun.syncDirD (tb d t)).calls)], .row 2 (map fileD (Rof d.begun.syncDirD (tb d t)).files) true, .row 3 (map chD (Rof d.begun.syncDirD (tb d t)).ch) true] ?_
  refine .retH F42 (v := V.d (D.bool (d.begun.err false [] == d.begun.err false []))) (by kernel_rfl) (by kernel_rfl) ?_
  exact ⟨by simp, rfl⟩
end Go.Proofs.Ytoelkgbeefoplaa
namespace Go.Proofs.Ytoelkgbeefoplaa
open Go Go.Br Go.Proofs
open List (map)
theorem do4 (d : Dk) (t : Int) (N : Nat) (h : d.Ok N) (hn : d.Nm) (hN : N + 5 ≤ 50000) (ht : Rt d t) (o : DOp) (hs : o.small) (hf : o.fits) (hk : o.kind % 10 = 4) :
    CallsA Try.prog 42 [.ptr 0 0 0, .ptr 6 0 0, .d (dopD o)] (SX d t false) fun r σ' => r = .ret (.d (.bool true)) ∧ σ' = SX (d.begun.renameD o.a o.b) (tb d t) true := by
  refine CallsA.start F42 (tm := mk (Try.f42.ntmps) [(0, .ptr 0 0 0), (1, .ptr 6 0 0), (2, .d (dopD o))]) (by kernel_rfl) ?_
  have ha := hs.a
  have hb := hs.b
  have hd := hs.d
  have hkk := hf.k
  have hk2 : ((o.kind : Int) % 10) = 4 := by omega
  clear hs hf
  refine .sg 13 [0, 1, 5, 6, 7, 8, 9, 10, 11] (cgo 13 [] [.code B42]) [(5, .ptr 9 0 0), (6, .d (.bool false)), (7, .d (.int .i64 (IntKind.i64.wrap ((↑o.kind : Int).tmod 10)))), (8, .ptr 9 0 0), (9, .d (.int .u64 (↑o.kind : Int))), (10, .d (.int .u64 ((↑o.kind : Int).tmod 10))), (11, .d (.int .i64 (IntKind.i64.wrap ((↑o.kind : Int).tmod 10))))] [(9, .cells [.d (.int .u64 (↑o.kind : Int)), .d (.str o.a), .d (.str o.b), .d (.list 1 (map u8 o.data)), .d (.int .i64 o.n), .d (.int .i64 o.dir), .d (.list 1 (map intD o.keep))])] ?_
  simp (disch := omega) only [wrap_i64, wrap_u64s, wrap_u32s, wrap_u8s, wrap_i32s, iadd_i64, isub_i64, irem_n, iquo_n, tdiv_nn, tmod_nn]
  rw [hk2]
  clear hk2 hk
  refine .sg0 37 [0, 1, 5, 6, 7] (cgo 50 [false, false, false, false, true] [.code B42]) [] ?_
  refine .dr (cgo 51 [false, false, false, false, true] [.code B42]) [(6, .d (.bool (d.begun.err true [o.a, o.b] == d.begun.err true [o.a, o.b]))), (84, .ptr 0 0 0), (85, .ptr 9 0 1), (86, .d (.str o.a)), (87, .ptr 9 0 2), (88, .d (.str o.b)), (89, .d (.int .i64 (d.begun.err true [o.a, o.b]))), (90, .ptr 6 0 0), (91, .d (.int .i64 4)), (92, .ptr 9 0 1), (93, .d (.str o.a)), (94, .ptr 9 0 2), (95, .d (.str o.b)), (96, .d (.int .i64 (d.begun.err true [o.a, o.b]))), (97, .d (.bool (d.begun.err true [o.a, o.b] == d.begun.err true [o.a, o.b])))] [(0, .cells [.row 1, .ptr 2 0 0, .ep 2 (D.agg [D.list 1 (map strD (d.begun.renameD o.a o.b).sk), D.list 1 (map intD (d.begun.renameD o.a o.b).sv)]) 0, .row 5, .d (.int .i64 (d.begun.renameD o.a o.b).quota), .d (.bool (d.begun.renameD o.a o.b).full), .d (.bool (d.begun.renameD o.a o.b).off), .d (.int .i64 (d.begun.renameD o.a o.b).stop), .d (.int .i64 (d.begun.renameD o.a o.b).calls)]), (1, .row 2 (map fileD (d.begun.renameD o.a o.b).files) true), (3, .row 1 (map strD (d.begun.renameD o.a o.b).nk) true), (4, .row 1 (map intD (d.begun.renameD o.a o.b).nv) true), (5, .row 3 (map chD (d.begun.renameD o.a o.b).ch) true), (6, .cells [.row 7, .d (.list 2 (map nmD (Rof (d.begun.renameD o.a o.b) (tb d t)).now)), .d (.list 2 (map nmD (Rof (d.begun.renameD o.a o.b) (tb d t)).sure)), .row 8, .d (.int .i64 (Rof (d.begun.renameD o.a o.b) (tb d t)).quota), .d (.bool (Rof (d.begun.renameD o.a o.b) (tb d t)).full), .d (.bool (Rof (d.begun.renameD o.a o.b) (tb d t)).off), .d (.int .i64 (Rof (d.begun.renameD o.a o.b) (tb d t)).stop), .d (.int .i64 (Rof (d.begun.renameD o.a o.b) (tb d t)).calls)]), (7, .row 2 (map fileD (Rof (d.begun.renameD o.a o.b) (tb d t)).files) true), (8, .row 3 (map chD (Rof (d.begun.renameD o.a o.b) (tb d t)).ch) true)] (fun kz L hL => ?_) ?_
  · refine ⟨[⟨[], [], [], [0], [0], [], true, false⟩, ⟨[], [], [], [9], [9], [9], true, false⟩, ⟨[9], [], [], [], [9], [], true, false⟩, ⟨[], [], [], [9], [9], [9], true, false⟩, ⟨[9], [], [], [], [9], [], true, false⟩, ⟨[0, 1, 2, 3, 4, 5], [0, 1, 2, 3, 4, 5], [1, 3, 4, 5], [1, 2, 5, 3, 4], [0, 1, 2, 5, 3, 4], [], true, false⟩, ⟨[], [], [], [6], [6], [], true, false⟩, nF, ⟨[], [], [], [9], [9], [9], true, false⟩, ⟨[9], [], [], [], [9], [], true, false⟩, ⟨[], [], [], [9], [9], [9], true, false⟩, ⟨[9], [], [], [], [9], [], true, false⟩, ⟨[6, 7, 8], [6, 7, 8], [7, 8], [7, 8], [6, 7, 8], [], true, false⟩, nF, nF], run_amongF hL _ [] [0, 1, 2, 3, 4, 6, 7, 8, 9, 10, 11, 5, 12, 13, 14] (by intro p hp; cases hp) (by kernel_rfl) ?_⟩
    refine Run.ap [0, 1, 2, 3, 4, 6, 7, 8, 9, 10, 11] [(84, .ptr 0 0 0), (85, .ptr 9 0 1), (86, .d (.str o.a)), (87, .ptr 9 0 2), (88, .d (.str o.b)), (90, .ptr 6 0 0), (91, .d (.int .i64 4)), (92, .ptr 9 0 1), (93, .d (.str o.a)), (94, .ptr 9 0 2), (95, .d (.str o.b))] [] ?_
    refine Run.cl 5 [0, 1, 2, 3, 4, 5] F34 (@spec_34 (d) (N) (by assumption) (by omega) (o.a) (o.b) (by omega) (by omega)) ?_
    refine Run.cl 12 [6, 7, 8] F77 (@spec_77a5 (d) (t) (N) (by assumption) (by assumption) (by omega) (by assumption) (o.a) (o.b) (by omega) (by omega) (.d (.list 1 []))) ?_
    exact Run.fin
  refine .kp [6] ?_
  refine .su [0, 1, 2, 3, 4, 5, 6, 7, 8] (mk 147 [(6, .d (.bool (d.begun.err true [o.a, o.b] == d.begun.err true [o.a, o.b])))]) [.cells [.row 1, .ptr 2 0 0, .ep 2 (D.agg [D.list 1 (map strD (d.begun.renameD o.a o.b).sk), D.list 1 (map intD (d.begun.renameD o.a o.b).sv)]) 0, .row 5, .d (.int .i64 (d.begun.renameD o.a o.b).quota), .d (.bool (d.begun.renameD o.a o.b).full), .d (.bool (d.begun.renameD o.a o.b).off), .d (.int .i64 (d.begun.renameD o.a o.b).stop), .d (.int .i64 (d.begun.renameD o.a o.b).calls)], .row 2 (map fileD (d.begun.renameD o.a o.b).files) true, .cells [.row 3, .row 4], .row 1 (map strD (d.begun.renameD o.a o.b).nk) true, .row 1 (map intD (d.begun.renameD o.a o.b).nv) true, .row 3 (map chD (d.begun.renameD o.a o.b).ch) true, .cells [.row 7, .d (.list 2 (map nmD (Rof (d.begun.renameD o.a o.b) (tb d t)).now)), .d (.list 2 (map nmD (Rof (d.begun.renameD o.a o.b) (tb d t)).sure)), .row 8, .d (.int .i64 (Rof (d.begun.renameD o.a o.b) (tb d t)).quota), .d (.bool (Rof (d.begun.renameD o.a o.b) (tb d t)).full), .d (.bool (Rof (d.begun.renameD o.a o.b) (tb d t)).off), .d (.int .i64 (Rof (d.begun.renameD o.a o.b) (tb d t)).stop), .d (.int .i64 (Rof (d.begun.renameD o.a o.b) (tb d t)).calls)], .row 2 (map fileD (Rof (d.begun.renameD o.a o.b) (tb d t)).files) true, .row 3 (map chD (Rof (d.begun.renameD o.a o.b) (tb d t)).ch) true] ?_
  refine .retH F42 (v := V.d (D.bool (d.begun.err true [o.a, o.b] == d.begun.err true [o.a, o.b]))) (by kernel_rfl) (by kernel_rfl) ?_
  exact ⟨by simp, rfl⟩
theorem do5 (d : Dk) (t : Int) (N : Nat) (h : d.Ok N) (hn : d.Nm) (hN : N + 5 ≤ 50000) (ht : Rt d t) (o : DOp) (hs : o.small) (hf : o.fits) (hk : o.kind % 10 = 5) :
    CallsA Try.prog 42 [.ptr 0 0 0, .ptr 6 0 0, .d (dopD o)] (SX d t false) fun r σ' => r = .ret (.d (.bool true)) ∧ σ' = SX (d.begun.removeD o.a) (tb d t) true := by
  refine CallsA.start F42 (tm := mk (Try.f42.ntmps) [(0, .ptr 0 0 0), (1, .ptr 6 0 0), (2, .d (dopD o))]) (by kernel_rfl) ?_
  have ha := hs.a
  have hb := hs.b
  have hd := hs.d
  have hkk := hf.k
  have hk2 : ((o.kind : Int) % 10) = 5 := by omega
  clear hs hf
  refine .sg 13 [0, 1, 5, 6, 7, 8, 9, 10, 11] (cgo 13 [] [.code B42]) [(5, .ptr 9 0 0), (6, .d (.bool false)), (7, .d (.int .i64 (IntKind.i64.wrap ((↑o.kind : Int).tmod 10)))), (8, .ptr 9 0 0), (9, .d (.int .u64 (↑o.kind : Int))), (10, .d (.int .u64 ((↑o.kind : Int).tmod 10))), (11, .d (.int .i64 (IntKind.i64.wrap ((↑o.kind : Int).tmod 10))))] [(9, .cells [.d (.int .u64 (↑o.kind : Int)), .d (.str o.a), .d (.str o.b), .d (.list 1 (map u8 o.data)), .d (.int .i64 o.n), .d (.int .i64 o.dir), .d (.list 1 (map intD o.keep))])] ?_
  simp (disch := omega) only [wrap_i64, wrap_u64s, wrap_u32s, wrap_u8s, wrap_i32s, iadd_i64, isub_i64, irem_n, iquo_n, tdiv_nn, tmod_nn]
  rw [hk2]
  clear hk2 hk
  refine .sg0 43 [0, 1, 5, 6, 7] (cgo 56 [false, false, false, false, false, true] [.code B42]) [] ?_
  refine .dr (cgo 57 [false, false, false, false, false, true] [.code B42]) [(6, .d (.bool (d.begun.err true [o.a] == d.begun.err true [o.a]))), (100, .ptr 0 0 0), (101, .ptr 9 0 1), (102, .d (.str o.a)), (103, .d (.int .i64 (d.begun.err true [o.a]))), (104, .ptr 6 0 0), (105, .d (.int .i64 5)), (106, .ptr 9 0 1), (107, .d (.str o.a)), (108, .d (.int .i64 (d.begun.err true [o.a]))), (109, .d (.bool (d.begun.err true [o.a] == d.begun.err true [o.a])))] [(0, .cells [.row 1, .ptr 2 0 0, .ep 2 (D.agg [D.list 1 (map strD (d.begun.removeD o.a).sk), D.list 1 (map intD (d.begun.removeD o.a).sv)]) 0, .row 5, .d (.int .i64 (d.begun.removeD o.a).quota), .d (.bool (d.begun.removeD o.a).full), .d (.bool (d.begun.removeD o.a).off), .d (.int .i64 (d.begun.removeD o.a).stop), .d (.int .i64 (d.begun.removeD o.a).calls)]), (1, .row 2 (map fileD (d.begun.removeD o.a).files) true), (3, .row 1 (map strD (d.begun.removeD o.a).nk) true), (4, .row 1 (map intD (d.begun.removeD o.a).nv) true), (5, .row 3 (map chD (d.begun.removeD o.a).ch) true), (6, .cells [.row 7, .d (.list 2 (map nmD (Rof (d.begun.removeD o.a) (tb d t)).now)), .d (.list 2 (map nmD (Rof (d.begun.removeD o.a) (tb d t)).sure)), .row 8, .d (.int .i64 (Rof (d.begun.removeD o.a) (tb d t)).quota), .d (.bool (Rof (d.begun.removeD o.a) (tb d t)).full), .d (.bool (Rof (d.begun.removeD o.a) (tb d t)).off), .d (.int .i64 (Rof (d.begun.removeD o.a) (tb d t)).stop), .d (.int .i64 (Rof (d.begun.removeD o.a) (tb d t)).calls)]), (7, .row 2 (map fileD (Rof (d.begun.removeD o.a) (tb d t)).files) true), (8, .row 3 (map chD (Rof (d.begun.removeD o.a) (tb d t)).ch) true)] (fun kz L hL => ?_) ?_
  · refine ⟨[⟨[], [], [], [0], [0], [], true, false⟩, ⟨[], [], [], [9], [9], [9], true, false⟩, ⟨[9], [], [], [], [9], [], true, false⟩, ⟨[0, 1, 2, 3, 4, 5], [0, 1, 2, 3, 4, 5], [1, 3, 4, 5], [1, 2, 5, 3, 4], [0, 1, 2, 5, 3, 4], [], true, false⟩, ⟨[], [], [], [6], [6], [], true, false⟩, nF, ⟨[], [], [], [9], [9], [9], true, false⟩, ⟨[9], [], [], [], [9], [], true, false⟩, ⟨[6, 7, 8], [6, 7, 8], [7, 8], [7, 8], [6, 7, 8], [], true, false⟩, nF, nF], run_amongF hL _ [] [0, 1, 2, 4, 5, 6, 7, 3, 8, 9, 10] (by intro p hp; cases hp) (by kernel_rfl) ?_⟩
    refine Run.ap [0, 1, 2, 4, 5, 6, 7] [(100, .ptr 0 0 0), (101, .ptr 9 0 1), (102, .d (.str o.a)), (104, .ptr 6 0 0), (105, .d (.int .i64 5)), (106, .ptr 9 0 1), (107, .d (.str o.a))] [] ?_
    refine Run.cl 3 [0, 1, 2, 3, 4, 5] F78 (@spec_78 (d) (N) (by assumption) (by omega) (o.a) (by omega)) ?_
    refine Run.cl 8 [6, 7, 8] F77 (@spec_77a6 (d) (t) (N) (by assumption) (by assumption) (by omega) (by assumption) (o.a) (by omega) (.d (.list 1 []))) ?_
    exact Run.fin
  refine .kp [6] ?_
  refine .su [0, 1, 2, 3, 4, 5, 6, 7, 8] (mk 147 [(6, .d (.bool (d.begun.err true [o.a] == d.begun.err true [o.a])))]) [.cells [.row 1, .ptr 2 0 0, .ep 2 (D.agg [D.list 1 (map strD (d.begun.removeD o.a).sk), D.list 1 (map intD (d.begun.removeD o.a).sv)]) 0, .row 5, .d (.int .i64 (d.begun.removeD o.a).quota), .d (.bool (d.begun.removeD o.a).full), .d (.bool (d.begun.removeD o.a).off), .d (.int .i64 (d.begun.removeD o.a).stop), .d (.int .i64 (d.begun.removeD o.a).calls)], .row 2 (map fileD (d.begun.removeD o.a).files) true, .cells [.row 3, .row 4], .row 1 (map strD (d.begun.removeD o.a).nk) true, .row 1 (map intD (d.begun.removeD o.a).nv) true, .row 3 (map chD (d.begun.removeD o.a).ch) true, .cells [.row 7, .d (.list 2 (map nmD (Rof (d.begun.removeD o.a) (tb d t)).now)), .d (.list 2 (map nmD (Rof (d.begun.removeD o.a) (tb d t)).sure)), .row 8, .d (.int .i64 (Rof (d.begun.removeD o.a) (tb d t)).quota), .d (.bool (Rof (d.begun.removeD o.a) (tb d t)).full), .d (.bool (Rof (d.begun.removeD o.a) (tb d t)).off), .d (.int .i64 (Rof (d.begun.removeD o.a) (tb d t)).stop), .d (.int .i64 (Rof (d.begun.removeD o.a) (tb d t)).calls)], .row 2 (map fileD (Rof (d.begun.removeD o.a) (tb d t)).files) true, .row 3 (map chD (Rof (d.begun.removeD o.a) (tb d t)).ch) true] ?_
  refine .retH F42 (v := V.d (D.bool (d.begun.err true [o.a] == d.begun.err true [o.a]))) (by kernel_rfl) (by kernel_rfl) ?_
  exact ⟨by simp, rfl⟩
end Go.Proofs.Ytoelkgbeefoplaa
namespace Go.Proofs.Ytoelkgbeefoplaa
open Go Go.Br Go.Proofs
open List (map)
def stepD (d : Dk) (o : DOp) : Dk :=
  if o.kind % 10 = 0 then d.begun.createD o.a else if o.kind % 10 = 1 then d.begun.appendD o.a o.data else if o.kind % 10 = 2 then d.begun.syncD o.a else if o.kind % 10 = 3 then d.begun.syncDirD else if o.kind % 10 = 4 then d.begun.renameD o.a o.b else d.begun.removeD o.a
theorem spec_42 (d : Dk) (t : Int) (N : Nat) (h : d.Ok N) (hn : d.Nm) (hN : N + 5 ≤ 50000) (ht : Rt d t) (o : DOp) (hs : o.small) (hf : o.fits) (hk : o.kind % 10 < 6) :
    CallsA Try.prog 42 [.ptr 0 0 0, .ptr 6 0 0, .d (dopD o)] (SX d t false) fun r σ' => r = .ret (.d (.bool true)) ∧ σ' = SX (stepD d o) (tb d t) true := by
  unfold stepD
  by_cases h0 : o.kind % 10 = 0
  · rw [if_pos h0]; exact do0 d t N h hn hN ht o hs hf h0
  · by_cases h1 : o.kind % 10 = 1
    · rw [if_neg h0, if_pos h1]; exact do1 d t N h hn hN ht o hs hf h1
    · by_cases h2 : o.kind % 10 = 2
      · rw [if_neg h0, if_neg h1, if_pos h2]; exact do2 d t N h hn hN ht o hs hf h2
      · by_cases h3 : o.kind % 10 = 3
        · rw [if_neg h0, if_neg h1, if_neg h2, if_pos h3]; exact do3 d t N h hn hN ht o hs hf h3
        · by_cases h4 : o.kind % 10 = 4
          · rw [if_neg h0, if_neg h1, if_neg h2, if_neg h3, if_pos h4]; exact do4 d t N h hn hN ht o hs hf h4
          · rw [if_neg h0, if_neg h1, if_neg h2, if_neg h3, if_neg h4]; exact do5 d t N h hn hN ht o hs hf (by omega)
section
variable {b : Dk} {x y : ByteArray}
theorem off_create (ho : b.off = true) : b.createE x = 5 ∧ b.createD x = b := by
  have e : b.createE x = 5 := by unfold Dk.createE; rw [err_off ho, if_pos (by simp)]
  exact ⟨e, by unfold Dk.createD; rw [e, if_neg (by simp)]⟩
theorem off_append {bs : List UInt8} (ho : b.off = true) : b.appendE x bs = 5 ∧ b.appendD x bs = b := by
  have e : b.appendE x bs = 5 := by unfold Dk.appendE; rw [err_off ho, if_pos (by simp)]
  exact ⟨e, by unfold Dk.appendD; rw [e, if_neg (by simp), if_neg (by simp)]⟩
theorem off_sync (ho : b.off = true) : b.err true [x] = 5 ∧ b.syncD x = b := ⟨err_off ho _ _, by unfold Dk.syncD; rw [err_off ho, if_neg (by simp)]⟩
theorem off_syncDir (ho : b.off = true) : b.err false [] = 5 ∧ b.syncDirD = b := ⟨err_off ho _ _, by unfold Dk.syncDirD; rw [if_pos ho]⟩
theorem off_rename (ho : b.off = true) : b.err true [x, y] = 5 ∧ b.renameD x y = b := ⟨err_off ho _ _, by unfold Dk.renameD; rw [err_off ho, if_neg (by simp)]⟩
theorem off_remove (ho : b.off = true) : b.err true [x] = 5 ∧ b.removeD x = b := ⟨err_off ho _ _, by unfold Dk.removeD; rw [err_off ho, if_neg (by simp)]⟩
end
theorem spec_26a (d : Dk) (N : Nat) (h : d.Ok N) (hN : N + 2 ≤ 50000) (x : ByteArray) (hx : x.size < 1000000000) (ho : d.begun.off = true) :
    CallsA Try.prog 26 [.ptr 0 0 0, .d (.str x)] (SD d false) fun r σ' => r = .ret (.d (.int .i64 5)) ∧ σ' = SD d.begun true := by
  have h1 := spec_26 d N h hN x hx
  obtain ⟨e1, e2⟩ := off_create (x := x) ho
  rw [e1, e2] at h1
  exact h1
theorem spec_31a (d : Dk) (N : Nat) (h : d.Ok N) (hN : N + 2 ≤ 50000) (x : ByteArray) (hx : x.size < 1000000000) (bs : List UInt8) (hb : bs.length < 1000000000) (ho : d.begun.off = true) :
    CallsA Try.prog 31 [.ptr 0 0 0, .d (.str x), .d (.list 1 (bs.map u8))] (SD d false) fun r σ' => r = .ret (.d (.int .i64 5)) ∧ σ' = SD d.begun true := by
  have h1 := spec_31 d N h hN x hx bs hb
  obtain ⟨e1, e2⟩ := off_append (x := x) (bs := bs) ho
  rw [e1, e2] at h1
  exact h1
theorem spec_32a (d : Dk) (N : Nat) (h : d.Ok N) (hN : N + 2 ≤ 50000) (x : ByteArray) (hx : x.size < 1000000000) (ho : d.begun.off = true) :
    CallsA Try.prog 32 [.ptr 0 0 0, .d (.str x)] (SD d false) fun r σ' => r = .ret (.d (.int .i64 5)) ∧ σ' = SD d.begun true := by
  have h1 := spec_32 d N h hN x hx
  obtain ⟨e1, e2⟩ := off_sync (x := x) ho
  rw [e1, e2] at h1
  exact h1
theorem spec_33a (d : Dk) (N : Nat) (h : d.Ok N) (hN : N + 2 ≤ 50000)  (ho : d.begun.off = true) :
    CallsA Try.prog 33 [.ptr 0 0 0] (SD d false) fun r σ' => r = .ret (.d (.int .i64 5)) ∧ σ' = SD d.begun true := by
  have h1 := spec_33 d N h hN 
  obtain ⟨e1, e2⟩ := off_syncDir ho
  rw [e1, e2] at h1
  exact h1
theorem spec_34a (d : Dk) (N : Nat) (h : d.Ok N) (hN : N + 2 ≤ 50000) (x y : ByteArray) (hx : x.size < 1000000000) (hy : y.size < 1000000000) (ho : d.begun.off = true) :
    CallsA Try.prog 34 [.ptr 0 0 0, .d (.str x), .d (.str y)] (SD d false) fun r σ' => r = .ret (.d (.int .i64 5)) ∧ σ' = SD d.begun true := by
  have h1 := spec_34 d N h hN x y hx hy
  obtain ⟨e1, e2⟩ := off_rename (x := x) (y := y) ho
  rw [e1, e2] at h1
  exact h1
theorem spec_78a (d : Dk) (N : Nat) (h : d.Ok N) (hN : N + 2 ≤ 50000) (x : ByteArray) (hx : x.size < 1000000000) (ho : d.begun.off = true) :
    CallsA Try.prog 78 [.ptr 0 0 0, .d (.str x)] (SD d false) fun r σ' => r = .ret (.d (.int .i64 5)) ∧ σ' = SD d.begun true := by
  have h1 := spec_78 d N h hN x hx
  obtain ⟨e1, e2⟩ := off_remove (x := x) ho
  rw [e1, e2] at h1
  exact h1
noncomputable def B43 : Code := (Try.f43.body).getD .skip
theorem F43 : Fnc Try.prog 43 Try.f43 B43 := ⟨Try.func43, by kernel_rfl, by kernel_rfl⟩
end Go.Proofs.Ytoelkgbeefoplaa
namespace Go.Proofs.Ytoelkgbeefoplaa
open Go Go.Br Go.Proofs
open List (map)
theorem createD_end (b : Dk) (x : ByteArray) : (b.createD x).off = b.off ∧ (b.createD x).stop = b.stop ∧ (b.createD x).calls = b.calls := by
  unfold Dk.createD; split <;> exact ⟨rfl, rfl, rfl⟩
theorem appendD_end (b : Dk) (x : ByteArray) (bs : List UInt8) : (b.appendD x bs).off = b.off ∧ (b.appendD x bs).stop = b.stop ∧ (b.appendD x bs).calls = b.calls := by
  unfold Dk.appendD; split
  · exact ⟨rfl, rfl, rfl⟩
  · split <;> exact ⟨rfl, rfl, rfl⟩
theorem syncD_end (b : Dk) (x : ByteArray) : (b.syncD x).off = b.off ∧ (b.syncD x).stop = b.stop ∧ (b.syncD x).calls = b.calls := by
  unfold Dk.syncD; split <;> exact ⟨rfl, rfl, rfl⟩
theorem syncDirD_end (b : Dk) : b.syncDirD.off = b.off ∧ b.syncDirD.stop = b.stop ∧ b.syncDirD.calls = b.calls := by
  unfold Dk.syncDirD; split <;> exact ⟨rfl, rfl, rfl⟩
theorem renameD_end (b : Dk) (x y : ByteArray) : (b.renameD x y).off = b.off ∧ (b.renameD x y).stop = b.stop ∧ (b.renameD x y).calls = b.calls := by
  unfold Dk.renameD; split <;> exact ⟨rfl, rfl, rfl⟩
theorem removeD_end (b : Dk) (x : ByteArray) : (b.removeD x).off = b.off ∧ (b.removeD x).stop = b.stop ∧ (b.removeD x).calls = b.calls := by
  unfold Dk.removeD; split <;> exact ⟨rfl, rfl, rfl⟩
theorem step_end (d : Dk) (o : DOp) : (stepD d o).off = d.begun.off ∧ (stepD d o).stop = d.begun.stop ∧ (stepD d o).calls = d.begun.calls := by
  unfold stepD
  split
  · exact createD_end _ _
  split
  · exact appendD_end _ _ _
  split
  · exact syncD_end _ _
  split
  · exact syncDirD_end _
  split
  · exact renameD_end _ _ _
  · exact removeD_end _ _
theorem step_ok {d : Dk} {N : Nat} (h : d.Ok N) (hN : N + 2 ≤ 50000) (o : DOp) : (stepD d o).Ok (N + 2) := by
  have k := Dk.begun_ok h (by omega)
  unfold stepD
  split
  · exact Dk.createD_ok k (by omega) _
  split
  · exact (Dk.appendD_ok k _ _).mono (by omega) (by omega)
  split
  · exact (Dk.syncD_ok k _).mono (by omega) (by omega)
  split
  · exact (Dk.syncDirD_ok k).mono (by omega) (by omega)
  split
  · exact Dk.renameD_ok k (by omega) _ _
  · exact Dk.removeD_ok k (by omega) _
theorem file_added_ok {b : Dk} {N : Nat} (k1 : b.Ok N) (hN : N + 1 ≤ 50000) : ({ b with files := b.files ++ [([], 0)] } : Dk).Ok (N + 1) := by
  refine ⟨k1.nr, k1.sr, k1.nl, k1.sl, k1.nn.more (by simp), k1.sn.more (by simp), fun c hc => ?_, fun f hf => ?_, ?_, ?_, ?_, ?_, ?_, k1.c0, ?_, k1.s0, k1.s1, k1.q0, k1.q1, by omega⟩
  · have := k1.cn c hc
    exact ⟨this.1, fun h => by rw [List.length_append]; have := this.2 h; omega⟩
  · rcases List.mem_append.1 hf with h1 | h1
    · exact k1.fs f h1
    · rw [List.mem_singleton.1 h1]; exact ⟨Nat.le_refl _, by simp⟩
  · have := k1.fl; simp; omega
  · have := k1.chl; exact Nat.le_trans this (by omega)
  · have := k1.nkl; exact Nat.le_trans this (by omega)
  · have := k1.skl; exact Nat.le_trans this (by omega)
  · have := k1.skc; exact Nat.le_trans this (by omega)
  · have := k1.cl; exact Int.le_trans this (by omega)
theorem step_nm {d : Dk} {N : Nat} (h : d.Ok N) (hN : N + 2 ≤ 50000) (hn : d.Nm) (o : DOp) : (stepD d o).Nm := by
  have k := Dk.begun_ok h (by omega)
  have n := begun_nm hn
  unfold stepD
  split
  · unfold Dk.createD; split
    · exact turn_nm (file_added_ok k (by omega)) ⟨n.nk, n.sk⟩ _ _ _
    · exact n
  split
  · unfold Dk.appendD; split
    · exact ⟨n.nk, n.sk⟩
    · split
      · exact ⟨n.nk, n.sk⟩
      · exact n
  split
  · unfold Dk.syncD; split
    · exact ⟨n.nk, n.sk⟩
    · exact n
  split
  · unfold Dk.syncDirD; split
    · exact n
    · exact ⟨n.nk, n.nk⟩
  split
  · unfold Dk.renameD; split
    · exact turn_nm k n _ _ _
    · exact n
  · unfold Dk.removeD; split
    · exact turn_nm k n _ _ _
    · exact n
theorem begun_on {d : Dk} (ho : d.off = false) (hs : 0 < d.stop) : d.begun.off = false ∧ d.begun.stop = d.stop - 1 ∧ d.begun.calls = d.calls + 1 := by
  unfold Dk.begun
  rw [if_neg (by simp [ho])]
  refine ⟨by simp; omega, ?_, rfl⟩
  dsimp only
  rw [if_neg (by omega)]
theorem begun_last {d : Dk} (ho : d.off = false) (hs : d.stop = 0) : d.begun.off = true ∧ d.begun.calls = d.calls + 1 := by
  unfold Dk.begun
  rw [if_neg (by simp [ho])]
  exact ⟨by simp [hs], rfl⟩
theorem begun_dead {d : Dk} (ho : d.off = true) : d.begun = d := by unfold Dk.begun; rw [if_pos ho]
theorem begun_dir (d : Dk) : d.begun.files = d.files ∧ d.begun.nk = d.nk ∧ d.begun.nv = d.nv := by unfold Dk.begun; split <;> exact ⟨rfl, rfl, rfl⟩
structure Stops (k i : Nat) (d e : Dk) : Prop where
  on : i ≤ k → d = e ∧ d.off = false ∧ d.stop = (k : Int) - i ∧ d.calls = i
  out : k < i → d.off = true ∧ d.calls = (k : Int) + 1
  dir : d.files = e.files ∧ d.nk = e.nk ∧ d.nv = e.nv
theorem Stops.step {k i : Nat} {d e : Dk} (h : Stops k i d e) (hi : i < k) (o : DOp) : Stops k (i + 1) (stepD d o) (stepD e o) := by
  obtain ⟨h1, h2, h3, h4⟩ := h.on (by omega)
  subst h1
  obtain ⟨b1, b2, b3⟩ := begun_on h2 (by omega)
  obtain ⟨e1, e2, e3⟩ := step_end d o
  refine ⟨fun _ => ⟨rfl, by rw [e1, b1], by rw [e2, b2, h3]; omega, by rw [e3, b3, h4]; omega⟩, fun h => by omega, rfl, rfl, rfl⟩
theorem Stops.dead {k i : Nat} {d e : Dk} (h : Stops k i d e) (hi : k ≤ i) : d.begun.off = true ∧ Stops k (i + 1) d.begun e := by
  obtain ⟨f1, f2, f3⟩ := h.dir
  obtain ⟨g1, g2, g3⟩ := begun_dir d
  have hdir : d.begun.files = e.files ∧ d.begun.nk = e.nk ∧ d.begun.nv = e.nv := ⟨g1.trans f1, g2.trans f2, g3.trans f3⟩
  by_cases he : i = k
  · obtain ⟨h1, h2, h3, h4⟩ := h.on (by omega)
    obtain ⟨b1, b2⟩ := begun_last h2 (by omega)
    exact ⟨b1, fun h => by omega, fun _ => ⟨b1, by rw [b2, h4, he]⟩, hdir⟩
  · obtain ⟨h1, h2⟩ := h.out (by omega)
    have hb := begun_dead h1
    rw [hb] at hdir ⊢
    exact ⟨h1, fun h => by omega, fun _ => ⟨h1, h2⟩, hdir⟩
end Go.Proofs.Ytoelkgbeefoplaa
namespace Go.Proofs.Ytoelkgbeefoplaa
open Go Go.Br Go.Proofs
open List (map)
theorem spec_43 (d : Dk) (N : Nat) (h : d.Ok N) (hN : N + 5 ≤ 50000) (ho : d.begun.off = true) (o : DOp) (hs : o.small) (hf : o.fits) (hk : o.kind % 10 < 6) :
    CallsA Try.prog 43 [.ptr 0 0 0, .d (dopD o)] (SD d false) fun r σ' => r = .ret (.d (.bool true)) ∧ σ' = SD d.begun true := by
  refine CallsA.start F43 (tm := mk (Try.f43.ntmps) [(0, .ptr 0 0 0), (1, .d (dopD o))]) (by kernel_rfl) ?_
  have ha := hs.a
  have hb := hs.b
  have hd := hs.d
  have hkk := hf.k
  clear hs hf
  refine .sg 18 [0, 3, 4, 7, 8] (cgo 18 [] [.code B43]) [(3, .ptr 6 0 0), (4, .d (.bool false)), (7, .d (.int .u64 ((↑o.kind : Int).tmod 10))), (8, .d (.bool ((↑o.kind : Int).tmod 10 == 0)))] [(6, .cells [.d (.int .u64 (↑o.kind : Int)), .d (.str o.a), .d (.str o.b), .d (.list 1 (map u8 o.data)), .d (.int .i64 o.n), .d (.int .i64 o.dir), .d (.list 1 (map intD o.keep))])] ?_
  simp (disch := omega) only [wrap_i64, wrap_u64s, wrap_u32s, wrap_u8s, wrap_i32s, iadd_i64, isub_i64, irem_n, iquo_n, tdiv_nn, tmod_nn]
  refine .if' ((↑o.kind : Int) % 10 == 0) (cgo 19 [true] [.code B43]) (cgo 19 [false] [.code B43]) (fun h1 => ?_) (fun h1 => ?_)
  · simp only [bsX] at h1
    refine .sg0 5 [0, 3, 4, 10, 11, 12] (cgo 24 [true] [.code B43]) [(10, .ptr 0 0 0), (11, .ptr 6 0 1), (12, .d (.str o.a))] ?_
    refine .ca [0, 1, 2, 3, 4, 5] (cgo 25 [true] [.code B43]) F26 (@spec_26a (d) (N) (by assumption) (by omega) (o.a) (by omega) (by assumption)) ?_
    rintro r1 s1 ⟨rfl, rfl⟩
    refine ⟨_, rfl, ?_⟩
    refine .sg0 3 [0, 3, 4] (cgo 28 [true] [.code B43]) [(4, .d (.bool true))] ?_
    refine .kp [4] ?_
    refine .su [0, 1, 2, 3, 4, 5] (mk 50 [(4, .d (.bool true))]) [.cells [.row 1, .ptr 2 0 0, .ep 2 (D.agg [D.list 1 (map strD d.begun.sk), D.list 1 (map intD d.begun.sv)]) 0, .row 5, .d (.int .i64 d.begun.quota), .d (.bool d.begun.full), .d (.bool d.begun.off), .d (.int .i64 d.begun.stop), .d (.int .i64 d.begun.calls)], .row 2 (map fileD d.begun.files) true, .cells [.row 3, .row 4], .row 1 (map strD d.begun.nk) true, .row 1 (map intD d.begun.nv) true, .row 3 (map chD d.begun.ch) true] ?_
    refine .retH F43 (v := V.d (D.bool true)) (by kernel_rfl) (by kernel_rfl) ?_
    exact ⟨rfl, rfl⟩
  · simp only [bsX] at h1
    refine .sg0 5 [0, 3, 4, 7, 15] (cgo 24 [false] [.code B43]) [(7, .d (.int .u64 ((↑o.kind : Int) % 10))), (15, .d (.bool ((↑o.kind : Int) % 10 == 1)))] ?_
    refine .if' ((↑o.kind : Int) % 10 == 1) (cgo 25 [false, true] [.code B43]) (cgo 25 [false, false] [.code B43]) (fun h3 => ?_) (fun h3 => ?_)
    · simp only [bsX] at h3
      refine .sg0 7 [0, 3, 4, 17, 18, 19, 20, 21] (cgo 32 [false, true] [.code B43]) [(17, .ptr 0 0 0), (18, .ptr 6 0 1), (19, .d (.str o.a)), (20, .ptr 6 0 3), (21, .d (.list 1 (map u8 o.data)))] ?_
      refine .ca [0, 1, 2, 3, 4, 5] (cgo 33 [false, true] [.code B43]) F31 (@spec_31a (d) (N) (by assumption) (by omega) (o.a) (by omega) (o.data) (by omega) (by assumption)) ?_
      rintro r3 s3 ⟨rfl, rfl⟩
      refine ⟨_, rfl, ?_⟩
      refine .sg0 3 [0, 3, 4] (cgo 36 [false, true] [.code B43]) [(4, .d (.bool true))] ?_
      refine .kp [4] ?_
      refine .su [0, 1, 2, 3, 4, 5] (mk 50 [(4, .d (.bool true))]) [.cells [.row 1, .ptr 2 0 0, .ep 2 (D.agg [D.list 1 (map strD d.begun.sk), D.list 1 (map intD d.begun.sv)]) 0, .row 5, .d (.int .i64 d.begun.quota), .d (.bool d.begun.full), .d (.bool d.begun.off), .d (.int .i64 d.begun.stop), .d (.int .i64 d.begun.calls)], .row 2 (map fileD d.begun.files) true, .cells [.row 3, .row 4], .row 1 (map strD d.begun.nk) true, .row 1 (map intD d.begun.nv) true, .row 3 (map chD d.begun.ch) true] ?_
      refine .retH F43 (v := V.d (D.bool true)) (by kernel_rfl) (by kernel_rfl) ?_
      exact ⟨rfl, rfl⟩
    · simp only [bsX] at h3
      refine .sg0 5 [0, 3, 4, 7, 24] (cgo 30 [false, false] [.code B43]) [(24, .d (.bool ((↑o.kind : Int) % 10 == 2)))] ?_
      refine .if' ((↑o.kind : Int) % 10 == 2) (cgo 31 [false, false, true] [.code B43]) (cgo 31 [false, false, false] [.code B43]) (fun h5 => ?_) (fun h5 => ?_)
      · simp only [bsX] at h5
        refine .sg0 5 [0, 3, 4, 26, 27, 28] (cgo 36 [false, false, true] [.code B43]) [(26, .ptr 0 0 0), (27, .ptr 6 0 1), (28, .d (.str o.a))] ?_
        refine .ca [0, 1, 2, 3, 4, 5] (cgo 37 [false, false, true] [.code B43]) F32 (@spec_32a (d) (N) (by assumption) (by omega) (o.a) (by omega) (by assumption)) ?_
        rintro r5 s5 ⟨rfl, rfl⟩
        refine ⟨_, rfl, ?_⟩
        refine .sg0 3 [0, 3, 4] (cgo 40 [false, false, true] [.code B43]) [(4, .d (.bool true))] ?_
        refine .kp [4] ?_
        refine .su [0, 1, 2, 3, 4, 5] (mk 50 [(4, .d (.bool true))]) [.cells [.row 1, .ptr 2 0 0, .ep 2 (D.agg [D.list 1 (map strD d.begun.sk), D.list 1 (map intD d.begun.sv)]) 0, .row 5, .d (.int .i64 d.begun.quota), .d (.bool d.begun.full), .d (.bool d.begun.off), .d (.int .i64 d.begun.stop), .d (.int .i64 d.begun.calls)], .row 2 (map fileD d.begun.files) true, .cells [.row 3, .row 4], .row 1 (map strD d.begun.nk) true, .row 1 (map intD d.begun.nv) true, .row 3 (map chD d.begun.ch) true] ?_
        refine .retH F43 (v := V.d (D.bool true)) (by kernel_rfl) (by kernel_rfl) ?_
        exact ⟨rfl, rfl⟩
      · simp only [bsX] at h5
        refine .sg0 5 [0, 3, 4, 7, 31] (cgo 36 [false, false, false] [.code B43]) [(31, .d (.bool ((↑o.kind : Int) % 10 == 3)))] ?_
        refine .if' ((↑o.kind : Int) % 10 == 3) (cgo 37 [false, false, false, true] [.code B43]) (cgo 37 [false, false, false, false] [.code B43]) (fun h7 => ?_) (fun h7 => ?_)
        · simp only [bsX] at h7
          refine .sg0 3 [0, 3, 4, 33] (cgo 40 [false, false, false, true] [.code B43]) [(33, .ptr 0 0 0)] ?_
          refine .ca [0, 1, 2, 3, 4, 5] (cgo 41 [false, false, false, true] [.code B43]) F33 (@spec_33a (d) (N) (by assumption) (by omega) (by assumption)) ?_
          rintro r7 s7 ⟨rfl, rfl⟩
          refine ⟨_, rfl, ?_⟩
          refine .sg0 3 [0, 3, 4] (cgo 44 [false, false, false, true] [.code B43]) [(4, .d (.bool true))] ?_
          refine .kp [4] ?_
          refine .su [0, 1, 2, 3, 4, 5] (mk 50 [(4, .d (.bool true))]) [.cells [.row 1, .ptr 2 0 0, .ep 2 (D.agg [D.list 1 (map strD d.begun.sk), D.list 1 (map intD d.begun.sv)]) 0, .row 5, .d (.int .i64 d.begun.quota), .d (.bool d.begun.full), .d (.bool d.begun.off), .d (.int .i64 d.begun.stop), .d (.int .i64 d.begun.calls)], .row 2 (map fileD d.begun.files) true, .cells [.row 3, .row 4], .row 1 (map strD d.begun.nk) true, .row 1 (map intD d.begun.nv) true, .row 3 (map chD d.begun.ch) true] ?_
          refine .retH F43 (v := V.d (D.bool true)) (by kernel_rfl) (by kernel_rfl) ?_
          exact ⟨rfl, rfl⟩
        · simp only [bsX] at h7
          refine .sg0 5 [0, 3, 4, 36] (cgo 42 [false, false, false, false] [.code B43]) [(36, .d (.bool ((↑o.kind : Int) % 10 == 4)))] ?_
          refine .if' ((↑o.kind : Int) % 10 == 4) (cgo 43 [false, false, false, false, true] [.code B43]) (cgo 43 [false, false, false, false, false] [.code B43]) (fun h9 => ?_) (fun h9 => ?_)
          · simp only [bsX] at h9
            refine .sg0 7 [0, 3, 4, 38, 39, 40, 41, 42] (cgo 50 [false, false, false, false, true] [.code B43]) [(38, .ptr 0 0 0), (39, .ptr 6 0 1), (40, .d (.str o.a)), (41, .ptr 6 0 2), (42, .d (.str o.b))] ?_
            refine .ca [0, 1, 2, 3, 4, 5] (cgo 51 [false, false, false, false, true] [.code B43]) F34 (@spec_34a (d) (N) (by assumption) (by omega) (o.a) (o.b) (by omega) (by omega) (by assumption)) ?_
            rintro r9 s9 ⟨rfl, rfl⟩
            refine ⟨_, rfl, ?_⟩
            refine .sg0 3 [0, 3, 4] (cgo 54 [false, false, false, false, true] [.code B43]) [(4, .d (.bool true))] ?_
            refine .kp [4] ?_
            refine .su [0, 1, 2, 3, 4, 5] (mk 50 [(4, .d (.bool true))]) [.cells [.row 1, .ptr 2 0 0, .ep 2 (D.agg [D.list 1 (map strD d.begun.sk), D.list 1 (map intD d.begun.sv)]) 0, .row 5, .d (.int .i64 d.begun.quota), .d (.bool d.begun.full), .d (.bool d.begun.off), .d (.int .i64 d.begun.stop), .d (.int .i64 d.begun.calls)], .row 2 (map fileD d.begun.files) true, .cells [.row 3, .row 4], .row 1 (map strD d.begun.nk) true, .row 1 (map intD d.begun.nv) true, .row 3 (map chD d.begun.ch) true] ?_
            refine .retH F43 (v := V.d (D.bool true)) (by kernel_rfl) (by kernel_rfl) ?_
            exact ⟨rfl, rfl⟩
          · simp only [bsX] at h9
            refine .sg0 7 [0, 3, 4, 45, 46, 47] (cgo 50 [false, false, false, false, false] [.code B43]) [(45, .ptr 0 0 0), (46, .ptr 6 0 1), (47, .d (.str o.a))] ?_
            refine .ca [0, 1, 2, 3, 4, 5] (cgo 51 [false, false, false, false, false] [.code B43]) F78 (@spec_78a (d) (N) (by assumption) (by omega) (o.a) (by omega) (by assumption)) ?_
            rintro r10 s10 ⟨rfl, rfl⟩
            refine ⟨_, rfl, ?_⟩
            refine .sg0 3 [4] (cgo 54 [false, false, false, false, false] [.code B43]) [(4, .d (.bool true))] ?_
            refine .kp [4] ?_
            refine .su [0, 1, 2, 3, 4, 5] (mk 50 [(4, .d (.bool true))]) [.cells [.row 1, .ptr 2 0 0, .ep 2 (D.agg [D.list 1 (map strD d.begun.sk), D.list 1 (map intD d.begun.sv)]) 0, .row 5, .d (.int .i64 d.begun.quota), .d (.bool d.begun.full), .d (.bool d.begun.off), .d (.int .i64 d.begun.stop), .d (.int .i64 d.begun.calls)], .row 2 (map fileD d.begun.files) true, .cells [.row 3, .row 4], .row 1 (map strD d.begun.nk) true, .row 1 (map intD d.begun.nv) true, .row 3 (map chD d.begun.ch) true] ?_
            refine .retH F43 (v := V.d (D.bool true)) (by kernel_rfl) (by kernel_rfl) ?_
            exact ⟨rfl, rfl⟩
end Go.Proofs.Ytoelkgbeefoplaa
namespace Go.Proofs.Ytoelkgbeefoplaa
open Go Go.Br Go.Proofs
open List (map)
noncomputable def B38 : Code := (Try.f38.body).getD .skip
theorem F38 : Fnc Try.prog 38 Try.f38 B38 := ⟨Try.func38, by kernel_rfl, by kernel_rfl⟩
def DOp.ok (o : DOp) : Bool := decide (o.a.size ≤ 300) && decide (o.b.size ≤ 300) && decide (o.data.length ≤ 300) && decide (o.keep.length ≤ 300)
def cutD (l : List DOp) : List DOp := if (l.take 60).all DOp.ok then l.take 60 else []
theorem lo38 (l : List DOp) (hl : l.length ≤ 60) (Q : AE → Store → Prop) (hq1 : (∃ o ∈ l, o.ok = false) → Q (.ret (.d (.list 7 []))) []) (hq2 : (∀ o ∈ l, o.ok = true) → Q (.ret (.d (.list 7 (l.map dopD)))) []) : ∀ (m i : Nat), i + m = l.length → (∀ o ∈ l.take i, o.ok = true) →
    AW Try.prog 38 none 0 (cgo 22 [] [Item.code B38]) (mk 41 [(0, .d (.list 7 (l.map dopD))), (2, .nils), (10, .d (.list 7 (l.map dopD))), (11, .d (.int .i64 (l.length : Nat))), (12, .d (.int .i64 (i : Nat)))]) [] [] Q := by
  intro m
  induction m with
  | zero =>
    intro i hi hall
    have hi : i = l.length := by omega
    subst hi
    rw [List.take_length] at hall
    have hq2 := hq2 hall
    clear hq1
    refine .sg0 5 [0, 2, 10, 11, 12, 13] (cgo 27 [] [.code B38]) [(13, .d (.bool (decide ((↑l.length : Int) < (↑l.length : Int)))))] ?_
    refine .if' (decide ((↑l.length : Int) < (↑l.length : Int))) (cgo 28 [true] [.code B38]) (cgo 28 [false] [.code B38]) (fun h1 => ?_) (fun h1 => ?_)
    · simp only [bsX] at h1
      omega
    · simp only [bsX] at h1
      refine .seg 6 [2] (T' := cgo 34 [false] [.code B38]) (tm' := mk 41 [(2, .d (.list 7 (map dopD l)))]) (σ' := []) (by kernel_rfl) ?_
      refine .retH F38 (v := V.d (D.list 7 (map dopD l))) (by kernel_rfl) (by kernel_rfl) ?_
      simp_all
  | succ m ih =>
    intro i hi hall
    obtain ⟨o, ho⟩ := get_some (l := l) (i := i) (by omega)
    have hq1 : o.ok = false → Q (.ret (.d (.list 7 []))) [] := fun h => hq1 ⟨o, List.mem_of_getElem? ho, h⟩
    have ih := fun h => ih (i + 1) (by omega) (take_more (q := fun o : DOp => o.ok = true) ho hall h)
    clear hq2 hall
    refine .sg0 5 [0, 2, 10, 11, 12, 13] (cgo 27 [] [.code B38]) [(13, .d (.bool (decide ((↑i : Int) < (↑l.length : Int)))))] ?_
    refine .if' (decide ((↑i : Int) < (↑l.length : Int))) (cgo 28 [true] [.code B38]) (cgo 28 [false] [.code B38]) (fun h1 => ?_) (fun h1 => ?_)
    · simp only [bsX] at h1
      refine .sg0 5 [0, 2, 10, 11, 12, 13] (cgo 33 [true] [.code B38]) [] ?_
      refine .op' (cgo 34 [true] [.code B38]) (ixData_ok (t := 54) (x := (.tmp 10)) (i := (.tmp 12)) (k := IntKind.i64) (n := (↑i : Int)) (sz := 7) (xs := map dopD l) (d := dopD o) (by kernel_rfl) (by kernel_rfl) (by kernel_rfl) (by kernel_rfl) (by omega) (map_get ho)) ?_
      refine .sg 11 [0, 2, 4, 10, 11, 12, 13, 14, 15, 16, 17, 18, 19, 20] (cgo 45 [true] [.code B38]) [(4, .ptr 0 0 0), (15, .d (.agg [D.int IntKind.u64 (↑o.kind : Int), D.str o.a, D.str o.b, D.list 1 (map u8 o.data), D.int IntKind.i64 o.n, D.int IntKind.i64 o.dir, D.list 1 (map intD o.keep)])), (16, .ptr 0 0 1), (17, .d (.str o.a)), (18, .d (.int .i64 (↑o.a.size : Int))), (19, .d (.bool (decide ((↑o.a.size : Int) > 300)))), (20, .d (.bool (decide ((↑o.a.size : Int) > 300))))] [(0, .cells [.d (.int .u64 (↑o.kind : Int)), .d (.str o.a), .d (.str o.b), .d (.list 1 (map u8 o.data)), .d (.int .i64 o.n), .d (.int .i64 o.dir), .d (.list 1 (map intD o.keep))])] ?_
      rcases Bool.eq_false_or_eq_true (decide ((↑o.a.size : Int) > 300)) with h2 | h2
      · rw [h2]
        simp only [bsX] at h2
        refine .sg0 24 [0, 2, 4, 10, 11, 12, 13, 14, 15, 16, 17, 18, 19, 20, 21, 22, 23, 24, 25, 26, 27, 28, 29, 30, 31, 32, 33, 34, 35, 36, 37, 38] (cgo 69 [true, true] [.code B38]) [(21, .tuple []), (22, .tuple []), (23, .tuple []), (24, .tuple []), (25, .d (.bool true)), (26, .d (.bool true)), (27, .tuple []), (28, .tuple []), (29, .tuple []), (30, .tuple []), (31, .d (.bool true)), (32, .d (.bool true)), (33, .tuple []), (34, .tuple []), (35, .tuple []), (36, .tuple []), (37, .tuple []), (38, .d (.bool true))] ?_
        refine .kp [2] ?_
        refine .su [] (mk 41 [(2, .nils)]) [] ?_
        refine .coerce [0, 0, 54] ?_
        refine .retH F38 (v := V.d (D.list 7 [])) (by kernel_rfl) (by kernel_rfl) ?_
        exact hq1 (by simp [DOp.ok]; intros; omega)
      · rw [h2]
        simp only [bsX] at h2
        refine .sg0 6 [0, 2, 4, 10, 11, 12, 13, 14, 15, 16, 17, 18, 19, 20, 21, 22, 23, 24, 25, 26] (cgo 51 [true] [.code B38]) [(21, .ptr 0 0 2), (22, .d (.str o.b)), (23, .d (.int .i64 (↑o.b.size : Int))), (24, .d (.bool (decide ((↑o.b.size : Int) > 300)))), (25, .d (.bool (decide ((↑o.b.size : Int) > 300)))), (26, .d (.bool (decide ((↑o.b.size : Int) > 300))))] ?_
        rcases Bool.eq_false_or_eq_true (decide ((↑o.b.size : Int) > 300)) with h3 | h3
        · rw [h3]
          simp only [bsX] at h3
          refine .sg0 18 [0, 2, 4, 10, 11, 12, 13, 14, 15, 16, 17, 18, 19, 20, 21, 22, 23, 24, 25, 26, 27, 28, 29, 30, 31, 32, 33, 34, 35, 36, 37, 38] (cgo 69 [true, true] [.code B38]) [(27, .tuple []), (28, .tuple []), (29, .tuple []), (30, .tuple []), (31, .d (.bool true)), (32, .d (.bool true)), (33, .tuple []), (34, .tuple []), (35, .tuple []), (36, .tuple []), (37, .tuple []), (38, .d (.bool true))] ?_
          refine .kp [2] ?_
          refine .su [] (mk 41 [(2, .nils)]) [] ?_
          refine .coerce [0, 0, 54] ?_
          refine .retH F38 (v := V.d (D.list 7 [])) (by kernel_rfl) (by kernel_rfl) ?_
          exact hq1 (by simp [DOp.ok]; intros; omega)
        · rw [h3]
          simp only [bsX] at h3
          refine .sg0 6 [0, 2, 4, 10, 11, 12, 13, 14, 15, 16, 17, 18, 19, 20, 21, 22, 23, 24, 25, 26, 27, 28, 29, 30, 31, 32] (cgo 57 [true] [.code B38]) [(27, .ptr 0 0 3), (28, .d (.list 1 (map u8 o.data))), (29, .d (.int .i64 (↑(map u8 o.data).length : Int))), (30, .d (.bool (decide ((↑(map u8 o.data).length : Int) > 300)))), (31, .d (.bool (decide ((↑(map u8 o.data).length : Int) > 300)))), (32, .d (.bool (decide ((↑(map u8 o.data).length : Int) > 300))))] ?_
          simp only [List.length_map]
          rcases Bool.eq_false_or_eq_true (decide ((↑o.data.length : Int) > 300)) with h4 | h4
          · rw [h4]
            simp only [bsX] at h4
            refine .sg0 12 [0, 2, 4, 10, 11, 12, 13, 14, 15, 16, 17, 18, 19, 20, 21, 22, 23, 24, 25, 26, 27, 28, 29, 30, 31, 32, 33, 34, 35, 36, 37, 38] (cgo 69 [true, true] [.code B38]) [(33, .tuple []), (34, .tuple []), (35, .tuple []), (36, .tuple []), (37, .tuple []), (38, .d (.bool true))] ?_
            refine .kp [2] ?_
            refine .su [] (mk 41 [(2, .nils)]) [] ?_
            refine .coerce [0, 0, 54] ?_
            refine .retH F38 (v := V.d (D.list 7 [])) (by kernel_rfl) (by kernel_rfl) ?_
            exact hq1 (by simp [DOp.ok]; intros; omega)
          · rw [h4]
            simp only [bsX] at h4
            refine .sg0 7 [0, 2, 4, 10, 11, 12, 13, 14, 15, 16, 17, 18, 19, 20, 21, 22, 23, 24, 25, 26, 27, 28, 29, 30, 31, 32, 33, 34, 35, 36, 37, 38] (cgo 64 [true] [.code B38]) [(33, .ptr 0 0 5), (34, .ptr 0 0 6), (35, .d (.list 1 (map intD o.keep))), (36, .d (.int .i64 (↑(map intD o.keep).length : Int))), (37, .d (.bool (decide ((↑(map intD o.keep).length : Int) > 300)))), (38, .d (.bool (decide ((↑(map intD o.keep).length : Int) > 300))))] ?_
            simp only [List.length_map]
            refine .if' (decide ((↑o.keep.length : Int) > 300)) (cgo 65 [true, true] [.code B38]) (cgo 65 [true, false] [.code B38]) (fun h5 => ?_) (fun h5 => ?_)
            · simp only [bsX] at h5
              refine .sg0 4 [0, 2, 4, 10, 11, 12, 13, 14, 15, 16, 17, 18, 19, 20, 21, 22, 23, 24, 25, 26, 27, 28, 29, 30, 31, 32, 33, 34, 35, 36, 37, 38] (cgo 69 [true, true] [.code B38]) [] ?_
              refine .kp [2] ?_
              refine .su [] (mk 41 [(2, .nils)]) [] ?_
              refine .coerce [0, 0, 54] ?_
              refine .retH F38 (v := V.d (D.list 7 [])) (by kernel_rfl) (by kernel_rfl) ?_
              exact hq1 (by simp [DOp.ok]; intros; omega)
            · simp only [bsX] at h5
              refine .sg0 6 [0, 2, 4, 10, 11, 12, 13, 14, 15, 16, 17, 18, 19, 20, 21, 22, 23, 24, 25, 26, 27, 28, 29, 30, 31, 32, 33, 34, 35, 36, 37, 38, 39] (cgo 71 [true, false] [.code B38]) [(12, .d (.int .i64 (IntKind.i64.wrap ((↑i : Int) + 1)))), (39, .d (.int .i64 (IntKind.i64.wrap ((↑i : Int) + 1))))] ?_
              simp only [List.length_map]
              simp (disch := omega) only [wrap_i64, wrap_u64s, wrap_u32s, wrap_u8s, wrap_i32s, iadd_i64, isub_i64, irem_n, iquo_n, tdiv_nn, tmod_nn]
              refine .kp [0, 2, 10, 11, 12] ?_
              refine .su [] (mk 41 [(0, .d (.list 7 (l.map dopD))), (2, .nils), (10, .d (.list 7 (l.map dopD))), (11, .d (.int .i64 (l.length : Nat))), (12, .d (.int .i64 ((i + 1 : Nat) : Int)))]) [] ?_
              exact .seg 1 [0, 2, 10, 11, 12] (by kernel_rfl) (ih (by simp [DOp.ok]; omega))
    · simp only [bsX] at h1
      omega
theorem spec_38 (l : List DOp) (hl : l.length ≤ 9223372036854775807) : Br.Pure Try.prog 38 [.d (.list 7 (l.map dopD))] (.d (.list 7 ((cutD l).map dopD))) := by
  refine CallsA.pure ?_ rfl
  refine CallsA.start F38 (tm := mk (Try.f38.ntmps) [(0, .d (.list 7 (l.map dopD)))]) (by kernel_rfl) ?_
  refine .sg0 10 [0, 2, 5, 6, 7, 8] (cgo 10 [] [.code B38]) [(2, .nils), (5, .d (.list 7 (map dopD l))), (6, .d (.list 7 (map dopD l))), (7, .d (.int .i64 (↑(map dopD l).length : Int))), (8, .d (.int .i64 (if 60 < (↑(map dopD l).length : Int) then 60 else (↑(map dopD l).length : Int))))] ?_
  simp only [List.length_map]
  refine .op' (cgo 11 [] [.code B38]) (slData_ok (t := 54) (x := (.tmp 5)) (lo := none) (hi := (some (.tmp 8))) (sz := 7) (xs := map dopD l) (0) ((if 60 < (↑l.length : Int) then 60 else (↑l.length : Int)).toNat) (by kernel_rfl) (by kernel_rfl) (by kernel_rfl) rfl (bnd_some (k := IntKind.i64) (i := if 60 < (↑l.length : Int) then 60 else (↑l.length : Int)) (by kernel_rfl) (by omega) (by rfl)) (by omega) (by simp <;> omega)) ?_
  simp only [List.take_length, List.drop_zero, ← List.map_take, ← List.map_drop]
  refine .sg0 10 [0, 2, 10, 11, 12] (cgo 21 [] [.code B38]) [(0, .d (.list 7 (map dopD (List.take (if 60 < (↑l.length : Int) then 60 else (↑l.length : Int)).toNat l)))), (10, .d (.list 7 (map dopD (List.take (if 60 < (↑l.length : Int) then 60 else (↑l.length : Int)).toNat l)))), (11, .d (.int .i64 (↑(map dopD (List.take (if 60 < (↑l.length : Int) then 60 else (↑l.length : Int)).toNat l)).length : Int))), (12, .d (.int .i64 0))] ?_
  simp only [List.length_map]
  have e : l.take (if (60 : Int) < (l.length : Nat) then (60 : Int) else (l.length : Nat)).toNat = l.take 60 := by
    split
    · rfl
    · rename_i h; rw [Int.toNat_natCast, List.take_length, List.take_of_length_le (by omega)]
  rw [e]
  refine .seg 1 [0, 2, 10, 11, 12] (by kernel_rfl) (lo38 (l.take 60) (by rw [List.length_take]; omega) _ (fun h => ?_) (fun h => ?_) (l.take 60).length 0 (by omega) (by simp))
  · obtain ⟨o, h1, h2⟩ := h
    have e2 : cutD l = [] := if_neg (by rw [List.all_eq_true]; intro h3; rw [h3 o h1] at h2; cases h2)
    rw [e2]; rfl
  · have e2 : cutD l = l.take 60 := if_pos (by rw [List.all_eq_true]; exact h)
    rw [e2]
end Go.Proofs.Ytoelkgbeefoplaa
