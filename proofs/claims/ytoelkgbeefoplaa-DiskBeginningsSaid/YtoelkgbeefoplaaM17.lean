/- Part 17 of this proof. -/
import Derived.Test.YtoelkgbeefoplaaM16
set_option linter.unusedSimpArgs false
set_option linter.unusedVariables false
set_option linter.constructorNameAsVariable false
namespace Go.Proofs.Ytoelkgbeefoplaa
open Go Go.Br Go.Proofs
open List (map)
noncomputable def B86 : Code := (Try.f86.body).getD .skip
noncomputable def G86 (n l) := cgo n l [.code B86]
theorem F86 : Fnc Try.prog 86 Try.f86 B86 := ⟨Try.func86, by kernel_rfl, by kernel_rfl⟩
theorem lo86 (bs : List UInt8) (hl : bs.length < 1000000000) : ∀ (m i : Nat), i + m = bs.length →
    AW Try.prog 86 none 0 (G86 24 [false]) (mk 26 [(0, .d (.list 1 (bs.map u8))), (1, .d (.list 1 (bs.map u8))), (4, .d (.bool false)), (12, .d (.int .i64 (bs.length : Nat))), (13, .d (.int .i64 (i : Nat)))]) [] [] fun r σ' => r = .ret (.d (.bool true)) ∧ σ' = [] := by
  intro m
  induction m with
  | zero =>
    intro i hi
    have hi : i = bs.length := by omega
    subst hi
    refine .sge 5 [0, 1, 4, 12, 13, 14] (G86 29 [false]) ?_
    refine .if' (decide ((↑bs.length : Int) < (↑bs.length : Int))) (G86 30 [false, true]) (G86 30 [false, false]) (fun h1 => ?_) (fun h1 => ?_)
    · simp only [bsX] at h1
      omega
    · simp only [bsX] at h1
      refine .sge 5 [4] (cgo 35 [false, false] [.code B86]) ?_
      refine .rt F86 (V.d (D.bool true)) ?_
      exact ⟨rfl, by kernel_rfl⟩
  | succ m ih =>
    intro i hi
    obtain ⟨b, hb⟩ := get_some (l := bs) (i := i) (by omega)
    have ih := ih (i + 1) (by omega)
    refine .sge 5 [0, 1, 4, 12, 13, 14] (G86 29 [false]) ?_
    refine .if' (decide ((↑i : Int) < (↑bs.length : Int))) (G86 30 [false, true]) (G86 30 [false, false]) (fun h1 => ?_) (fun h1 => ?_)
    · simp only [bsX] at h1
      refine .sge 9 [0, 1, 4, 5, 12, 13, 14, 15] (G86 39 [false, true]) ?_
      refine .dr (G86 40 [false, true]) [(16, .d (.list 1 (map u8 bs))), (17, .d (.int .i64 (↑i : Int))), (18, .ep 1 (D.int IntKind.u8 (↑b.toNat : Int)) 0), (19, .d (.int .u8 (↑b.toNat : Int))), (20, .d (.list 1 (map u8 bs))), (21, .d (.int .i64 (↑i : Int))), (22, .ep 1 (D.int IntKind.u8 (↑b.toNat : Int)) 0), (23, .d (.int .u8 (↑b.toNat : Int))), (24, .d (.bool ((↑b.toNat : Int) != (↑b.toNat : Int))))] [] (fun kz L hL => ?_) ?_
      · refine ⟨[nF, nF, nF, nF, nF, nF, nF, nF, nF], run_amongF hL _ [] [0, 1, 2, 3, 4, 5, 6, 7, 8] (by intro p hp; cases hp) (by kernel_rfl) ?_⟩
        refine Run.ap [0, 1] [(16, .d (.list 1 (map u8 bs))), (17, .d (.int .i64 (↑i : Int)))] [] ?_
        refine Run.lk 2 (.ep 1 (D.int IntKind.u8 (↑b.toNat : Int)) 0) [(.tmp 16), (.tmp 17)] (fun tm' σ2 hv hr => ixData_ok (t := 22) (x := (.tmp 16)) (i := (.tmp 17)) (k := IntKind.i64) (n := (↑i : Int)) (sz := 1) (xs := map u8 bs) (d := u8 b) (by kernel_rfl) (evl hv) (evv hv) (by kernel_rfl) (by omega) (map_get hb)) ?_
        refine Run.ap [3, 4, 5] [(19, .d (.int .u8 (↑b.toNat : Int))), (20, .d (.list 1 (map u8 bs))), (21, .d (.int .i64 (↑i : Int)))] [] ?_
        refine Run.lk 6 (.ep 1 (D.int IntKind.u8 (↑b.toNat : Int)) 0) [(.tmp 20), (.tmp 21)] (fun tm' σ2 hv hr => ixData_ok (t := 22) (x := (.tmp 20)) (i := (.tmp 21)) (k := IntKind.i64) (n := (↑i : Int)) (sz := 1) (xs := map u8 bs) (d := u8 b) (by kernel_rfl) (evl hv) (evv hv) (by kernel_rfl) (by omega) (map_get hb)) ?_
        exact Run.fin
      refine .if' ((↑b.toNat : Int) != (↑b.toNat : Int)) (G86 41 [false, true, true]) (G86 41 [false, true, false]) (fun h2 => ?_) (fun h2 => ?_)
      · simp only [bsX] at h2
        simp_all
      · simp only [bsX] at h2
        refine .sg0 6 [0, 1, 4, 5, 12, 13, 14, 15, 16, 17, 18, 19, 20, 21, 22, 23, 24, 25] (G86 47 [false, true, false]) [(13, .d (.int .i64 (IntKind.i64.wrap ((↑i : Int) + 1)))), (25, .d (.int .i64 (IntKind.i64.wrap ((↑i : Int) + 1))))] ?_
        simp (disch := omega) only [bsW]
        refine .kp [0, 1, 4, 12, 13] ?_
        exact .seg 1 [0, 1, 4, 12, 13] (by kernel_rfl) ih
    · simp only [bsX] at h1
      omega
theorem spec_86 (bs : List UInt8) (hl : bs.length < 1000000000) : Br.Pure Try.prog 86 [.d (.list 1 (bs.map u8)), .d (.list 1 (bs.map u8))] (.d (.bool true)) := by
 refine CallsA.start F86 (tm := mk (Try.f86.ntmps) [(0, .d (.list 1 (bs.map u8))), (1, .d (.list 1 (bs.map u8)))]) (by kernel_rfl) ?_
 refine .sg0 13 [0, 1, 4, 10] (G86 13 []) [(4, .d (.bool false)), (10, .d (.bool ((↑(map u8 bs).length : Int) != (↑(map u8 bs).length : Int))))] ?_
 simp only [List.length_map]
 refine .if' ((↑bs.length : Int) != (↑bs.length : Int)) (G86 14 [true]) (G86 14 [false]) (fun h1 => ?_) (fun h1 => ?_)
 · simp only [bsX] at h1
   simp_all
 · simp only [bsX] at h1
   refine .seg 9 [0, 1, 4, 12, 13] (T' := cgo 23 [false] [.code B86]) (tm' := mk 26 [(0, .d (.list 1 (map u8 bs))), (1, .d (.list 1 (map u8 bs))), (4, .d (.bool false)), (12, .d (.int .i64 (↑(map u8 bs).length : Int))), (13, .d (.int .i64 0))]) (σ' := []) (by kernel_rfl) ?_
   simp only [List.length_map]
   exact .seg 1 [0, 1, 4, 12, 13] (by kernel_rfl) (lo86 bs hl bs.length 0 (by omega))
noncomputable def B50 : Code := (Try.f50.body).getD .skip
noncomputable def G50 (n l) := cgo n l [.code B50]
theorem F50 : Fnc Try.prog 50 Try.f50 B50 := ⟨Try.func50, by kernel_rfl, by kernel_rfl⟩
noncomputable def S50 (d e : Dk) (st : LoopState) : Store := [.cells [.row 1, .ptr 2 0 0, .ep 2 (dirD d.sk d.sv) 0, .row 5, .d (.int .i64 d.quota), .d (.bool d.full), .d (.bool d.off), .d (.int .i64 d.stop), .d (.int .i64 d.calls)],
  .row 2 (d.files.map fileD) false, .cells [.row 3, .row 4], .row 1 (d.nk.map strD) false, .row 1 (d.nv.map intD) false, .row 3 (d.ch.map chD) false,
  .cells [.row 7, .ptr 8 0 0, .ep 2 (dirD e.sk e.sv) 0, .row 11, .d (.int .i64 e.quota), .d (.bool e.full), .d (.bool e.off), .d (.int .i64 e.stop), .d (.int .i64 e.calls)],
  .row 2 (e.files.map fileD) false, .cells [.row 9, .row 10], .row 1 (e.nk.map strD) false, .row 1 (e.nv.map intD) false, .row 3 (e.ch.map chD) false,
  .cells [.ptr 6 0 0], .row 1 [.bool true] false, .cells [.ptr 0 0 0], .defd, lp (G50 26 [false]) 50 (mk 51 [(3, V.ptr 12 0 0), (5, V.ptr 13 0 0), (31, V.fn (Fn.func 104) [] [V.ptr 14 0 0])]) st]
noncomputable def S50d (d e : Dk) (i : Nat) (st : LoopState) : Store := [.cells [.row 1, .ptr 2 0 0, .ep 2 (dirD d.sk d.sv) 0, .row 5, .d (.int .i64 d.quota), .d (.bool d.full), .d (.bool d.off), .d (.int .i64 d.stop), .d (.int .i64 d.calls)],
  .row 2 (d.files.map fileD) false, .cells [.row 3, .row 4], .row 1 (d.nk.map strD) false, .row 1 (d.nv.map intD) false, .row 3 (d.ch.map chD) false,
  .cells [.row 7, .ptr 8 0 0, .ep 2 (dirD e.sk e.sv) 0, .row 11, .d (.int .i64 e.quota), .d (.bool e.full), .d (.bool e.off), .d (.int .i64 e.stop), .d (.int .i64 e.calls)],
  .row 2 (e.files.map fileD) false, .cells [.row 9, .row 10], .row 1 (e.nk.map strD) false, .row 1 (e.nv.map intD) false, .row 3 (e.ch.map chD) false,
  .cells [.ptr 6 0 0], .row 1 [.bool true] false, .cells [.ptr 0 0 0], .defd, lp (G50 26 [false]) 50 (mk 51 [(3, V.ptr 12 0 0), (5, V.ptr 13 0 0), (31, V.fn (Fn.func 104) [] [V.ptr 14 0 0])]) .ready] ++ [.cells [.row 20], .cells [.ptr 2 0 0], .cells [.fn (.func 98) [] []], .row 2 ((allF d).take i) true, .defd, lp (G104 22 [false]) 104 (mk 45 [(0, V.yield 16), (1, V.ptr 14 0 0), (3, V.ptr 17 0 0), (14, V.fn (Fn.func 109) [] [V.ptr 18 0 0, V.ptr 19 0 0])]) st]
noncomputable def S50x (d e : Dk) (st : LoopState) : Store := [.cells [.row 1, .ptr 2 0 0, .ep 2 (dirD d.sk d.sv) 0, .row 5, .d (.int .i64 d.quota), .d (.bool d.full), .d (.bool d.off), .d (.int .i64 d.stop), .d (.int .i64 d.calls)],
  .row 2 (d.files.map fileD) false, .cells [.row 3, .row 4], .row 1 (d.nk.map strD) false, .row 1 (d.nv.map intD) false, .row 3 (d.ch.map chD) false,
  .cells [.row 7, .ptr 8 0 0, .ep 2 (dirD e.sk e.sv) 0, .row 11, .d (.int .i64 e.quota), .d (.bool e.full), .d (.bool e.off), .d (.int .i64 e.stop), .d (.int .i64 e.calls)],
  .row 2 (e.files.map fileD) false, .cells [.row 9, .row 10], .row 1 (e.nk.map strD) false, .row 1 (e.nv.map intD) false, .row 3 (e.ch.map chD) false,
  .cells [.ptr 6 0 0], .row 1 [.bool true] false, .cells [.ptr 0 0 0], .defd, lp (G50 26 [false]) 50 (mk 51 [(3, V.ptr 12 0 0), (5, V.ptr 13 0 0), (31, V.fn (Fn.func 104) [] [V.ptr 14 0 0])]) st] ++ [.cells [.d (.list 2 ((d.nk.zip d.nv).map (afD d)))], .cells [.ptr 2 0 0], .cells [.fn (.func 98) [] []], .dead, .defd, lp (G104 22 [false]) 104 (mk 45 [(0, V.yield 16), (1, V.ptr 14 0 0), (3, V.ptr 17 0 0), (14, V.fn (Fn.func 109) [] [V.ptr 18 0 0, V.ptr 19 0 0])]) .exhausted]
noncomputable def S50y (d e : Dk) (st : LoopState) (x : ByteArray) (b : List UInt8) : Store := S50x d e st ++ [.cells [.d (.str x), .d (.list 1 (b.map u8))]]
noncomputable def R50 : List Item := [.code (rfAs (G50 26 [false])), .beginRound, .code (rfBd (G50 26 [false]))]
theorem body104s (d e : Dk) (N : Nat) (h : d.Ok N) (i : Nat) (x : ByteArray) (v : Int) (hx : d.nk[i]? = some x) (hy : d.nv[i]? = some v) :
   AW Try.prog 104 (some 22) 23 R104 (mk 45 [(0, V.yield 16), (1, V.ptr 14 0 0), (3, V.ptr 17 0 0), (14, V.fn (Fn.func 109) [] [V.ptr 18 0 0, V.ptr 19 0 0]), (15, .d (.str x)), (16, .d (.int .i64 v))]) (S50d d e i .ready) [] fun a σ' => a = .ret (.d (.bool true)) ∧ σ' = S50d d e (i + 1) .ready := by
 refine .at (T' := cgo 0 [] R104) rfl ?_
 have hi := (List.getElem?_eq_some_iff.1 hx).1
 have hv := h.nn v (List.mem_of_getElem? hy)
 have hlt : v.toNat < d.files.length := by omega
 obtain ⟨f, hf⟩ := get_some (l := d.files) (i := v.toNat) hlt
 have hm := h.fs f (List.mem_of_getElem? hf)
 have hb := h.nkl
 have hc := h.nb
 have hv1 := hv.1
 have hv2 := hv.2
 have hff : d.file v.toNat = f := by simp [Dk.file, List.getD_eq_getElem?_getD, hf]
 have hg := allF_get hx hy
 rw [hff] at hg
 have hsn := take_snoc hg
 have hal : ((allF d).take i).length ≤ 60000 := by rw [List.length_take]; omega
 have hfl : f.1.length ≤ 140737488355000 := by omega
 refine .sg0 7 [0, 1, 3, 4, 5, 14, 15, 16] (cgo 7 [] R104) [(4, .d (.str x)), (5, .d (.int .i64 v))] ?_
 refine .beginL (T0 := cgo 22 [false] [Item.code B104]) (fn := 104) (tml := (mk 45 [(0, V.yield 16), (1, V.ptr 14 0 0), (3, V.ptr 17 0 0), (14, V.fn (Fn.func 109) [] [V.ptr 18 0 0, V.ptr 19 0 0])])) (by kernel_rfl) (T' := cgo 8 [] R104) (by kernel_rfl) (σ' := (SP 1 2 d false [.cells (hC 7 8 11 e), .row 2 (map fileD e.files) false, .cells [.row 9, .row 10], .row 1 (map strD e.nk) false, .row 1 (map intD e.nv) false, .row 3 (map chD e.ch) false, .cells [.ptr 6 0 0], .row 1 [D.bool true] false, .cells [.ptr 0 0 0], .defd, lp (G50 26 [false]) 50 (mk 51 [(3, .ptr 12 0 0), (5, .ptr 13 0 0), (31, .fn (Fn.func 104) [] [.ptr 14 0 0])]) LoopState.ready, .cells [.row 20], .cells [.ptr 2 0 0], .cells [.fn (Fn.func 98) [] []], .row 2 (List.take i (allF d)) true, .defd, lp (G104 22 [false]) 104 (mk 45 [(0, V.yield 16), (1, .ptr 14 0 0), (3, .ptr 17 0 0), (14, .fn (Fn.func 109) [] [.ptr 18 0 0, .ptr 19 0 0])]) LoopState.busy])) (by kernel_rfl) (by kernel_rfl) ?_
 refine .sg0 1 [1, 3, 4, 5] (cgo 9 [] R104) [] ?_
 refine .newVirt 2 ?_
 refine .dr (cgo 10 [] R104) [(18, .d (.str x)), (19, .ptr 0 0 0), (20, .ptr 0 0 0), (21, .ptr 0 0 0), (22, .row 1), (23, .d (.int .i64 v)), (24, .ptr 1 v.toNat 0), (25, .ptr 1 v.toNat 0), (26, .d (.list 1 (map u8 f.fst))), (27, .d (.list 1 (map u8 f.fst))), (28, .d (.agg [D.str x, D.list 1 (map u8 f.fst)])), (29, .row 23), (30, .row 20)] [(20, .row 2 (List.take i (allF d) ++ [D.agg [D.str x, D.list 1 (map u8 f.fst)]]) true), (23, .row 2 [D.agg [D.str x, D.list 1 (map u8 f.fst)]] true)] (fun kz L hL => ?_) ?_
 · refine ⟨[fB 17 20, nF, fB 14 0, fA 0, fA 0, fX [0] [] [] [1] [0, 1, 2, 5], nF, fX [1] [] [] [1] [1], fA 1, fR 1, nF, nF, fX [23] [23] [23] [23] [], fX [20, 23] [20] [20] [20] [20, 23], ⟨[17], [17], [], [20], [17, 20], [], false, false⟩], run_amongF hL _ [] [0, 1, 2, 3, 4, 5, 6, 7, 8, 9, 10, 11, 12, 13, 14] (by intro p hp; cases hp) (by kernel_rfl) ?_⟩
   refine Run.ap [0, 1, 2, 3, 4, 5, 6] [(17, .row 20), (18, .d (.str x)), (19, .ptr 0 0 0), (20, .ptr 0 0 0), (21, .ptr 0 0 0), (22, .row 1), (23, .d (.int .i64 v))] [] ?_
   refine Run.lk 7 (.ptr 1 v.toNat 0) [(.tmp 22), (.tmp 23)] (fun tm' σ2 hv hr => ixRow_ok (t := 105) (x := (.tmp 22)) (i := (.tmp 23)) (k := IntKind.i64) (n := v) (l := 1) (sz := 2) (xs := map fileD d.files) (mv := false) (by kernel_rfl) (evv hv) (evv hv) (atr hr) (by kernel_rfl) (by assumption) (by simp <;> omega)) ?_
   refine Run.ap [8] [(25, .ptr 1 v.toNat 0)] [] ?_
   refine Run.lk 9 (.d (.list 1 (map u8 f.fst))) [(.tmp 25)] (fun tm' σ2 hv hr => ldRow_ok (t := 22) (x := (.tmp 25)) (l := 1) (i := v.toNat) (s := 0) (sz := 2) (xs := map fileD d.files) (mv := false) (d := fileD f) (v := .d (.list 1 (map u8 f.fst))) (by kernel_rfl) (evv hv) (atr hr) (map_get hf) (by kernel_rfl)) ?_
   refine Run.one (StepF.data (o := ((drawOf (cgo 9 [] R104))[10]?).getD default) (v := .d (.list 1 (map u8 f.fst))) (by kernel_rfl) rfl (by kernel_rfl) (by kernel_rfl) (by kernel_rfl) (fun s => sem_data0 (x := (.func 61)) (args := #[(.tmp 26)]) (ts := #[22]) (first := []) (cap := []) (ds := [.d (.list 1 (map u8 f.fst))]) (v := .d (.list 1 (map u8 f.fst))) F61 (@spec_61 (f.fst) (by assumption)) (by kernel_rfl) (by kernel_rfl) (by kernel_rfl) (by kernel_rfl) (by kernel_rfl) (by kernel_rfl) _)) ?_
   refine Run.ap [11] [(28, .d (.agg [D.str x, D.list 1 (map u8 f.fst)]))] [] ?_
   refine Run.one (StepF.build (o := ((drawOf (cgo 9 [] R104))[12]?).getD default) (t := 160) (len := 1) (parts := #[(0, (.tmp 28))]) (l := 23) (ds := [D.agg [D.str x, D.list 1 (map u8 f.fst)]]) (sz := 2) (mv := false) (by kernel_rfl) rfl (by kernel_rfl) (by kernel_rfl) (by kernel_rfl) (by kernel_rfl) (by kernel_rfl) (by kernel_rfl) (by kernel_rfl) (by kernel_rfl)) ?_
   refine Run.one (StepF.moves (o := ((drawOf (cgo 9 [] R104))[13]?).getD default) (v := .row 20) [(.tmp 17), (.tmp 29)] 20 (.row 2 (List.take i (allF d) ++ [D.agg [D.str x, D.list 1 (map u8 f.fst)]]) true) (by kernel_rfl) rfl (by kernel_rfl) (by kernel_rfl) (by kernel_rfl) (by kernel_rfl) (by kernel_rfl) (by kernel_rfl) (fun tm' σ2 hv hr => appRow_ok (s := (.tmp 17)) (x := (.tmp 29)) (t := 160) (t2 := 160) (sz := 2) (by' := 40) (ys := [D.agg [D.str x, D.list 1 (map u8 f.fst)]]) (l := 20) (xs := List.take i (allF d)) (mv := true) (by kernel_rfl) (evv hv) (atr hr) (by rw [hv _ (by simp)]; exact (cont_at fun l hl => hr l (subB_in (by kernel_rfl) hl)).trans (by kernel_rfl)) (by kernel_rfl) (by kernel_rfl) (by simp <;> omega) (by first | (simp [maxLen] <;> omega) | omega))) ?_
   exact Run.fin
 refine .sg0 1 [] (cgo 11 [] R104) [] ?_
 refine .kp [] ?_
 refine .sub [0, 1, 2, 3, 4, 5, 6, 7, 8, 9, 10, 11, 12, 13, 14, 15, 16, 17, 18, 19, 20, 21, 22] (mk 45 []) (SP 1 2 d false [.cells (hC 7 8 11 e), .row 2 (map fileD e.files) false, .cells [.row 9, .row 10], .row 1 (map strD e.nk) false, .row 1 (map intD e.nv) false, .row 3 (map chD e.ch) false, .cells [.ptr 6 0 0], .row 1 [D.bool true] false, .cells [.ptr 0 0 0], .defd, lp (G50 26 [false]) 50 (mk 51 [(3, .ptr 12 0 0), (5, .ptr 13 0 0), (31, .fn (Fn.func 104) [] [.ptr 14 0 0])]) LoopState.ready, .cells [.row 20], .cells [.ptr 2 0 0], .cells [.fn (Fn.func 98) [] []], .row 2 (List.take i (allF d) ++ [D.agg [D.str x, D.list 1 (map u8 f.fst)]]) true, .defd, lp (G104 22 [false]) 104 (mk 45 [(0, V.yield 16), (1, .ptr 14 0 0), (3, .ptr 17 0 0), (14, .fn (Fn.func 109) [] [.ptr 18 0 0, .ptr 19 0 0])]) LoopState.busy]) (some 22) [] ⟨rfl, rfl, by kernel_rfl⟩ (by kernel_rfl) ⟨Nat.le_of_ble_eq_true (by kernel_rfl), by kernel_rfl⟩ (by kernel_rfl) ⟨by kernel_rfl, by kernel_rfl⟩ ⟨by kernel_rfl, by kernel_rfl⟩ ?_
 refine .roundEndL (T0 := cgo 22 [false] [Item.code B104]) (fn := 104) (tml := (mk 45 [(0, V.yield 16), (1, V.ptr 14 0 0), (3, V.ptr 17 0 0), (14, V.fn (Fn.func 109) [] [V.ptr 18 0 0, V.ptr 19 0 0])])) (st := LoopState.busy) (by kernel_rfl) (by kernel_rfl) (σ' := (SP 1 2 d false [.cells (hC 7 8 11 e), .row 2 (map fileD e.files) false, .cells [.row 9, .row 10], .row 1 (map strD e.nk) false, .row 1 (map intD e.nv) false, .row 3 (map chD e.ch) false, .cells [.ptr 6 0 0], .row 1 [D.bool true] false, .cells [.ptr 0 0 0], .defd, lp (G50 26 [false]) 50 (mk 51 [(3, .ptr 12 0 0), (5, .ptr 13 0 0), (31, .fn (Fn.func 104) [] [.ptr 14 0 0])]) LoopState.ready, .cells [.row 20], .cells [.ptr 2 0 0], .cells [.fn (Fn.func 98) [] []], .row 2 (List.take i (allF d) ++ [D.agg [D.str x, D.list 1 (map u8 f.fst)]]) true, .defd, lp (G104 22 [false]) 104 (mk 45 [(0, V.yield 16), (1, .ptr 14 0 0), (3, .ptr 17 0 0), (14, .fn (Fn.func 109) [] [.ptr 18 0 0, .ptr 19 0 0])]) LoopState.ready])) (by kernel_rfl) ?_
 refine ⟨rfl, ?_⟩
 unfold S50d
 rw [← hsn]
 rfl
theorem lo104s (d e : Dk) (N : Nat) (h : d.Ok N) (hl : d.nk.length < 60000) (hv : d.nv.length = d.nk.length) : ∀ (m i : Nat), i + m = (d.nk).length →
    AW Try.prog 109 none 23 (G109 24 [false]) (mk 43 [(0, V.yield 22), (5, V.d (.list 1 ((d.nk).map strD))), (6, V.d (.list 1 ((d.nv).map intD))), (27, V.d (.int .i64 ((d.nk).length : Nat))), (28, V.d (.int .i64 (i : Nat)))]) (S50d d e i .ready) [] fun r σ' => r = .ret (.tuple []) ∧ σ' = S50d d e (d.nk).length .ready := by
  intro m
  induction m with
  | zero =>
    intro i hi
    have hi : i = (d.nk).length := by omega
    subst hi
    refine .sge 5 [0, 5, 6, 27, 28, 29] (G109 29 [false]) ?_
    refine .if' (decide ((↑d.nk.length : Int) < (↑d.nk.length : Int))) (G109 30 [false, true]) (G109 30 [false, false]) (fun h1 => ?_) (fun h1 => ?_)
    · simp only [bsX] at h1
      omega
    · simp only [bsX] at h1
      refine .sge 1 [] (cgo 31 [false, false] [.code B109]) ?_
      refine .rt F109 (V.tuple []) ?_
      exact ⟨rfl, by kernel_rfl⟩
  | succ m ih =>
    intro i hi
    obtain ⟨x, hx⟩ := get_some (l := d.nk) (i := i) (by omega)
    obtain ⟨v, hy⟩ := get_some (l := d.nv) (i := i) (by omega)
    have hYi := body104s d e N h i x v hx hy
    refine .sge 5 [0, 5, 6, 27, 28, 29] (G109 29 [false]) ?_
    refine .if' (decide ((↑i : Int) < (↑d.nk.length : Int))) (G109 30 [false, true]) (G109 30 [false, false]) (fun h1 => ?_) (fun h1 => ?_)
    · simp only [bsX] at h1
      refine .sge 9 [0, 5, 6, 7, 27, 28, 29, 30] (G109 39 [false, true]) ?_
      refine .dr (G109 40 [false, true]) [(31, .yield 22), (32, .d (.list 1 (map strD d.nk))), (33, .d (.int .i64 (↑i : Int))), (34, .ep 1 (D.str x) 0), (35, .d (.str x)), (36, .d (.list 1 (map intD d.nv))), (37, .d (.int .i64 (↑i : Int))), (38, .ep 1 (D.int IntKind.i64 v) 0), (39, .d (.int .i64 v)), (40, .d (.bool true)), (41, .d (.bool false))] [(20, .row 2 (List.take (i + 1) (allF d)) true)] (fun kz L hL => ?_) ?_
      · refine ⟨[fO 22, nF, nF, nF, nF, nF, nF, nF, nF, ⟨[], [], [], [], [], [], false, true⟩, nF], run_amongF hL _ [] [0, 1, 2, 3, 4, 5, 6, 7, 8, 9, 10] (by intro p hp; cases hp) (by kernel_rfl) ?_⟩
        refine Run.ap [0, 1, 2] [(31, .yield 22), (32, .d (.list 1 (map strD d.nk))), (33, .d (.int .i64 (↑i : Int)))] [] ?_
        refine Run.lk 3 (.ep 1 (D.str x) 0) [(.tmp 32), (.tmp 33)] (fun tm' σ2 hv hr => ixData_ok (t := 66) (x := (.tmp 32)) (i := (.tmp 33)) (k := IntKind.i64) (n := (↑i : Int)) (sz := 1) (xs := map strD d.nk) (d := strD x) (by kernel_rfl) (evl hv) (evv hv) (by kernel_rfl) (by omega) (map_get hx)) ?_
        refine Run.ap [4, 5, 6] [(35, .d (.str x)), (36, .d (.list 1 (map intD d.nv))), (37, .d (.int .i64 (↑i : Int)))] [] ?_
        refine Run.lk 7 (.ep 1 (D.int IntKind.i64 v) 0) [(.tmp 36), (.tmp 37)] (fun tm' σ2 hv hr => ixData_ok (t := 46) (x := (.tmp 36)) (i := (.tmp 37)) (k := IntKind.i64) (n := (↑i : Int)) (sz := 1) (xs := map intD d.nv) (d := intD v) (by kernel_rfl) (evl hv) (evv hv) (by kernel_rfl) (by omega) (map_get hy)) ?_
        refine Run.ap [8] [(39, .d (.int .i64 v))] [] ?_
        refine Run.yi 9 (cgo 22 [false] [.code B104]) hYi ?_
        exact Run.fin
      refine .sg0 7 [0, 5, 6, 27, 28] (cgo 47 [false, true, false] [.code B109]) [(28, .d (.int .i64 (IntKind.i64.wrap ((↑i : Int) + 1))))] ?_
      simp (disch := omega) only [bsW]
      exact .seg 1 [0, 5, 6, 27, 28] (by kernel_rfl) (ih (i + 1) (by omega))
    · simp only [bsX] at h1
      omega
theorem it104s (d e : Dk) (N : Nat) (h : d.Ok N) : CallsA Try.prog 109 [.yield 22, .ptr 18 0 0, .ptr 19 0 0] (S50d d e 0 .ready) fun r σ' => r = .ret (.tuple []) ∧ σ' = S50d d e (d.nk).length .ready := by
 have hl : d.nk.length < 60000 := by have := h.nkl; have := h.nb; omega
 have hv := h.nl
 refine CallsA.start F109 (tm := mk (Try.f109.ntmps) [(0, .yield 22), (1, .ptr 18 0 0), (2, .ptr 19 0 0)]) (by kernel_rfl) ?_
 refine .sg0 11 [0, 1, 2, 10] (G109 11 [false]) [(10, .fn (Fn.func 98) [] [])] ?_
 refine .cd (G109 12 [false]) F98 (@spec_98) ?_
 refine .sg0 3 [0, 1, 4] (G109 15 [false]) [(4, .d (.int .i64 0))] ?_
 refine .dr (G109 16 [false]) [(5, .d (.list 1 (List.take ((map strD d.nk).length - 0) (List.drop 0 (map strD d.nk))))), (6, .d (.list 1 (List.take ((map intD d.nv).length - 0) (List.drop 0 (map intD d.nv))))), (12, .ptr 2 0 0), (13, .ptr 2 0 0), (14, .ptr 2 0 0), (15, .row 3), (16, .d (.int .i64 0)), (17, .sl 3 0 ((map strD d.nk).length - 0) none), (18, .d (.list 1 (List.take ((map strD d.nk).length - 0) (List.drop 0 (map strD d.nk))))), (19, .ptr 2 0 0), (20, .ptr 2 0 0), (21, .ptr 2 0 1), (22, .row 4), (23, .d (.int .i64 0)), (24, .sl 4 0 ((map intD d.nv).length - 0) none), (25, .d (.list 1 (List.take ((map intD d.nv).length - 0) (List.drop 0 (map intD d.nv)))))] [] (fun kz L hL => ?_) ?_
 · refine ⟨[fB 18 2, fA 2, fA 2, fX [2] [] [] [3] [2, 3, 4], nF, fX [3] [] [] [3] [3], fX [3] [3] [] [] [3], fB 18 2, fA 2, fA 2, fX [2] [] [] [4] [2, 3, 4], nF, fX [4] [] [] [4] [4], fR 4, nF, nF], run_amongF hL _ [] [0, 1, 2, 3, 4, 5, 7, 8, 9, 10, 11, 12, 6, 13, 14, 15] (by intro p hp; cases hp) (by kernel_rfl) ?_⟩
   refine Run.ap [0, 1, 2, 3, 4] [(12, .ptr 2 0 0), (13, .ptr 2 0 0), (14, .ptr 2 0 0), (15, .row 3), (16, .d (.int .i64 0))] [] ?_
   refine Run.lk 5 (.sl 3 0 ((map strD d.nk).length - 0) none) [(.tmp 15), (.tmp 16)] (fun tm' σ2 hv hr => slRow_ok (t := 66) (x := (.tmp 15)) (lo := (some (.tmp 16))) (hi := none) (lc := 3) (sz := 1) (xs := map strD d.nk) (mv := false) (0) ((map strD d.nk).length) (by kernel_rfl) (evv hv) (atr hr) (by kernel_rfl) (bnd_some (k := IntKind.i64) (i := 0) (evv hv) (by omega) (by rfl)) rfl (by omega) (by omega)) ?_
   refine Run.ap [7, 8, 9, 10, 11] [(19, .ptr 2 0 0), (20, .ptr 2 0 0), (21, .ptr 2 0 1), (22, .row 4), (23, .d (.int .i64 0))] [] ?_
   refine Run.lk 12 (.sl 4 0 ((map intD d.nv).length - 0) none) [(.tmp 22), (.tmp 23)] (fun tm' σ2 hv hr => slRow_ok (t := 46) (x := (.tmp 22)) (lo := (some (.tmp 23))) (hi := none) (lc := 4) (sz := 1) (xs := map intD d.nv) (mv := false) (0) ((map intD d.nv).length) (by kernel_rfl) (evv hv) (atr hr) (by kernel_rfl) (bnd_some (k := IntKind.i64) (i := 0) (evv hv) (by omega) (by rfl)) rfl (by omega) (by omega)) ?_
   refine Run.cl 6 [3] F110 (@spec_110b (map strD d.nk) (0) ((map strD d.nk).length - 0) (none) (by omega) (by simp <;> omega)) ?_
   refine Run.cll 13 [4] F111 (@spec_111b (map intD d.nv) (0) ((map intD d.nv).length - 0) (none) (by omega) (by simp <;> omega)) ?_
   exact Run.fin
 refine .seg 7 [0, 5, 6, 27, 28] (T' := cgo 23 [false] [.code B109]) (tm' := mk 43 [(0, .yield 22), (5, .d (.list 1 (List.take ((map strD d.nk).length - 0) (List.drop 0 (map strD d.nk))))), (6, .d (.list 1 (List.take ((map intD d.nv).length - 0) (List.drop 0 (map intD d.nv))))), (27, .d (.int .i64 (↑(List.take ((map strD d.nk).length - 0) (List.drop 0 (map strD d.nk))).length : Int))), (28, .d (.int .i64 0))]) (σ' := (SP 1 2 d false [.cells (hC 7 8 11 e), .row 2 (map fileD e.files) false, .cells [.row 9, .row 10], .row 1 (map strD e.nk) false, .row 1 (map intD e.nv) false, .row 3 (map chD e.ch) false, .cells [.ptr 6 0 0], .row 1 [D.bool true] false, .cells [.ptr 0 0 0], .defd, lp (G50 26 [false]) 50 (mk 51 [(3, .ptr 12 0 0), (5, .ptr 13 0 0), (31, .fn (Fn.func 104) [] [.ptr 14 0 0])]) LoopState.ready, .cells [.row 20], .cells [.ptr 2 0 0], .cells [.fn (Fn.func 98) [] []], .row 2 [] true, .defd, lp (G104 22 [false]) 104 (mk 45 [(0, .yield 16), (1, .ptr 14 0 0), (3, .ptr 17 0 0), (14, .fn (Fn.func 109) [] [.ptr 18 0 0, .ptr 19 0 0])]) LoopState.ready])) (by kernel_rfl) ?_
 simp only [List.length_map]
 rw [eachL (d.nk) strD, eachL (d.nv) intD, List.length_map]
 exact .seg 1 [0, 5, 6, 27, 28] (by kernel_rfl) (lo104s d e N h hl hv (d.nk).length 0 (by omega))
theorem body50 (d e : Dk) (x : ByteArray) (b : List UInt8) (hb : b.length < 1000000000) (hrd : CallsA Try.prog 27 [.ptr 0 0 0, .d (.str x)] (SD e false) fun r σ' => r = .ret (.tuple [.d (.list 1 (b.map u8)), .d (.int .i64 0)]) ∧ σ' = SD e false) :
  AW Try.prog 50 (some 16) 24 R50 (mk 51 [(3, V.ptr 12 0 0), (5, V.ptr 13 0 0), (31, V.fn (Fn.func 104) [] [V.ptr 14 0 0]), (32, .d (.str x)), (33, .d (bsD b))]) (S50y d e .ready x b) [] fun a σ' => a = .ret (.d (.bool true)) ∧ σ' = S50y d e .ready x b := by
 refine .at (T' := cgo 0 [] R50) rfl ?_
 refine .sg0 7 [3, 5, 6, 7, 31, 32, 33] (cgo 7 [] R50) [(6, .d (.str x)), (7, .d (.list 1 (map u8 b)))] ?_
 refine .beginL (T0 := cgo 26 [false] [Item.code B50]) (fn := 50) (tml := (mk 51 [(3, V.ptr 12 0 0), (5, V.ptr 13 0 0), (31, V.fn (Fn.func 104) [] [V.ptr 14 0 0])])) (by kernel_rfl) (T' := cgo 8 [] R50) (by kernel_rfl) (σ' := (SP 1 2 d false [.cells (hC 7 8 11 e), .row 2 (map fileD e.files) false, .cells [.row 9, .row 10], .row 1 (map strD e.nk) false, .row 1 (map intD e.nv) false, .row 3 (map chD e.ch) false, .cells [.ptr 6 0 0], .row 1 [D.bool true] false, .cells [.ptr 0 0 0], .defd, lp (G50 26 [false]) 50 (mk 51 [(3, .ptr 12 0 0), (5, .ptr 13 0 0), (31, .fn (Fn.func 104) [] [.ptr 14 0 0])]) LoopState.busy, .cells [.d (.list 2 (map (afD d) (d.nk.zip d.nv)))], .cells [.ptr 2 0 0], .cells [.fn (Fn.func 98) [] []], O.dead, .defd, lp (G104 22 [false]) 104 (mk 45 [(0, V.yield 16), (1, .ptr 14 0 0), (3, .ptr 17 0 0), (14, .fn (Fn.func 109) [] [.ptr 18 0 0, .ptr 19 0 0])]) LoopState.exhausted, .cells [.d (.str x), .d (.list 1 (map u8 b))]])) (by kernel_rfl) (by kernel_rfl) ?_
 refine .sge 5 [3, 5, 6, 7, 35, 36] (cgo 13 [] R50) ?_
 refine .ca [6, 7, 8, 9, 10, 11] (cgo 14 [] R50) F27 hrd ?_
 rintro r1 s1 ⟨rfl, rfl⟩
 refine ⟨_, rfl, ?_⟩
 clear hrd
 refine .sge 7 [5, 7, 8, 9] (cgo 21 [] R50) ?_
 refine .op' (cgo 22 [] R50) (ldRow_ok (t := 4) (x := (.tmp 5)) (l := 13) (i := 0) (s := 0) (sz := 1) (xs := [D.bool true]) (mv := false) (d := D.bool true) (v := .d (.bool true)) (by kernel_rfl) (by kernel_rfl) (by kernel_rfl) (by kernel_rfl) (by kernel_rfl)) ?_
 refine .sge 7 [5, 7, 8, 9, 40, 41, 42, 43, 44, 45, 46, 47] (cgo 29 [] R50) ?_
 refine .cd (cgo 30 [] R50) F86 (@spec_86 (b) (by assumption)) ?_
 refine .sg0 1 [5, 7, 8, 9, 40, 41, 42, 43, 44, 45, 46, 47, 48, 49] (cgo 31 [] R50) [(49, .d (.bool true))] ?_
 refine .op' (cgo 32 [] R50) (stRow_ok (t := 4) (x := (.tmp 5)) (y := (.tmp 49)) (l := 13) (i := 0) (s := 0) (sz := 1) (xs := [D.bool true]) (mv := false) (d := D.bool true) (d' := D.bool true) (by kernel_rfl) (by kernel_rfl) (by kernel_rfl) (by kernel_rfl) (by kernel_rfl)) ?_
 refine .sg0 2 [] (cgo 34 [] R50) [] ?_
 refine .roundEndL (T0 := cgo 26 [false] [Item.code B50]) (fn := 50) (tml := (mk 51 [(3, V.ptr 12 0 0), (5, V.ptr 13 0 0), (31, V.fn (Fn.func 104) [] [V.ptr 14 0 0])])) (st := LoopState.busy) (by kernel_rfl) (by kernel_rfl) (σ' := (SP 1 2 d false [.cells (hC 7 8 11 e), .row 2 (map fileD e.files) false, .cells [.row 9, .row 10], .row 1 (map strD e.nk) false, .row 1 (map intD e.nv) false, .row 3 (map chD e.ch) false, .cells [.ptr 6 0 0], .row 1 [D.bool true] false, .cells [.ptr 0 0 0], .defd, lp (G50 26 [false]) 50 (mk 51 [(3, .ptr 12 0 0), (5, .ptr 13 0 0), (31, .fn (Fn.func 104) [] [.ptr 14 0 0])]) LoopState.ready, .cells [.d (.list 2 (map (afD d) (d.nk.zip d.nv)))], .cells [.ptr 2 0 0], .cells [.fn (Fn.func 98) [] []], O.dead, .defd, lp (G104 22 [false]) 104 (mk 45 [(0, V.yield 16), (1, .ptr 14 0 0), (3, .ptr 17 0 0), (14, .fn (Fn.func 109) [] [.ptr 18 0 0, .ptr 19 0 0])]) LoopState.exhausted, .cells [.d (.str x), .d (.list 1 (map u8 b))]])) (by kernel_rfl) ?_
 exact ⟨rfl, rfl⟩
theorem lo104bs (d e : Dk) (N : Nat) (h : d.Ok N) (hs : ∀ p ∈ d.nk.zip d.nv, CallsA Try.prog 27 [.ptr 0 0 0, .d (.str p.1)] (SD e false) fun r σ' => r = .ret (.tuple [.d (.list 1 ((d.file p.2.toNat).1.map u8)), .d (.int .i64 0)]) ∧ σ' = SD e false) (hs2 : ∀ p ∈ d.nk.zip d.nv, (d.file p.2.toNat).1.length < 1000000000) : ∀ (m i : Nat), i + m = d.nk.length →
   AW Try.prog 104 none 17 (G104 32 [false]) (mk 45 [(0, V.yield 16), (31, V.d (.list 2 ((d.nk.zip d.nv).map (afD d)))), (32, V.d (.int .i64 (d.nk.length : Nat))), (33, V.d (.int .i64 (i : Nat)))]) (S50x d e .ready) [21] fun r σ' => r = .ret (.tuple []) ∧ σ' = S50 d e .ready := by
 have hb := h.nkl
 have hc := h.nb
 have hl := h.nl
 intro m
 induction m with
 | zero =>
   intro i hi
   have hi : i = d.nk.length := by omega
   subst hi
   clear hs hs2
   refine .sge 5 [0, 31, 32, 33, 34] (G104 37 [false]) ?_
   refine .if' (decide ((↑d.nk.length : Int) < (↑d.nk.length : Int))) (G104 38 [false, true]) (G104 38 [false, false]) (fun h1 => ?_) (fun h1 => ?_)
   · simp only [bsX] at h1
     omega
   · simp only [bsX] at h1
     refine .seg 1 [] (T' := cgo 39 [false, false] [.code B104]) (tm' := mk 45 []) (σ' := (SP 1 2 d false [.cells (hC 7 8 11 e), .row 2 (map fileD e.files) false, .cells [.row 9, .row 10], .row 1 (map strD e.nk) false, .row 1 (map intD e.nv) false, .row 3 (map chD e.ch) false, .cells [.ptr 6 0 0], .row 1 [D.bool true] false, .cells [.ptr 0 0 0], .defd, lp (G50 26 [false]) 50 (mk 51 [(3, .ptr 12 0 0), (5, .ptr 13 0 0), (31, .fn (Fn.func 104) [] [.ptr 14 0 0])]) LoopState.ready, .cells [.d (.list 2 (map (afD d) (d.nk.zip d.nv)))], .cells [.ptr 2 0 0], .cells [.fn (Fn.func 98) [] []], O.dead, .defd, lp (G104 22 [false]) 104 (mk 45 [(0, .yield 16), (1, .ptr 14 0 0), (3, .ptr 17 0 0), (14, .fn (Fn.func 109) [] [.ptr 18 0 0, .ptr 19 0 0])]) LoopState.exhausted])) (by kernel_rfl) ?_
     refine .retX (v := V.tuple []) [0, 1, 2, 3, 4, 5, 6, 7, 8, 9, 10, 11, 12, 13, 14, 15, 16] (V.tuple []) F104 (by kernel_rfl) ⟨by kernel_rfl, by kernel_rfl⟩ (σ1 := (SP 1 2 d false [O.cells [V.row 7, V.ptr 8 0 0, V.ep 2 (D.agg [D.list 1 (map strD e.sk), D.list 1 (map intD e.sv)]) 0, V.row 11, V.d (D.int IntKind.i64 e.quota), V.d (D.bool e.full), V.d (D.bool e.off), V.d (D.int IntKind.i64 e.stop), V.d (D.int IntKind.i64 e.calls)], O.row 2 (map fileD e.files) false, O.cells [V.row 9, V.row 10], O.row 1 (map strD e.nk) false, O.row 1 (map intD e.nv) false, O.row 3 (map chD e.ch) false, O.cells [V.ptr 6 0 0], O.row 1 [D.bool true] false, O.cells [V.ptr 0 0 0], O.defd, lp (G50 26 [false]) 50 (mk 51 [(3, V.ptr 12 0 0), (5, V.ptr 13 0 0), (31, V.fn (Fn.func 104) [] [V.ptr 14 0 0])]) LoopState.ready, O.cells [V.d (D.list 2 (map (afD d) (d.nk.zip d.nv)))], O.cells [V.ptr 2 0 0], O.cells [V.fn (Fn.func 98) [] []], O.dead, O.dead, lp (G104 22 [false]) 104 (mk 45 [(0, V.yield 16), (1, V.ptr 14 0 0), (3, V.ptr 17 0 0), (14, V.fn (Fn.func 109) [] [V.ptr 18 0 0, V.ptr 19 0 0])]) LoopState.exhausted])) (by kernel_rfl) (by kernel_rfl) (σ2 := (SP 1 2 d false [O.cells [V.row 7, V.ptr 8 0 0, V.ep 2 (D.agg [D.list 1 (map strD e.sk), D.list 1 (map intD e.sv)]) 0, V.row 11, V.d (D.int IntKind.i64 e.quota), V.d (D.bool e.full), V.d (D.bool e.off), V.d (D.int IntKind.i64 e.stop), V.d (D.int IntKind.i64 e.calls)], O.row 2 (map fileD e.files) false, O.cells [V.row 9, V.row 10], O.row 1 (map strD e.nk) false, O.row 1 (map intD e.nv) false, O.row 3 (map chD e.ch) false, O.cells [V.ptr 6 0 0], O.row 1 [D.bool true] false, O.cells [V.ptr 0 0 0], O.defd, lp (G50 26 [false]) 50 (mk 51 [(3, V.ptr 12 0 0), (5, V.ptr 13 0 0), (31, V.fn (Fn.func 104) [] [V.ptr 14 0 0])]) LoopState.ready])) ⟨rfl, rfl, by kernel_rfl⟩ (by kernel_rfl) ⟨Nat.le_of_ble_eq_true (by kernel_rfl), by kernel_rfl⟩ (by kernel_rfl) ?_
     exact ⟨rfl, rfl⟩
 | succ m ih =>
   intro i hi
   have hll : (d.nk.zip d.nv).length = d.nk.length := by simp [hl]
   obtain ⟨p, hz⟩ := get_some (l := d.nk.zip d.nv) (i := i) (by omega)
   have hYi := body50 d e p.1 (d.file p.2.toNat).1 (hs2 p (List.mem_of_getElem? hz)) (hs p (List.mem_of_getElem? hz))
   have ih1 := ih (i + 1) (by omega)
   clear ih hs hs2
   refine .sge 5 [0, 31, 32, 33, 34] (G104 37 [false]) ?_
   refine .if' (decide ((↑i : Int) < (↑d.nk.length : Int))) (G104 38 [false, true]) (G104 38 [false, false]) (fun h1 => ?_) (fun h1 => ?_)
   · simp only [bsX] at h1
     refine .sg0 5 [0, 31, 32, 33, 34] (G104 43 [false, true]) [] ?_
     refine .op' (G104 44 [false, true]) (ixData_ok (t := 160) (x := (.tmp 31)) (i := (.tmp 33)) (k := IntKind.i64) (n := (↑i : Int)) (sz := 2) (xs := map (afD d) (d.nk.zip d.nv)) (d := afD d p) (by kernel_rfl) (by kernel_rfl) (by kernel_rfl) (by kernel_rfl) (by omega) (map_get hz)) ?_
     refine .sg 11 [0, 7, 31, 32, 33, 34, 35, 36, 37, 38, 39, 40, 41] (G104 55 [false, true]) [(7, .ptr 23 0 0), (36, .d (.agg [D.str p.fst, D.list 1 (map u8 (d.file p.snd.toNat).fst)])), (37, .yield 16), (38, .ptr 23 0 0), (39, .d (.str p.fst)), (40, .ptr 23 0 1), (41, .d (.list 1 (map u8 (d.file p.snd.toNat).fst)))] [(23, .cells [.d (.str p.fst), .d (.list 1 (map u8 (d.file p.snd.toNat).fst))])] ?_
     refine .yieldL (T0 := cgo 26 [false] [Item.code B50]) (x := (.tmp 37)) (args := #[(.tmp 39), (.tmp 41)]) (ts := #[9, 22]) (l := 16) (st := LoopState.ready) (fn := 50) (tml := (mk 51 [(3, V.ptr 12 0 0), (5, V.ptr 13 0 0), (31, V.fn (Fn.func 104) [] [V.ptr 14 0 0])])) (R := R50) (o := (opOf (G104 55 [false, true])).getD default) (N := 24) (by kernel_rfl) (by kernel_rfl) (by kernel_rfl) (T' := cgo 56 [false, true] [Item.code B104]) (by kernel_rfl) (by kernel_rfl) (by kernel_rfl) (by kernel_rfl) (by kernel_rfl) (by kernel_rfl) (by kernel_rfl) hYi ?_
     rintro r σ' ⟨rfl, rfl⟩
     refine ⟨_, rfl, ?_⟩
     refine .sg0 9 [0, 7, 31, 32, 33, 34, 35, 36, 37, 38, 39, 40, 41, 42, 43, 44] (G104 65 [false, true, false]) [(33, .d (.int .i64 (IntKind.i64.wrap ((↑i : Int) + 1)))), (43, .d (.bool false)), (44, .d (.int .i64 (IntKind.i64.wrap ((↑i : Int) + 1))))] ?_
     simp (disch := omega) only [bsW]
     refine .kp [0, 31, 32, 33] ?_
     refine .sub (List.range 23) (mk 45 [(0, V.yield 16), (31, .d (.list 2 ((d.nk.zip d.nv).map (afD d)))), (32, .d (.int .i64 (d.nk.length : Nat))), (33, .d (.int .i64 ((i + 1 : Nat) : Int)))]) (S50x d e .ready) none [21] ⟨rfl, rfl, by kernel_rfl⟩ (by kernel_rfl) ⟨Nat.le_of_ble_eq_true (by kernel_rfl), by kernel_rfl⟩ (by kernel_rfl) ⟨by kernel_rfl, by kernel_rfl⟩ ⟨rfl, rfl⟩ ?_
     exact .seg 1 [0, 31, 32, 33] (by kernel_rfl) ih1
   · simp only [bsX] at h1
     omega
theorem spec_104s (d e : Dk) (N : Nat) (h : d.Ok N) (hs : ∀ p ∈ d.nk.zip d.nv, CallsA Try.prog 27 [.ptr 0 0 0, .d (.str p.1)] (SD e false) fun r σ' => r = .ret (.tuple [.d (.list 1 ((d.file p.2.toNat).1.map u8)), .d (.int .i64 0)]) ∧ σ' = SD e false) (hs2 : ∀ p ∈ d.nk.zip d.nv, (d.file p.2.toNat).1.length < 1000000000) : CallsA Try.prog 104 [.yield 16, .ptr 14 0 0] (S50 d e .ready) fun r σ' => r = .ret (.tuple []) ∧ σ' = S50 d e .ready := by
 refine CallsA.start F104 (tm := mk (Try.f104.ntmps) [(0, .yield 16), (1, .ptr 14 0 0)]) (by kernel_rfl) ?_
 refine .sge 19 [0, 1, 3, 10, 11, 12, 13] (G104 19 [false]) ?_
 refine .ca [2, 3, 4] (G104 20 [false]) F72 (@spec_72 (map strD d.nk) (map intD d.nv)) ?_
 rintro r0 s0 ⟨rfl, rfl⟩
 refine ⟨_, rfl, ?_⟩
 refine .seg 2 [0, 1, 3, 14] (T' := cgo 22 [false] [.code B104]) (tm' := mk 45 [(0, .yield 16), (1, .ptr 14 0 0), (3, .ptr 17 0 0), (14, .fn (Fn.func 109) [] [.ptr 18 0 0, .ptr 19 0 0])]) (σ' := (SP 1 2 d false [.cells (hC 7 8 11 e), .row 2 (map fileD e.files) false, .cells [.row 9, .row 10], .row 1 (map strD e.nk) false, .row 1 (map intD e.nv) false, .row 3 (map chD e.ch) false, .cells [.ptr 6 0 0], .row 1 [D.bool true] false, .cells [.ptr 0 0 0], .defd, lp (G50 26 [false]) 50 (mk 51 [(3, .ptr 12 0 0), (5, .ptr 13 0 0), (31, .fn (Fn.func 104) [] [.ptr 14 0 0])]) LoopState.ready, .cells [.ex 2 []], .cells [.ptr 2 0 0], .cells [.fn (Fn.func 98) [] []]])) (by kernel_rfl) ?_
 refine .virtX 17 0 2 rfl rfl ?_
 refine .raises [20] ?_
 refine .rangeH (first := []) (cap := [.ptr 18 0 0, .ptr 19 0 0]) (List.range 23) [.yield 22, .ptr 18 0 0, .ptr 19 0 0] (S50d d e 0 .ready) F109 (by kernel_rfl) (T' := cgo 23 [false] [Item.code B104]) (by kernel_rfl) (by kernel_rfl) (it104s d e N h) (by kernel_rfl) (by kernel_rfl) (by refine ⟨rfl, by kernel_rfl, ?_⟩; kernel_rfl) ?_
 rintro r σc' ⟨rfl, rfl⟩
 refine ⟨.tuple [], .ready, (mk 45 [(0, V.yield 16), (1, V.ptr 14 0 0), (3, V.ptr 17 0 0), (14, V.fn (Fn.func 109) [] [V.ptr 18 0 0, V.ptr 19 0 0])]), rfPs (G104 22 [false]), rfAs (G104 22 [false]), rfBd (G104 22 [false]), 104, rfl, by simp, by kernel_rfl, ?_⟩
 have e1 : (allF d).take d.nk.length = allF d := by rw [List.take_of_length_le]; rw [allF_length d h.nl]; exact Nat.le_refl _
 have hnext := lo104bs d e N h hs hs2 d.nk.length 0 (by omega)
 clear hs hs2
 refine .seg 8 [0, 31, 32, 33] (T' := cgo 31 [false] [.code B104]) (tm' := mk 45 [(0, .yield 16), (31, .row 20), (32, .d (.int .i64 (↑(List.take d.nk.length (allF d)).length : Int))), (33, .d (.int .i64 0))]) (σ' := (SP 1 2 d false [.cells (hC 7 8 11 e), .row 2 (map fileD e.files) false, .cells [.row 9, .row 10], .row 1 (map strD e.nk) false, .row 1 (map intD e.nv) false, .row 3 (map chD e.ch) false, .cells [.ptr 6 0 0], .row 1 [D.bool true] false, .cells [.ptr 0 0 0], .defd, lp (G50 26 [false]) 50 (mk 51 [(3, .ptr 12 0 0), (5, .ptr 13 0 0), (31, .fn (Fn.func 104) [] [.ptr 14 0 0])]) LoopState.ready, .cells [.row 20], .cells [.ptr 2 0 0], .cells [.fn (Fn.func 98) [] []], .row 2 (List.take d.nk.length (allF d)) true, .defd, lp (G104 22 [false]) 104 (mk 45 [(0, .yield 16), (1, .ptr 14 0 0), (3, .ptr 17 0 0), (14, .fn (Fn.func 109) [] [.ptr 18 0 0, .ptr 19 0 0])]) LoopState.exhausted])) (by kernel_rfl) ?_
 rw [e1, allF_length d h.nl]
 refine .freeze 20 (sz := 2) (xs := allF d) (mv := true) (by kernel_rfl) ?_
 exact .seg 1 [0, 31, 32, 33] (by kernel_rfl) hnext
def SDf (e : Dk) : Store := [.cells [.row 7, .ptr 8 0 0, .ep 2 (dirD e.sk e.sv) 0, .row 11, .d (.int .i64 e.quota), .d (.bool e.full), .d (.bool e.off), .d (.int .i64 e.stop), .d (.int .i64 e.calls)],
  .row 2 (e.files.map fileD) false, .cells [.row 9, .row 10], .row 1 (e.nk.map strD) false, .row 1 (e.nv.map intD) false, .row 3 (e.ch.map chD) false]
theorem en50 (d e : Dk) (N M : Nat) (h : d.Ok N) (he : e.Ok M) (hn : e.nk.length = d.nk.length) (hs : ∀ p ∈ d.nk.zip d.nv, CallsA Try.prog 27 [.ptr 0 0 0, .d (.str p.1)] (SD e false) fun r σ' => r = .ret (.tuple [.d (.list 1 ((d.file p.2.toNat).1.map u8)), .d (.int .i64 0)]) ∧ σ' = SD e false) (hs2 : ∀ p ∈ d.nk.zip d.nv, (d.file p.2.toNat).1.length < 1000000000) :
  AW Try.prog 50 none 12 (G50 26 [false]) (mk 51 [(3, .ptr 12 0 0), (5, .ptr 13 0 0), (31, .fn (Fn.func 104) [] [.ptr 14 0 0])]) (SD d false ++ SDf e ++ [.cells [.ptr 6 0 0], .row 1 [.bool true] false, .cells [.ptr 0 0 0]]) [] fun r σ' => r = .ret (.d (.bool true)) ∧ σ' = SD d false ++ SDf e := by
 have hnext := spec_104s d e N h hs hs2
 clear hs hs2
 refine .rangeH (first := []) (cap := [.ptr 14 0 0]) (List.range 17) [.yield 16, .ptr 14 0 0] (S50 d e .ready) F104 (by kernel_rfl) (T' := cgo 27 [false] [Item.code B50]) (by kernel_rfl) (by kernel_rfl) hnext (by kernel_rfl) (by kernel_rfl) (by refine ⟨rfl, by kernel_rfl, ?_⟩; kernel_rfl) ?_
 rintro r σc' ⟨rfl, rfl⟩
 refine ⟨.tuple [], .ready, (mk 51 [(3, V.ptr 12 0 0), (5, V.ptr 13 0 0), (31, V.fn (Fn.func 104) [] [V.ptr 14 0 0])]), rfPs (G50 26 [false]), rfAs (G50 26 [false]), rfBd (G50 26 [false]), 50, rfl, by simp, by kernel_rfl, ?_⟩
 clear hnext
 refine .sge 3 [5] (G50 30 [false]) ?_
 refine .op' (G50 31 [false]) (ldRow_ok (t := 4) (x := (.tmp 5)) (l := 13) (i := 0) (s := 0) (sz := 1) (xs := [D.bool true]) (mv := false) (d := D.bool true) (v := .d (.bool true)) (by kernel_rfl) (by kernel_rfl) (by kernel_rfl) (by kernel_rfl) (by kernel_rfl)) ?_
 refine .seg 2 [4] (T' := cgo 33 [false] [.code B50]) (tm' := mk 51 [(4, .d (.bool true))]) (σ' := (SP 1 2 d false [.cells (hC 7 8 11 e), .row 2 (map fileD e.files) false, .cells [.row 9, .row 10], .row 1 (map strD e.nk) false, .row 1 (map intD e.nv) false, .row 3 (map chD e.ch) false, .cells [.ptr 6 0 0], .row 1 [D.bool true] false, .cells [.ptr 0 0 0], .defd, lp (G50 26 [false]) 50 (mk 51 [(3, .ptr 12 0 0), (5, .ptr 13 0 0), (31, .fn (Fn.func 104) [] [.ptr 14 0 0])]) LoopState.exhausted])) (by kernel_rfl) ?_
 refine .retX (v := V.d (D.bool true)) [0, 1, 2, 3, 4, 5, 6, 7, 8, 9, 10, 11] (V.d (D.bool true)) F50 (by kernel_rfl) ⟨by kernel_rfl, by kernel_rfl⟩ (σ1 := (SP 1 2 d false [O.cells [V.row 7, V.ptr 8 0 0, V.ep 2 (D.agg [D.list 1 (map strD e.sk), D.list 1 (map intD e.sv)]) 0, V.row 11, V.d (D.int IntKind.i64 e.quota), V.d (D.bool e.full), V.d (D.bool e.off), V.d (D.int IntKind.i64 e.stop), V.d (D.int IntKind.i64 e.calls)], O.row 2 (map fileD e.files) false, O.cells [V.row 9, V.row 10], O.row 1 (map strD e.nk) false, O.row 1 (map intD e.nv) false, O.row 3 (map chD e.ch) false, O.cells [V.ptr 6 0 0], O.row 1 [D.bool true] false, O.cells [V.ptr 0 0 0], O.dead, lp (G50 26 [false]) 50 (mk 51 [(3, V.ptr 12 0 0), (5, V.ptr 13 0 0), (31, V.fn (Fn.func 104) [] [V.ptr 14 0 0])]) LoopState.exhausted])) (by kernel_rfl) (by kernel_rfl) (σ2 := (SP 1 2 d false [O.cells [V.row 7, V.ptr 8 0 0, V.ep 2 (D.agg [D.list 1 (map strD e.sk), D.list 1 (map intD e.sv)]) 0, V.row 11, V.d (D.int IntKind.i64 e.quota), V.d (D.bool e.full), V.d (D.bool e.off), V.d (D.int IntKind.i64 e.stop), V.d (D.int IntKind.i64 e.calls)], O.row 2 (map fileD e.files) false, O.cells [V.row 9, V.row 10], O.row 1 (map strD e.nk) false, O.row 1 (map intD e.nv) false, O.row 3 (map chD e.ch) false])) ⟨rfl, rfl, by kernel_rfl⟩ (by kernel_rfl) ⟨Nat.le_of_ble_eq_true (by kernel_rfl), by kernel_rfl⟩ (by kernel_rfl) ?_
 exact ⟨rfl, rfl⟩
theorem dr50 (d e : Dk) (N M : Nat) (h : d.Ok N) (he : e.Ok M) (Q : AE → Store → Prop)
   (hnext : AW Try.prog 50 none 12 (G50 19 [false]) (mk 51 [(0, .ptr 0 0 0), (3, .ptr 12 0 0), (4, .d (.bool false)), (5, .ptr 13 0 0)]) (SD d false ++ SDf e ++ [.cells [.ptr 6 0 0], .row 1 [.bool ((↑d.nk.length : Int) == (↑e.nk.length : Int))] true]) [] Q) :
   AW Try.prog 50 none 12 (G50 18 [false]) (mk 51 [(0, .ptr 0 0 0), (3, .ptr 12 0 0), (4, .d (.bool false))]) (SD d false ++ SDf e ++ [.cells [.ptr 6 0 0]]) [] Q := by
 have q1 := h.nkl
 have q2 := h.nb
 refine .newVirt 1 ?_
 refine .dr (G50 19 [false]) [(5, .ptr 13 0 0), (19, .ptr 0 0 0), (20, .ptr 0 0 0), (21, .ptr 0 0 1), (22, .ptr 2 0 0), (23, .d (.int .i64 (↑d.nk.length : Int))), (24, .ptr 6 0 0), (25, .ptr 6 0 0), (26, .ptr 6 0 1), (27, .ptr 8 0 0), (28, .d (.int .i64 (↑e.nk.length : Int))), (29, .d (.bool ((↑d.nk.length : Int) == (↑e.nk.length : Int))))] [(13, .row 1 [D.bool ((↑d.nk.length : Int) == (↑e.nk.length : Int))] true)] (fun kz L hL => ?_) ?_
 · refine ⟨[fO 0, fA 0, fA 0, fX [0] [] [] [2] [0, 1, 2, 5], fX [2, 3, 4] [] [] [] [2, 3, 4], fB 12 6, fA 6, fA 6, fX [6] [] [] [8] [6, 7, 8, 11], fX [8, 9, 10] [] [] [] [8, 9, 10], nF, fX [13] [13] [13] [13] [], fX [13] [13] [] [] [13]], run_amongF hL _ [] [0, 1, 2, 3, 5, 6, 7, 8, 11, 4, 9, 10, 12] (by intro p hp; cases hp) (by kernel_rfl) ?_⟩
   refine Run.ap [0, 1, 2, 3, 5, 6, 7, 8] [(19, .ptr 0 0 0), (20, .ptr 0 0 0), (21, .ptr 0 0 1), (22, .ptr 2 0 0), (24, .ptr 6 0 0), (25, .ptr 6 0 0), (26, .ptr 6 0 1), (27, .ptr 8 0 0)] [] ?_
   refine Run.one (StepF.alloc (o := ((drawOf (G50 18 [false]))[11]?).getD default) (t := 4) (l := 13) (d := D.bool false) (mv := false) (by kernel_rfl) rfl (by kernel_rfl) (by kernel_rfl) (by kernel_rfl) (by kernel_rfl) (by kernel_rfl) (by kernel_rfl) (by kernel_rfl) (by kernel_rfl) (by kernel_rfl)) ?_
   refine Run.cll 4 [2, 3, 4] F66 (@spec_66 (d.nk) (d.nv)) ?_
   refine Run.cll 9 [8, 9, 10] F66 (@spec_66 (e.nk) (e.nv)) ?_
   refine Run.ap [10] [(29, .d (.bool ((↑d.nk.length : Int) == (↑e.nk.length : Int))))] [] ?_
   refine Run.one (StepF.sets (o := ((drawOf (G50 18 [false]))[12]?).getD default) (v := .undef) [(.tmp 5), (.tmp 29)] 13 (.row 1 [D.bool ((↑d.nk.length : Int) == (↑e.nk.length : Int))] true) (by kernel_rfl) rfl (by kernel_rfl) (by kernel_rfl) (by kernel_rfl) (by kernel_rfl) (by kernel_rfl) (fun tm' σ2 hv hr => stRow_ok (t := 4) (x := (.tmp 5)) (y := (.tmp 29)) (l := 13) (i := 0) (s := 0) (sz := 1) (xs := [D.bool false]) (mv := true) (d := D.bool false) (d' := D.bool ((↑d.nk.length : Int) == (↑e.nk.length : Int))) (by kernel_rfl) (evv hv) (atr hr) (by kernel_rfl) (by unfold storeE; rw [hv _ (by simp)]; kernel_rfl))) ?_
   exact Run.fin
 exact .seg 0 [0, 3, 4, 5] (by kernel_rfl) hnext
theorem th50 (d e : Dk) (N M : Nat) (h : d.Ok N) (hn : e.nk.length = d.nk.length) (Q : AE → Store → Prop)
  (hnext : AW Try.prog 50 none 12 (G50 26 [false]) (mk 51 [(3, .ptr 12 0 0), (5, .ptr 13 0 0), (31, .fn (Fn.func 104) [] [.ptr 14 0 0])]) (SD d false ++ SDf e ++ [.cells [.ptr 6 0 0], .row 1 [.bool true] false, .cells [.ptr 0 0 0]]) [] Q) :
  AW Try.prog 50 none 12 (G50 19 [false]) (mk 51 [(0, .ptr 0 0 0), (3, .ptr 12 0 0), (4, .d (.bool false)), (5, .ptr 13 0 0)]) (SD d false ++ SDf e ++ [.cells [.ptr 6 0 0], .row 1 [.bool ((↑d.nk.length : Int) == (↑e.nk.length : Int))] true]) [] Q := by
 refine .sg0 4 [0, 3, 4, 5, 30] (G50 23 [false]) [(30, .ptr 0 0 0)] ?_
 refine .ca [0, 1, 2, 3, 4, 5] (G50 24 [false]) F82 (@spec_82 (d)) ?_
 rintro r6 s6 ⟨rfl, rfl⟩
 refine ⟨_, rfl, ?_⟩
 refine .sg0 2 [3, 4, 5, 31] (G50 26 [false]) [] ?_
 have e2 : ((↑d.nk.length : Int) == ↑e.nk.length) = true := by simp [hn]
 rw [e2]
 refine .lower 13 (sz := 1) (xs := [.bool true]) (mv := true) (by kernel_rfl) rfl rfl ?_
 refine .kp [3, 5, 31] ?_
 exact .seg 0 [3, 5, 31] (by kernel_rfl) hnext
theorem spec_50 (d e : Dk) (N M : Nat) (h : d.Ok N) (he : e.Ok M) (hn : e.nk.length = d.nk.length) (hs : ∀ p ∈ d.nk.zip d.nv, CallsA Try.prog 27 [.ptr 0 0 0, .d (.str p.1)] (SD e false) fun r σ' => r = .ret (.tuple [.d (.list 1 ((d.file p.2.toNat).1.map u8)), .d (.int .i64 0)]) ∧ σ' = SD e false) (hs2 : ∀ p ∈ d.nk.zip d.nv, (d.file p.2.toNat).1.length < 1000000000) :
  CallsA Try.prog 50 [.ptr 0 0 0, .ptr 6 0 0] (SD d false ++ SDf e) fun r σ' => r = .ret (.d (.bool true)) ∧ σ' = SD d false ++ SDf e := by
 refine CallsA.start F50 (tm := mk (Try.f50.ntmps) [(0, .ptr 0 0 0), (1, .ptr 6 0 0)]) (by kernel_rfl) ?_
 have hnext := en50 d e N M h he hn hs hs2
 clear hs hs2
 refine .sg 18 [0, 3, 4] (G50 18 [false]) [(3, .ptr 12 0 0), (4, .d (.bool false))] [(12, .cells [.ptr 6 0 0])] ?_
 refine dr50 d e N M h he _ ?_
 exact th50 d e N M h hn _ hnext
def qF6 : List FP := [nF, nF, nF, nF, nF, nF, nF, nF, nF, nF, nF, nF, nF, nF, nF, nF, nF, nF, nF, nF, nF, nF, nF, nF]
noncomputable def B11 : Code := (Try.f11.body).getD .skip
noncomputable def G11 (n l) := cgo n l [.code B11]
theorem F11 : Fnc Try.prog 11 Try.f11 B11 := ⟨Try.func11, by kernel_rfl, by kernel_rfl⟩
theorem bts_cut {P : Program} {tm : List V} {σ : Store} {o : Oper} {s t : TypeId} {x : Operand} {bs : List UInt8} {n : Nat} (ho : o.op = .convert s t x) (hs : isU8s P s = true) (ht : isStrT P t = true) (hx : ev tm x = .d (.list 1 (List.drop 0 (List.take n (List.map u8 bs))))) : OpOk P o tm σ (.d (.str (strOf (bs.take n)))) tm σ :=
 bts_data ho hs ht (by rw [hx]; simp [bsD, List.map_take])
def S11 (d e : Dk) (m : Bool) (dir : Int) (keep : List Int) : Store := [.cells [.row 1, .ptr 2 0 0, .ep 2 (dirD d.sk d.sv) 0, .row 5, .d (.int .i64 d.quota), .d (.bool d.full), .d (.bool d.off), .d (.int .i64 d.stop), .d (.int .i64 d.calls)],
  .row 2 (d.files.map fileD) m, .cells [.row 3, .row 4], .row 1 (d.nk.map strD) m, .row 1 (d.nv.map intD) m, .row 3 (d.ch.map chD) m,
  .cells [.row 7, .ptr 8 0 0, .ep 2 (dirD e.sk e.sv) 0, .row 11, .d (.int .i64 e.quota), .d (.bool e.full), .d (.bool e.off), .d (.int .i64 e.stop), .d (.int .i64 e.calls)],
  .row 2 (e.files.map fileD) m, .cells [.row 9, .row 10], .row 1 (e.nk.map strD) m, .row 1 (e.nv.map intD) m, .row 3 (e.ch.map chD) m,
  .cells [.d (.int .i64 dir), .d (.list 1 (keep.map intD))]]
theorem fi11 (d e : Dk) (N : Nat) (h : d.Ok N) (hN : N ≤ 200) (h1 : d.sk = d.nk) (h2 : d.sv = d.nv) (h3 : d.ch = []) (h4 : ∀ f ∈ d.files, f.2 = f.1.length) (dir : Int) (keep : List Int) (hk : keep.length ≤ 300) (hkv : ∀ v ∈ keep, -9223372036854775808 ≤ v ∧ v < 9223372036854775808) :
  AW Try.prog 11 none 0 (G11 83 [false, false, false]) (mk 119 [(5, .ptr 12 0 0), (6, .d (.bool false)), (7, .ptr 0 0 0)]) (S11 d e true dir keep) [] fun r σ' => r = .ret (.d (.bool true)) := by
 obtain ⟨a1, a2⟩ := crash_again h h1 h2 h3 h4 dir keep
 have hcl := spec_47 d N h
 have hcr := spec_35 d N h dir keep (by omega) hkv
 have hk2 := Dk.crash_ok h dir keep
 refine .su [0, 1, 2, 3, 4, 5, 12] (mk 119 [(5, .ptr 6 0 0), (6, .d (.bool false)), (7, .ptr 0 0 0)]) (SD d true ++ [.cells [.d (.int .i64 dir), .d (.list 1 (keep.map intD))]]) ?_
 refine .sg0 3 [5, 6, 7, 108] (G11 86 [false, false, false]) [(108, .ptr 0 0 0)] ?_
 refine .ca [0, 1, 2, 3, 4, 5] (G11 87 [false, false, false]) F47 hcl ?_
 rintro r1 s1 ⟨rfl, rfl⟩
 refine ⟨_, rfl, ?_⟩
 clear hcl
 refine .sge 6 [5, 6, 7, 17, 110, 111] (G11 93 [false, false, false]) ?_
 refine .ca [0, 1, 2, 3, 4, 5] (G11 94 [false, false, false]) F35 hcr ?_
 rintro r1 s1 ⟨rfl, rfl⟩
 refine ⟨_, rfl, ?_⟩
 clear hcr
 generalize d.crash dir keep = d2 at *
 refine .kp [6, 7, 17] ?_
 refine .su [0, 1, 13, 14, 15, 5, 7, 8, 9, 10, 11, 12] (mk 119 [(6, .d (.bool false)), (7, .ptr 0 0 0), (17, .ptr 6 0 0)]) (SD d2 true ++ SDk d) ?_
 have hs : ∀ p ∈ d2.nk.zip d2.nv, CallsA Try.prog 27 [.ptr 0 0 0, .d (.str p.1)] (SD d false) fun r σ' => r = .ret (.tuple [.d (.list 1 ((d2.file p.2.toNat).1.map u8)), .d (.int .i64 0)]) ∧ σ' = SD d false := by
  intro p hp
  obtain ⟨v, g1, g2⟩ := a2 p hp
  have hc := spec_27 d N h p.1
  have hnum : d.num p.1 = v.toNat := by unfold Dk.num; rw [g1]; rfl
  rw [g1, hnum] at hc
  rw [← g2]
  exact hc
 have hs2 : ∀ p ∈ d2.nk.zip d2.nv, (d2.file p.2.toNat).1.length < 1000000000 := by
  intro p hp
  have hn := hk2.nn p.2 (List.of_mem_zip hp).2
  have := (hk2.fs _ (Dk.file_mem (d := d2) (k := p.2.toNat) (by omega))).2
  omega
 have hsame := spec_50 d2 d N N hk2 h (by rw [a1]) hs hs2
 clear hs hs2 a2 h4
 refine .sge 5 [6, 7, 17, 113, 114] (G11 99 [false, false, false]) ?_
 refine .ca [0, 1, 2, 3, 4, 5, 6, 7, 8, 9, 10, 11] (G11 100 [false, false, false]) F50 hsame ?_
 rintro r1 s1 ⟨rfl, rfl⟩
 refine ⟨_, rfl, ?_⟩
 clear hsame
 refine .sg0 1 [6, 7, 17, 113, 114, 115, 116] (G11 101 [false, false, false]) [(116, .d (.bool true))] ?_
 refine .cd (G11 102 [false, false, false]) F30 (@spec_30) ?_
 refine .sg0 3 [6] (G11 105 [false, false, false]) [(6, .d (.bool true))] ?_
 refine .kp [6] ?_
 refine .su [] (mk 119 [(6, .d (.bool true))]) [] ?_
 refine .rt F11 (V.d (D.bool true)) ?_
 exact rfl
theorem lo11 (l : List DOp) (hl : l.length ≤ 9223372036854775807) (hf : ∀ o ∈ l, o.fits) (d e : Dk) (N M : Nat) (h : d.Ok N) (he : e.Ok M) (hm : d.Mn) (hsole : ∀ x ∈ d.nk, soleB (cutD l) x = true → ∀ k, look e.nk e.nv x = some k → ∃ m, (d.file (d.num x)).1 = (e.file k.toNat).1.take m) (dir : Int) (keep : List Int) (Q : AE → Store → Prop)
    (hnext : AW Try.prog 11 none 0 (G11 83 [false, false, false]) (mk 119 [(5, .ptr 12 0 0), (6, .d (.bool false)), (7, .ptr 0 0 0)]) (S11 d e true dir keep) [] Q) : ∀ (m i : Nat), i + m = d.nk.length →
    AW Try.prog 11 none 0 (G11 76 [false, false]) (mk 119 [(0, .d (.list 7 (l.map dopD))), (5, .ptr 12 0 0), (6, .d (.bool false)), (7, .ptr 0 0 0), (10, .ptr 6 0 0), (58, .d (.list 1 (d.nk.map strD))), (59, .d (.int .i64 (d.nk.length : Nat))), (60, .d (.int .i64 (i : Nat)))]) (S11 d e true dir keep) [] Q := by
  have q1 := h.nkl
  have q2 := h.nb
  intro m
  induction m with
  | zero =>
    intro i hi
    have hi : i = d.nk.length := by omega
    subst hi
    clear hsole
    refine .sge 5 [0, 5, 6, 7, 10, 58, 59, 60, 61] (G11 81 [false, false]) ?_
    refine .if' (decide ((↑d.nk.length : Int) < (↑d.nk.length : Int))) (G11 82 [false, false, true]) (G11 82 [false, false, false]) (fun h1 => ?_) (fun h1 => ?_)
    · simp only [bsX] at h1
      omega
    · simp only [bsX] at h1
      refine .seg 1 [5, 6, 7] (T' := cgo 83 [false, false, false] [.code B11]) (tm' := mk 119 [(5, .ptr 12 0 0), (6, .d (.bool false)), (7, .ptr 0 0 0)]) (σ' := (SP 1 2 d true [.cells (hC 7 8 11 e), .row 2 (map fileD e.files) true, .cells [.row 9, .row 10], .row 1 (map strD e.nk) true, .row 1 (map intD e.nv) true, .row 3 (map chD e.ch) true, .cells [.d (.int .i64 dir), .d (.list 1 (map intD keep))]])) (by kernel_rfl) ?_
      exact .seg 0 [5, 6, 7] (by kernel_rfl) hnext
  | succ m ih =>
    intro i hi
    obtain ⟨x, hx⟩ := get_some (l := d.nk) (i := i) (by omega)
    have ih := ih (i + 1) (by omega)
    have hmay := hm.nk x (List.mem_of_getElem? hx)
    have hxs : x.size < 1000000 := by
      unfold mayName at hmay
      simp only [Bool.and_eq_true, decide_eq_true_eq] at hmay
      omega
    obtain ⟨v, hv0⟩ := get_some (l := d.nv) (i := i) (by rw [h.nl]; omega)
    have hlk : look d.nk d.nv x = some v := (look_iff h.nr).2 ⟨i, hx, hv0⟩
    have hrd := spec_27a d N h x (by rw [hlk]; rfl)
    have hfl : (d.file (d.num x)).1.length ≤ 1048576 := (h.fs _ (Dk.file_mem (Dk.num_lt h (by rw [hlk]; rfl)))).2
    have hsole := hsole x (List.mem_of_getElem? hx)
    generalize (d.file (d.num x)).1 = b at *
    clear hv0 hlk
    clear hnext
    refine .sge 5 [0, 5, 6, 7, 10, 58, 59, 60, 61] (G11 81 [false, false]) ?_
    refine .if' (decide ((↑i : Int) < (↑d.nk.length : Int))) (G11 82 [false, false, true]) (G11 82 [false, false, false]) (fun h1 => ?_) (fun h1 => ?_)
    · simp only [bsX] at h1
      refine .sg0 5 [0, 5, 6, 7, 10, 58, 59, 60, 61] (G11 87 [false, false, true]) [] ?_
      refine .op' (G11 88 [false, false, true]) (ixData_ok (t := 66) (x := (.tmp 58)) (i := (.tmp 60)) (k := IntKind.i64) (n := (↑i : Int)) (sz := 1) (xs := map strD d.nk) (d := strD x) (by kernel_rfl) (by kernel_rfl) (by kernel_rfl) (by kernel_rfl) (by omega) (map_get hx)) ?_
      refine .sge 7 [0, 5, 6, 7, 10, 12, 58, 59, 60, 61, 62, 63, 65, 66] (G11 95 [false, false, true]) ?_
      refine .ca [0, 1, 2, 3, 4, 5] (G11 96 [false, false, true]) F27 hrd ?_
      rintro r1 s1 ⟨rfl, rfl⟩
      refine ⟨_, rfl, ?_⟩
      clear hrd
      refine .sge 13 [0, 5, 6, 7, 10, 12, 13, 14, 58, 59, 60, 61, 62, 63, 64, 65, 66, 67, 68, 69, 70, 71, 72, 73] (G11 109 [false, false, true]) ?_
      refine .cd (G11 110 [false, false, true]) F28 (@spec_28 (x) (by omega)) ?_
      refine .sge 3 [0, 5, 6, 7, 10, 12, 13, 14, 58, 59, 60, 61, 62, 63, 64, 65, 66, 67, 68, 69, 70, 71, 72, 73, 74, 75, 76] (G11 113 [false, false, true]) ?_
      refine .if' (!mayName x) (G11 114 [false, false, true, true]) (G11 114 [false, false, true, false]) (fun h2 => ?_) (fun h2 => ?_)
      · simp only [bsX] at h2
        simp_all
      · simp only [bsX] at h2
        refine .sge 5 [0, 5, 6, 7, 10, 12, 13, 14, 58, 59, 60, 61, 62, 63, 64, 65, 66, 67, 68, 69, 70, 71, 72, 73, 74, 75, 76, 78, 79] (G11 119 [false, false, true, false]) ?_
        refine .ca [6, 7, 8, 9, 10, 11] (G11 120 [false, false, true, false]) F27 (@spec_27 (e) (M) (by assumption) (x)) ?_
        rintro r2 s2 ⟨rfl, rfl⟩
        refine ⟨_, rfl, ?_⟩
        refine .sg0 7 [0, 5, 6, 7, 10, 12, 13, 14, 15, 16, 58, 59, 60, 61, 62, 63, 64, 65, 66, 67, 68, 69, 70, 71, 72, 73, 74, 75, 76, 77, 78, 79, 80, 81, 82] (G11 127 [false, false, true, false]) [(15, .d (if (look e.nk e.nv x).isSome = true then bsD (e.file (e.num x)).fst else D.list 1 [])), (16, .d (.int .i64 (if (look e.nk e.nv x).isSome = true then 0 else 3))), (77, .tuple [.d (if (look e.nk e.nv x).isSome = true then bsD (e.file (e.num x)).fst else D.list 1 []), .d (.int .i64 (if (look e.nk e.nv x).isSome = true then 0 else 3))]), (81, .d (if (look e.nk e.nv x).isSome = true then bsD (e.file (e.num x)).fst else D.list 1 [])), (82, .d (.int .i64 (if (look e.nk e.nv x).isSome = true then 0 else 3)))] ?_
        simp only [List.length_map]
        have hnum : ∀ k, look e.nk e.nv x = some k → e.num x = k.toNat := fun k hk => by unfold Dk.num; rw [hk]; rfl
        cases hle : look e.nk e.nv x with
        | none =>
          clear hsole hnum
          simp only [Option.isSome_none, Bool.false_eq_true, if_false]
          refine .dr (G11 128 [false, false, true, false]) [(74, .d (.bool true)), (75, .d (.bool !true)), (76, .d (.bool !true)), (83, .d (.int .i64 3)), (84, .d (.bool false)), (85, .d (.bool false)), (86, .tuple []), (87, .tuple []), (88, .tuple []), (89, .d (.bool false)), (90, .d (.bool false)), (91, .tuple []), (92, .tuple []), (93, .tuple []), (94, .tuple []), (95, .tuple []), (96, .tuple []), (97, .tuple []), (98, .tuple []), (99, .tuple []), (100, .tuple []), (101, .tuple []), (102, .tuple []), (103, .tuple []), (104, .tuple []), (105, .tuple []), (106, .d (.bool false))] [] (fun kz L hL => ?_) ?_
          · refine ⟨qF6, run_amongF hL _ [] [0, 1, 2, 3, 4, 5, 6, 7, 8, 10, 9, 11, 12, 13, 14, 15, 19, 20, 16, 17, 18, 21, 22, 23] (by intro p hp; cases hp) (by kernel_rfl) ?_⟩
            refine Run.append (A := [0]) (srunF_ok (tm' := mk 119 [(0, .d (.list 7 (map dopD l))), (5, .ptr 12 0 0), (6, .d (.bool false)), (7, .ptr 0 0 0), (10, .ptr 6 0 0), (12, .d (.str x)), (13, .d (.list 1 (map u8 b))), (14, .d (.int .i64 0)), (15, .d (.list 1 [])), (16, .d (.int .i64 3)), (58, .d (.list 1 (map strD d.nk))), (59, .d (.int .i64 (↑d.nk.length : Int))), (60, .d (.int .i64 (↑i : Int))), (61, .d (.bool (decide ((↑i : Int) < (↑d.nk.length : Int))))), (62, .ep 1 (D.str x) 0), (63, .d (.str x)), (64, V.tuple [.d (.list 1 (map u8 b)), .d (.int .i64 0)]), (65, .ptr 0 0 0), (66, .d (.str x)), (67, V.tuple [.d (.list 1 (map u8 b)), .d (.int .i64 0)]), (68, .d (.list 1 (map u8 b))), (69, .d (.int .i64 0)), (70, .d (.int .i64 0)), (71, .d (.bool false)), (72, .d (.bool false)), (73, .d (.str x)), (74, .d (.bool (mayName x))), (75, .d (.bool !mayName x)), (76, .d (.bool !mayName x)), (77, V.tuple [.d (.list 1 []), .d (.int .i64 3)]), (78, .ptr 6 0 0), (79, .d (.str x)), (80, V.tuple [.d (.list 1 []), .d (.int .i64 3)]), (81, .d (.list 1 [])), (82, .d (.int .i64 3)), (83, .d (.int .i64 3))]) (σ' := (SP 1 2 d true [.cells (hC 7 8 11 e), .row 2 (map fileD e.files) true, .cells [.row 9, .row 10], .row 1 (map strD e.nk) true, .row 1 (map intD e.nv) true, .row 3 (map chD e.ch) true, .cells [.d (.int .i64 dir), .d (.list 1 (map intD keep))]])) (by kernel_rfl)) ?_
            rw [hmay]
            exact Run.fin
          refine .sg0 7 [0, 5, 6, 7, 10, 12, 13, 14, 15, 16, 58, 59, 60, 61, 62, 63, 64, 65, 66, 67, 68, 69, 70, 71, 72, 73, 74, 75, 76, 77, 78, 79, 80, 81, 82, 83, 84, 85, 86, 87, 88, 89, 90, 91, 92, 93, 94, 95, 96, 97, 98, 99, 100, 101, 102, 103, 104, 105, 106, 107] (G11 135 [false, false, true, false, false]) [(60, .d (.int .i64 (IntKind.i64.wrap ((↑i : Int) + 1)))), (107, .d (.int .i64 (IntKind.i64.wrap ((↑i : Int) + 1))))] ?_
          simp only [List.length_map]
          simp (disch := omega) only [bsW]
          refine .kp [0, 5, 6, 7, 10, 58, 59, 60] ?_
          refine .su [0, 1, 2, 3, 4, 5, 6, 7, 8, 9, 10, 11, 12] (mk 119 [(0, .d (.list 7 (l.map dopD))), (5, .ptr 12 0 0), (6, .d (.bool false)), (7, .ptr 0 0 0), (10, .ptr 6 0 0), (58, .d (.list 1 (d.nk.map strD))), (59, .d (.int .i64 (d.nk.length : Nat))), (60, .d (.int .i64 ((i + 1 : Nat) : Int)))]) (S11 d e true dir keep) ?_
          exact .seg 1 [0, 5, 6, 7, 10, 58, 59, 60] (by kernel_rfl) ih
        | some k =>
          rw [hnum k hle]
          have hkn := he.nn k (look_mem hle)
          have hcl : (e.file k.toNat).1.length ≤ 1048576 := (he.fs _ (Dk.file_mem (by omega))).2
          simp only [Option.isSome_some, if_true]
          have hsole := fun hs => hsole hs k hle
          clear hnum hle hkn
          generalize (e.file k.toNat).1 = c at *
          cases hsb : soleB (cutD l) x with
          | false =>
            clear hsole
            refine .dr (G11 128 [false, false, true, false]) [(74, .d (.bool true)), (75, .d (.bool !true)), (76, .d (.bool !true)), (83, .d (.int .i64 0)), (84, .d (.bool true)), (85, .d (.bool true)), (86, .d (.list 7 (map dopD l))), (87, .d (.str x)), (88, .d (.bool false)), (89, .d (.bool false)), (90, .d (.bool false)), (91, .tuple []), (92, .tuple []), (93, .tuple []), (94, .tuple []), (95, .tuple []), (96, .tuple []), (97, .tuple []), (98, .tuple []), (99, .tuple []), (100, .tuple []), (101, .tuple []), (102, .tuple []), (103, .tuple []), (104, .tuple []), (105, .tuple []), (106, .d (.bool false))] [] (fun kz L hL => ?_) ?_
            · refine ⟨qF6, run_amongF hL _ [] [0, 1, 2, 3, 4, 5, 6, 7, 8, 10, 9, 11, 12, 13, 14, 15, 19, 20, 16, 17, 18, 21, 22, 23] (by intro p hp; cases hp) (by kernel_rfl) ?_⟩
              refine Run.append (A := [0]) (srunF_ok (tm' := mk 119 [(0, .d (.list 7 (map dopD l))), (5, .ptr 12 0 0), (6, .d (.bool false)), (7, .ptr 0 0 0), (10, .ptr 6 0 0), (12, .d (.str x)), (13, .d (.list 1 (map u8 b))), (14, .d (.int .i64 0)), (15, .d (.list 1 (map u8 c))), (16, .d (.int .i64 0)), (58, .d (.list 1 (map strD d.nk))), (59, .d (.int .i64 (↑d.nk.length : Int))), (60, .d (.int .i64 (↑i : Int))), (61, .d (.bool (decide ((↑i : Int) < (↑d.nk.length : Int))))), (62, .ep 1 (D.str x) 0), (63, .d (.str x)), (64, V.tuple [.d (.list 1 (map u8 b)), .d (.int .i64 0)]), (65, .ptr 0 0 0), (66, .d (.str x)), (67, V.tuple [.d (.list 1 (map u8 b)), .d (.int .i64 0)]), (68, .d (.list 1 (map u8 b))), (69, .d (.int .i64 0)), (70, .d (.int .i64 0)), (71, .d (.bool false)), (72, .d (.bool false)), (73, .d (.str x)), (74, .d (.bool (mayName x))), (75, .d (.bool !mayName x)), (76, .d (.bool !mayName x)), (77, V.tuple [.d (.list 1 (map u8 c)), .d (.int .i64 0)]), (78, .ptr 6 0 0), (79, .d (.str x)), (80, V.tuple [.d (.list 1 (map u8 c)), .d (.int .i64 0)]), (81, .d (.list 1 (map u8 c))), (82, .d (.int .i64 0)), (83, .d (.int .i64 0))]) (σ' := (SP 1 2 d true [.cells (hC 7 8 11 e), .row 2 (map fileD e.files) true, .cells [.row 9, .row 10], .row 1 (map strD e.nk) true, .row 1 (map intD e.nv) true, .row 3 (map chD e.ch) true, .cells [.d (.int .i64 dir), .d (.list 1 (map intD keep))]])) (by kernel_rfl)) ?_
              rw [hmay]
              refine Run.ap [1, 2, 3, 4] [(84, .d (.bool true)), (85, .d (.bool true)), (86, .d (.list 7 (map dopD l))), (87, .d (.str x))] [] ?_
              refine Run.one (StepF.data (o := ((drawOf (G11 127 [false, false, true, false]))[5]?).getD default) (v := .d (.bool (soleB (cutD l) x))) (by kernel_rfl) rfl (by kernel_rfl) (by kernel_rfl) (by kernel_rfl) (fun s => sem_data0 (x := (.func 49)) (args := #[(.tmp 86), (.tmp 87)]) (ts := #[54, 9]) (first := []) (cap := []) (ds := [.d (.list 7 (map dopD l)), .d (.str x)]) (v := .d (.bool (soleB (cutD l) x))) F49 (@spec_49 (x) (l) (by assumption) (by assumption)) (by kernel_rfl) (by kernel_rfl) (by kernel_rfl) (by kernel_rfl) (by kernel_rfl) (by kernel_rfl) _)) ?_
              rw [hsb]
              exact Run.fin
            refine .sg0 7 [0, 5, 6, 7, 10, 12, 13, 14, 15, 16, 58, 59, 60, 61, 62, 63, 64, 65, 66, 67, 68, 69, 70, 71, 72, 73, 74, 75, 76, 77, 78, 79, 80, 81, 82, 83, 84, 85, 86, 87, 88, 89, 90, 91, 92, 93, 94, 95, 96, 97, 98, 99, 100, 101, 102, 103, 104, 105, 106, 107] (G11 135 [false, false, true, false, false]) [(60, .d (.int .i64 (IntKind.i64.wrap ((↑i : Int) + 1)))), (107, .d (.int .i64 (IntKind.i64.wrap ((↑i : Int) + 1))))] ?_
            simp only [List.length_map]
            simp (disch := omega) only [bsW]
            refine .kp [0, 5, 6, 7, 10, 58, 59, 60] ?_
            refine .su [0, 1, 2, 3, 4, 5, 6, 7, 8, 9, 10, 11, 12] (mk 119 [(0, .d (.list 7 (l.map dopD))), (5, .ptr 12 0 0), (6, .d (.bool false)), (7, .ptr 0 0 0), (10, .ptr 6 0 0), (58, .d (.list 1 (d.nk.map strD))), (59, .d (.int .i64 (d.nk.length : Nat))), (60, .d (.int .i64 ((i + 1 : Nat) : Int)))]) (S11 d e true dir keep) ?_
            exact .seg 1 [0, 5, 6, 7, 10, 58, 59, 60] (by kernel_rfl) ih
          | true =>
            obtain ⟨n, hbn⟩ := hsole hsb
            have hlen : b.length ≤ c.length := by rw [hbn, List.length_take]; omega
            have hbc : b = c.take b.length := by rw [hbn, List.length_take, ← List.take_take]; simp
            have hg1 : decide ((↑(List.map u8 b).length : Int) > (↑(List.map u8 c).length : Int)) = false := by simp; omega
            have hg3 : (!(strOf (List.take (List.map u8 b).length c)).toList == (strOf b).toList) = false := by rw [List.length_map, ← hbc]; simp
            clear hsole hbn hbc
            refine .dr (G11 128 [false, false, true, false]) [(74, .d (.bool true)), (75, .d (.bool false)), (76, .d (.bool false)), (83, .d (.int .i64 0)), (84, .d (.bool true)), (85, .d (.bool true)), (86, .d (.list 7 (map dopD l))), (87, .d (.str x)), (88, .d (.bool true)), (89, .d (.bool true)), (90, .d (.bool true)), (91, .d (.list 1 (map u8 b))), (92, .d (.int .i64 (↑(map u8 b).length : Int))), (93, .d (.list 1 (map u8 c))), (94, .d (.int .i64 (↑(map u8 c).length : Int))), (95, .d (.bool false)), (96, .d (.bool false)), (97, .d (.list 1 (map u8 c))), (98, .d (.list 1 (map u8 b))), (99, .d (.int .i64 (↑(map u8 b).length : Int))), (100, .d (.list 1 (List.drop 0 (List.take (map u8 b).length (map u8 c))))), (101, .d (.str (strOf (List.take (map u8 b).length c)))), (102, .d (.list 1 (map u8 b))), (103, .d (.str (strOf b))), (104, .d (.bool false)), (105, .d (.bool false)), (106, .d (.bool false))] [] (fun kz L hL => ?_) ?_
            · refine ⟨qF6, run_amongF hL _ [] [0, 1, 2, 3, 4, 5, 6, 7, 8, 10, 9, 11, 12, 13, 14, 15, 19, 20, 16, 17, 18, 21, 22, 23] (by intro p hp; cases hp) (by kernel_rfl) ?_⟩
              refine Run.append (A := [0]) (srunF_ok (tm' := mk 119 [(0, .d (.list 7 (map dopD l))), (5, .ptr 12 0 0), (6, .d (.bool false)), (7, .ptr 0 0 0), (10, .ptr 6 0 0), (12, .d (.str x)), (13, .d (.list 1 (map u8 b))), (14, .d (.int .i64 0)), (15, .d (.list 1 (map u8 c))), (16, .d (.int .i64 0)), (58, .d (.list 1 (map strD d.nk))), (59, .d (.int .i64 (↑d.nk.length : Int))), (60, .d (.int .i64 (↑i : Int))), (61, .d (.bool (decide ((↑i : Int) < (↑d.nk.length : Int))))), (62, .ep 1 (D.str x) 0), (63, .d (.str x)), (64, V.tuple [.d (.list 1 (map u8 b)), .d (.int .i64 0)]), (65, .ptr 0 0 0), (66, .d (.str x)), (67, V.tuple [.d (.list 1 (map u8 b)), .d (.int .i64 0)]), (68, .d (.list 1 (map u8 b))), (69, .d (.int .i64 0)), (70, .d (.int .i64 0)), (71, .d (.bool false)), (72, .d (.bool false)), (73, .d (.str x)), (74, .d (.bool (mayName x))), (75, .d (.bool !mayName x)), (76, .d (.bool !mayName x)), (77, V.tuple [.d (.list 1 (map u8 c)), .d (.int .i64 0)]), (78, .ptr 6 0 0), (79, .d (.str x)), (80, V.tuple [.d (.list 1 (map u8 c)), .d (.int .i64 0)]), (81, .d (.list 1 (map u8 c))), (82, .d (.int .i64 0)), (83, .d (.int .i64 0))]) (σ' := (SP 1 2 d true [.cells (hC 7 8 11 e), .row 2 (map fileD e.files) true, .cells [.row 9, .row 10], .row 1 (map strD e.nk) true, .row 1 (map intD e.nv) true, .row 3 (map chD e.ch) true, .cells [.d (.int .i64 dir), .d (.list 1 (map intD keep))]])) (by kernel_rfl)) ?_
              rw [hmay]
              refine Run.ap [1, 2, 3, 4] [(84, .d (.bool true)), (85, .d (.bool true)), (86, .d (.list 7 (map dopD l))), (87, .d (.str x))] [] ?_
              refine Run.one (StepF.data (o := ((drawOf (G11 127 [false, false, true, false]))[5]?).getD default) (v := .d (.bool (soleB (cutD l) x))) (by kernel_rfl) rfl (by kernel_rfl) (by kernel_rfl) (by kernel_rfl) (fun s => sem_data0 (x := (.func 49)) (args := #[(.tmp 86), (.tmp 87)]) (ts := #[54, 9]) (first := []) (cap := []) (ds := [.d (.list 7 (map dopD l)), .d (.str x)]) (v := .d (.bool (soleB (cutD l) x))) F49 (@spec_49 (x) (l) (by assumption) (by assumption)) (by kernel_rfl) (by kernel_rfl) (by kernel_rfl) (by kernel_rfl) (by kernel_rfl) (by kernel_rfl) _)) ?_
              rw [hsb]
              refine Run.append (A := [6, 7, 8, 10, 9, 11, 12]) (srunF_ok (tm' := mk 119 [(0, .d (.list 7 (map dopD l))), (5, .ptr 12 0 0), (6, .d (.bool false)), (7, .ptr 0 0 0), (10, .ptr 6 0 0), (12, .d (.str x)), (13, .d (.list 1 (map u8 b))), (14, .d (.int .i64 0)), (15, .d (.list 1 (map u8 c))), (16, .d (.int .i64 0)), (58, .d (.list 1 (map strD d.nk))), (59, .d (.int .i64 (↑d.nk.length : Int))), (60, .d (.int .i64 (↑i : Int))), (61, .d (.bool (decide ((↑i : Int) < (↑d.nk.length : Int))))), (62, .ep 1 (D.str x) 0), (63, .d (.str x)), (64, V.tuple [.d (.list 1 (map u8 b)), .d (.int .i64 0)]), (65, .ptr 0 0 0), (66, .d (.str x)), (67, V.tuple [.d (.list 1 (map u8 b)), .d (.int .i64 0)]), (68, .d (.list 1 (map u8 b))), (69, .d (.int .i64 0)), (70, .d (.int .i64 0)), (71, .d (.bool false)), (72, .d (.bool false)), (73, .d (.str x)), (74, .d (.bool true)), (75, .d (.bool !true)), (76, .d (.bool !true)), (77, V.tuple [.d (.list 1 (map u8 c)), .d (.int .i64 0)]), (78, .ptr 6 0 0), (79, .d (.str x)), (80, V.tuple [.d (.list 1 (map u8 c)), .d (.int .i64 0)]), (81, .d (.list 1 (map u8 c))), (82, .d (.int .i64 0)), (83, .d (.int .i64 0)), (84, .d (.bool true)), (85, .d (.bool true)), (86, .d (.list 7 (map dopD l))), (87, .d (.str x)), (88, .d (.bool true)), (89, .d (.bool true)), (90, .d (.bool true)), (91, .d (.list 1 (map u8 b))), (92, .d (.int .i64 (↑(map u8 b).length : Int))), (93, .d (.list 1 (map u8 c))), (94, .d (.int .i64 (↑(map u8 c).length : Int))), (95, .d (.bool (decide ((↑(map u8 b).length : Int) > (↑(map u8 c).length : Int)))))]) (σ' := (SP 1 2 d true [.cells (hC 7 8 11 e), .row 2 (map fileD e.files) true, .cells [.row 9, .row 10], .row 1 (map strD e.nk) true, .row 1 (map intD e.nv) true, .row 3 (map chD e.ch) true, .cells [.d (.int .i64 dir), .d (.list 1 (map intD keep))]])) (by kernel_rfl)) ?_
              rw [hg1]
              refine Run.ap [13, 14, 15, 19] [(96, .d (.bool false)), (97, .d (.list 1 (map u8 c))), (98, .d (.list 1 (map u8 b))), (102, .d (.list 1 (map u8 b)))] [] ?_
              refine Run.lk 20 (.d (.str (strOf b))) [(.tmp 102)] (fun tm' σ2 hv hr => bts_data (s := 22) (t := 9) (x := (.tmp 102)) (bs := b) (by kernel_rfl) (by kernel_rfl) (by kernel_rfl) (evv hv)) ?_
              refine Run.ap [16] [(99, .d (.int .i64 (↑(map u8 b).length : Int)))] [] ?_
              refine Run.lk 17 (.d (.list 1 (List.drop 0 (List.take (map u8 b).length (map u8 c))))) [(.tmp 97), (.tmp 99)] (fun tm' σ2 hv hr => slData_ok (t := 22) (x := (.tmp 97)) (lo := none) (hi := (some (.tmp 99))) (sz := 1) (xs := map u8 c) (0) ((map u8 b).length) (by kernel_rfl) (evl hv) (by kernel_rfl) rfl (bnd_some (k := IntKind.i64) (i := (↑(map u8 b).length : Int)) (evv hv) (by omega) (by rfl)) (by omega) (by simp <;> omega)) ?_
              refine Run.lk 18 (.d (.str (strOf (List.take (map u8 b).length c)))) [(.tmp 100)] (fun tm' σ2 hv hr => bts_cut (s := 22) (t := 9) (x := (.tmp 100)) (n := (map u8 b).length) (bs := c) (by kernel_rfl) (by kernel_rfl) (by kernel_rfl) (evv hv)) ?_
              refine Run.append (A := [21]) (srunF_ok (tm' := mk 119 [(0, .d (.list 7 (map dopD l))), (5, .ptr 12 0 0), (6, .d (.bool false)), (7, .ptr 0 0 0), (10, .ptr 6 0 0), (12, .d (.str x)), (13, .d (.list 1 (map u8 b))), (14, .d (.int .i64 0)), (15, .d (.list 1 (map u8 c))), (16, .d (.int .i64 0)), (58, .d (.list 1 (map strD d.nk))), (59, .d (.int .i64 (↑d.nk.length : Int))), (60, .d (.int .i64 (↑i : Int))), (61, .d (.bool (decide ((↑i : Int) < (↑d.nk.length : Int))))), (62, .ep 1 (D.str x) 0), (63, .d (.str x)), (64, V.tuple [.d (.list 1 (map u8 b)), .d (.int .i64 0)]), (65, .ptr 0 0 0), (66, .d (.str x)), (67, V.tuple [.d (.list 1 (map u8 b)), .d (.int .i64 0)]), (68, .d (.list 1 (map u8 b))), (69, .d (.int .i64 0)), (70, .d (.int .i64 0)), (71, .d (.bool false)), (72, .d (.bool false)), (73, .d (.str x)), (74, .d (.bool true)), (75, .d (.bool false)), (76, .d (.bool false)), (77, V.tuple [.d (.list 1 (map u8 c)), .d (.int .i64 0)]), (78, .ptr 6 0 0), (79, .d (.str x)), (80, V.tuple [.d (.list 1 (map u8 c)), .d (.int .i64 0)]), (81, .d (.list 1 (map u8 c))), (82, .d (.int .i64 0)), (83, .d (.int .i64 0)), (84, .d (.bool true)), (85, .d (.bool true)), (86, .d (.list 7 (map dopD l))), (87, .d (.str x)), (88, .d (.bool true)), (89, .d (.bool true)), (90, .d (.bool true)), (91, .d (.list 1 (map u8 b))), (92, .d (.int .i64 (↑(map u8 b).length : Int))), (93, .d (.list 1 (map u8 c))), (94, .d (.int .i64 (↑(map u8 c).length : Int))), (95, .d (.bool false)), (96, .d (.bool false)), (97, .d (.list 1 (map u8 c))), (98, .d (.list 1 (map u8 b))), (99, .d (.int .i64 (↑(map u8 b).length : Int))), (100, .d (.list 1 (List.drop 0 (List.take (map u8 b).length (map u8 c))))), (101, .d (.str (strOf (List.take (map u8 b).length c)))), (102, .d (.list 1 (map u8 b))), (103, .d (.str (strOf b))), (104, .d (.bool !(strOf (List.take (map u8 b).length c)).toList == (strOf b).toList))]) (σ' := (SP 1 2 d true [.cells (hC 7 8 11 e), .row 2 (map fileD e.files) true, .cells [.row 9, .row 10], .row 1 (map strD e.nk) true, .row 1 (map intD e.nv) true, .row 3 (map chD e.ch) true, .cells [.d (.int .i64 dir), .d (.list 1 (map intD keep))]])) (by kernel_rfl)) ?_
              rw [hg3]
              exact Run.fin
            refine .sg0 7 [0, 5, 6, 7, 10, 12, 13, 14, 15, 16, 58, 59, 60, 61, 62, 63, 64, 65, 66, 67, 68, 69, 70, 71, 72, 73, 74, 75, 76, 77, 78, 79, 80, 81, 82, 83, 84, 85, 86, 87, 88, 89, 90, 91, 92, 93, 94, 95, 96, 97, 98, 99, 100, 101, 102, 103, 104, 105, 106, 107] (G11 135 [false, false, true, false, false]) [(60, .d (.int .i64 (IntKind.i64.wrap ((↑i : Int) + 1)))), (107, .d (.int .i64 (IntKind.i64.wrap ((↑i : Int) + 1))))] ?_
            simp only [List.length_map]
            simp (disch := omega) only [bsW]
            refine .kp [0, 5, 6, 7, 10, 58, 59, 60] ?_
            refine .su [0, 1, 2, 3, 4, 5, 6, 7, 8, 9, 10, 11, 12] (mk 119 [(0, .d (.list 7 (l.map dopD))), (5, .ptr 12 0 0), (6, .d (.bool false)), (7, .ptr 0 0 0), (10, .ptr 6 0 0), (58, .d (.list 1 (d.nk.map strD))), (59, .d (.int .i64 (d.nk.length : Nat))), (60, .d (.int .i64 ((i + 1 : Nat) : Int)))]) (S11 d e true dir keep) ?_
            exact .seg 1 [0, 5, 6, 7, 10, 58, 59, 60] (by kernel_rfl) ih
    · simp only [bsX] at h1
      omega
theorem st11 (l : List DOp) (hl : l.length ≤ 9223372036854775807) (hf : ∀ o ∈ l, o.fits) (d : Dk) (N : Nat) (h : d.Ok N) (hN : N ≤ 120) (hm : d.Mn) (hsole : ∀ x, soleB (cutD l) x = true → ∃ c, Sole x d c) (dir dir2 : Int) (keep keep2 : List Int) (hkv : ∀ v ∈ keep, -9223372036854775808 ≤ v ∧ v < 9223372036854775808) (hkv2 : ∀ v ∈ keep2, -9223372036854775808 ≤ v ∧ v < 9223372036854775808) (hk : keep.length ≤ maxLen) (hk2 : keep2.length ≤ maxLen) :
   AW Try.prog 11 none 0 (G11 18 []) (mk 119 [(0, .d (.list 7 (l.map dopD))), (4, .ptr 6 0 0), (5, .ptr 7 0 0), (6, .d (.bool false)), (7, .ptr 0 0 0), (9, .d (.bool true))]) (SD d true ++ [.cells [.d (.int .i64 dir), .d (.list 1 (keep.map intD))], .cells [.d (.int .i64 dir2), .d (.list 1 (keep2.map intD))]]) [] fun r σ' => r = .ret (.d (.bool true)) := by
 refine .sg0 12 [0, 4, 5, 6, 7, 9, 24, 25, 26, 27, 28, 29, 30, 31, 32] (G11 30 []) [(24, .d (.bool true)), (25, .d (.bool false)), (26, .d (.bool false)), (27, .ptr 6 0 1), (28, .d (.list 1 (map intD keep))), (29, .d (.int .i64 (↑(map intD keep).length : Int))), (30, .d (.bool (decide ((↑(map intD keep).length : Int) > 300)))), (31, .d (.bool (decide ((↑(map intD keep).length : Int) > 300)))), (32, .d (.bool (decide ((↑(map intD keep).length : Int) > 300))))] ?_
 simp only [List.length_map]
 rcases Bool.eq_false_or_eq_true (decide ((↑keep.length : Int) > 300)) with h1 | h1
 · rw [h1]
   simp only [bsX] at h1
   refine .sge 11 [0, 4, 5, 6, 7, 9, 38, 39] (G11 41 [true]) ?_
   refine .cd (G11 42 [true]) F30 (@spec_30) ?_
   refine .sg0 3 [0, 4, 5, 6, 7] (G11 45 [true]) [(6, .d (.bool true))] ?_
   refine .kp [6] ?_
   refine .su [] (mk 119 [(6, .d (.bool true))]) [] ?_
   refine .rt F11 (V.d (D.bool true)) ?_
   exact rfl
 · rw [h1]
   simp only [bsX] at h1
   refine .sg0 6 [0, 4, 5, 6, 7, 9, 37] (G11 36 []) [(37, .d (.bool (decide ((↑(map intD keep2).length : Int) > 300))))] ?_
   simp only [List.length_map]
   refine .if' (decide ((↑keep2.length : Int) > 300)) (G11 37 [true]) (G11 37 [false]) (fun h2 => ?_) (fun h2 => ?_)
   · simp only [bsX] at h2
     refine .sge 4 [0, 4, 5, 6, 7, 9, 38, 39] (G11 41 [true]) ?_
     refine .cd (G11 42 [true]) F30 (@spec_30) ?_
     refine .sg0 3 [0, 4, 5, 6, 7] (G11 45 [true]) [(6, .d (.bool true))] ?_
     refine .kp [6] ?_
     refine .su [] (mk 119 [(6, .d (.bool true))]) [] ?_
     refine .rt F11 (V.d (D.bool true)) ?_
     exact rfl
   · simp only [bsX] at h2
     refine .sg0 4 [0, 4, 5, 6, 7, 42] (G11 41 [false]) [(42, .ptr 0 0 0)] ?_
     refine .ca [0, 1, 2, 3, 4, 5] (G11 42 [false]) F47 (@spec_47 (d) (N) (by assumption)) ?_
     rintro r2 s2 ⟨rfl, rfl⟩
     refine ⟨_, rfl, ?_⟩
     refine .sge 6 [0, 4, 5, 6, 7, 10, 44, 45] (G11 48 [false]) ?_
     refine .ca [0, 1, 2, 3, 4, 5] (G11 49 [false]) F35 (@spec_35 (d) (N) (by assumption) (dir) (keep) (by omega) (by assumption)) ?_
     rintro r3 s3 ⟨rfl, rfl⟩
     refine ⟨_, rfl, ?_⟩
     refine .sg0 5 [0, 5, 6, 7, 10, 47] (G11 54 [false]) [(47, .ptr 0 0 0)] ?_
     refine .ca [0, 1, 14, 15, 16, 5] (G11 55 [false]) F41 (@spec_41 (d.crash dir keep)) ?_
     rintro r4 s4 ⟨rfl, rfl⟩
     refine ⟨_, rfl, ?_⟩
     refine .sge 2 [0, 5, 6, 7, 10, 47, 48, 49, 50] (G11 57 [false]) ?_
     refine .ca [0, 1, 14, 15, 16, 5] (G11 58 [false]) F48 (@spec_48 (d.crash dir keep)) ?_
     rintro r5 s5 ⟨rfl, rfl⟩
     refine ⟨_, rfl, ?_⟩
     refine .sg0 12 [0, 5, 6, 7, 10, 57] (G11 70 [false, false]) [(57, .ptr 0 0 0)] ?_
     refine .kp [0, 5, 6, 7, 10, 57] ?_
     have kd := Dk.crash_ok h dir keep
     have hw := crash_whole h dir keep
     have mn := mn_crash h (by omega) hm dir keep
     have hs : ∀ x ∈ (d.crash dir keep).nk, soleB (cutD l) x = true → ∀ k, look d.nk d.nv x = some k → ∃ m, ((d.crash dir keep).file ((d.crash dir keep).num x)).1 = (d.file k.toNat).1.take m := by
        intro x hx hsb k hlk
        obtain ⟨i, hi, hxi⟩ := List.mem_iff_getElem.1 hx
        obtain ⟨v, hv⟩ := get_some (l := (d.crash dir keep).nv) (i := i) (by rw [kd.nl]; exact hi)
        have hlv : look (d.crash dir keep).nk (d.crash dir keep).nv x = some v := (look_iff kd.nr).2 ⟨i, by rw [List.getElem?_eq_getElem hi, hxi], hv⟩
        obtain ⟨c, hc⟩ := hsole x hsb
        have hnum : (d.crash dir keep).num x = v.toNat := by unfold Dk.num; rw [hlv]; rfl
        rw [hnum]
        exact crash_sole h hc hlv hlk
     have e1 : (d.crash dir keep).sk = (d.crash dir keep).nk := rfl
     have e2 : (d.crash dir keep).sv = (d.crash dir keep).nv := rfl
     have e3 : (d.crash dir keep).ch = [] := rfl
     refine .su [0, 1, 14, 15, 16, 5, 8, 9, 10, 11, 12, 13, 7] (mk 119 [(0, .d (.list 7 (l.map dopD))), (5, .ptr 12 0 0), (6, .d (.bool false)), (7, .ptr 0 0 0), (10, .ptr 6 0 0), (57, .ptr 0 0 0)]) (S11 (d.crash dir keep) d true dir2 keep2) ?_
     generalize d.crash dir keep = d1 at *
     refine .ca [0, 1, 2, 3, 4, 5] (G11 71 [false, false]) F44 (spec_44 d1 N kd) ?_
     rintro r1 s1 ⟨rfl, rfl⟩
     refine ⟨_, rfl, ?_⟩
     have hnext := fi11 d1 d N kd (by omega) e1 e2 e3 hw dir2 keep2 (by omega) hkv2
     have hnext := lo11 l hl hf d1 d N N kd h mn hs dir2 keep2 _ hnext d1.nk.length 0 (by omega)
     clear hs hsole mn hw h kd
     refine .seg 4 [0, 5, 6, 7, 10, 58, 59, 60] (T' := cgo 75 [false, false] [.code B11]) (tm' := mk 119 [(0, .d (.list 7 (map dopD l))), (5, .ptr 12 0 0), (6, .d (.bool false)), (7, .ptr 0 0 0), (10, .ptr 6 0 0), (58, .d (.list 1 (map strD d1.nk))), (59, .d (.int .i64 (↑(map strD d1.nk).length : Int))), (60, .d (.int .i64 0))]) (σ' := (SP 1 2 d1 true [.cells (hC 7 8 11 d), .row 2 (map fileD d.files) true, .cells [.row 9, .row 10], .row 1 (map strD d.nk) true, .row 1 (map intD d.nv) true, .row 3 (map chD d.ch) true, .cells [.d (.int .i64 dir2), .d (.list 1 (map intD keep2))]])) (by kernel_rfl) ?_
     simp only [List.length_map]
     exact .seg 1 [0, 5, 6, 7, 10, 58, 59, 60] (by kernel_rfl) hnext
theorem spec_11 (l : List DOp) (hl : l.length ≤ maxLen) (hf : ∀ o ∈ l, o.fits) (dir dir2 : Int) (keep keep2 : List Int) (hk : keep.length ≤ maxLen) (hkv : ∀ v ∈ keep, -9223372036854775808 ≤ v ∧ v < 9223372036854775808) (hk2 : keep2.length ≤ maxLen) (hkv2 : ∀ v ∈ keep2, -9223372036854775808 ≤ v ∧ v < 9223372036854775808) :
  Br.Pure Try.prog 11 [.d (.list 7 (l.map dopD)), .d (.agg [.int .i64 dir, .list 1 (keep.map intD)]), .d (.agg [.int .i64 dir2, .list 1 (keep2.map intD)])] (.d (.bool true)) := by
 refine CallsA.pure ?_ rfl
 refine CallsA.start F11 (tm := mk (Try.f11.ntmps) [(0, .d (.list 7 (l.map dopD))), (1, .d (.agg [.int .i64 dir, .list 1 (keep.map intD)])), (2, .d (.agg [.int .i64 dir2, .list 1 (keep2.map intD)]))]) (by kernel_rfl) ?_
 have hl2 : l.length ≤ 9223372036854775807 := Nat.le_trans hl (by decide)
 refine .sge 9 [0, 4, 5, 6, 19] (G11 9 []) ?_
 refine .ca [] (G11 10 []) F36 (@spec_36 (1048576) (by omega) (l) (by assumption) (by assumption)) ?_
 rintro r0 s0 ⟨rfl, rfl⟩
 refine ⟨_, rfl, ?_⟩
 refine .seg 8 [0, 4, 5, 6, 7, 9] (T' := cgo 18 [] [.code B11]) (tm' := mk 119 [(0, .d (.list 7 (map dopD l))), (4, .ptr 0 0 0), (5, .ptr 1 0 0), (6, .d (.bool false)), (7, .ptr 2 0 0), (9, .d (.bool true))]) (σ' := [.cells [.d (.int .i64 dir), .d (.list 1 (map intD keep))], .cells [.d (.int .i64 dir2), .d (.list 1 (map intD keep2))], .cells [.row 3, .ptr 4 0 0, .ep 2 (D.agg [D.list 1 (map strD (runA (Dk.new 1048576, -1) (cutD l)).fst.sk), D.list 1 (map intD (runA (Dk.new 1048576, -1) (cutD l)).fst.sv)]) 0, .row 7, .d (.int .i64 (runA (Dk.new 1048576, -1) (cutD l)).fst.quota), .d (.bool (runA (Dk.new 1048576, -1) (cutD l)).fst.full), .d (.bool (runA (Dk.new 1048576, -1) (cutD l)).fst.off), .d (.int .i64 (runA (Dk.new 1048576, -1) (cutD l)).fst.stop), .d (.int .i64 (runA (Dk.new 1048576, -1) (cutD l)).fst.calls)], .row 2 (map fileD (runA (Dk.new 1048576, -1) (cutD l)).fst.files) true, .cells [.row 5, .row 6], .row 1 (map strD (runA (Dk.new 1048576, -1) (cutD l)).fst.nk) true, .row 1 (map intD (runA (Dk.new 1048576, -1) (cutD l)).fst.nv) true, .row 3 (map chD (runA (Dk.new 1048576, -1) (cutD l)).fst.ch) true, .cells [.row 9, .d (.list 2 (map nmD (Rof (runA (Dk.new 1048576, -1) (cutD l)).fst (runA (Dk.new 1048576, -1) (cutD l)).snd).now)), .d (.list 2 (map nmD (Rof (runA (Dk.new 1048576, -1) (cutD l)).fst (runA (Dk.new 1048576, -1) (cutD l)).snd).sure)), .row 10, .d (.int .i64 (runA (Dk.new 1048576, -1) (cutD l)).fst.quota), .d (.bool (runA (Dk.new 1048576, -1) (cutD l)).fst.full), .d (.bool (runA (Dk.new 1048576, -1) (cutD l)).fst.off), .d (.int .i64 (runA (Dk.new 1048576, -1) (cutD l)).snd), .d (.int .i64 (runA (Dk.new 1048576, -1) (cutD l)).fst.calls)], .row 2 (map fileD (runA (Dk.new 1048576, -1) (cutD l)).fst.files) true, .row 3 (map chD (runA (Dk.new 1048576, -1) (cutD l)).fst.ch) true]) (by kernel_rfl) ?_
 have hb := runA_both (cutD l) (Both.new (q := 1048576) (by decide)) (by have := cutA_le l; omega) fun o ho => (cutA_fits hf o ho).2
 have hm := mn_run (cutD l) (Both.new (q := 1048576) (by decide)) (mn_new 1048576) (by have := cutA_le l; omega) fun o ho => (cutA_fits hf o ho).2
 have hsole : ∀ x, soleB (cutD l) x = true → ∃ c, Sole x (runA (Dk.new 1048576, -1) (cutD l)).1 c := by
  intro x hx
  simp only [soleB, Bool.and_eq_true, List.all_eq_true, decide_eq_true_eq] at hx
  exact ⟨_, sole_run (cutD l) (Both.new (q := 1048576) (by decide)) (sole_new x 1048576) (by have := cutA_le l; omega) (fun o ho => (cutA_fits hf o ho).2) (fun o ho => by simpa using hx.1 o ho) (by omega)⟩
 have hc := cutA_le l
 generalize runA (Dk.new 1048576, -1) (cutD l) = p at *
 refine .su [2, 3, 4, 5, 6, 7, 0, 1] (mk 119 [(0, .d (.list 7 (l.map dopD))), (4, .ptr 6 0 0), (5, .ptr 7 0 0), (6, .d (.bool false)), (7, .ptr 0 0 0), (9, .d (.bool true))]) (SD p.1 true ++ [.cells [.d (.int .i64 dir), .d (.list 1 (keep.map intD))], .cells [.d (.int .i64 dir2), .d (.list 1 (keep2.map intD))]]) ?_
 exact st11 l hl2 hf p.1 _ hb.ok (by omega) hm hsole dir dir2 keep keep2 hkv hkv2 hk hk2
end Go.Proofs.Ytoelkgbeefoplaa
