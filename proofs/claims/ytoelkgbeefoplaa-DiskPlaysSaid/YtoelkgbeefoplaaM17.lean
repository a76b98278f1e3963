/- Texts of this proof, part 17: ListA, LikeA, PlayB. -/
import Derived.Test.YtoelkgbeefoplaaM16
set_option linter.unusedSimpArgs false
set_option linter.unusedVariables false
set_option linter.constructorNameAsVariable false
namespace Go.Proofs.Ytoelkgbeefoplaa
open Go Go.Br Go.Proofs
open List (map)
noncomputable def B82 : Code := (Try.f82.body).getD .skip
noncomputable def G82 (n : Nat) (l : List Bool) : List Item := cgo n l [.code B82]
theorem F82 : Fnc Try.prog 82 Try.f82 B82 := ⟨Try.func82, by kernel_rfl, by kernel_rfl⟩
noncomputable def B104 : Code := (Try.f104.body).getD .skip
noncomputable def G104 (n : Nat) (l : List Bool) : List Item := cgo n l [.code B104]
theorem F104 : Fnc Try.prog 104 Try.f104 B104 := ⟨Try.func104, by kernel_rfl, by kernel_rfl⟩
noncomputable def B44 : Code := (Try.f44.body).getD .skip
noncomputable def G44 (n : Nat) (l : List Bool) : List Item := cgo n l [.code B44]
theorem F44 : Fnc Try.prog 44 Try.f44 B44 := ⟨Try.func44, by kernel_rfl, by kernel_rfl⟩
theorem spec_82 (d : Dk) : CallsA Try.prog 82 [.ptr 0 0 0] (SD d false) fun r σ' => r = .ret (.fn (.func 104) [] [.ptr 6 0 0]) ∧ σ' = SD d false ++ [.cells [.ptr 0 0 0]] := by
 refine CallsA.start F82 (tm := mk (Try.f82.ntmps) [(0, .ptr 0 0 0)]) (by kernel_rfl) ?_
 refine .seg 10 [2] (T' := cgo 10 [] [.code B82]) (tm' := mk 4 [(2, .fn (Fn.func 104) [] [.ptr 6 0 0])]) (σ' := [.cells (hC 1 2 5 d), .row 2 (map fileD d.files) false, .cells [.row 3, .row 4], .row 1 (map strD d.nk) false, .row 1 (map intD d.nv) false, .row 3 (map chD d.ch) false, .cells [.ptr 0 0 0]]) (by kernel_rfl) ?_
 refine .rt F82 (V.fn (Fn.func 104) [] [V.ptr 6 0 0]) ?_
 exact ⟨rfl, rfl⟩
def afD (d : Dk) (p : ByteArray × Int) : D := .agg [.str p.1, bsD (d.file p.2.toNat).1]
def allF (d : Dk) : List D := (d.nk.zip d.nv).map (afD d)
theorem allF_length (d : Dk) (h : d.nv.length = d.nk.length) : (allF d).length = d.nk.length := by simp [allF, h]
theorem allF_get {d : Dk} {i : Nat} {x : ByteArray} {v : Int} (hx : d.nk[i]? = some x) (hy : d.nv[i]? = some v) : (allF d)[i]? = some (.agg [.str x, bsD (d.file v.toNat).1]) := by
 unfold allF
 rw [List.getElem?_map, (List.getElem?_zip_eq_some.2 ⟨hx, hy⟩ : (d.nk.zip d.nv)[i]? = some (x, v))]; rfl
theorem take_snoc {α : Type} {l : List α} {i : Nat} {y : α} (h : l[i]? = some y) : l.take i ++ [y] = l.take (i + 1) := by
 obtain ⟨hi, rfl⟩ := List.getElem?_eq_some_iff.1 h
 rw [List.take_succ_eq_append_getElem hi]
noncomputable def S44 (d : Dk) (i : Nat) (st : LoopState) : Store := [.cells [.row 1, .ptr 2 0 0, .ep 2 (dirD d.sk d.sv) 0, .row 5, .d (.int .i64 d.quota), .d (.bool d.full), .d (.bool d.off), .d (.int .i64 d.stop), .d (.int .i64 d.calls)], .row 2 (d.files.map fileD) false, .cells [.row 3, .row 4], .row 1 (d.nk.map strD) false, .row 1 (d.nv.map intD) false, .row 3 (d.ch.map chD) false,
  .cells [.row 8], .cells [.ptr 0 0 0], .row 1 ((d.nk.take i).map strD) true, .defd, lp (G44 11 []) 44 (mk 13 [(2, V.ptr 6 0 0), (5, V.fn (Fn.func 104) [] [V.ptr 7 0 0])]) st]
noncomputable def S104 (d : Dk) (i : Nat) (st : LoopState) : Store := [.cells [.row 1, .ptr 2 0 0, .ep 2 (dirD d.sk d.sv) 0, .row 5, .d (.int .i64 d.quota), .d (.bool d.full), .d (.bool d.off), .d (.int .i64 d.stop), .d (.int .i64 d.calls)], .row 2 (d.files.map fileD) false, .cells [.row 3, .row 4], .row 1 (d.nk.map strD) false, .row 1 (d.nv.map intD) false, .row 3 (d.ch.map chD) false,
  .cells [.row 8], .cells [.ptr 0 0 0], .row 1 ((d.nk.take 0).map strD) true, .defd, lp (G44 11 []) 44 (mk 13 [(2, V.ptr 6 0 0), (5, V.fn (Fn.func 104) [] [V.ptr 7 0 0])]) .ready,
  .cells [.row 14], .cells [.ptr 2 0 0], .cells [.fn (.func 98) [] []], .row 2 ((allF d).take i) true, .defd, lp (G104 22 [false]) 104 (mk 45 [(0, V.yield 10), (1, V.ptr 7 0 0), (3, V.ptr 11 0 0), (14, V.fn (Fn.func 109) [] [V.ptr 12 0 0, V.ptr 13 0 0])]) st]
noncomputable def S44x (d : Dk) (i : Nat) (st : LoopState) : Store := [.cells [.row 1, .ptr 2 0 0, .ep 2 (dirD d.sk d.sv) 0, .row 5, .d (.int .i64 d.quota), .d (.bool d.full), .d (.bool d.off), .d (.int .i64 d.stop), .d (.int .i64 d.calls)], .row 2 (d.files.map fileD) false, .cells [.row 3, .row 4], .row 1 (d.nk.map strD) false, .row 1 (d.nv.map intD) false, .row 3 (d.ch.map chD) false,
  .cells [.row 8], .cells [.ptr 0 0 0], .row 1 ((d.nk.take i).map strD) true, .defd, lp (G44 11 []) 44 (mk 13 [(2, V.ptr 6 0 0), (5, V.fn (Fn.func 104) [] [V.ptr 7 0 0])]) st] ++ [.cells [.d (.list 2 ((d.nk.zip d.nv).map (afD d)))], .cells [.ptr 2 0 0], .cells [.fn (.func 98) [] []], .dead, .defd, lp (G104 22 [false]) 104 (mk 45 [(0, V.yield 10), (1, V.ptr 7 0 0), (3, V.ptr 11 0 0), (14, V.fn (Fn.func 109) [] [V.ptr 12 0 0, V.ptr 13 0 0])]) .exhausted]
noncomputable def S44y (d : Dk) (i : Nat) (st : LoopState) (x : ByteArray) (b : List UInt8) : Store := S44x d i st ++ [.cells [.d (.str x), .d (.list 1 (b.map u8))]]
noncomputable def R44 : List Item := [.code (rfAs (G44 11 [])), .beginRound, .code (rfBd (G44 11 []))]
noncomputable def R104 : List Item := [.code (rfAs (G104 22 [false])), .beginRound, .code (rfBd (G104 22 [false]))]
theorem body104 (d : Dk) (N : Nat) (h : d.Ok N) (i : Nat) (x : ByteArray) (v : Int) (hx : d.nk[i]? = some x) (hy : d.nv[i]? = some v) :
   AW Try.prog 104 (some 16) 17 R104 (mk 45 [(0, V.yield 10), (1, V.ptr 7 0 0), (3, V.ptr 11 0 0), (14, V.fn (Fn.func 109) [] [V.ptr 12 0 0, V.ptr 13 0 0]), (15, .d (.str x)), (16, .d (.int .i64 v))]) (S104 d i .ready) [] fun a σ' => a = .ret (.d (.bool true)) ∧ σ' = S104 d (i + 1) .ready := by
 refine .at (T' := cgo 0 [] R104) rfl ?_
 have hi := (List.getElem?_eq_some_iff.1 hx).1
 have hv := h.nn v (List.mem_of_getElem? hy)
 have hlt : v.toNat < d.files.length := by omega
 obtain ⟨f, hf⟩ := get_some (l := d.files) (i := v.toNat) hlt
 have hm := h.fs f (List.mem_of_getElem? hf)
 have hb := h.nkl
 have hc := h.nb
 have hv1 := hv.1
 have hv2 := hv.2
 have hff : d.file v.toNat = f := by simp [Dk.file, List.getD_eq_getElem?_getD, hf]
 have hg := allF_get hx hy
 rw [hff] at hg
 have hsn := take_snoc hg
 have hal : ((allF d).take i).length ≤ 60000 := by rw [List.length_take]; omega
 have hfl : f.1.length ≤ 140737488355000 := by omega
 refine .sg0 7 [0, 1, 3, 4, 5, 14, 15, 16] (cgo 7 [] R104) [(4, .d (.str x)), (5, .d (.int .i64 v))] ?_
 refine .beginL (T0 := cgo 22 [false] [Item.code B104]) (fn := 104) (tml := (mk 45 [(0, V.yield 10), (1, V.ptr 7 0 0), (3, V.ptr 11 0 0), (14, V.fn (Fn.func 109) [] [V.ptr 12 0 0, V.ptr 13 0 0])])) (by kernel_rfl) (T' := cgo 8 [] R104) (by kernel_rfl) (σ' := (SP 1 2 d false [.cells [.row 8], .cells [.ptr 0 0 0], .row 1 [] true, .defd, lp (G44 11 []) 44 (mk 13 [(2, .ptr 6 0 0), (5, .fn (Fn.func 104) [] [.ptr 7 0 0])]) LoopState.ready, .cells [.row 14], .cells [.ptr 2 0 0], .cells [.fn (Fn.func 98) [] []], .row 2 (List.take i (allF d)) true, .defd, lp (G104 22 [false]) 104 (mk 45 [(0, V.yield 10), (1, .ptr 7 0 0), (3, .ptr 11 0 0), (14, .fn (Fn.func 109) [] [.ptr 12 0 0, .ptr 13 0 0])]) LoopState.busy])) (by kernel_rfl) (by kernel_rfl) ?_
 refine .sg0 1 [1, 3, 4, 5] (cgo 9 [] R104) [] ?_
 refine .newVirt 2 ?_
 refine .dr (cgo 10 [] R104) [(18, .d (.str x)), (19, .ptr 0 0 0), (20, .ptr 0 0 0), (21, .ptr 0 0 0), (22, .row 1), (23, .d (.int .i64 v)), (24, .ptr 1 v.toNat 0), (25, .ptr 1 v.toNat 0), (26, .d (.list 1 (map u8 f.fst))), (27, .d (.list 1 (map u8 f.fst))), (28, .d (.agg [D.str x, D.list 1 (map u8 f.fst)])), (29, .row 17), (30, .row 14)] [(14, .row 2 (List.take i (allF d) ++ [D.agg [D.str x, D.list 1 (map u8 f.fst)]]) true), (17, .row 2 [D.agg [D.str x, D.list 1 (map u8 f.fst)]] true)] (fun kz L hL => ?_) ?_
 · refine ⟨[fB 11 14, nF, fB 7 0, fA 0, fA 0, ⟨[0], [], [], [1], [0, 1, 2, 5], [], true, false⟩, nF, ⟨[1], [], [], [1], [1], [], true, false⟩, fA 1, fR 1, nF, nF, ⟨[17], [17], [17], [17], [], [], true, false⟩, ⟨[14, 17], [14], [14], [14], [14, 17], [], true, false⟩, ⟨[11], [11], [], [14], [11, 14], [], false, false⟩], run_amongF hL _ [] [0, 1, 2, 3, 4, 5, 6, 7, 8, 9, 10, 11, 12, 13, 14] (by intro p hp; cases hp) (by kernel_rfl) ?_⟩
   refine Run.ap [0, 1, 2, 3, 4, 5, 6] [(17, .row 14), (18, .d (.str x)), (19, .ptr 0 0 0), (20, .ptr 0 0 0), (21, .ptr 0 0 0), (22, .row 1), (23, .d (.int .i64 v))] [] ?_
   refine Run.lk 7 (.ptr 1 v.toNat 0) [(.tmp 22), (.tmp 23)] (fun tm' σ2 hv hr => ixRow_ok (t := 105) (x := (.tmp 22)) (i := (.tmp 23)) (k := IntKind.i64) (n := v) (l := 1) (sz := 2) (xs := map fileD d.files) (mv := false) (by kernel_rfl) (evv hv) (evv hv) (atr hr) (by kernel_rfl) (by assumption) (by simp <;> omega)) ?_
   refine Run.ap [8] [(25, .ptr 1 v.toNat 0)] [] ?_
   refine Run.lk 9 (.d (.list 1 (map u8 f.fst))) [(.tmp 25)] (fun tm' σ2 hv hr => ldRow_ok (t := 22) (x := (.tmp 25)) (l := 1) (i := v.toNat) (s := 0) (sz := 2) (xs := map fileD d.files) (mv := false) (d := fileD f) (v := .d (.list 1 (map u8 f.fst))) (by kernel_rfl) (evv hv) (atr hr) (map_get hf) (by kernel_rfl)) ?_
   refine Run.one (StepF.data (o := ((drawOf (cgo 9 [] R104))[10]?).getD default) (v := .d (.list 1 (map u8 f.fst))) (by kernel_rfl) rfl (by kernel_rfl) (by kernel_rfl) (by kernel_rfl) (fun s => sem_data0 (x := (.func 61)) (args := #[(.tmp 26)]) (ts := #[22]) (first := []) (cap := []) (ds := [.d (.list 1 (map u8 f.fst))]) (v := .d (.list 1 (map u8 f.fst))) F61 (@spec_61 (f.fst) (by assumption)) (by kernel_rfl) (by kernel_rfl) (by kernel_rfl) (by kernel_rfl) (by kernel_rfl) (by kernel_rfl) _)) ?_
   refine Run.ap [11] [(28, .d (.agg [D.str x, D.list 1 (map u8 f.fst)]))] [] ?_
   refine Run.one (StepF.build (o := ((drawOf (cgo 9 [] R104))[12]?).getD default) (t := 160) (len := 1) (parts := #[(0, (.tmp 28))]) (l := 17) (ds := [D.agg [D.str x, D.list 1 (map u8 f.fst)]]) (sz := 2) (mv := false) (by kernel_rfl) rfl (by kernel_rfl) (by kernel_rfl) (by kernel_rfl) (by kernel_rfl) (by kernel_rfl) (by kernel_rfl) (by kernel_rfl) (by kernel_rfl)) ?_
   refine Run.one (StepF.moves (o := ((drawOf (cgo 9 [] R104))[13]?).getD default) (v := .row 14) [(.tmp 17), (.tmp 29)] 14 (.row 2 (List.take i (allF d) ++ [D.agg [D.str x, D.list 1 (map u8 f.fst)]]) true) (by kernel_rfl) rfl (by kernel_rfl) (by kernel_rfl) (by kernel_rfl) (by kernel_rfl) (by kernel_rfl) (by kernel_rfl) (fun tm' σ2 hv hr => appRow_ok (s := (.tmp 17)) (x := (.tmp 29)) (t := 160) (t2 := 160) (sz := 2) (by' := 40) (ys := [D.agg [D.str x, D.list 1 (map u8 f.fst)]]) (l := 14) (xs := List.take i (allF d)) (mv := true) (by kernel_rfl) (evv hv) (atr hr) (by rw [hv _ (by simp)]; exact (cont_at fun l hl => hr l (subB_in (by kernel_rfl) hl)).trans (by kernel_rfl)) (by kernel_rfl) (by kernel_rfl) (by simp <;> omega) (by first | (simp [maxLen] <;> omega) | omega))) ?_
   exact Run.fin
 refine .sg0 1 [] (cgo 11 [] R104) [] ?_
 refine .kp [] ?_
 refine .sub [0, 1, 2, 3, 4, 5, 6, 7, 8, 9, 10, 11, 12, 13, 14, 15, 16] (mk 45 []) (SP 1 2 d false [.cells [.row 8], .cells [.ptr 0 0 0], .row 1 [] true, .defd, lp (G44 11 []) 44 (mk 13 [(2, .ptr 6 0 0), (5, .fn (Fn.func 104) [] [.ptr 7 0 0])]) LoopState.ready, .cells [.row 14], .cells [.ptr 2 0 0], .cells [.fn (Fn.func 98) [] []], .row 2 (List.take i (allF d) ++ [D.agg [D.str x, D.list 1 (map u8 f.fst)]]) true, .defd, lp (G104 22 [false]) 104 (mk 45 [(0, V.yield 10), (1, .ptr 7 0 0), (3, .ptr 11 0 0), (14, .fn (Fn.func 109) [] [.ptr 12 0 0, .ptr 13 0 0])]) LoopState.busy]) (some 16) [] ⟨rfl, rfl, by kernel_rfl⟩ (by kernel_rfl) ⟨Nat.le_of_ble_eq_true (by kernel_rfl), by kernel_rfl⟩ (by kernel_rfl) ⟨by kernel_rfl, by kernel_rfl⟩ ⟨by kernel_rfl, by kernel_rfl⟩ ?_
 refine .roundEndL (T0 := cgo 22 [false] [Item.code B104]) (fn := 104) (tml := (mk 45 [(0, V.yield 10), (1, V.ptr 7 0 0), (3, V.ptr 11 0 0), (14, V.fn (Fn.func 109) [] [V.ptr 12 0 0, V.ptr 13 0 0])])) (st := LoopState.busy) (by kernel_rfl) (by kernel_rfl) (σ' := (SP 1 2 d false [.cells [.row 8], .cells [.ptr 0 0 0], .row 1 [] true, .defd, lp (G44 11 []) 44 (mk 13 [(2, .ptr 6 0 0), (5, .fn (Fn.func 104) [] [.ptr 7 0 0])]) LoopState.ready, .cells [.row 14], .cells [.ptr 2 0 0], .cells [.fn (Fn.func 98) [] []], .row 2 (List.take i (allF d) ++ [D.agg [D.str x, D.list 1 (map u8 f.fst)]]) true, .defd, lp (G104 22 [false]) 104 (mk 45 [(0, V.yield 10), (1, .ptr 7 0 0), (3, .ptr 11 0 0), (14, .fn (Fn.func 109) [] [.ptr 12 0 0, .ptr 13 0 0])]) LoopState.ready])) (by kernel_rfl) ?_
 refine ⟨rfl, ?_⟩
 unfold S104
 rw [← hsn]
 rfl
theorem lo104 (d : Dk) (N : Nat) (h : d.Ok N) (hl : d.nk.length < 60000) (hv : d.nv.length = d.nk.length) : ∀ (m i : Nat), i + m = (d.nk).length →
    AW Try.prog 109 none 17 (G109 24 [false]) (mk 43 [(0, V.yield 16), (5, V.d (.list 1 ((d.nk).map strD))), (6, V.d (.list 1 ((d.nv).map intD))), (27, V.d (.int .i64 ((d.nk).length : Nat))), (28, V.d (.int .i64 (i : Nat)))]) (S104 d i .ready) [] fun r σ' => r = .ret (.tuple []) ∧ σ' = S104 d (d.nk).length .ready := by
  intro m
  induction m with
  | zero =>
    intro i hi
    have hi : i = (d.nk).length := by omega
    subst hi
    refine .sg0 5 [0, 5, 6, 27, 28, 29] (G109 29 [false]) [(29, .d (.bool (decide ((↑d.nk.length : Int) < (↑d.nk.length : Int)))))] ?_
    refine .if' (decide ((↑d.nk.length : Int) < (↑d.nk.length : Int))) (G109 30 [false, true]) (G109 30 [false, false]) (fun h1 => ?_) (fun h1 => ?_)
    · simp only [bsX] at h1
      omega
    · simp only [bsX] at h1
      refine .seg 1 [] (T' := cgo 31 [false, false] [.code B109]) (tm' := mk 43 []) (σ' := [.cells (hC 1 2 5 d), .row 2 (map fileD d.files) false, .cells [.row 3, .row 4], .row 1 (map strD d.nk) false, .row 1 (map intD d.nv) false, .row 3 (map chD d.ch) false, .cells [.row 8], .cells [.ptr 0 0 0], .row 1 [] true, .defd, lp (G44 11 []) 44 (mk 13 [(2, .ptr 6 0 0), (5, .fn (Fn.func 104) [] [.ptr 7 0 0])]) LoopState.ready, .cells [.row 14], .cells [.ptr 2 0 0], .cells [.fn (Fn.func 98) [] []], .row 2 (List.take d.nk.length (allF d)) true, .defd, lp (G104 22 [false]) 104 (mk 45 [(0, .yield 10), (1, .ptr 7 0 0), (3, .ptr 11 0 0), (14, .fn (Fn.func 109) [] [.ptr 12 0 0, .ptr 13 0 0])]) LoopState.ready]) (by kernel_rfl) ?_
      refine .rt F109 (V.tuple []) ?_
      exact ⟨rfl, rfl⟩
  | succ m ih =>
    intro i hi
    obtain ⟨x, hx⟩ := get_some (l := d.nk) (i := i) (by omega)
    obtain ⟨v, hy⟩ := get_some (l := d.nv) (i := i) (by omega)
    have hYi := body104 d N h i x v hx hy
    refine .sg0 5 [0, 5, 6, 27, 28, 29] (G109 29 [false]) [(29, .d (.bool (decide ((↑i : Int) < (↑d.nk.length : Int)))))] ?_
    refine .if' (decide ((↑i : Int) < (↑d.nk.length : Int))) (G109 30 [false, true]) (G109 30 [false, false]) (fun h1 => ?_) (fun h1 => ?_)
    · simp only [bsX] at h1
      refine .sg0 9 [0, 5, 6, 7, 27, 28, 29, 30] (G109 39 [false, true]) [(7, .d (.int .i64 (↑i : Int))), (30, .d (.int .i64 (↑i : Int)))] ?_
      refine .dr (G109 40 [false, true]) [(31, .yield 16), (32, .d (.list 1 (map strD d.nk))), (33, .d (.int .i64 (↑i : Int))), (34, .ep 1 (D.str x) 0), (35, .d (.str x)), (36, .d (.list 1 (map intD d.nv))), (37, .d (.int .i64 (↑i : Int))), (38, .ep 1 (D.int IntKind.i64 v) 0), (39, .d (.int .i64 v)), (40, .d (.bool true)), (41, .d (.bool false))] [(14, .row 2 (List.take (i + 1) (allF d)) true)] (fun kz L hL => ?_) ?_
      · refine ⟨[fO 16, nF, nF, nF, nF, nF, nF, nF, nF, ⟨[], [], [], [], [], [], false, true⟩, nF], run_amongF hL _ [] [0, 1, 2, 3, 4, 5, 6, 7, 8, 9, 10] (by intro p hp; cases hp) (by kernel_rfl) ?_⟩
        refine Run.ap [0, 1, 2] [(31, .yield 16), (32, .d (.list 1 (map strD d.nk))), (33, .d (.int .i64 (↑i : Int)))] [] ?_
        refine Run.lk 3 (.ep 1 (D.str x) 0) [(.tmp 32), (.tmp 33)] (fun tm' σ2 hv hr => ixData_ok (t := 66) (x := (.tmp 32)) (i := (.tmp 33)) (k := IntKind.i64) (n := (↑i : Int)) (sz := 1) (xs := map strD d.nk) (d := strD x) (by kernel_rfl) (evl hv) (evv hv) (by kernel_rfl) (by omega) (map_get hx)) ?_
        refine Run.ap [4, 5, 6] [(35, .d (.str x)), (36, .d (.list 1 (map intD d.nv))), (37, .d (.int .i64 (↑i : Int)))] [] ?_
        refine Run.lk 7 (.ep 1 (D.int IntKind.i64 v) 0) [(.tmp 36), (.tmp 37)] (fun tm' σ2 hv hr => ixData_ok (t := 46) (x := (.tmp 36)) (i := (.tmp 37)) (k := IntKind.i64) (n := (↑i : Int)) (sz := 1) (xs := map intD d.nv) (d := intD v) (by kernel_rfl) (evl hv) (evv hv) (by kernel_rfl) (by omega) (map_get hy)) ?_
        refine Run.ap [8] [(39, .d (.int .i64 v))] [] ?_
        refine Run.one (s1 := (mk 43 [(0, .yield 16), (5, .d (.list 1 (map strD d.nk))), (6, .d (.list 1 (map intD d.nv))), (7, .d (.int .i64 (↑i : Int))), (27, .d (.int .i64 (↑d.nk.length : Int))), (28, .d (.int .i64 (↑i : Int))), (29, .d (.bool (decide ((↑i : Int) < (↑d.nk.length : Int))))), (30, .d (.int .i64 (↑i : Int))), (31, .yield 16), (32, .d (.list 1 (map strD d.nk))), (33, .d (.int .i64 (↑i : Int))), (34, .ep 1 (D.str x) 0), (35, .d (.str x)), (36, .d (.list 1 (map intD d.nv))), (37, .d (.int .i64 (↑i : Int))), (38, .ep 1 (D.int IntKind.i64 v) 0), (39, .d (.int .i64 v)), (40, .d (.bool true))], [.cells (hC 1 2 5 d), .row 2 (map fileD d.files) false, .cells [.row 3, .row 4], .row 1 (map strD d.nk) false, .row 1 (map intD d.nv) false, .row 3 (map chD d.ch) false, .cells [.row 8], .cells [.ptr 0 0 0], .row 1 [] true, .defd, lp (G44 11 []) 44 (mk 13 [(2, .ptr 6 0 0), (5, .fn (Fn.func 104) [] [.ptr 7 0 0])]) LoopState.ready, .cells [.row 14], .cells [.ptr 2 0 0], .cells [.fn (Fn.func 98) [] []], .row 2 (List.take (i + 1) (allF d)) true, .defd, lp (G104 22 [false]) 104 (mk 45 [(0, .yield 10), (1, .ptr 7 0 0), (3, .ptr 11 0 0), (14, .fn (Fn.func 109) [] [.ptr 12 0 0, .ptr 13 0 0])]) LoopState.ready])) (StepF.all (o := ((drawOf (G109 39 [false, true]))[9]?).getD default) (by kernel_rfl) (by kernel_rfl) fun rest hn => AW.yieldD (T0 := cgo 22 [false] [Item.code B104]) (x := (.tmp 31)) (args := #[(.tmp 35), (.tmp 39)]) (ts := #[9, 3]) (l := 16) (st := LoopState.ready) (fn := 104) (tml := (mk 45 [(0, .yield 10), (1, .ptr 7 0 0), (3, .ptr 11 0 0), (14, .fn (Fn.func 109) [] [.ptr 12 0 0, .ptr 13 0 0])])) (R := R104) (o := ((drawOf (G109 39 [false, true]))[9]?).getD default) (N := 17) (by kernel_rfl) (by kernel_rfl) (by kernel_rfl) (by kernel_rfl) (by kernel_rfl) (by kernel_rfl) (by kernel_rfl) (by kernel_rfl) (by kernel_rfl) hYi (by rintro r s ⟨rfl, rfl⟩; exact ⟨_, rfl, AW.as (by kernel_rfl) (by kernel_rfl) hn⟩)) ?_
        exact Run.fin
      refine .seg 7 [0, 5, 6, 7, 27, 28, 29, 30, 31, 32, 33, 34, 35, 36, 37, 38, 39, 40, 41, 42] (T' := cgo 47 [false, true, false] [.code B109]) (tm' := mk 43 [(0, .yield 16), (5, .d (.list 1 (map strD d.nk))), (6, .d (.list 1 (map intD d.nv))), (7, .d (.int .i64 (↑i : Int))), (27, .d (.int .i64 (↑d.nk.length : Int))), (28, .d (.int .i64 (IntKind.i64.wrap ((↑i : Int) + 1)))), (29, .d (.bool (decide ((↑i : Int) < (↑d.nk.length : Int))))), (30, .d (.int .i64 (↑i : Int))), (31, .yield 16), (32, .d (.list 1 (map strD d.nk))), (33, .d (.int .i64 (↑i : Int))), (34, .ep 1 (D.str x) 0), (35, .d (.str x)), (36, .d (.list 1 (map intD d.nv))), (37, .d (.int .i64 (↑i : Int))), (38, .ep 1 (D.int IntKind.i64 v) 0), (39, .d (.int .i64 v)), (40, .d (.bool true)), (41, .d (.bool false)), (42, .d (.int .i64 (IntKind.i64.wrap ((↑i : Int) + 1))))]) (σ' := [.cells (hC 1 2 5 d), .row 2 (map fileD d.files) false, .cells [.row 3, .row 4], .row 1 (map strD d.nk) false, .row 1 (map intD d.nv) false, .row 3 (map chD d.ch) false, .cells [.row 8], .cells [.ptr 0 0 0], .row 1 [] true, .defd, lp (G44 11 []) 44 (mk 13 [(2, .ptr 6 0 0), (5, .fn (Fn.func 104) [] [.ptr 7 0 0])]) LoopState.ready, .cells [.row 14], .cells [.ptr 2 0 0], .cells [.fn (Fn.func 98) [] []], .row 2 (List.take (i + 1) (allF d)) true, .defd, lp (G104 22 [false]) 104 (mk 45 [(0, .yield 10), (1, .ptr 7 0 0), (3, .ptr 11 0 0), (14, .fn (Fn.func 109) [] [.ptr 12 0 0, .ptr 13 0 0])]) LoopState.ready]) (by kernel_rfl) ?_
      simp (disch := omega) only [bsW]
      exact .seg 1 [0, 5, 6, 27, 28] (by kernel_rfl) (ih (i + 1) (by omega))
    · simp only [bsX] at h1
      omega
theorem it104 (d : Dk) (N : Nat) (h : d.Ok N) : CallsA Try.prog 109 [.yield 16, .ptr 12 0 0, .ptr 13 0 0] (S104 d 0 .ready) fun r σ' => r = .ret (.tuple []) ∧ σ' = S104 d (d.nk).length .ready := by
 have hl : d.nk.length < 60000 := by have := h.nkl; have := h.nb; omega
 have hv := h.nl
 refine CallsA.start F109 (tm := mk (Try.f109.ntmps) [(0, .yield 16), (1, .ptr 12 0 0), (2, .ptr 13 0 0)]) (by kernel_rfl) ?_
 refine .sg0 11 [0, 1, 2, 10] (G109 11 [false]) [(10, .fn (Fn.func 98) [] [])] ?_
 refine .cd (G109 12 [false]) F98 (@spec_98) ?_
 refine .sg0 3 [0, 1, 4] (G109 15 [false]) [(4, .d (.int .i64 0))] ?_
 refine .dr (G109 16 [false]) [(5, .d (.list 1 (List.take ((map strD d.nk).length - 0) (List.drop 0 (map strD d.nk))))), (6, .d (.list 1 (List.take ((map intD d.nv).length - 0) (List.drop 0 (map intD d.nv))))), (12, .ptr 2 0 0), (13, .ptr 2 0 0), (14, .ptr 2 0 0), (15, .row 3), (16, .d (.int .i64 0)), (17, .sl 3 0 ((map strD d.nk).length - 0) none), (18, .d (.list 1 (List.take ((map strD d.nk).length - 0) (List.drop 0 (map strD d.nk))))), (19, .ptr 2 0 0), (20, .ptr 2 0 0), (21, .ptr 2 0 1), (22, .row 4), (23, .d (.int .i64 0)), (24, .sl 4 0 ((map intD d.nv).length - 0) none), (25, .d (.list 1 (List.take ((map intD d.nv).length - 0) (List.drop 0 (map intD d.nv)))))] [] (fun kz L hL => ?_) ?_
 · refine ⟨[fB 12 2, fA 2, fA 2, ⟨[2], [], [], [3], [2, 3, 4], [], true, false⟩, nF, ⟨[3], [], [], [3], [3], [], true, false⟩, ⟨[3], [3], [], [], [3], [], true, false⟩, fB 12 2, fA 2, fA 2, ⟨[2], [], [], [4], [2, 3, 4], [], true, false⟩, nF, ⟨[4], [], [], [4], [4], [], true, false⟩, fR 4, nF, nF], run_amongF hL _ [] [0, 1, 2, 3, 4, 5, 7, 8, 9, 10, 11, 12, 6, 13, 14, 15] (by intro p hp; cases hp) (by kernel_rfl) ?_⟩
   refine Run.ap [0, 1, 2, 3, 4] [(12, .ptr 2 0 0), (13, .ptr 2 0 0), (14, .ptr 2 0 0), (15, .row 3), (16, .d (.int .i64 0))] [] ?_
   refine Run.lk 5 (.sl 3 0 ((map strD d.nk).length - 0) none) [(.tmp 15), (.tmp 16)] (fun tm' σ2 hv hr => slRow_ok (t := 66) (x := (.tmp 15)) (lo := (some (.tmp 16))) (hi := none) (lc := 3) (sz := 1) (xs := map strD d.nk) (mv := false) (0) ((map strD d.nk).length) (by kernel_rfl) (evv hv) (atr hr) (by kernel_rfl) (bnd_some (k := IntKind.i64) (i := 0) (evv hv) (by omega) (by rfl)) rfl (by omega) (by omega)) ?_
   refine Run.ap [7, 8, 9, 10, 11] [(19, .ptr 2 0 0), (20, .ptr 2 0 0), (21, .ptr 2 0 1), (22, .row 4), (23, .d (.int .i64 0))] [] ?_
   refine Run.lk 12 (.sl 4 0 ((map intD d.nv).length - 0) none) [(.tmp 22), (.tmp 23)] (fun tm' σ2 hv hr => slRow_ok (t := 46) (x := (.tmp 22)) (lo := (some (.tmp 23))) (hi := none) (lc := 4) (sz := 1) (xs := map intD d.nv) (mv := false) (0) ((map intD d.nv).length) (by kernel_rfl) (evv hv) (atr hr) (by kernel_rfl) (bnd_some (k := IntKind.i64) (i := 0) (evv hv) (by omega) (by rfl)) rfl (by omega) (by omega)) ?_
   refine Run.cl 6 [3] F110 (@spec_110b (map strD d.nk) (0) ((map strD d.nk).length - 0) (none) (by omega) (by simp <;> omega)) ?_
   refine Run.cll 13 [4] F111 (@spec_111b (map intD d.nv) (0) ((map intD d.nv).length - 0) (none) (by omega) (by simp <;> omega)) ?_
   exact Run.fin
 refine .seg 7 [0, 5, 6, 27, 28] (T' := cgo 23 [false] [.code B109]) (tm' := mk 43 [(0, .yield 16), (5, .d (.list 1 (List.take ((map strD d.nk).length - 0) (List.drop 0 (map strD d.nk))))), (6, .d (.list 1 (List.take ((map intD d.nv).length - 0) (List.drop 0 (map intD d.nv))))), (27, .d (.int .i64 (↑(List.take ((map strD d.nk).length - 0) (List.drop 0 (map strD d.nk))).length : Int))), (28, .d (.int .i64 0))]) (σ' := [.cells (hC 1 2 5 d), .row 2 (map fileD d.files) false, .cells [.row 3, .row 4], .row 1 (map strD d.nk) false, .row 1 (map intD d.nv) false, .row 3 (map chD d.ch) false, .cells [.row 8], .cells [.ptr 0 0 0], .row 1 [] true, .defd, lp (G44 11 []) 44 (mk 13 [(2, .ptr 6 0 0), (5, .fn (Fn.func 104) [] [.ptr 7 0 0])]) LoopState.ready, .cells [.row 14], .cells [.ptr 2 0 0], .cells [.fn (Fn.func 98) [] []], .row 2 [] true, .defd, lp (G104 22 [false]) 104 (mk 45 [(0, .yield 10), (1, .ptr 7 0 0), (3, .ptr 11 0 0), (14, .fn (Fn.func 109) [] [.ptr 12 0 0, .ptr 13 0 0])]) LoopState.ready]) (by kernel_rfl) ?_
 simp only [List.length_map]
 rw [eachL (d.nk) strD, eachL (d.nv) intD, List.length_map]
 exact .seg 1 [0, 5, 6, 27, 28] (by kernel_rfl) (lo104 d N h hl hv (d.nk).length 0 (by omega))
theorem body44 (d : Dk) (N : Nat) (h : d.Ok N) (i : Nat) (x : ByteArray) (b : List UInt8) (hx : d.nk[i]? = some x) :
  AW Try.prog 44 (some 10) 18 R44 (mk 13 [(2, V.ptr 6 0 0), (5, V.fn (Fn.func 104) [] [V.ptr 7 0 0]), (6, .d (.str x)), (7, .d (bsD b))]) (S44y d i .ready x b) [] fun a σ' => a = .ret (.d (.bool true)) ∧ σ' = S44y d (i + 1) .ready x b := by
 refine .at (T' := cgo 0 [] R44) rfl ?_
 have hi := (List.getElem?_eq_some_iff.1 hx).1
 have hb := h.nkl
 have hc := h.nb
 have hsn : (d.nk.take i).map strD ++ [D.str x] = (d.nk.take (i + 1)).map strD := by rw [← take_snoc hx, List.map_append]; rfl
 have hal : ((d.nk.take i).map strD).length ≤ 60000 := by rw [List.length_map, List.length_take]; omega
 refine .sg0 3 [2, 3, 5, 6] (cgo 3 [] R44) [(3, .d (.str x))] ?_
 refine .beginL (T0 := cgo 11 [] [Item.code B44]) (fn := 44) (tml := (mk 13 [(2, V.ptr 6 0 0), (5, V.fn (Fn.func 104) [] [V.ptr 7 0 0])])) (by kernel_rfl) (T' := cgo 4 [] R44) (by kernel_rfl) (σ' := (SP 1 2 d false [.cells [.row 8], .cells [.ptr 0 0 0], .row 1 (map strD (List.take i d.nk)) true, .defd, lp (G44 11 []) 44 (mk 13 [(2, .ptr 6 0 0), (5, .fn (Fn.func 104) [] [.ptr 7 0 0])]) LoopState.busy, .cells [.d (.list 2 (map (afD d) (d.nk.zip d.nv)))], .cells [.ptr 2 0 0], .cells [.fn (Fn.func 98) [] []], O.dead, .defd, lp (G104 22 [false]) 104 (mk 45 [(0, V.yield 10), (1, .ptr 7 0 0), (3, .ptr 11 0 0), (14, .fn (Fn.func 109) [] [.ptr 12 0 0, .ptr 13 0 0])]) LoopState.exhausted, .cells [.d (.str x), .d (.list 1 (map u8 b))]])) (by kernel_rfl) (by kernel_rfl) ?_
 refine .sg 5 [2, 3, 8, 9, 10] (cgo 9 [] R44) [(8, .row 8), (9, .d (.str x)), (10, .row 18)] [(18, .row 1 [D.str x] false)] ?_
 refine .op' (cgo 10 [] R44) (appRow_ok (s := (.tmp 8)) (x := (.tmp 10)) (t := 66) (t2 := 66) (sz := 1) (by' := 16) (ys := [D.str x]) (l := 8) (xs := map strD (List.take i d.nk)) (mv := true) (by kernel_rfl) (by kernel_rfl) (by kernel_rfl) (by kernel_rfl) (by kernel_rfl) (by kernel_rfl) (by simp <;> omega) (by first | (simp [maxLen] <;> omega) | omega)) ?_
 refine .sg 3 [2] (cgo 13 [] R44) [] [(6, .cells [.row 8]), (10, lp (G44 11 []) 44 (mk 13 [(2, .ptr 6 0 0), (5, .fn (Fn.func 104) [] [.ptr 7 0 0])]) LoopState.busy), (16, lp (G104 22 [false]) 104 (mk 45 [(0, .yield 10), (1, .ptr 7 0 0), (3, .ptr 11 0 0), (14, .fn (Fn.func 109) [] [.ptr 12 0 0, .ptr 13 0 0])]) LoopState.exhausted)] ?_
 refine .kp [] ?_
 refine .sub [0, 1, 2, 3, 4, 5, 6, 7, 8, 9, 10, 11, 12, 13, 14, 15, 16, 17] (mk 13 []) (SP 1 2 d false [.cells [.row 8], .cells [.ptr 0 0 0], .row 1 (map strD (List.take i d.nk) ++ [D.str x]) true, .defd, lp (G44 11 []) 44 (mk 13 [(2, .ptr 6 0 0), (5, .fn (Fn.func 104) [] [.ptr 7 0 0])]) LoopState.busy, .cells [.d (.list 2 (map (afD d) (d.nk.zip d.nv)))], .cells [.ptr 2 0 0], .cells [.fn (Fn.func 98) [] []], O.dead, .defd, lp (G104 22 [false]) 104 (mk 45 [(0, V.yield 10), (1, .ptr 7 0 0), (3, .ptr 11 0 0), (14, .fn (Fn.func 109) [] [.ptr 12 0 0, .ptr 13 0 0])]) LoopState.exhausted, .cells [.d (.str x), .d (.list 1 (map u8 b))]]) (some 10) [] ⟨rfl, rfl, by kernel_rfl⟩ (by kernel_rfl) ⟨Nat.le_of_ble_eq_true (by kernel_rfl), by kernel_rfl⟩ (by kernel_rfl) ⟨by kernel_rfl, by kernel_rfl⟩ ⟨by kernel_rfl, by kernel_rfl⟩ ?_
 refine .roundEndL (T0 := cgo 11 [] [Item.code B44]) (fn := 44) (tml := (mk 13 [(2, V.ptr 6 0 0), (5, V.fn (Fn.func 104) [] [V.ptr 7 0 0])])) (st := LoopState.busy) (by kernel_rfl) (by kernel_rfl) (σ' := (SP 1 2 d false [.cells [.row 8], .cells [.ptr 0 0 0], .row 1 (map strD (List.take i d.nk) ++ [D.str x]) true, .defd, lp (G44 11 []) 44 (mk 13 [(2, .ptr 6 0 0), (5, .fn (Fn.func 104) [] [.ptr 7 0 0])]) LoopState.ready, .cells [.d (.list 2 (map (afD d) (d.nk.zip d.nv)))], .cells [.ptr 2 0 0], .cells [.fn (Fn.func 98) [] []], O.dead, .defd, lp (G104 22 [false]) 104 (mk 45 [(0, V.yield 10), (1, .ptr 7 0 0), (3, .ptr 11 0 0), (14, .fn (Fn.func 109) [] [.ptr 12 0 0, .ptr 13 0 0])]) LoopState.exhausted, .cells [.d (.str x), .d (.list 1 (map u8 b))]])) (by kernel_rfl) ?_
 refine ⟨rfl, ?_⟩
 unfold S44y S44x
 rw [← hsn]
 rfl
theorem lo104b (d : Dk) (N : Nat) (h : d.Ok N) : ∀ (m i : Nat), i + m = d.nk.length →
   AW Try.prog 104 none 11 (G104 32 [false]) (mk 45 [(0, V.yield 10), (31, V.d (.list 2 ((d.nk.zip d.nv).map (afD d)))), (32, V.d (.int .i64 (d.nk.length : Nat))), (33, V.d (.int .i64 (i : Nat)))]) (S44x d i .ready) [15] fun r σ' => r = .ret (.tuple []) ∧ σ' = S44 d d.nk.length .ready := by
 have hb := h.nkl
 have hc := h.nb
 have hl := h.nl
 intro m
 induction m with
 | zero =>
   intro i hi
   have hi : i = d.nk.length := by omega
   subst hi
   refine .sg0 5 [0, 31, 32, 33, 34] (G104 37 [false]) [(34, .d (.bool (decide ((↑d.nk.length : Int) < (↑d.nk.length : Int)))))] ?_
   refine .if' (decide ((↑d.nk.length : Int) < (↑d.nk.length : Int))) (G104 38 [false, true]) (G104 38 [false, false]) (fun h1 => ?_) (fun h1 => ?_)
   · simp only [bsX] at h1
     omega
   · simp only [bsX] at h1
     refine .seg 1 [] (T' := cgo 39 [false, false] [.code B104]) (tm' := mk 45 []) (σ' := [.cells (hC 1 2 5 d), .row 2 (map fileD d.files) false, .cells [.row 3, .row 4], .row 1 (map strD d.nk) false, .row 1 (map intD d.nv) false, .row 3 (map chD d.ch) false, .cells [.row 8], .cells [.ptr 0 0 0], .row 1 (map strD (List.take d.nk.length d.nk)) true, .defd, lp (G44 11 []) 44 (mk 13 [(2, .ptr 6 0 0), (5, .fn (Fn.func 104) [] [.ptr 7 0 0])]) LoopState.ready, .cells [.d (.list 2 (map (afD d) (d.nk.zip d.nv)))], .cells [.ptr 2 0 0], .cells [.fn (Fn.func 98) [] []], O.dead, .defd, lp (G104 22 [false]) 104 (mk 45 [(0, .yield 10), (1, .ptr 7 0 0), (3, .ptr 11 0 0), (14, .fn (Fn.func 109) [] [.ptr 12 0 0, .ptr 13 0 0])]) LoopState.exhausted]) (by kernel_rfl) ?_
     refine .retX (v := V.tuple []) [0, 1, 2, 3, 4, 5, 6, 7, 8, 9, 10] (V.tuple []) F104 (by kernel_rfl) ⟨by kernel_rfl, by kernel_rfl⟩ (σ1 := (SP 1 2 d false [O.cells [V.row 8], O.cells [V.ptr 0 0 0], O.row 1 (map strD (List.take d.nk.length d.nk)) true, O.defd, lp (G44 11 []) 44 (mk 13 [(2, V.ptr 6 0 0), (5, V.fn (Fn.func 104) [] [V.ptr 7 0 0])]) LoopState.ready, O.cells [V.d (D.list 2 (map (afD d) (d.nk.zip d.nv)))], O.cells [V.ptr 2 0 0], O.cells [V.fn (Fn.func 98) [] []], O.dead, O.dead, lp (G104 22 [false]) 104 (mk 45 [(0, V.yield 10), (1, V.ptr 7 0 0), (3, V.ptr 11 0 0), (14, V.fn (Fn.func 109) [] [V.ptr 12 0 0, V.ptr 13 0 0])]) LoopState.exhausted])) (by kernel_rfl) (by kernel_rfl) (σ2 := (SP 1 2 d false [O.cells [V.row 8], O.cells [V.ptr 0 0 0], O.row 1 (map strD (List.take d.nk.length d.nk)) true, O.defd, lp (G44 11 []) 44 (mk 13 [(2, V.ptr 6 0 0), (5, V.fn (Fn.func 104) [] [V.ptr 7 0 0])]) LoopState.ready])) ⟨rfl, rfl, by kernel_rfl⟩ (by kernel_rfl) ⟨Nat.le_of_ble_eq_true (by kernel_rfl), by kernel_rfl⟩ (by kernel_rfl) ?_
     exact ⟨rfl, rfl⟩
 | succ m ih =>
   intro i hi
   have hll : (d.nk.zip d.nv).length = d.nk.length := by simp [hl]
   obtain ⟨p, hz⟩ := get_some (l := d.nk.zip d.nv) (i := i) (by omega)
   have hp := List.getElem?_zip_eq_some.1 hz
   have hYi := body44 d N h i p.1 (d.file p.2.toNat).1 hp.1
   clear hp
   have ih1 := ih (i + 1) (by omega)
   clear ih
   refine .sg0 5 [0, 31, 32, 33, 34] (G104 37 [false]) [(34, .d (.bool (decide ((↑i : Int) < (↑d.nk.length : Int)))))] ?_
   refine .if' (decide ((↑i : Int) < (↑d.nk.length : Int))) (G104 38 [false, true]) (G104 38 [false, false]) (fun h1 => ?_) (fun h1 => ?_)
   · simp only [bsX] at h1
     refine .sg0 5 [0, 31, 32, 33, 34] (G104 43 [false, true]) [] ?_
     refine .op' (G104 44 [false, true]) (ixData_ok (t := 160) (x := (.tmp 31)) (i := (.tmp 33)) (k := IntKind.i64) (n := (↑i : Int)) (sz := 2) (xs := map (afD d) (d.nk.zip d.nv)) (d := afD d p) (by kernel_rfl) (by kernel_rfl) (by kernel_rfl) (by kernel_rfl) (by omega) (map_get hz)) ?_
     refine .sg 11 [0, 7, 31, 32, 33, 34, 35, 36, 37, 38, 39, 40, 41] (G104 55 [false, true]) [(7, .ptr 17 0 0), (36, .d (.agg [D.str p.fst, D.list 1 (map u8 (d.file p.snd.toNat).fst)])), (37, .yield 10), (38, .ptr 17 0 0), (39, .d (.str p.fst)), (40, .ptr 17 0 1), (41, .d (.list 1 (map u8 (d.file p.snd.toNat).fst)))] [(17, .cells [.d (.str p.fst), .d (.list 1 (map u8 (d.file p.snd.toNat).fst))])] ?_
     refine .yieldL (T0 := cgo 11 [] [Item.code B44]) (x := (.tmp 37)) (args := #[(.tmp 39), (.tmp 41)]) (ts := #[9, 22]) (l := 10) (st := LoopState.ready) (fn := 44) (tml := (mk 13 [(2, V.ptr 6 0 0), (5, V.fn (Fn.func 104) [] [V.ptr 7 0 0])])) (R := R44) (o := (opOf (G104 55 [false, true])).getD default) (N := 18) (by kernel_rfl) (by kernel_rfl) (by kernel_rfl) (T' := cgo 56 [false, true] [Item.code B104]) (by kernel_rfl) (by kernel_rfl) (by kernel_rfl) (by kernel_rfl) (by kernel_rfl) (by kernel_rfl) (by kernel_rfl) hYi ?_
     rintro r σ' ⟨rfl, rfl⟩
     refine ⟨_, rfl, ?_⟩
     refine .sg0 9 [0, 7, 31, 32, 33, 34, 35, 36, 37, 38, 39, 40, 41, 42, 43, 44] (G104 65 [false, true, false]) [(33, .d (.int .i64 (IntKind.i64.wrap ((↑i : Int) + 1)))), (43, .d (.bool false)), (44, .d (.int .i64 (IntKind.i64.wrap ((↑i : Int) + 1))))] ?_
     simp (disch := omega) only [bsW]
     refine .kp [0, 31, 32, 33] ?_
     refine .sub (List.range 17) (mk 45 [(0, V.yield 10), (31, .d (.list 2 ((d.nk.zip d.nv).map (afD d)))), (32, .d (.int .i64 (d.nk.length : Nat))), (33, .d (.int .i64 ((i + 1 : Nat) : Int)))]) (S44x d (i + 1) .ready) none [15] ⟨rfl, rfl, by kernel_rfl⟩ (by kernel_rfl) ⟨Nat.le_of_ble_eq_true (by kernel_rfl), by kernel_rfl⟩ (by kernel_rfl) ⟨by kernel_rfl, by kernel_rfl⟩ ⟨rfl, rfl⟩ ?_
     exact .seg 1 [0, 31, 32, 33] (by kernel_rfl) ih1
   · simp only [bsX] at h1
     omega
theorem spec_104 (d : Dk) (N : Nat) (h : d.Ok N) : CallsA Try.prog 104 [.yield 10, .ptr 7 0 0] (S44 d 0 .ready) fun r σ' => r = .ret (.tuple []) ∧ σ' = S44 d d.nk.length .ready := by
 refine CallsA.start F104 (tm := mk (Try.f104.ntmps) [(0, .yield 10), (1, .ptr 7 0 0)]) (by kernel_rfl) ?_
 refine .sg 19 [0, 1, 3, 10, 11, 12, 13] (G104 19 [false]) [(3, .ptr 11 0 0), (10, .ptr 0 0 0), (11, .ptr 0 0 0), (12, .ptr 0 0 1), (13, .ptr 2 0 0)] [(11, .cells [.ex 2 []])] ?_
 refine .ca [2, 3, 4] (G104 20 [false]) F72 (@spec_72 (map strD d.nk) (map intD d.nv)) ?_
 rintro r0 s0 ⟨rfl, rfl⟩
 refine ⟨_, rfl, ?_⟩
 refine .seg 2 [0, 1, 3, 14] (T' := cgo 22 [false] [.code B104]) (tm' := mk 45 [(0, .yield 10), (1, .ptr 7 0 0), (3, .ptr 11 0 0), (14, .fn (Fn.func 109) [] [.ptr 12 0 0, .ptr 13 0 0])]) (σ' := [.cells (hC 1 2 5 d), .row 2 (map fileD d.files) false, .cells [.row 3, .row 4], .row 1 (map strD d.nk) false, .row 1 (map intD d.nv) false, .row 3 (map chD d.ch) false, .cells [.row 8], .cells [.ptr 0 0 0], .row 1 [] true, .defd, lp (G44 11 []) 44 (mk 13 [(2, .ptr 6 0 0), (5, .fn (Fn.func 104) [] [.ptr 7 0 0])]) LoopState.ready, .cells [.ex 2 []], .cells [.ptr 2 0 0], .cells [.fn (Fn.func 98) [] []]]) (by kernel_rfl) ?_
 refine .virtX 11 0 2 rfl rfl ?_
 refine .raise 14 rfl rfl ?_
 refine .rangeH (first := []) (cap := [.ptr 12 0 0, .ptr 13 0 0]) (List.range 17) [.yield 16, .ptr 12 0 0, .ptr 13 0 0] (S104 d 0 .ready) F109 (by kernel_rfl) (T' := cgo 23 [false] [Item.code B104]) (by kernel_rfl) (by kernel_rfl) (it104 d N h) (by kernel_rfl) (by kernel_rfl) (by refine ⟨rfl, by kernel_rfl, ?_⟩; kernel_rfl) ?_
 rintro r σc' ⟨rfl, rfl⟩
 refine ⟨.tuple [], .ready, (mk 45 [(0, V.yield 10), (1, V.ptr 7 0 0), (3, V.ptr 11 0 0), (14, V.fn (Fn.func 109) [] [V.ptr 12 0 0, V.ptr 13 0 0])]), rfPs (G104 22 [false]), rfAs (G104 22 [false]), rfBd (G104 22 [false]), 104, rfl, by simp, by kernel_rfl, ?_⟩
 have e1 : (allF d).take d.nk.length = allF d := by rw [List.take_of_length_le]; rw [allF_length d h.nl]; exact Nat.le_refl _
 refine .seg 8 [0, 31, 32, 33] (T' := cgo 31 [false] [.code B104]) (tm' := mk 45 [(0, .yield 10), (31, .row 14), (32, .d (.int .i64 (↑(List.take d.nk.length (allF d)).length : Int))), (33, .d (.int .i64 0))]) (σ' := [.cells (hC 1 2 5 d), .row 2 (map fileD d.files) false, .cells [.row 3, .row 4], .row 1 (map strD d.nk) false, .row 1 (map intD d.nv) false, .row 3 (map chD d.ch) false, .cells [.row 8], .cells [.ptr 0 0 0], .row 1 [] true, .defd, lp (G44 11 []) 44 (mk 13 [(2, .ptr 6 0 0), (5, .fn (Fn.func 104) [] [.ptr 7 0 0])]) LoopState.ready, .cells [.row 14], .cells [.ptr 2 0 0], .cells [.fn (Fn.func 98) [] []], .row 2 (List.take d.nk.length (allF d)) true, .defd, lp (G104 22 [false]) 104 (mk 45 [(0, .yield 10), (1, .ptr 7 0 0), (3, .ptr 11 0 0), (14, .fn (Fn.func 109) [] [.ptr 12 0 0, .ptr 13 0 0])]) LoopState.exhausted]) (by kernel_rfl) ?_
 rw [e1, allF_length d h.nl]
 refine .freeze 14 (sz := 2) (xs := allF d) (mv := true) (by kernel_rfl) ?_
 exact .seg 1 [0, 31, 32, 33] (by kernel_rfl) (lo104b d N h d.nk.length 0 (by omega))
theorem spec_44 (d : Dk) (N : Nat) (h : d.Ok N) : CallsA Try.prog 44 [.ptr 0 0 0] (SD d false) fun r σ' => r = .ret (.d (.list 1 (d.nk.map strD))) ∧ σ' = SD d false := by
 refine CallsA.start F44 (tm := mk (Try.f44.ntmps) [(0, .ptr 0 0 0)]) (by kernel_rfl) ?_
 refine .sg 8 [0, 2, 4] (G44 8 []) [(2, .ptr 6 0 0), (4, .ptr 0 0 0)] [(6, .cells [.ex 1 []])] ?_
 refine .ca [0, 1, 2, 3, 4, 5] (G44 9 []) F82 (@spec_82 (d)) ?_
 rintro r0 s0 ⟨rfl, rfl⟩
 refine ⟨_, rfl, ?_⟩
 refine .seg 2 [2, 5] (T' := cgo 11 [] [.code B44]) (tm' := mk 13 [(2, .ptr 6 0 0), (5, .fn (Fn.func 104) [] [.ptr 7 0 0])]) (σ' := [.cells (hC 1 2 5 d), .row 2 (map fileD d.files) false, .cells [.row 3, .row 4], .row 1 (map strD d.nk) false, .row 1 (map intD d.nv) false, .row 3 (map chD d.ch) false, .cells [.ex 1 []], .cells [.ptr 0 0 0]]) (by kernel_rfl) ?_
 refine .virtX 6 0 1 rfl rfl ?_
 refine .raise 8 rfl rfl ?_
 refine .rangeH (first := []) (cap := [.ptr 7 0 0]) (List.range 11) [.yield 10, .ptr 7 0 0] (S44 d 0 .ready) F104 (by kernel_rfl) (T' := cgo 12 [] [Item.code B44]) (by kernel_rfl) (by kernel_rfl) (spec_104 d N h) (by kernel_rfl) (by kernel_rfl) (by refine ⟨rfl, by kernel_rfl, ?_⟩; kernel_rfl) ?_
 rintro r σc' ⟨rfl, rfl⟩
 refine ⟨.tuple [], .ready, (mk 13 [(2, V.ptr 6 0 0), (5, V.fn (Fn.func 104) [] [V.ptr 7 0 0])]), rfPs (G44 11 []), rfAs (G44 11 []), rfBd (G44 11 []), 44, rfl, by simp, by kernel_rfl, ?_⟩
 have e1 : d.nk.take d.nk.length = d.nk := List.take_length
 refine .seg 6 [2] (T' := cgo 18 [] [.code B44]) (tm' := mk 13 [(2, .ptr 6 0 0)]) (σ' := [.cells (hC 1 2 5 d), .row 2 (map fileD d.files) false, .cells [.row 3, .row 4], .row 1 (map strD d.nk) false, .row 1 (map intD d.nv) false, .row 3 (map chD d.ch) false, .cells [.row 8], .cells [.ptr 0 0 0], .row 1 (map strD (List.take d.nk.length d.nk)) true, .defd, lp (G44 11 []) 44 (mk 13 [(2, .ptr 6 0 0), (5, .fn (Fn.func 104) [] [.ptr 7 0 0])]) LoopState.exhausted]) (by kernel_rfl) ?_
 refine .freeze 8 (sz := 1) (xs := map strD (List.take d.nk.length d.nk)) (mv := true) (by kernel_rfl) ?_
 refine .retX (v := V.d (D.list 1 (map strD (List.take d.nk.length d.nk)))) [0, 1, 2, 3, 4, 5] (V.d (D.list 1 (map strD (List.take d.nk.length d.nk)))) F44 (by kernel_rfl) ⟨by kernel_rfl, by kernel_rfl⟩ (σ1 := (SP 1 2 d false [O.cells [V.d (D.list 1 (map strD (List.take d.nk.length d.nk)))], O.cells [V.ptr 0 0 0], O.dead, O.dead, lp (G44 11 []) 44 (mk 13 [(2, V.ptr 6 0 0), (5, V.fn (Fn.func 104) [] [V.ptr 7 0 0])]) LoopState.exhausted])) (by kernel_rfl) (by kernel_rfl) (σ2 := (SP 1 2 d false [])) ⟨rfl, rfl, by kernel_rfl⟩ (by kernel_rfl) ⟨Nat.le_of_ble_eq_true (by kernel_rfl), by kernel_rfl⟩ (by kernel_rfl) ?_
 simp [hC, SD, dirD]
end Go.Proofs.Ytoelkgbeefoplaa
namespace Go.Proofs.Ytoelkgbeefoplaa
open Go Go.Br Go.Proofs
open List (map)
noncomputable def B46 : Code := (Try.f46.body).getD .skip
noncomputable def G46 (n : Nat) (l : List Bool) : List Item := cgo n l [.code B46]
theorem F46 : Fnc Try.prog 46 Try.f46 B46 := ⟨Try.func46, by kernel_rfl, by kernel_rfl⟩
theorem spec_83a (d : Dk) (t : Int) (N : Nat) (h : d.Ok N) (ht : Rb t) : CallsA Try.prog 83 [.ptr 0 0 0] (SR (Rof d t) false) fun r σ' => r = .ret (.d (.int .i64 (d.used : Nat))) ∧ σ' = SR (Rof d t) false := by
 have hc := spec_83 (Rof d t) N (Rof_ok h ht)
 rw [Rof_used h] at hc
 exact hc
theorem like_at {d : Dk} {t : Int} {N i : Nat} (h : d.Ok N) {p : ByteArray × Int} (hp : (Rof d t).now[i]? = some p) :
  ∃ f, d.nk[i]? = some p.1 ∧ d.files[p.2.toNat]? = some f ∧ p.2 < d.files.length ∧ 0 ≤ p.2 ∧ CallsA Try.prog 27 [.ptr 0 0 0, .d (.str p.1)] (SD d false) fun r σ' => r = .ret (.tuple [.d (.list 1 (f.1.map u8)), .d (.int .i64 0)]) ∧ σ' = SD d false := by
 have hp2 : (d.nk.zip d.nv)[i]? = some p := hp
 rw [List.getElem?_zip_eq_some] at hp2
 have hlk : look d.nk d.nv p.1 = some p.2 := (look_iff h.nr).2 ⟨i, hp2.1, hp2.2⟩
 obtain ⟨a1, a2, a3, a4⟩ := at_some (t := t) h hlk
 have hvf := h.nn p.2 (look_mem hlk)
 have hrd := spec_27 d N h p.1
 rw [hlk, a3] at hrd
 exact ⟨_, hp2.1, a4, hvf.2, hvf.1, hrd⟩
theorem lo46 (d : Dk) (t : Int) (N : Nat) (h : d.Ok N) : ∀ (m i : Nat), i + m = d.nk.length →
    AW Try.prog 46 none 9 (G46 27 [false]) (mk 98 [(0, .ptr 0 0 0), (1, .ptr 6 0 0), (4, .d (.bool false)), (5, .d (.list 1 (d.nk.map strD))), (57, .d (.list 2 ((Rof d t).now.map nmD))), (58, .d (.int .i64 (d.nk.length : Nat))), (59, .d (.int .i64 (i : Nat)))]) (SX d t false) [] fun r σ' => r = .ret (.d (.bool true)) ∧ σ' = SX d t false := by
  have q1 := h.nkl
  have q2 := h.nb
  have q3 := h.nl
  have q4 := h.fl
  intro m
  induction m with
  | zero =>
    intro i hi
    have hi : i = d.nk.length := by omega
    subst hi
    refine .sg0 5 [0, 1, 4, 5, 57, 58, 59, 60] (G46 32 [false]) [(60, .d (.bool (decide ((↑d.nk.length : Int) < (↑d.nk.length : Int)))))] ?_
    refine .if' (decide ((↑d.nk.length : Int) < (↑d.nk.length : Int))) (G46 33 [false, true]) (G46 33 [false, false]) (fun h1 => ?_) (fun h1 => ?_)
    · simp only [bsX] at h1
      omega
    · simp only [bsX] at h1
      refine .seg 5 [4] (T' := cgo 38 [false, false] [.code B46]) (tm' := mk 98 [(4, .d (.bool true))]) (σ' := [.cells (hC 1 2 5 d), .row 2 (map fileD d.files) false, .cells [.row 3, .row 4], .row 1 (map strD d.nk) false, .row 1 (map intD d.nv) false, .row 3 (map chD d.ch) false, .cells [.row 7, .d (.list 2 (map nmD (Rof d t).now)), .d (.list 2 (map nmD (Rof d t).sure)), .row 8, .d (.int .i64 d.quota), .d (.bool d.full), .d (.bool d.off), .d (.int .i64 t), .d (.int .i64 d.calls)], .row 2 (map fileD d.files) false, .row 3 (map chD d.ch) false]) (by kernel_rfl) ?_
      refine .rt F46 (V.d (D.bool true)) ?_
      exact ⟨rfl, rfl⟩
  | succ m ih =>
    intro i hi
    obtain ⟨p, hp⟩ := get_some (l := (Rof d t).now) (i := i) (by rw [Rof_len h]; omega)
    obtain ⟨f, hx, hf, hvl, hv0, hrd⟩ := like_at h hp
    obtain ⟨x, hxe⟩ : ∃ x, x = p.1 := ⟨_, rfl⟩
    rw [← hxe] at hx
    have hgn : (!x.toList == p.fst.toList) = false := by simp [hxe]
    clear hxe
    have hgd : (!(strOf f.fst).toList == (strOf f.fst).toList) = false := by simp
    have ih := ih (i + 1) (by omega)
    refine .sg0 5 [0, 1, 4, 5, 57, 58, 59, 60] (G46 32 [false]) [(60, .d (.bool (decide ((↑i : Int) < (↑d.nk.length : Int)))))] ?_
    refine .if' (decide ((↑i : Int) < (↑d.nk.length : Int))) (G46 33 [false, true]) (G46 33 [false, false]) (fun h1 => ?_) (fun h1 => ?_)
    · simp only [bsX] at h1
      refine .sg0 6 [0, 1, 4, 5, 57, 58, 59, 60, 61] (G46 39 [false, true]) [(61, .d (.int .i64 (↑i : Int)))] ?_
      refine .op' (G46 40 [false, true]) (ixData_ok (t := 69) (x := (.tmp 57)) (i := (.tmp 59)) (k := IntKind.i64) (n := (↑i : Int)) (sz := 2) (xs := map nmD (Rof d t).now) (d := nmD p) (by kernel_rfl) (by kernel_rfl) (by kernel_rfl) (by kernel_rfl) (by omega) (map_get hp)) ?_
      refine .sg 10 [0, 1, 4, 5, 6, 7, 57, 58, 59, 60, 61, 62, 63, 65, 66, 67] (G46 50 [false, true]) [(6, .d (.int .i64 (↑i : Int))), (7, .ptr 9 0 0), (63, .d (.agg [D.str p.fst, D.int IntKind.i64 p.snd])), (65, .ptr 0 0 0), (66, .ptr 9 0 0), (67, .d (.str p.fst))] [(9, .cells [.d (.str p.fst), .d (.int .i64 p.snd)])] ?_
      refine .ca [0, 1, 2, 3, 4, 5] (G46 51 [false, true]) F27 hrd ?_
      rintro r1 s1 ⟨rfl, rfl⟩
      refine ⟨_, rfl, ?_⟩
      clear hrd
      refine .sg0 7 [0, 1, 4, 5, 6, 7, 8, 9, 57, 58, 59, 60, 61, 62, 63, 64, 65, 66, 67, 68, 69, 70] (G46 58 [false, true]) [(8, .d (.list 1 (map u8 f.fst))), (9, .d (.int .i64 0)), (64, .tuple [.d (.list 1 (map u8 f.fst)), .d (.int .i64 0)]), (69, .d (.list 1 (map u8 f.fst))), (70, .d (.int .i64 0))] ?_
      refine .dr (G46 59 [false, true]) [(71, .d (.list 1 (map strD d.nk))), (72, .d (.int .i64 (↑i : Int))), (73, .ep 1 (D.str x) 0), (74, .d (.str x)), (75, .ptr 9 0 0), (76, .d (.str p.fst)), (77, .d (.bool false)), (78, .d (.bool false)), (79, .d (.int .i64 0)), (80, .d (.bool false)), (81, .d (.bool false)), (82, .d (.bool false)), (83, .d (.list 1 (map u8 f.fst))), (84, .d (.str (strOf f.fst))), (85, .ptr 6 0 0), (86, .ptr 6 0 0), (87, .ptr 6 0 0), (88, .row 7), (89, .ptr 9 0 1), (90, .d (.int .i64 p.snd)), (91, .ptr 7 p.snd.toNat 0), (92, .ptr 7 p.snd.toNat 0), (93, .d (.list 1 (map u8 f.fst))), (94, .d (.str (strOf f.fst))), (95, .d (.bool false)), (96, .d (.bool false))] [] (fun kz L hL => ?_) ?_
      · refine ⟨[nF, nF, nF, nF, fA 9, fR 9, nF, nF, nF, nF, nF, nF, nF, nF, fO 6, fA 6, fA 6, ⟨[6], [], [], [7], [6, 7, 8], [], true, false⟩, fA 9, fR 9, ⟨[7], [], [], [7], [7], [], true, false⟩, fA 7, fR 7, nF, nF, nF], run_amongF hL _ [] [0, 1, 2, 3, 4, 5, 6, 7, 8, 9, 10, 11, 12, 13, 14, 15, 16, 17, 18, 19, 20, 21, 22, 23, 24, 25] (by intro p hp; cases hp) (by kernel_rfl) ?_⟩
        refine Run.ap [0, 1] [(71, .d (.list 1 (map strD d.nk))), (72, .d (.int .i64 (↑i : Int)))] [] ?_
        refine Run.lk 2 (.ep 1 (D.str x) 0) [(.tmp 71), (.tmp 72)] (fun tm' σ2 hv hr => ixData_ok (t := 66) (x := (.tmp 71)) (i := (.tmp 72)) (k := IntKind.i64) (n := (↑i : Int)) (sz := 1) (xs := map strD d.nk) (d := strD x) (by kernel_rfl) (evl hv) (evv hv) (by kernel_rfl) (by omega) (map_get hx)) ?_
        refine Run.append (A := [3, 4, 5, 6]) (srunF_ok (tm' := mk 98 [(0, .ptr 0 0 0), (1, .ptr 6 0 0), (4, .d (.bool false)), (5, .d (.list 1 (map strD d.nk))), (6, .d (.int .i64 (↑i : Int))), (7, .ptr 9 0 0), (8, .d (.list 1 (map u8 f.fst))), (9, .d (.int .i64 0)), (57, .d (.list 2 (map nmD (Rof d t).now))), (58, .d (.int .i64 (↑d.nk.length : Int))), (59, .d (.int .i64 (↑i : Int))), (60, .d (.bool (decide ((↑i : Int) < (↑d.nk.length : Int))))), (61, .d (.int .i64 (↑i : Int))), (62, .ep 2 (D.agg [D.str p.fst, D.int IntKind.i64 p.snd]) 0), (63, .d (.agg [D.str p.fst, D.int IntKind.i64 p.snd])), (64, V.tuple [.d (.list 1 (map u8 f.fst)), .d (.int .i64 0)]), (65, .ptr 0 0 0), (66, .ptr 9 0 0), (67, .d (.str p.fst)), (68, V.tuple [.d (.list 1 (map u8 f.fst)), .d (.int .i64 0)]), (69, .d (.list 1 (map u8 f.fst))), (70, .d (.int .i64 0)), (71, .d (.list 1 (map strD d.nk))), (72, .d (.int .i64 (↑i : Int))), (73, .ep 1 (D.str x) 0), (74, .d (.str x)), (75, .ptr 9 0 0), (76, .d (.str p.fst)), (77, .d (.bool !x.toList == p.fst.toList))]) (σ' := (SP 1 2 d false [.cells [.row 7, .d (.list 2 (map nmD (Rof d t).now)), .d (.list 2 (map nmD (Rof d t).sure)), .row 8, .d (.int .i64 d.quota), .d (.bool d.full), .d (.bool d.off), .d (.int .i64 t), .d (.int .i64 d.calls)], .row 2 (map fileD d.files) false, .row 3 (map chD d.ch) false, .cells [.d (.str p.fst), .d (.int .i64 p.snd)]])) (by kernel_rfl)) ?_
        rw [hgn]
        refine Run.ap [7, 8, 9, 10, 11, 12] [(78, .d (.bool false)), (79, .d (.int .i64 0)), (80, .d (.bool false)), (81, .d (.bool false)), (82, .d (.bool false)), (83, .d (.list 1 (map u8 f.fst)))] [] ?_
        refine Run.lk 13 (.d (.str (strOf f.fst))) [(.tmp 83)] (fun tm' σ2 hv hr => bts_data (s := 22) (t := 9) (x := (.tmp 83)) (bs := f.fst) (by kernel_rfl) (by kernel_rfl) (by kernel_rfl) (evv hv)) ?_
        refine Run.ap [14, 15, 16, 17, 18, 19] [(85, .ptr 6 0 0), (86, .ptr 6 0 0), (87, .ptr 6 0 0), (88, .row 7), (89, .ptr 9 0 1), (90, .d (.int .i64 p.snd))] [] ?_
        refine Run.lk 20 (.ptr 7 p.snd.toNat 0) [(.tmp 88), (.tmp 90)] (fun tm' σ2 hv hr => ixRow_ok (t := 68) (x := (.tmp 88)) (i := (.tmp 90)) (k := IntKind.i64) (n := p.snd) (l := 7) (sz := 2) (xs := map fileD d.files) (mv := false) (by kernel_rfl) (evv hv) (evv hv) (atr hr) (by kernel_rfl) (by assumption) (by simp <;> omega)) ?_
        refine Run.ap [21] [(92, .ptr 7 p.snd.toNat 0)] [] ?_
        refine Run.lk 22 (.d (.list 1 (map u8 f.fst))) [(.tmp 92)] (fun tm' σ2 hv hr => ldRow_ok (t := 22) (x := (.tmp 92)) (l := 7) (i := p.snd.toNat) (s := 0) (sz := 2) (xs := map fileD d.files) (mv := false) (d := fileD f) (v := .d (.list 1 (map u8 f.fst))) (by kernel_rfl) (evv hv) (atr hr) (map_get hf) (by kernel_rfl)) ?_
        refine Run.lk 23 (.d (.str (strOf f.fst))) [(.tmp 93)] (fun tm' σ2 hv hr => bts_data (s := 22) (t := 9) (x := (.tmp 93)) (bs := f.fst) (by kernel_rfl) (by kernel_rfl) (by kernel_rfl) (evv hv)) ?_
        refine Run.append (A := [24]) (srunF_ok (tm' := mk 98 [(0, .ptr 0 0 0), (1, .ptr 6 0 0), (4, .d (.bool false)), (5, .d (.list 1 (map strD d.nk))), (6, .d (.int .i64 (↑i : Int))), (7, .ptr 9 0 0), (8, .d (.list 1 (map u8 f.fst))), (9, .d (.int .i64 0)), (57, .d (.list 2 (map nmD (Rof d t).now))), (58, .d (.int .i64 (↑d.nk.length : Int))), (59, .d (.int .i64 (↑i : Int))), (60, .d (.bool (decide ((↑i : Int) < (↑d.nk.length : Int))))), (61, .d (.int .i64 (↑i : Int))), (62, .ep 2 (D.agg [D.str p.fst, D.int IntKind.i64 p.snd]) 0), (63, .d (.agg [D.str p.fst, D.int IntKind.i64 p.snd])), (64, V.tuple [.d (.list 1 (map u8 f.fst)), .d (.int .i64 0)]), (65, .ptr 0 0 0), (66, .ptr 9 0 0), (67, .d (.str p.fst)), (68, V.tuple [.d (.list 1 (map u8 f.fst)), .d (.int .i64 0)]), (69, .d (.list 1 (map u8 f.fst))), (70, .d (.int .i64 0)), (71, .d (.list 1 (map strD d.nk))), (72, .d (.int .i64 (↑i : Int))), (73, .ep 1 (D.str x) 0), (74, .d (.str x)), (75, .ptr 9 0 0), (76, .d (.str p.fst)), (77, .d (.bool false)), (78, .d (.bool false)), (79, .d (.int .i64 0)), (80, .d (.bool false)), (81, .d (.bool false)), (82, .d (.bool false)), (83, .d (.list 1 (map u8 f.fst))), (84, .d (.str (strOf f.fst))), (85, .ptr 6 0 0), (86, .ptr 6 0 0), (87, .ptr 6 0 0), (88, .row 7), (89, .ptr 9 0 1), (90, .d (.int .i64 p.snd)), (91, .ptr 7 p.snd.toNat 0), (92, .ptr 7 p.snd.toNat 0), (93, .d (.list 1 (map u8 f.fst))), (94, .d (.str (strOf f.fst))), (95, .d (.bool !(strOf f.fst).toList == (strOf f.fst).toList))]) (σ' := (SP 1 2 d false [.cells [.row 7, .d (.list 2 (map nmD (Rof d t).now)), .d (.list 2 (map nmD (Rof d t).sure)), .row 8, .d (.int .i64 d.quota), .d (.bool d.full), .d (.bool d.off), .d (.int .i64 t), .d (.int .i64 d.calls)], .row 2 (map fileD d.files) false, .row 3 (map chD d.ch) false, .cells [.d (.str p.fst), .d (.int .i64 p.snd)]])) (by kernel_rfl)) ?_
        rw [hgd]
        exact Run.fin
      refine .sg0 7 [0, 1, 4, 5, 6, 7, 8, 9, 57, 58, 59, 60, 61, 62, 63, 64, 65, 66, 67, 68, 69, 70, 71, 72, 73, 74, 75, 76, 77, 78, 79, 80, 81, 82, 83, 84, 85, 86, 87, 88, 89, 90, 91, 92, 93, 94, 95, 96, 97] (G46 66 [false, true, false]) [(59, .d (.int .i64 (IntKind.i64.wrap ((↑i : Int) + 1)))), (97, .d (.int .i64 (IntKind.i64.wrap ((↑i : Int) + 1))))] ?_
      simp only [List.length_map]
      simp (disch := omega) only [bsW]
      refine .kp [0, 1, 4, 5, 57, 58, 59] ?_
      refine .su [0, 1, 2, 3, 4, 5, 6, 7, 8] (mk 98 [(0, .ptr 0 0 0), (1, .ptr 6 0 0), (4, .d (.bool false)), (5, .d (.list 1 (d.nk.map strD))), (57, .d (.list 2 ((Rof d t).now.map nmD))), (58, .d (.int .i64 (d.nk.length : Nat))), (59, .d (.int .i64 ((i + 1 : Nat) : Int)))]) (SX d t false) ?_
      exact .seg 1 [0, 1, 4, 5, 57, 58, 59] (by kernel_rfl) ih
    · simp only [bsX] at h1
      omega
theorem spec_46 (d : Dk) (t : Int) (N : Nat) (h : d.Ok N) (hN : N ≤ 50000) (ht : Rb t) (he : d.off = false → t = d.stop) :
   CallsA Try.prog 46 [.ptr 0 0 0, .ptr 6 0 0] (SX d t false) fun r σ' => r = .ret (.d (.bool true)) ∧ σ' = SX d t false := by
 refine CallsA.start F46 (tm := mk (Try.f46.ntmps) [(0, .ptr 0 0 0), (1, .ptr 6 0 0)]) (by kernel_rfl) ?_
 have hlen := Rof_len (t := t) h
 have hg1 : ((↑(List.map strD d.nk).length : Int) != (↑(List.map nmD (Rof d t).now).length : Int)) = false := by simp [hlen]
 have hg2 : ((↑d.used : Int) != (↑d.used : Int)) = false := by simp
 have hg3 : (!d.full == (Rof d t).full) = false := by simp [Rof]
 have hg4 : (!d.off == (Rof d t).off) = false := by simp [Rof]
 have hg5 : (d.calls != (Rof d t).calls) = false := by simp [Rof]
 refine .sg0 7 [0, 1, 4, 10] (G46 7 []) [(4, .d (.bool false)), (10, .ptr 0 0 0)] ?_
 refine .ca [0, 1, 2, 3, 4, 5] (G46 8 []) F44 (@spec_44 (d) (N) (by assumption)) ?_
 rintro r0 s0 ⟨rfl, rfl⟩
 refine ⟨_, rfl, ?_⟩
 refine .sg0 4 [0, 1, 4, 5] (G46 12 []) [(5, .d (.list 1 (map strD d.nk)))] ?_
 refine .dr (G46 13 []) [(12, .d (.list 1 (map strD d.nk))), (13, .d (.int .i64 (↑(map strD d.nk).length : Int))), (14, .ptr 6 0 0), (15, .ptr 6 0 0), (16, .ptr 6 0 1), (17, .d (.list 2 (map nmD (Rof d t).now))), (18, .d (.int .i64 (↑(map nmD (Rof d t).now).length : Int))), (19, .d (.bool false)), (20, .d (.bool false)), (21, .ptr 0 0 0), (22, .d (.int .i64 (↑d.used : Int))), (23, .ptr 6 0 0), (24, .d (.int .i64 (↑d.used : Int))), (25, .d (.bool false)), (26, .d (.bool false)), (27, .d (.bool false)), (28, .ptr 0 0 0), (29, .d (.bool d.full)), (30, .ptr 6 0 0), (31, .ptr 6 0 0), (32, .ptr 6 0 5), (33, .d (.bool (Rof d t).full)), (34, .d (.bool false)), (35, .d (.bool false)), (36, .d (.bool false)), (37, .ptr 0 0 0), (38, .d (.bool d.off)), (39, .ptr 6 0 0), (40, .ptr 6 0 0), (41, .ptr 6 0 6), (42, .d (.bool (Rof d t).off)), (43, .d (.bool false)), (44, .d (.bool false)), (45, .d (.bool false)), (46, .ptr 0 0 0), (47, .d (.int .i64 d.calls)), (48, .ptr 6 0 0), (49, .ptr 6 0 0), (50, .ptr 6 0 8), (51, .d (.int .i64 (Rof d t).calls)), (52, .d (.bool false)), (53, .d (.bool false))] [(6, .cells (rC 7 8 (Rof d t))), (7, .row 2 (map fileD (Rof d t).files) false), (8, .row 3 (map chD (Rof d t).ch) false)] (fun kz L hL => ?_) ?_
 · refine ⟨[nF, nF, fO 6, fA 6, fA 6, ⟨[6], [], [], [], [6, 7, 8], [], true, false⟩, nF, nF, nF, fO 0, ⟨[0, 1, 2, 3, 4, 5], [], [], [], [0, 1, 2, 5, 3, 4], [], true, false⟩, fO 6, ⟨[6, 7, 8], [6, 7, 8], [], [7, 8], [6, 7, 8], [], true, false⟩, nF, nF, nF, fO 0, ⟨[0, 1, 2, 3, 4, 5], [], [], [], [0, 1, 2, 5, 3, 4], [], true, false⟩, fO 6, fA 6, fA 6, ⟨[6], [], [], [], [6, 7, 8], [], true, false⟩, nF, nF, nF, fO 0, ⟨[0, 1, 2, 3, 4, 5], [], [], [], [0, 1, 2, 5, 3, 4], [], true, false⟩, fO 6, fA 6, fA 6, ⟨[6], [], [], [], [6, 7, 8], [], true, false⟩, nF, nF, nF, fO 0, ⟨[0, 1, 2, 3, 4, 5], [], [], [], [0, 1, 2, 5, 3, 4], [], true, false⟩, fO 6, fA 6, fA 6, ⟨[6], [], [], [], [6, 7, 8], [], true, false⟩, nF, nF], run_amongF hL _ [] [0, 2, 3, 4, 5, 1, 6, 7, 8, 9, 11, 10, 12, 13, 14, 15, 16, 18, 19, 20, 21, 17, 22, 23, 24, 25, 27, 28, 29, 30, 26, 31, 32, 33, 34, 36, 37, 38, 39, 35, 40, 41] (by intro p hp; cases hp) (by kernel_rfl) ?_⟩
   refine Run.append (A := [0, 2, 3, 4, 5, 1, 6, 7]) (srunF_ok (tm' := mk 98 [(0, .ptr 0 0 0), (1, .ptr 6 0 0), (4, .d (.bool false)), (5, .d (.list 1 (map strD d.nk))), (12, .d (.list 1 (map strD d.nk))), (13, .d (.int .i64 (↑(map strD d.nk).length : Int))), (14, .ptr 6 0 0), (15, .ptr 6 0 0), (16, .ptr 6 0 1), (17, .d (.list 2 (map nmD (Rof d t).now))), (18, .d (.int .i64 (↑(map nmD (Rof d t).now).length : Int))), (19, .d (.bool ((↑(map strD d.nk).length : Int) != (↑(map nmD (Rof d t).now).length : Int))))]) (σ' := (SP 1 2 d false [.cells [.row 7, .d (.list 2 (map nmD (Rof d t).now)), .d (.list 2 (map nmD (Rof d t).sure)), .row 8, .d (.int .i64 d.quota), .d (.bool d.full), .d (.bool d.off), .d (.int .i64 t), .d (.int .i64 d.calls)], .row 2 (map fileD d.files) false, .row 3 (map chD d.ch) false])) (by kernel_rfl)) ?_
   rw [hg1]
   refine Run.ap [8, 9, 11] [(20, .d (.bool false)), (21, .ptr 0 0 0), (23, .ptr 6 0 0)] [] ?_
   refine Run.cll 10 [0, 1, 2, 3, 4, 5] F68 (@spec_68 (d) (N) (by assumption)) ?_
   refine Run.cl 12 [6, 7, 8] F83 (@spec_83a (d) (t) (N) (by assumption) (by assumption)) ?_
   refine Run.append (A := [13]) (srunF_ok (tm' := mk 98 [(0, .ptr 0 0 0), (1, .ptr 6 0 0), (4, .d (.bool false)), (5, .d (.list 1 (map strD d.nk))), (12, .d (.list 1 (map strD d.nk))), (13, .d (.int .i64 (↑(map strD d.nk).length : Int))), (14, .ptr 6 0 0), (15, .ptr 6 0 0), (16, .ptr 6 0 1), (17, .d (.list 2 (map nmD (Rof d t).now))), (18, .d (.int .i64 (↑(map nmD (Rof d t).now).length : Int))), (19, .d (.bool false)), (20, .d (.bool false)), (21, .ptr 0 0 0), (22, .d (.int .i64 (↑d.used : Int))), (23, .ptr 6 0 0), (24, .d (.int .i64 (↑d.used : Int))), (25, .d (.bool ((↑d.used : Int) != (↑d.used : Int))))]) (σ' := (SP 1 2 d false [.cells (rC 7 8 (Rof d t)), .row 2 (map fileD (Rof d t).files) false, .row 3 (map chD (Rof d t).ch) false])) (by kernel_rfl)) ?_
   rw [hg2]
   refine Run.ap [14, 15, 16, 18, 19, 20, 21] [(26, .d (.bool false)), (27, .d (.bool false)), (28, .ptr 0 0 0), (30, .ptr 6 0 0), (31, .ptr 6 0 0), (32, .ptr 6 0 5), (33, .d (.bool (Rof d t).full))] [] ?_
   refine Run.cll 17 [0, 1, 2, 3, 4, 5] F48 (@spec_48 (d)) ?_
   refine Run.append (A := [22]) (srunF_ok (tm' := mk 98 [(0, .ptr 0 0 0), (1, .ptr 6 0 0), (4, .d (.bool false)), (5, .d (.list 1 (map strD d.nk))), (12, .d (.list 1 (map strD d.nk))), (13, .d (.int .i64 (↑(map strD d.nk).length : Int))), (14, .ptr 6 0 0), (15, .ptr 6 0 0), (16, .ptr 6 0 1), (17, .d (.list 2 (map nmD (Rof d t).now))), (18, .d (.int .i64 (↑(map nmD (Rof d t).now).length : Int))), (19, .d (.bool false)), (20, .d (.bool false)), (21, .ptr 0 0 0), (22, .d (.int .i64 (↑d.used : Int))), (23, .ptr 6 0 0), (24, .d (.int .i64 (↑d.used : Int))), (25, .d (.bool false)), (26, .d (.bool false)), (27, .d (.bool false)), (28, .ptr 0 0 0), (29, .d (.bool d.full)), (30, .ptr 6 0 0), (31, .ptr 6 0 0), (32, .ptr 6 0 5), (33, .d (.bool (Rof d t).full)), (34, .d (.bool !d.full == (Rof d t).full))]) (σ' := (SP 1 2 d false [.cells (rC 7 8 (Rof d t)), .row 2 (map fileD (Rof d t).files) false, .row 3 (map chD (Rof d t).ch) false])) (by kernel_rfl)) ?_
   rw [hg3]
   refine Run.ap [23, 24, 25, 27, 28, 29, 30] [(35, .d (.bool false)), (36, .d (.bool false)), (37, .ptr 0 0 0), (39, .ptr 6 0 0), (40, .ptr 6 0 0), (41, .ptr 6 0 6), (42, .d (.bool (Rof d t).off))] [] ?_
   refine Run.cll 26 [0, 1, 2, 3, 4, 5] F41 (@spec_41 (d)) ?_
   refine Run.append (A := [31]) (srunF_ok (tm' := mk 98 [(0, .ptr 0 0 0), (1, .ptr 6 0 0), (4, .d (.bool false)), (5, .d (.list 1 (map strD d.nk))), (12, .d (.list 1 (map strD d.nk))), (13, .d (.int .i64 (↑(map strD d.nk).length : Int))), (14, .ptr 6 0 0), (15, .ptr 6 0 0), (16, .ptr 6 0 1), (17, .d (.list 2 (map nmD (Rof d t).now))), (18, .d (.int .i64 (↑(map nmD (Rof d t).now).length : Int))), (19, .d (.bool false)), (20, .d (.bool false)), (21, .ptr 0 0 0), (22, .d (.int .i64 (↑d.used : Int))), (23, .ptr 6 0 0), (24, .d (.int .i64 (↑d.used : Int))), (25, .d (.bool false)), (26, .d (.bool false)), (27, .d (.bool false)), (28, .ptr 0 0 0), (29, .d (.bool d.full)), (30, .ptr 6 0 0), (31, .ptr 6 0 0), (32, .ptr 6 0 5), (33, .d (.bool (Rof d t).full)), (34, .d (.bool false)), (35, .d (.bool false)), (36, .d (.bool false)), (37, .ptr 0 0 0), (38, .d (.bool d.off)), (39, .ptr 6 0 0), (40, .ptr 6 0 0), (41, .ptr 6 0 6), (42, .d (.bool (Rof d t).off)), (43, .d (.bool !d.off == (Rof d t).off))]) (σ' := (SP 1 2 d false [.cells (rC 7 8 (Rof d t)), .row 2 (map fileD (Rof d t).files) false, .row 3 (map chD (Rof d t).ch) false])) (by kernel_rfl)) ?_
   rw [hg4]
   refine Run.ap [32, 33, 34, 36, 37, 38, 39] [(44, .d (.bool false)), (45, .d (.bool false)), (46, .ptr 0 0 0), (48, .ptr 6 0 0), (49, .ptr 6 0 0), (50, .ptr 6 0 8), (51, .d (.int .i64 (Rof d t).calls))] [] ?_
   refine Run.cll 35 [0, 1, 2, 3, 4, 5] F45 (@spec_45 (d)) ?_
   refine Run.append (A := [40]) (srunF_ok (tm' := mk 98 [(0, .ptr 0 0 0), (1, .ptr 6 0 0), (4, .d (.bool false)), (5, .d (.list 1 (map strD d.nk))), (12, .d (.list 1 (map strD d.nk))), (13, .d (.int .i64 (↑(map strD d.nk).length : Int))), (14, .ptr 6 0 0), (15, .ptr 6 0 0), (16, .ptr 6 0 1), (17, .d (.list 2 (map nmD (Rof d t).now))), (18, .d (.int .i64 (↑(map nmD (Rof d t).now).length : Int))), (19, .d (.bool false)), (20, .d (.bool false)), (21, .ptr 0 0 0), (22, .d (.int .i64 (↑d.used : Int))), (23, .ptr 6 0 0), (24, .d (.int .i64 (↑d.used : Int))), (25, .d (.bool false)), (26, .d (.bool false)), (27, .d (.bool false)), (28, .ptr 0 0 0), (29, .d (.bool d.full)), (30, .ptr 6 0 0), (31, .ptr 6 0 0), (32, .ptr 6 0 5), (33, .d (.bool (Rof d t).full)), (34, .d (.bool false)), (35, .d (.bool false)), (36, .d (.bool false)), (37, .ptr 0 0 0), (38, .d (.bool d.off)), (39, .ptr 6 0 0), (40, .ptr 6 0 0), (41, .ptr 6 0 6), (42, .d (.bool (Rof d t).off)), (43, .d (.bool false)), (44, .d (.bool false)), (45, .d (.bool false)), (46, .ptr 0 0 0), (47, .d (.int .i64 d.calls)), (48, .ptr 6 0 0), (49, .ptr 6 0 0), (50, .ptr 6 0 8), (51, .d (.int .i64 (Rof d t).calls)), (52, .d (.bool (d.calls != (Rof d t).calls)))]) (σ' := (SP 1 2 d false [.cells (rC 7 8 (Rof d t)), .row 2 (map fileD (Rof d t).files) false, .row 3 (map chD (Rof d t).ch) false])) (by kernel_rfl)) ?_
   rw [hg5]
   exact Run.fin
 refine .seg 13 [0, 1, 4, 5, 57, 58, 59] (T' := cgo 26 [false] [.code B46]) (tm' := mk 98 [(0, .ptr 0 0 0), (1, .ptr 6 0 0), (4, .d (.bool false)), (5, .d (.list 1 (map strD d.nk))), (57, .d (.list 2 (map nmD (Rof d t).now))), (58, .d (.int .i64 (↑(map nmD (Rof d t).now).length : Int))), (59, .d (.int .i64 0))]) (σ' := [.cells (hC 1 2 5 d), .row 2 (map fileD d.files) false, .cells [.row 3, .row 4], .row 1 (map strD d.nk) false, .row 1 (map intD d.nv) false, .row 3 (map chD d.ch) false, .cells (rC 7 8 (Rof d t)), .row 2 (map fileD (Rof d t).files) false, .row 3 (map chD (Rof d t).ch) false]) (by kernel_rfl) ?_
 simp only [List.length_map]
 rw [hlen]
 exact .seg 1 [0, 1, 4, 5, 57, 58, 59] (by kernel_rfl) (lo46 d t N h d.nk.length 0 (by omega))
end Go.Proofs.Ytoelkgbeefoplaa
namespace Go.Proofs.Ytoelkgbeefoplaa
open Go Go.Br Go.Proofs
open List (map)
noncomputable def B10 : Code := (Try.f10.body).getD .skip
noncomputable def G10 (n : Nat) (l : List Bool) : List Item := cgo n l [.code B10]
theorem F10 : Fnc Try.prog 10 Try.f10 B10 := ⟨Try.func10, by kernel_rfl, by kernel_rfl⟩
theorem lo10 (l : List DOp) (hl : l.length ≤ 60) (hf : ∀ o ∈ l, o.small ∧ o.fits) (p : Dk × Int) (hp : Both p.1 p.2 0) : ∀ (m i : Nat), i + m = l.length →
    AW Try.prog 10 none 0 (G10 23 []) (mk 38 [(4, .d (.bool false)), (5, .ptr 0 0 0), (6, .ptr 6 0 0), (14, .d (.list 7 (l.map dopD))), (15, .d (.int .i64 (l.length : Nat))), (16, .d (.int .i64 (i : Nat)))])
      (SX (runA p (l.take i)).1 (runA p (l.take i)).2 true) [] fun r σ' => r = .ret (.d (.bool true)) := by
  intro m
  induction m with
  | zero =>
    intro i hi
    have hi : i = l.length := by omega
    subst hi
    rw [List.take_length]
    have hb := runA_both l hp (by omega) (fun o' h' => (hf o' h').2)
    generalize runA p l = q at *
    obtain ⟨d, t⟩ := q
    dsimp only at *
    have hk := hb.ok
    have hbb := hb.b
    have hbe := hb.eq
    clear hf hp hb
    refine .sg0 5 [4, 5, 6, 14, 15, 16, 17] (G10 28 []) [(17, .d (.bool (decide ((↑l.length : Int) < (↑l.length : Int)))))] ?_
    refine .if' (decide ((↑l.length : Int) < (↑l.length : Int))) (G10 29 [true]) (G10 29 [false]) (fun h1 => ?_) (fun h1 => ?_)
    · simp only [bsX] at h1
      omega
    · simp only [bsX] at h1
      refine .sg0 5 [4, 5, 6, 32, 33] (G10 34 [false]) [(32, .ptr 0 0 0), (33, .ptr 6 0 0)] ?_
      refine .ca [0, 1, 2, 3, 4, 5, 6, 7, 8] (G10 35 [false]) F46 (@spec_46 (d) (t) (0 + 2 * l.length) (by assumption) (by omega) (by assumption) (by assumption)) ?_
      rintro r1 s1 ⟨rfl, rfl⟩
      refine ⟨_, rfl, ?_⟩
      refine .sg0 1 [4, 5, 6, 32, 33, 34, 35] (G10 36 [false]) [(35, .d (.bool true))] ?_
      refine .cd (G10 37 [false]) F30 (@spec_30) ?_
      refine .sg0 3 [4] (G10 40 [false]) [(4, .d (.bool true))] ?_
      refine .kp [4] ?_
      refine .su [] (mk 38 [(4, .d (.bool true))]) [] ?_
      refine .rt F10 (V.d (D.bool true)) ?_
      exact rfl
  | succ m ih =>
    intro i hi
    obtain ⟨o, ho⟩ := get_some (l := l) (i := i) (by omega)
    have ih := ih (i + 1) (by omega)
    have hb2 := runA_both (l.take (i + 1)) hp (by rw [List.length_take]; omega) (fun o' h' => (hf o' (List.mem_of_mem_take h')).2)
    have hN2 : 0 + 2 * (l.take (i + 1)).length ≤ 50000 := by rw [List.length_take]; omega
    rw [take_get ho, runA_snoc] at ih hb2
    rw [← take_get ho] at hb2
    have hb := runA_both (l.take i) hp (by rw [List.length_take]; omega) (fun o' h' => (hf o' (List.mem_of_mem_take h')).2)
    obtain ⟨hs, hfo⟩ := hf o (List.mem_of_getElem? ho)
    have hN : 0 + 2 * (l.take i).length + 5 ≤ 50000 := by rw [List.length_take]; omega
    generalize 0 + 2 * (l.take i).length = N at hb hN
    generalize 0 + 2 * (l.take (i + 1)).length = N2 at hb2 hN2
    generalize runA p (l.take i) = q at *
    obtain ⟨d, t⟩ := q
    dsimp only at *
    have hc := spec_42x d t N hb hN o hs hfo
    have hgo : AW Try.prog 10 none 0 (G10 45 [true]) (mk 38 [(4, .d (.bool false)), (5, .ptr 0 0 0), (6, .ptr 6 0 0), (14, .d (.list 7 (l.map dopD))), (15, .d (.int .i64 (l.length : Nat))), (16, .d (.int .i64 (i : Nat))), (23, .d (.bool true))]) (SX (stepA d o) (tA d t o) true) [] fun r σ' => r = .ret (.d (.bool true)) := by
      have hk2 := hb2.ok
      have hbb := hb2.b
      have hbe := hb2.eq
      clear hc hb hb2 hf hp
      generalize stepA d o = d' at *
      generalize tA d t o = t' at *
      refine .sg0 4 [4, 5, 6, 14, 15, 16, 23, 24, 25, 26, 27] (G10 49 [true]) [(24, .d (.bool false)), (25, .d (.bool false)), (26, .ptr 0 0 0), (27, .ptr 6 0 0)] ?_
      refine .ca [0, 1, 2, 3, 4, 5, 6, 7, 8] (G10 50 [true]) F46 (@spec_46 (d') (t') (N2) (by assumption) (by assumption) (by assumption) (by assumption)) ?_
      rintro r0 s0 ⟨rfl, rfl⟩
      refine ⟨_, rfl, ?_⟩
      refine .sg0 10 [4, 5, 6, 14, 15, 16, 23, 24, 25, 26, 27, 28, 29, 30, 31] (G10 60 [true, false]) [(16, .d (.int .i64 (IntKind.i64.wrap ((↑i : Int) + 1)))), (29, .d (.bool false)), (30, .d (.bool false)), (31, .d (.int .i64 (IntKind.i64.wrap ((↑i : Int) + 1))))] ?_
      simp (disch := omega) only [bsW]
      refine .kp [4, 5, 6, 14, 15, 16] ?_
      refine .raises [1, 3, 4, 5, 7, 8] ?_
      refine .seg 1 [4, 5, 6, 14, 15, 16] (by kernel_rfl) ih
    clear hf hp hb2 ih
    refine .sg0 5 [4, 5, 6, 14, 15, 16, 17] (G10 28 []) [(17, .d (.bool (decide ((↑i : Int) < (↑l.length : Int)))))] ?_
    refine .if' (decide ((↑i : Int) < (↑l.length : Int))) (G10 29 [true]) (G10 29 [false]) (fun h1 => ?_) (fun h1 => ?_)
    · simp only [bsX] at h1
      refine .sg0 5 [4, 5, 6, 14, 15, 16, 17] (G10 34 [true]) [] ?_
      refine .op' (G10 35 [true]) (ixData_ok (t := 54) (x := (.tmp 14)) (i := (.tmp 16)) (k := IntKind.i64) (n := (↑i : Int)) (sz := 7) (xs := map dopD l) (d := dopD o) (by kernel_rfl) (by kernel_rfl) (by kernel_rfl) (by kernel_rfl) (by omega) (map_get ho)) ?_
      refine .sg 9 [4, 5, 6, 8, 14, 15, 16, 17, 18, 19, 20, 21, 22] (G10 44 [true]) [(8, .ptr 9 0 0), (19, .d (.agg [D.int IntKind.u64 (↑o.kind : Int), D.str o.a, D.str o.b, D.list 1 (map u8 o.data), D.int IntKind.i64 o.n, D.int IntKind.i64 o.dir, D.list 1 (map intD o.keep)])), (20, .ptr 0 0 0), (21, .ptr 6 0 0), (22, .d (.agg [D.int IntKind.u64 (↑o.kind : Int), D.str o.a, D.str o.b, D.list 1 (map u8 o.data), D.int IntKind.i64 o.n, D.int IntKind.i64 o.dir, D.list 1 (map intD o.keep)]))] [(9, .cells [.d (.int .u64 (↑o.kind : Int)), .d (.str o.a), .d (.str o.b), .d (.list 1 (map u8 o.data)), .d (.int .i64 o.n), .d (.int .i64 o.dir), .d (.list 1 (map intD o.keep))])] ?_
      refine .ca [0, 1, 2, 3, 4, 5, 6, 7, 8] (G10 45 [true]) F42 hc ?_
      rintro r0 s0 ⟨rfl, hs0⟩
      refine ⟨_, rfl, ?_⟩
      rcases hs0 with rfl | rfl
      · refine .kp [4, 5, 6, 14, 15, 16, 23] ?_
        refine .su [0, 1, 2, 3, 4, 5, 6, 7, 8] (mk 38 [(4, .d (.bool false)), (5, .ptr 0 0 0), (6, .ptr 6 0 0), (14, .d (.list 7 (l.map dopD))), (15, .d (.int .i64 (l.length : Nat))), (16, .d (.int .i64 (i : Nat))), (23, .d (.bool true))]) (SX (stepA d o) (tA d t o) true) ?_
        exact hgo
      · refine .kp [4, 5, 6, 14, 15, 16, 23] ?_
        refine .su [0, 1, 10, 11, 12, 5, 6, 7, 8] (mk 38 [(4, .d (.bool false)), (5, .ptr 0 0 0), (6, .ptr 6 0 0), (14, .d (.list 7 (l.map dopD))), (15, .d (.int .i64 (l.length : Nat))), (16, .d (.int .i64 (i : Nat))), (23, .d (.bool true))]) (SX (stepA d o) (tA d t o) true) ?_
        exact hgo
    · simp only [bsX] at h1
      omega
theorem spec_10 (q : Int) (hq : q < 9223372036854775808) (l : List DOp) (hl : l.length ≤ 9223372036854775807) (hf : ∀ o ∈ l, o.fits) :
  Br.Pure Try.prog 10 [.d (.int .i64 q), .d (.list 7 (l.map dopD))] (.d (.bool true)) := by
 refine CallsA.pure ?_ rfl
 refine CallsA.start F10 (tm := mk (Try.f10.ntmps) [(0, .d (.int .i64 q)), (1, .d (.list 7 (l.map dopD)))]) (by kernel_rfl) ?_
 have hnext := lo10 (cutD l) (cutA_le l) (cutA_fits hf) (Dk.new q, -1) (Both.new hq) (cutD l).length 0 (by omega)
 rw [List.take_zero] at hnext
 have hr : runA (Dk.new q, -1) [] = (Dk.new q, -1) := rfl
 rw [hr] at hnext
 clear hr
 refine .sg0 7 [0, 1, 4, 9] (G10 7 []) [(4, .d (.bool false)), (9, .d (.int .i64 q))] ?_
 refine .ca [] (G10 8 []) F25 (@spec_25 (q)) ?_
 rintro r0 s0 ⟨rfl, rfl⟩
 refine ⟨_, rfl, ?_⟩
 refine .sg0 1 [0, 1, 4, 9, 10, 11] (G10 9 []) [(11, .d (.int .i64 q))] ?_
 refine .ca [] (G10 10 []) F39 (@spec_39 (q)) ?_
 rintro r1 s1 ⟨rfl, rfl⟩
 refine ⟨_, rfl, ?_⟩
 refine .sg0 7 [1, 4, 5, 6, 13] (G10 17 []) [(5, .ptr 0 0 0), (6, .ptr 6 0 0), (13, .d (.list 7 (map dopD l)))] ?_
 refine .cd (G10 18 []) F38 (@spec_38 (l) (by assumption)) ?_
 refine .seg 4 [4, 5, 6, 14, 15, 16] (T' := cgo 22 [] [.code B10]) (tm' := mk 38 [(4, .d (.bool false)), (5, .ptr 0 0 0), (6, .ptr 6 0 0), (14, .d (.list 7 (map dopD (cutD l)))), (15, .d (.int .i64 (↑(map dopD (cutD l)).length : Int))), (16, .d (.int .i64 0))]) (σ' := [.cells [.row 1, .ptr 2 0 0, .ep 2 (D.agg [D.list 1 [], D.list 1 []]) 0, .row 5, .d (.int .i64 (Dk.new q).quota), .d (.bool false), .d (.bool false), .d (.int .i64 (Dk.new q).stop), .d (.int .i64 (Dk.new q).calls)], .row 2 [] true, .cells [.row 3, .row 4], .row 1 [] true, .row 1 [] true, .row 3 [] true, .cells [.row 7, .d (.list 2 []), .d (.list 2 []), .row 8, .d (.int .i64 (Rk.new q).quota), .d (.bool false), .d (.bool false), .d (.int .i64 (Rk.new q).stop), .d (.int .i64 (Rk.new q).calls)], .row 2 [] true, .row 3 [] true]) (by kernel_rfl) ?_
 simp only [List.length_map]
 exact .seg 1 [4, 5, 6, 14, 15, 16] (by kernel_rfl) hnext
end Go.Proofs.Ytoelkgbeefoplaa
