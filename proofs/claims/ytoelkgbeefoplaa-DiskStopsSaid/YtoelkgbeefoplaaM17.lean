/- Texts of this proof, part 17: ListA, TurnB, TurnD, TurnC, WalA, WalB, WalC, StopA, StopB, StopC. -/
import Derived.Test.YtoelkgbeefoplaaM16
set_option linter.unusedSimpArgs false
set_option linter.unusedVariables false
set_option linter.constructorNameAsVariable false
namespace Go.Proofs.Ytoelkgbeefoplaa
open Go Go.Br Go.Proofs
open List (map)
noncomputable def B82 : Code := (Try.f82.body).getD .skip
theorem F82 : Fnc Try.prog 82 Try.f82 B82 := ⟨Try.func82, by kernel_rfl, by kernel_rfl⟩
noncomputable def B104 : Code := (Try.f104.body).getD .skip
theorem F104 : Fnc Try.prog 104 Try.f104 B104 := ⟨Try.func104, by kernel_rfl, by kernel_rfl⟩
noncomputable def B44 : Code := (Try.f44.body).getD .skip
theorem F44 : Fnc Try.prog 44 Try.f44 B44 := ⟨Try.func44, by kernel_rfl, by kernel_rfl⟩
theorem spec_82 (d : Dk) : CallsA Try.prog 82 [.ptr 0 0 0] (SD d false) fun r σ' => r = .ret (.fn (.func 104) [] [.ptr 6 0 0]) ∧ σ' = SD d false ++ [.cells [.ptr 0 0 0]] := by
  refine CallsA.start F82 (tm := mk (Try.f82.ntmps) [(0, .ptr 0 0 0)]) (by kernel_rfl) ?_
  refine .seg 10 [2] (T' := cgo 10 [] [.code B82]) (tm' := mk 4 [(2, .fn (Fn.func 104) [] [.ptr 6 0 0])]) (σ' := [.cells [.row 1, .ptr 2 0 0, .ep 2 (D.agg [D.list 1 (map strD d.sk), D.list 1 (map intD d.sv)]) 0, .row 5, .d (.int .i64 d.quota), .d (.bool d.full), .d (.bool d.off), .d (.int .i64 d.stop), .d (.int .i64 d.calls)], .row 2 (map fileD d.files) false, .cells [.row 3, .row 4], .row 1 (map strD d.nk) false, .row 1 (map intD d.nv) false, .row 3 (map chD d.ch) false, .cells [.ptr 0 0 0]]) (by kernel_rfl) ?_
  refine .retH F82 (v := V.fn (Fn.func 104) [] [V.ptr 6 0 0]) (by kernel_rfl) (by kernel_rfl) ?_
  exact ⟨rfl, rfl⟩
def afD (d : Dk) (p : ByteArray × Int) : D := .agg [.str p.1, bsD (d.file p.2.toNat).1]
def allF (d : Dk) : List D := (d.nk.zip d.nv).map (afD d)
theorem allF_length (d : Dk) (h : d.nv.length = d.nk.length) : (allF d).length = d.nk.length := by simp [allF, h]
theorem allF_get {d : Dk} {i : Nat} {x : ByteArray} {v : Int} (hx : d.nk[i]? = some x) (hy : d.nv[i]? = some v) : (allF d)[i]? = some (.agg [.str x, bsD (d.file v.toNat).1]) := by
  unfold allF
  rw [List.getElem?_map, (List.getElem?_zip_eq_some.2 ⟨hx, hy⟩ : (d.nk.zip d.nv)[i]? = some (x, v))]; rfl
theorem take_snoc {α : Type} {l : List α} {i : Nat} {y : α} (h : l[i]? = some y) : l.take i ++ [y] = l.take (i + 1) := by
  obtain ⟨hi, rfl⟩ := List.getElem?_eq_some_iff.1 h
  rw [List.take_succ_eq_append_getElem hi]
noncomputable def S44 (d : Dk) (i : Nat) (st : LoopState) : Store := [.cells [.row 1, .ptr 2 0 0, .ep 2 (dirD d.sk d.sv) 0, .row 5, .d (.int .i64 d.quota), .d (.bool d.full), .d (.bool d.off), .d (.int .i64 d.stop), .d (.int .i64 d.calls)], .row 2 (d.files.map fileD) false, .cells [.row 3, .row 4], .row 1 (d.nk.map strD) false, .row 1 (d.nv.map intD) false, .row 3 (d.ch.map chD) false,
  .cells [.row 8], .cells [.ptr 0 0 0], .row 1 ((d.nk.take i).map strD) true, .defd, lp (cgo 11 [] [Item.code B44]) 44 (mk 13 [(2, V.ptr 6 0 0), (5, V.fn (Fn.func 104) [] [V.ptr 7 0 0])]) st]
noncomputable def S104 (d : Dk) (i : Nat) (st : LoopState) : Store := [.cells [.row 1, .ptr 2 0 0, .ep 2 (dirD d.sk d.sv) 0, .row 5, .d (.int .i64 d.quota), .d (.bool d.full), .d (.bool d.off), .d (.int .i64 d.stop), .d (.int .i64 d.calls)], .row 2 (d.files.map fileD) false, .cells [.row 3, .row 4], .row 1 (d.nk.map strD) false, .row 1 (d.nv.map intD) false, .row 3 (d.ch.map chD) false,
  .cells [.row 8], .cells [.ptr 0 0 0], .row 1 ((d.nk.take 0).map strD) true, .defd, lp (cgo 11 [] [Item.code B44]) 44 (mk 13 [(2, V.ptr 6 0 0), (5, V.fn (Fn.func 104) [] [V.ptr 7 0 0])]) .ready,
  .cells [.row 14], .cells [.ptr 2 0 0], .cells [.fn (.func 98) [] []], .row 2 ((allF d).take i) true, .defd, lp (cgo 22 [false] [Item.code B104]) 104 (mk 45 [(0, V.yield 10), (1, V.ptr 7 0 0), (3, V.ptr 11 0 0), (14, V.fn (Fn.func 109) [] [V.ptr 12 0 0, V.ptr 13 0 0])]) st]
noncomputable def S44x (d : Dk) (i : Nat) (st : LoopState) : Store := [.cells [.row 1, .ptr 2 0 0, .ep 2 (dirD d.sk d.sv) 0, .row 5, .d (.int .i64 d.quota), .d (.bool d.full), .d (.bool d.off), .d (.int .i64 d.stop), .d (.int .i64 d.calls)], .row 2 (d.files.map fileD) false, .cells [.row 3, .row 4], .row 1 (d.nk.map strD) false, .row 1 (d.nv.map intD) false, .row 3 (d.ch.map chD) false,
  .cells [.row 8], .cells [.ptr 0 0 0], .row 1 ((d.nk.take i).map strD) true, .defd, lp (cgo 11 [] [Item.code B44]) 44 (mk 13 [(2, V.ptr 6 0 0), (5, V.fn (Fn.func 104) [] [V.ptr 7 0 0])]) st] ++ [.cells [.d (.list 2 ((d.nk.zip d.nv).map (afD d)))], .cells [.ptr 2 0 0], .cells [.fn (.func 98) [] []], .dead, .defd, lp (cgo 22 [false] [Item.code B104]) 104 (mk 45 [(0, V.yield 10), (1, V.ptr 7 0 0), (3, V.ptr 11 0 0), (14, V.fn (Fn.func 109) [] [V.ptr 12 0 0, V.ptr 13 0 0])]) .exhausted]
noncomputable def S44y (d : Dk) (i : Nat) (st : LoopState) (x : ByteArray) (b : List UInt8) : Store := S44x d i st ++ [.cells [.d (.str x), .d (.list 1 (b.map u8))]]
noncomputable def R44 : List Item := [.code (rfAs (cgo 11 [] [Item.code B44])), .beginRound, .code (rfBd (cgo 11 [] [Item.code B44]))]
noncomputable def R104 : List Item := [.code (rfAs (cgo 22 [false] [Item.code B104])), .beginRound, .code (rfBd (cgo 22 [false] [Item.code B104]))]
theorem body104 (d : Dk) (N : Nat) (h : d.Ok N) (i : Nat) (x : ByteArray) (v : Int) (hx : d.nk[i]? = some x) (hy : d.nv[i]? = some v) :
    AW Try.prog 104 (some 16) 17 R104 (mk 45 [(0, V.yield 10), (1, V.ptr 7 0 0), (3, V.ptr 11 0 0), (14, V.fn (Fn.func 109) [] [V.ptr 12 0 0, V.ptr 13 0 0]), (15, .d (.str x)), (16, .d (.int .i64 v))]) (S104 d i .ready) [] fun a σ' => a = .ret (.d (.bool true)) ∧ σ' = S104 d (i + 1) .ready := by
  refine .at (T' := cgo 0 [] R104) rfl ?_
  have hi := (List.getElem?_eq_some_iff.1 hx).1
  have hv := h.nn v (List.mem_of_getElem? hy)
  have hlt : v.toNat < d.files.length := by omega
  obtain ⟨f, hf⟩ := get_some (l := d.files) (i := v.toNat) hlt
  have hm := h.fs f (List.mem_of_getElem? hf)
  have hb := h.nkl
  have hc := h.nb
  have hv1 := hv.1
  have hv2 := hv.2
  have hff : d.file v.toNat = f := by simp [Dk.file, List.getD_eq_getElem?_getD, hf]
  have hg := allF_get hx hy
  rw [hff] at hg
  have hsn := take_snoc hg
  have hal : ((allF d).take i).length ≤ 60000 := by rw [List.length_take]; omega
  have hfl : f.1.length ≤ 140737488355000 := by omega
  refine .sg0 7 [0, 1, 3, 4, 5, 14, 15, 16] (cgo 7 [] R104) [(4, .d (.str x)), (5, .d (.int .i64 v))] ?_
  refine .beginL (T0 := cgo 22 [false] [Item.code B104]) (fn := 104) (tml := (mk 45 [(0, V.yield 10), (1, V.ptr 7 0 0), (3, V.ptr 11 0 0), (14, V.fn (Fn.func 109) [] [V.ptr 12 0 0, V.ptr 13 0 0])])) (by kernel_rfl) (T' := cgo 8 [] R104) (by kernel_rfl) (σ' := (SP 1 2 d false [.cells [.row 8], .cells [.ptr 0 0 0], .row 1 [] true, .defd, lp (cgo 11 [] [Item.code B44]) 44 (mk 13 [(2, .ptr 6 0 0), (5, .fn (Fn.func 104) [] [.ptr 7 0 0])]) LoopState.ready, .cells [.row 14], .cells [.ptr 2 0 0], .cells [.fn (Fn.func 98) [] []], .row 2 (List.take i (allF d)) true, .defd, lp (cgo 22 [false] [Item.code B104]) 104 (mk 45 [(0, V.yield 10), (1, .ptr 7 0 0), (3, .ptr 11 0 0), (14, .fn (Fn.func 109) [] [.ptr 12 0 0, .ptr 13 0 0])]) LoopState.busy])) (by kernel_rfl) (by kernel_rfl) ?_
  refine .sg0 1 [1, 3, 4, 5] (cgo 9 [] R104) [] ?_
  refine .newVirt 2 ?_
  refine .dr (cgo 10 [] R104) [(18, .d (.str x)), (19, .ptr 0 0 0), (20, .ptr 0 0 0), (21, .ptr 0 0 0), (22, .row 1), (23, .d (.int .i64 v)), (24, .ptr 1 v.toNat 0), (25, .ptr 1 v.toNat 0), (26, .d (.list 1 (map u8 f.fst))), (27, .d (.list 1 (map u8 f.fst))), (28, .d (.agg [D.str x, D.list 1 (map u8 f.fst)])), (29, .row 17), (30, .row 14)] [(14, .row 2 (List.take i (allF d) ++ [D.agg [D.str x, D.list 1 (map u8 f.fst)]]) true), (17, .row 2 [D.agg [D.str x, D.list 1 (map u8 f.fst)]] true)] (fun kz L hL => ?_) ?_
  · refine ⟨[⟨[11], [], [], [14], [11, 14], [], true, false⟩, nF, ⟨[7], [], [], [0], [7, 0], [], true, false⟩, ⟨[], [], [], [0], [0], [0], true, false⟩, ⟨[], [], [], [0], [0], [0], true, false⟩, ⟨[0], [], [], [1], [0, 1, 2, 5], [], true, false⟩, nF, ⟨[1], [], [], [1], [1], [], true, false⟩, ⟨[], [], [], [1], [1], [1], true, false⟩, ⟨[1], [], [], [], [1], [], true, false⟩, nF, nF, ⟨[17], [17], [17], [17], [], [], true, false⟩, ⟨[14, 17], [14], [14], [14], [14, 17], [], true, false⟩, ⟨[11], [11], [], [14], [11, 14], [], false, false⟩], run_amongF hL _ [] [0, 1, 2, 3, 4, 5, 6, 7, 8, 9, 10, 11, 12, 13, 14] (by intro p hp; cases hp) (by kernel_rfl) ?_⟩
    refine Run.ap [0, 1, 2, 3, 4, 5, 6] [(17, .row 14), (18, .d (.str x)), (19, .ptr 0 0 0), (20, .ptr 0 0 0), (21, .ptr 0 0 0), (22, .row 1), (23, .d (.int .i64 v))] [] ?_
    refine Run.lk 7 (.ptr 1 v.toNat 0) [(.tmp 22), (.tmp 23)] (fun tm' σ2 hv hr => ixRow_ok (t := 105) (x := (.tmp 22)) (i := (.tmp 23)) (k := IntKind.i64) (n := v) (l := 1) (sz := 2) (xs := map fileD d.files) (mv := false) (by kernel_rfl) (evv hv) (evv hv) (atr hr) (by kernel_rfl) (by assumption) (by simp <;> omega)) ?_
    refine Run.ap [8] [(25, .ptr 1 v.toNat 0)] [] ?_
    refine Run.lk 9 (.d (.list 1 (map u8 f.fst))) [(.tmp 25)] (fun tm' σ2 hv hr => ldRow_ok (t := 22) (x := (.tmp 25)) (l := 1) (i := v.toNat) (s := 0) (sz := 2) (xs := map fileD d.files) (mv := false) (d := fileD f) (v := .d (.list 1 (map u8 f.fst))) (by kernel_rfl) (evv hv) (atr hr) (map_get hf) (by kernel_rfl)) ?_
    refine Run.one (StepF.data (o := ((drawOf (cgo 9 [] R104))[10]?).getD default) (v := .d (.list 1 (map u8 f.fst))) (by kernel_rfl) rfl (by kernel_rfl) (by kernel_rfl) (by kernel_rfl) (fun s => sem_data0 (x := (.func 61)) (args := #[(.tmp 26)]) (ts := #[22]) (first := []) (cap := []) (ds := [.d (.list 1 (map u8 f.fst))]) (v := .d (.list 1 (map u8 f.fst))) F61 (@spec_61 (f.fst) (by assumption)) (by kernel_rfl) (by kernel_rfl) (by kernel_rfl) (by kernel_rfl) (by kernel_rfl) (by kernel_rfl) _)) ?_
    refine Run.ap [11] [(28, .d (.agg [D.str x, D.list 1 (map u8 f.fst)]))] [] ?_
    refine Run.one (StepF.build (o := ((drawOf (cgo 9 [] R104))[12]?).getD default) (t := 160) (len := 1) (parts := #[(0, (.tmp 28))]) (l := 17) (ds := [D.agg [D.str x, D.list 1 (map u8 f.fst)]]) (sz := 2) (mv := false) (by kernel_rfl) rfl (by kernel_rfl) (by kernel_rfl) (by kernel_rfl) (by kernel_rfl) (by kernel_rfl) (by kernel_rfl) (by kernel_rfl) (by kernel_rfl)) ?_
    refine Run.one (StepF.moves (o := ((drawOf (cgo 9 [] R104))[13]?).getD default) (v := .row 14) [(.tmp 17), (.tmp 29)] 14 (.row 2 (List.take i (allF d) ++ [D.agg [D.str x, D.list 1 (map u8 f.fst)]]) true) (by kernel_rfl) rfl (by kernel_rfl) (by kernel_rfl) (by kernel_rfl) (by kernel_rfl) (by kernel_rfl) (by kernel_rfl) (fun tm' σ2 hv hr => appRow_ok (s := (.tmp 17)) (x := (.tmp 29)) (t := 160) (t2 := 160) (sz := 2) (by' := 40) (ys := [D.agg [D.str x, D.list 1 (map u8 f.fst)]]) (l := 14) (xs := List.take i (allF d)) (mv := true) (by kernel_rfl) (evv hv) (atr hr) (by rw [hv _ (by simp)]; exact (cont_at fun l hl => hr l (subB_in (by kernel_rfl) hl)).trans (by kernel_rfl)) (by kernel_rfl) (by kernel_rfl) (by simp <;> omega) (by first | (simp [maxLen] <;> omega) | omega))) ?_
    exact Run.fin
  refine .sg0 1 [] (cgo 11 [] R104) [] ?_
  refine .kp [] ?_
  refine .sub [0, 1, 2, 3, 4, 5, 6, 7, 8, 9, 10, 11, 12, 13, 14, 15, 16] (mk 45 []) (SP 1 2 d false [.cells [.row 8], .cells [.ptr 0 0 0], .row 1 [] true, .defd, lp (cgo 11 [] [.code B44]) 44 (mk 13 [(2, .ptr 6 0 0), (5, .fn (Fn.func 104) [] [.ptr 7 0 0])]) LoopState.ready, .cells [.row 14], .cells [.ptr 2 0 0], .cells [.fn (Fn.func 98) [] []], .row 2 (List.take i (allF d) ++ [D.agg [D.str x, D.list 1 (map u8 f.fst)]]) true, .defd, lp (cgo 22 [false] [.code B104]) 104 (mk 45 [(0, V.yield 10), (1, .ptr 7 0 0), (3, .ptr 11 0 0), (14, .fn (Fn.func 109) [] [.ptr 12 0 0, .ptr 13 0 0])]) LoopState.busy]) (some 16) [] ⟨rfl, rfl, by kernel_rfl⟩ (by kernel_rfl) ⟨Nat.le_of_ble_eq_true (by kernel_rfl), by kernel_rfl⟩ (by kernel_rfl) ⟨by kernel_rfl, by kernel_rfl⟩ ⟨by kernel_rfl, by kernel_rfl⟩ ?_
  refine .roundEndL (T0 := cgo 22 [false] [Item.code B104]) (fn := 104) (tml := (mk 45 [(0, V.yield 10), (1, V.ptr 7 0 0), (3, V.ptr 11 0 0), (14, V.fn (Fn.func 109) [] [V.ptr 12 0 0, V.ptr 13 0 0])])) (st := LoopState.busy) (by kernel_rfl) (by kernel_rfl) (σ' := (SP 1 2 d false [.cells [.row 8], .cells [.ptr 0 0 0], .row 1 [] true, .defd, lp (cgo 11 [] [Item.code B44]) 44 (mk 13 [(2, .ptr 6 0 0), (5, .fn (Fn.func 104) [] [.ptr 7 0 0])]) LoopState.ready, .cells [.row 14], .cells [.ptr 2 0 0], .cells [.fn (Fn.func 98) [] []], .row 2 (List.take i (allF d) ++ [D.agg [D.str x, D.list 1 (map u8 f.fst)]]) true, .defd, lp (cgo 22 [false] [Item.code B104]) 104 (mk 45 [(0, V.yield 10), (1, .ptr 7 0 0), (3, .ptr 11 0 0), (14, .fn (Fn.func 109) [] [.ptr 12 0 0, .ptr 13 0 0])]) LoopState.ready])) (by kernel_rfl) ?_
  refine ⟨rfl, ?_⟩
  unfold S104
  rw [← hsn]
  rfl
theorem lo104 (d : Dk) (N : Nat) (h : d.Ok N) (hl : d.nk.length < 60000) (hv : d.nv.length = d.nk.length) : ∀ (m i : Nat), i + m = (d.nk).length →
    AW Try.prog 109 none 17 (cgo 24 [false] [Item.code B109]) (mk 43 [(0, V.yield 16), (5, V.d (.list 1 ((d.nk).map strD))), (6, V.d (.list 1 ((d.nv).map intD))), (27, V.d (.int .i64 ((d.nk).length : Nat))), (28, V.d (.int .i64 (i : Nat)))]) (S104 d i .ready) [] fun r σ' => r = .ret (.tuple []) ∧ σ' = S104 d (d.nk).length .ready := by
  intro m
  induction m with
  | zero =>
    intro i hi
    have hi : i = (d.nk).length := by omega
    subst hi
    refine .sg0 5 [0, 5, 6, 27, 28, 29] (cgo 29 [false] [.code B109]) [(29, .d (.bool (decide ((↑d.nk.length : Int) < (↑d.nk.length : Int)))))] ?_
    refine .if' (decide ((↑d.nk.length : Int) < (↑d.nk.length : Int))) (cgo 30 [false, true] [.code B109]) (cgo 30 [false, false] [.code B109]) (fun h1 => ?_) (fun h1 => ?_)
    · simp only [bsX] at h1
      omega
    · simp only [bsX] at h1
      refine .seg 1 [] (T' := cgo 31 [false, false] [.code B109]) (tm' := mk 43 []) (σ' := [.cells [.row 1, .ptr 2 0 0, .ep 2 (D.agg [D.list 1 (map strD d.sk), D.list 1 (map intD d.sv)]) 0, .row 5, .d (.int .i64 d.quota), .d (.bool d.full), .d (.bool d.off), .d (.int .i64 d.stop), .d (.int .i64 d.calls)], .row 2 (map fileD d.files) false, .cells [.row 3, .row 4], .row 1 (map strD d.nk) false, .row 1 (map intD d.nv) false, .row 3 (map chD d.ch) false, .cells [.row 8], .cells [.ptr 0 0 0], .row 1 [] true, .defd, lp (cgo 11 [] [.code B44]) 44 (mk 13 [(2, .ptr 6 0 0), (5, .fn (Fn.func 104) [] [.ptr 7 0 0])]) LoopState.ready, .cells [.row 14], .cells [.ptr 2 0 0], .cells [.fn (Fn.func 98) [] []], .row 2 (List.take d.nk.length (allF d)) true, .defd, lp (cgo 22 [false] [.code B104]) 104 (mk 45 [(0, .yield 10), (1, .ptr 7 0 0), (3, .ptr 11 0 0), (14, .fn (Fn.func 109) [] [.ptr 12 0 0, .ptr 13 0 0])]) LoopState.ready]) (by kernel_rfl) ?_
      refine .retH F109 (v := V.tuple []) (by kernel_rfl) (by kernel_rfl) ?_
      exact ⟨rfl, rfl⟩
  | succ m ih =>
    intro i hi
    obtain ⟨x, hx⟩ := get_some (l := d.nk) (i := i) (by omega)
    obtain ⟨v, hy⟩ := get_some (l := d.nv) (i := i) (by omega)
    have hYi := body104 d N h i x v hx hy
    refine .sg0 5 [0, 5, 6, 27, 28, 29] (cgo 29 [false] [.code B109]) [(29, .d (.bool (decide ((↑i : Int) < (↑d.nk.length : Int)))))] ?_
    refine .if' (decide ((↑i : Int) < (↑d.nk.length : Int))) (cgo 30 [false, true] [.code B109]) (cgo 30 [false, false] [.code B109]) (fun h1 => ?_) (fun h1 => ?_)
    · simp only [bsX] at h1
      refine .sg0 9 [0, 5, 6, 7, 27, 28, 29, 30] (cgo 39 [false, true] [.code B109]) [(7, .d (.int .i64 (↑i : Int))), (30, .d (.int .i64 (↑i : Int)))] ?_
      refine .dr (cgo 40 [false, true] [.code B109]) [(31, .yield 16), (32, .d (.list 1 (map strD d.nk))), (33, .d (.int .i64 (↑i : Int))), (34, .ep 1 (D.str x) 0), (35, .d (.str x)), (36, .d (.list 1 (map intD d.nv))), (37, .d (.int .i64 (↑i : Int))), (38, .ep 1 (D.int IntKind.i64 v) 0), (39, .d (.int .i64 v)), (40, .d (.bool true)), (41, .d (.bool false))] [(14, .row 2 (List.take (i + 1) (allF d)) true)] (fun kz L hL => ?_) ?_
      · refine ⟨[⟨[], [], [], [16], [16], [], true, false⟩, nF, nF, nF, nF, nF, nF, nF, nF, ⟨[], [], [], [], [], [], false, true⟩, nF], run_amongF hL _ [] [0, 1, 2, 3, 4, 5, 6, 7, 8, 9, 10] (by intro p hp; cases hp) (by kernel_rfl) ?_⟩
        refine Run.ap [0, 1, 2] [(31, .yield 16), (32, .d (.list 1 (map strD d.nk))), (33, .d (.int .i64 (↑i : Int)))] [] ?_
        refine Run.lk 3 (.ep 1 (D.str x) 0) [(.tmp 32), (.tmp 33)] (fun tm' σ2 hv hr => ixData_ok (t := 66) (x := (.tmp 32)) (i := (.tmp 33)) (k := IntKind.i64) (n := (↑i : Int)) (sz := 1) (xs := map strD d.nk) (d := strD x) (by kernel_rfl) (evl hv) (evv hv) (by kernel_rfl) (by omega) (map_get hx)) ?_
        refine Run.ap [4, 5, 6] [(35, .d (.str x)), (36, .d (.list 1 (map intD d.nv))), (37, .d (.int .i64 (↑i : Int)))] [] ?_
        refine Run.lk 7 (.ep 1 (D.int IntKind.i64 v) 0) [(.tmp 36), (.tmp 37)] (fun tm' σ2 hv hr => ixData_ok (t := 46) (x := (.tmp 36)) (i := (.tmp 37)) (k := IntKind.i64) (n := (↑i : Int)) (sz := 1) (xs := map intD d.nv) (d := intD v) (by kernel_rfl) (evl hv) (evv hv) (by kernel_rfl) (by omega) (map_get hy)) ?_
        refine Run.ap [8] [(39, .d (.int .i64 v))] [] ?_
        refine Run.one (s1 := (mk 43 [(0, .yield 16), (5, .d (.list 1 (map strD d.nk))), (6, .d (.list 1 (map intD d.nv))), (7, .d (.int .i64 (↑i : Int))), (27, .d (.int .i64 (↑d.nk.length : Int))), (28, .d (.int .i64 (↑i : Int))), (29, .d (.bool (decide ((↑i : Int) < (↑d.nk.length : Int))))), (30, .d (.int .i64 (↑i : Int))), (31, .yield 16), (32, .d (.list 1 (map strD d.nk))), (33, .d (.int .i64 (↑i : Int))), (34, .ep 1 (D.str x) 0), (35, .d (.str x)), (36, .d (.list 1 (map intD d.nv))), (37, .d (.int .i64 (↑i : Int))), (38, .ep 1 (D.int IntKind.i64 v) 0), (39, .d (.int .i64 v)), (40, .d (.bool true))], [.cells [.row 1, .ptr 2 0 0, .ep 2 (D.agg [D.list 1 (map strD d.sk), D.list 1 (map intD d.sv)]) 0, .row 5, .d (.int .i64 d.quota), .d (.bool d.full), .d (.bool d.off), .d (.int .i64 d.stop), .d (.int .i64 d.calls)], .row 2 (map fileD d.files) false, .cells [.row 3, .row 4], .row 1 (map strD d.nk) false, .row 1 (map intD d.nv) false, .row 3 (map chD d.ch) false, .cells [.row 8], .cells [.ptr 0 0 0], .row 1 [] true, .defd, lp (cgo 11 [] [Item.code B44]) 44 (mk 13 [(2, .ptr 6 0 0), (5, .fn (Fn.func 104) [] [.ptr 7 0 0])]) LoopState.ready, .cells [.row 14], .cells [.ptr 2 0 0], .cells [.fn (Fn.func 98) [] []], .row 2 (List.take (i + 1) (allF d)) true, .defd, lp (cgo 22 [false] [Item.code B104]) 104 (mk 45 [(0, .yield 10), (1, .ptr 7 0 0), (3, .ptr 11 0 0), (14, .fn (Fn.func 109) [] [.ptr 12 0 0, .ptr 13 0 0])]) LoopState.ready])) (StepF.all (o := ((drawOf (cgo 39 [false, true] [Item.code B109]))[9]?).getD default) (by kernel_rfl) (by kernel_rfl) fun rest hn => AW.yieldD (T0 := cgo 22 [false] [Item.code B104]) (x := (.tmp 31)) (args := #[(.tmp 35), (.tmp 39)]) (ts := #[9, 3]) (l := 16) (st := LoopState.ready) (fn := 104) (tml := (mk 45 [(0, .yield 10), (1, .ptr 7 0 0), (3, .ptr 11 0 0), (14, .fn (Fn.func 109) [] [.ptr 12 0 0, .ptr 13 0 0])])) (R := R104) (o := ((drawOf (cgo 39 [false, true] [Item.code B109]))[9]?).getD default) (N := 17) (by kernel_rfl) (by kernel_rfl) (by kernel_rfl) (by kernel_rfl) (by kernel_rfl) (by kernel_rfl) (by kernel_rfl) (by kernel_rfl) (by kernel_rfl) hYi (by rintro r s ⟨rfl, rfl⟩; exact ⟨_, rfl, AW.as (by kernel_rfl) (by kernel_rfl) hn⟩)) ?_
        exact Run.fin
      refine .seg 7 [0, 5, 6, 7, 27, 28, 29, 30, 31, 32, 33, 34, 35, 36, 37, 38, 39, 40, 41, 42] (T' := cgo 47 [false, true, false] [.code B109]) (tm' := mk 43 [(0, .yield 16), (5, .d (.list 1 (map strD d.nk))), (6, .d (.list 1 (map intD d.nv))), (7, .d (.int .i64 (↑i : Int))), (27, .d (.int .i64 (↑d.nk.length : Int))), (28, .d (.int .i64 (IntKind.i64.wrap ((↑i : Int) + 1)))), (29, .d (.bool (decide ((↑i : Int) < (↑d.nk.length : Int))))), (30, .d (.int .i64 (↑i : Int))), (31, .yield 16), (32, .d (.list 1 (map strD d.nk))), (33, .d (.int .i64 (↑i : Int))), (34, .ep 1 (D.str x) 0), (35, .d (.str x)), (36, .d (.list 1 (map intD d.nv))), (37, .d (.int .i64 (↑i : Int))), (38, .ep 1 (D.int IntKind.i64 v) 0), (39, .d (.int .i64 v)), (40, .d (.bool true)), (41, .d (.bool false)), (42, .d (.int .i64 (IntKind.i64.wrap ((↑i : Int) + 1))))]) (σ' := [.cells [.row 1, .ptr 2 0 0, .ep 2 (D.agg [D.list 1 (map strD d.sk), D.list 1 (map intD d.sv)]) 0, .row 5, .d (.int .i64 d.quota), .d (.bool d.full), .d (.bool d.off), .d (.int .i64 d.stop), .d (.int .i64 d.calls)], .row 2 (map fileD d.files) false, .cells [.row 3, .row 4], .row 1 (map strD d.nk) false, .row 1 (map intD d.nv) false, .row 3 (map chD d.ch) false, .cells [.row 8], .cells [.ptr 0 0 0], .row 1 [] true, .defd, lp (cgo 11 [] [.code B44]) 44 (mk 13 [(2, .ptr 6 0 0), (5, .fn (Fn.func 104) [] [.ptr 7 0 0])]) LoopState.ready, .cells [.row 14], .cells [.ptr 2 0 0], .cells [.fn (Fn.func 98) [] []], .row 2 (List.take (i + 1) (allF d)) true, .defd, lp (cgo 22 [false] [.code B104]) 104 (mk 45 [(0, .yield 10), (1, .ptr 7 0 0), (3, .ptr 11 0 0), (14, .fn (Fn.func 109) [] [.ptr 12 0 0, .ptr 13 0 0])]) LoopState.ready]) (by kernel_rfl) ?_
      simp (disch := omega) only [wrap_i64, wrap_u64s, wrap_u32s, wrap_u8s, wrap_i32s, iadd_i64, isub_i64, irem_n, iquo_n, tdiv_nn, tmod_nn]
      exact .seg 1 [0, 5, 6, 27, 28] (by kernel_rfl) (ih (i + 1) (by omega))
    · simp only [bsX] at h1
      omega
theorem it104 (d : Dk) (N : Nat) (h : d.Ok N) : CallsA Try.prog 109 [.yield 16, .ptr 12 0 0, .ptr 13 0 0] (S104 d 0 .ready) fun r σ' => r = .ret (.tuple []) ∧ σ' = S104 d (d.nk).length .ready := by
  have hl : d.nk.length < 60000 := by have := h.nkl; have := h.nb; omega
  have hv := h.nl
  refine CallsA.start F109 (tm := mk (Try.f109.ntmps) [(0, .yield 16), (1, .ptr 12 0 0), (2, .ptr 13 0 0)]) (by kernel_rfl) ?_
  refine .sg0 11 [0, 1, 2, 10] (cgo 11 [false] [.code B109]) [(10, .fn (Fn.func 98) [] [])] ?_
  refine .cd (cgo 12 [false] [.code B109]) F98 (@spec_98) ?_
  refine .sg0 3 [0, 1, 4] (cgo 15 [false] [.code B109]) [(4, .d (.int .i64 0))] ?_
  refine .dr (cgo 16 [false] [.code B109]) [(5, .d (.list 1 (List.take ((map strD d.nk).length - 0) (List.drop 0 (map strD d.nk))))), (6, .d (.list 1 (List.take ((map intD d.nv).length - 0) (List.drop 0 (map intD d.nv))))), (12, .ptr 2 0 0), (13, .ptr 2 0 0), (14, .ptr 2 0 0), (15, .row 3), (16, .d (.int .i64 0)), (17, .sl 3 0 ((map strD d.nk).length - 0) none), (18, .d (.list 1 (List.take ((map strD d.nk).length - 0) (List.drop 0 (map strD d.nk))))), (19, .ptr 2 0 0), (20, .ptr 2 0 0), (21, .ptr 2 0 1), (22, .row 4), (23, .d (.int .i64 0)), (24, .sl 4 0 ((map intD d.nv).length - 0) none), (25, .d (.list 1 (List.take ((map intD d.nv).length - 0) (List.drop 0 (map intD d.nv)))))] [] (fun kz L hL => ?_) ?_
  · refine ⟨[⟨[12], [], [], [2], [12, 2], [], true, false⟩, ⟨[], [], [], [2], [2], [2], true, false⟩, ⟨[], [], [], [2], [2], [2], true, false⟩, ⟨[2], [], [], [3], [2, 3, 4], [], true, false⟩, nF, ⟨[3], [], [], [3], [3], [], true, false⟩, ⟨[3], [3], [], [], [3], [], true, false⟩, ⟨[12], [], [], [2], [12, 2], [], true, false⟩, ⟨[], [], [], [2], [2], [2], true, false⟩, ⟨[], [], [], [2], [2], [2], true, false⟩, ⟨[2], [], [], [4], [2, 3, 4], [], true, false⟩, nF, ⟨[4], [], [], [4], [4], [], true, false⟩, ⟨[4], [], [], [], [4], [], true, false⟩, nF, nF], run_amongF hL _ [] [0, 1, 2, 3, 4, 5, 7, 8, 9, 10, 11, 12, 6, 13, 14, 15] (by intro p hp; cases hp) (by kernel_rfl) ?_⟩
    refine Run.ap [0, 1, 2, 3, 4] [(12, .ptr 2 0 0), (13, .ptr 2 0 0), (14, .ptr 2 0 0), (15, .row 3), (16, .d (.int .i64 0))] [] ?_
    refine Run.lk 5 (.sl 3 0 ((map strD d.nk).length - 0) none) [(.tmp 15), (.tmp 16)] (fun tm' σ2 hv hr => slRow_ok (t := 66) (x := (.tmp 15)) (lo := (some (.tmp 16))) (hi := none) (lc := 3) (sz := 1) (xs := map strD d.nk) (mv := false) (0) ((map strD d.nk).length) (by kernel_rfl) (evv hv) (atr hr) (by kernel_rfl) (bnd_some (k := IntKind.i64) (i := 0) (evv hv) (by omega) (by rfl)) rfl (by omega) (by omega)) ?_
    refine Run.ap [7, 8, 9, 10, 11] [(19, .ptr 2 0 0), (20, .ptr 2 0 0), (21, .ptr 2 0 1), (22, .row 4), (23, .d (.int .i64 0))] [] ?_
    refine Run.lk 12 (.sl 4 0 ((map intD d.nv).length - 0) none) [(.tmp 22), (.tmp 23)] (fun tm' σ2 hv hr => slRow_ok (t := 46) (x := (.tmp 22)) (lo := (some (.tmp 23))) (hi := none) (lc := 4) (sz := 1) (xs := map intD d.nv) (mv := false) (0) ((map intD d.nv).length) (by kernel_rfl) (evv hv) (atr hr) (by kernel_rfl) (bnd_some (k := IntKind.i64) (i := 0) (evv hv) (by omega) (by rfl)) rfl (by omega) (by omega)) ?_
    refine Run.cl 6 [3] F110 (@spec_110b (map strD d.nk) (0) ((map strD d.nk).length - 0) (none) (by omega) (by simp <;> omega)) ?_
    refine Run.cll 13 [4] F111 (@spec_111b (map intD d.nv) (0) ((map intD d.nv).length - 0) (none) (by omega) (by simp <;> omega)) ?_
    exact Run.fin
  refine .seg 7 [0, 5, 6, 27, 28] (T' := cgo 23 [false] [.code B109]) (tm' := mk 43 [(0, .yield 16), (5, .d (.list 1 (List.take ((map strD d.nk).length - 0) (List.drop 0 (map strD d.nk))))), (6, .d (.list 1 (List.take ((map intD d.nv).length - 0) (List.drop 0 (map intD d.nv))))), (27, .d (.int .i64 (↑(List.take ((map strD d.nk).length - 0) (List.drop 0 (map strD d.nk))).length : Int))), (28, .d (.int .i64 0))]) (σ' := [.cells [.row 1, .ptr 2 0 0, .ep 2 (D.agg [D.list 1 (map strD d.sk), D.list 1 (map intD d.sv)]) 0, .row 5, .d (.int .i64 d.quota), .d (.bool d.full), .d (.bool d.off), .d (.int .i64 d.stop), .d (.int .i64 d.calls)], .row 2 (map fileD d.files) false, .cells [.row 3, .row 4], .row 1 (map strD d.nk) false, .row 1 (map intD d.nv) false, .row 3 (map chD d.ch) false, .cells [.row 8], .cells [.ptr 0 0 0], .row 1 [] true, .defd, lp (cgo 11 [] [.code B44]) 44 (mk 13 [(2, .ptr 6 0 0), (5, .fn (Fn.func 104) [] [.ptr 7 0 0])]) LoopState.ready, .cells [.row 14], .cells [.ptr 2 0 0], .cells [.fn (Fn.func 98) [] []], .row 2 [] true, .defd, lp (cgo 22 [false] [.code B104]) 104 (mk 45 [(0, .yield 10), (1, .ptr 7 0 0), (3, .ptr 11 0 0), (14, .fn (Fn.func 109) [] [.ptr 12 0 0, .ptr 13 0 0])]) LoopState.ready]) (by kernel_rfl) ?_
  simp only [List.length_map]
  rw [eachL (d.nk) strD, eachL (d.nv) intD, List.length_map]
  exact .seg 1 [0, 5, 6, 27, 28] (by kernel_rfl) (lo104 d N h hl hv (d.nk).length 0 (by omega))
theorem body44 (d : Dk) (N : Nat) (h : d.Ok N) (i : Nat) (x : ByteArray) (b : List UInt8) (hx : d.nk[i]? = some x) :
    AW Try.prog 44 (some 10) 18 R44 (mk 13 [(2, V.ptr 6 0 0), (5, V.fn (Fn.func 104) [] [V.ptr 7 0 0]), (6, .d (.str x)), (7, .d (bsD b))]) (S44y d i .ready x b) [] fun a σ' => a = .ret (.d (.bool true)) ∧ σ' = S44y d (i + 1) .ready x b := by
  refine .at (T' := cgo 0 [] R44) rfl ?_
  have hi := (List.getElem?_eq_some_iff.1 hx).1
  have hb := h.nkl
  have hc := h.nb
  have hsn : (d.nk.take i).map strD ++ [D.str x] = (d.nk.take (i + 1)).map strD := by rw [← take_snoc hx, List.map_append]; rfl
  have hal : ((d.nk.take i).map strD).length ≤ 60000 := by rw [List.length_map, List.length_take]; omega
  refine .sg0 3 [2, 3, 5, 6] (cgo 3 [] R44) [(3, .d (.str x))] ?_
  refine .beginL (T0 := cgo 11 [] [Item.code B44]) (fn := 44) (tml := (mk 13 [(2, V.ptr 6 0 0), (5, V.fn (Fn.func 104) [] [V.ptr 7 0 0])])) (by kernel_rfl) (T' := cgo 4 [] R44) (by kernel_rfl) (σ' := (SP 1 2 d false [.cells [.row 8], .cells [.ptr 0 0 0], .row 1 (map strD (List.take i d.nk)) true, .defd, lp (cgo 11 [] [Item.code B44]) 44 (mk 13 [(2, .ptr 6 0 0), (5, .fn (Fn.func 104) [] [.ptr 7 0 0])]) LoopState.busy, .cells [.d (.list 2 (map (afD d) (d.nk.zip d.nv)))], .cells [.ptr 2 0 0], .cells [.fn (Fn.func 98) [] []], O.dead, .defd, lp (cgo 22 [false] [Item.code B104]) 104 (mk 45 [(0, V.yield 10), (1, .ptr 7 0 0), (3, .ptr 11 0 0), (14, .fn (Fn.func 109) [] [.ptr 12 0 0, .ptr 13 0 0])]) LoopState.exhausted, .cells [.d (.str x), .d (.list 1 (map u8 b))]])) (by kernel_rfl) (by kernel_rfl) ?_
  refine .sg 5 [2, 3, 8, 9, 10] (cgo 9 [] R44) [(8, .row 8), (9, .d (.str x)), (10, .row 18)] [(18, .row 1 [D.str x] false)] ?_
  refine .op' (cgo 10 [] R44) (appRow_ok (s := (.tmp 8)) (x := (.tmp 10)) (t := 66) (t2 := 66) (sz := 1) (by' := 16) (ys := [D.str x]) (l := 8) (xs := map strD (List.take i d.nk)) (mv := true) (by kernel_rfl) (by kernel_rfl) (by kernel_rfl) (by kernel_rfl) (by kernel_rfl) (by kernel_rfl) (by simp <;> omega) (by first | (simp [maxLen] <;> omega) | omega)) ?_
  refine .sg 3 [2] (cgo 13 [] R44) [] [(6, .cells [.row 8]), (10, lp (cgo 11 [] [Item.code B44]) 44 (mk 13 [(2, .ptr 6 0 0), (5, .fn (Fn.func 104) [] [.ptr 7 0 0])]) LoopState.busy), (16, lp (cgo 22 [false] [Item.code B104]) 104 (mk 45 [(0, .yield 10), (1, .ptr 7 0 0), (3, .ptr 11 0 0), (14, .fn (Fn.func 109) [] [.ptr 12 0 0, .ptr 13 0 0])]) LoopState.exhausted)] ?_
  refine .kp [] ?_
  refine .sub [0, 1, 2, 3, 4, 5, 6, 7, 8, 9, 10, 11, 12, 13, 14, 15, 16, 17] (mk 13 []) (SP 1 2 d false [.cells [.row 8], .cells [.ptr 0 0 0], .row 1 (map strD (List.take i d.nk) ++ [D.str x]) true, .defd, lp (cgo 11 [] [.code B44]) 44 (mk 13 [(2, .ptr 6 0 0), (5, .fn (Fn.func 104) [] [.ptr 7 0 0])]) LoopState.busy, .cells [.d (.list 2 (map (afD d) (d.nk.zip d.nv)))], .cells [.ptr 2 0 0], .cells [.fn (Fn.func 98) [] []], O.dead, .defd, lp (cgo 22 [false] [.code B104]) 104 (mk 45 [(0, V.yield 10), (1, .ptr 7 0 0), (3, .ptr 11 0 0), (14, .fn (Fn.func 109) [] [.ptr 12 0 0, .ptr 13 0 0])]) LoopState.exhausted, .cells [.d (.str x), .d (.list 1 (map u8 b))]]) (some 10) [] ⟨rfl, rfl, by kernel_rfl⟩ (by kernel_rfl) ⟨Nat.le_of_ble_eq_true (by kernel_rfl), by kernel_rfl⟩ (by kernel_rfl) ⟨by kernel_rfl, by kernel_rfl⟩ ⟨by kernel_rfl, by kernel_rfl⟩ ?_
  refine .roundEndL (T0 := cgo 11 [] [Item.code B44]) (fn := 44) (tml := (mk 13 [(2, V.ptr 6 0 0), (5, V.fn (Fn.func 104) [] [V.ptr 7 0 0])])) (st := LoopState.busy) (by kernel_rfl) (by kernel_rfl) (σ' := (SP 1 2 d false [.cells [.row 8], .cells [.ptr 0 0 0], .row 1 (map strD (List.take i d.nk) ++ [D.str x]) true, .defd, lp (cgo 11 [] [Item.code B44]) 44 (mk 13 [(2, .ptr 6 0 0), (5, .fn (Fn.func 104) [] [.ptr 7 0 0])]) LoopState.ready, .cells [.d (.list 2 (map (afD d) (d.nk.zip d.nv)))], .cells [.ptr 2 0 0], .cells [.fn (Fn.func 98) [] []], O.dead, .defd, lp (cgo 22 [false] [Item.code B104]) 104 (mk 45 [(0, V.yield 10), (1, .ptr 7 0 0), (3, .ptr 11 0 0), (14, .fn (Fn.func 109) [] [.ptr 12 0 0, .ptr 13 0 0])]) LoopState.exhausted, .cells [.d (.str x), .d (.list 1 (map u8 b))]])) (by kernel_rfl) ?_
  refine ⟨rfl, ?_⟩
  unfold S44y S44x
  rw [← hsn]
  rfl
theorem lo104b (d : Dk) (N : Nat) (h : d.Ok N) : ∀ (m i : Nat), i + m = d.nk.length →
    AW Try.prog 104 none 11 (cgo 32 [false] [Item.code B104]) (mk 45 [(0, V.yield 10), (31, V.d (.list 2 ((d.nk.zip d.nv).map (afD d)))), (32, V.d (.int .i64 (d.nk.length : Nat))), (33, V.d (.int .i64 (i : Nat)))]) (S44x d i .ready) [15] fun r σ' => r = .ret (.tuple []) ∧ σ' = S44 d d.nk.length .ready := by
  have hb := h.nkl
  have hc := h.nb
  have hl := h.nl
  intro m
  induction m with
  | zero =>
    intro i hi
    have hi : i = d.nk.length := by omega
    subst hi
    refine .sg0 5 [0, 31, 32, 33, 34] (cgo 37 [false] [.code B104]) [(34, .d (.bool (decide ((↑d.nk.length : Int) < (↑d.nk.length : Int)))))] ?_
    refine .if' (decide ((↑d.nk.length : Int) < (↑d.nk.length : Int))) (cgo 38 [false, true] [.code B104]) (cgo 38 [false, false] [.code B104]) (fun h1 => ?_) (fun h1 => ?_)
    · simp only [bsX] at h1
      omega
    · simp only [bsX] at h1
      refine .seg 1 [] (T' := cgo 39 [false, false] [.code B104]) (tm' := mk 45 []) (σ' := [.cells [.row 1, .ptr 2 0 0, .ep 2 (D.agg [D.list 1 (map strD d.sk), D.list 1 (map intD d.sv)]) 0, .row 5, .d (.int .i64 d.quota), .d (.bool d.full), .d (.bool d.off), .d (.int .i64 d.stop), .d (.int .i64 d.calls)], .row 2 (map fileD d.files) false, .cells [.row 3, .row 4], .row 1 (map strD d.nk) false, .row 1 (map intD d.nv) false, .row 3 (map chD d.ch) false, .cells [.row 8], .cells [.ptr 0 0 0], .row 1 (map strD (List.take d.nk.length d.nk)) true, .defd, lp (cgo 11 [] [.code B44]) 44 (mk 13 [(2, .ptr 6 0 0), (5, .fn (Fn.func 104) [] [.ptr 7 0 0])]) LoopState.ready, .cells [.d (.list 2 (map (afD d) (d.nk.zip d.nv)))], .cells [.ptr 2 0 0], .cells [.fn (Fn.func 98) [] []], O.dead, .defd, lp (cgo 22 [false] [.code B104]) 104 (mk 45 [(0, .yield 10), (1, .ptr 7 0 0), (3, .ptr 11 0 0), (14, .fn (Fn.func 109) [] [.ptr 12 0 0, .ptr 13 0 0])]) LoopState.exhausted]) (by kernel_rfl) ?_
      refine .retX (v := V.tuple []) [0, 1, 2, 3, 4, 5, 6, 7, 8, 9, 10] (V.tuple []) F104 (by kernel_rfl) ⟨by kernel_rfl, by kernel_rfl⟩ (σ1 := (SP 1 2 d false [O.cells [V.row 8], O.cells [V.ptr 0 0 0], O.row 1 (map strD (List.take d.nk.length d.nk)) true, O.defd, lp (cgo 11 [] [Item.code B44]) 44 (mk 13 [(2, V.ptr 6 0 0), (5, V.fn (Fn.func 104) [] [V.ptr 7 0 0])]) LoopState.ready, O.cells [V.d (D.list 2 (map (afD d) (d.nk.zip d.nv)))], O.cells [V.ptr 2 0 0], O.cells [V.fn (Fn.func 98) [] []], O.dead, O.dead, lp (cgo 22 [false] [Item.code B104]) 104 (mk 45 [(0, V.yield 10), (1, V.ptr 7 0 0), (3, V.ptr 11 0 0), (14, V.fn (Fn.func 109) [] [V.ptr 12 0 0, V.ptr 13 0 0])]) LoopState.exhausted])) (by kernel_rfl) (by kernel_rfl) (σ2 := (SP 1 2 d false [O.cells [V.row 8], O.cells [V.ptr 0 0 0], O.row 1 (map strD (List.take d.nk.length d.nk)) true, O.defd, lp (cgo 11 [] [Item.code B44]) 44 (mk 13 [(2, V.ptr 6 0 0), (5, V.fn (Fn.func 104) [] [V.ptr 7 0 0])]) LoopState.ready])) ⟨rfl, rfl, by kernel_rfl⟩ (by kernel_rfl) ⟨Nat.le_of_ble_eq_true (by kernel_rfl), by kernel_rfl⟩ (by kernel_rfl) ?_
      exact ⟨rfl, rfl⟩
  | succ m ih =>
    intro i hi
    have hll : (d.nk.zip d.nv).length = d.nk.length := by simp [hl]
    obtain ⟨p, hz⟩ := get_some (l := d.nk.zip d.nv) (i := i) (by omega)
    have hp := List.getElem?_zip_eq_some.1 hz
    have hYi := body44 d N h i p.1 (d.file p.2.toNat).1 hp.1
    clear hp
    have ih1 := ih (i + 1) (by omega)
    clear ih
    refine .sg0 5 [0, 31, 32, 33, 34] (cgo 37 [false] [.code B104]) [(34, .d (.bool (decide ((↑i : Int) < (↑d.nk.length : Int)))))] ?_
    refine .if' (decide ((↑i : Int) < (↑d.nk.length : Int))) (cgo 38 [false, true] [.code B104]) (cgo 38 [false, false] [.code B104]) (fun h1 => ?_) (fun h1 => ?_)
    · simp only [bsX] at h1
      refine .sg0 5 [0, 31, 32, 33, 34] (cgo 43 [false, true] [.code B104]) [] ?_
      refine .op' (cgo 44 [false, true] [.code B104]) (ixData_ok (t := 160) (x := (.tmp 31)) (i := (.tmp 33)) (k := IntKind.i64) (n := (↑i : Int)) (sz := 2) (xs := map (afD d) (d.nk.zip d.nv)) (d := afD d p) (by kernel_rfl) (by kernel_rfl) (by kernel_rfl) (by kernel_rfl) (by omega) (map_get hz)) ?_
      refine .sg 11 [0, 7, 31, 32, 33, 34, 35, 36, 37, 38, 39, 40, 41] (cgo 55 [false, true] [.code B104]) [(7, .ptr 17 0 0), (36, .d (.agg [D.str p.fst, D.list 1 (map u8 (d.file p.snd.toNat).fst)])), (37, .yield 10), (38, .ptr 17 0 0), (39, .d (.str p.fst)), (40, .ptr 17 0 1), (41, .d (.list 1 (map u8 (d.file p.snd.toNat).fst)))] [(17, .cells [.d (.str p.fst), .d (.list 1 (map u8 (d.file p.snd.toNat).fst))])] ?_
      refine .yieldL (T0 := cgo 11 [] [Item.code B44]) (x := (.tmp 37)) (args := #[(.tmp 39), (.tmp 41)]) (ts := #[9, 22]) (l := 10) (st := LoopState.ready) (fn := 44) (tml := (mk 13 [(2, V.ptr 6 0 0), (5, V.fn (Fn.func 104) [] [V.ptr 7 0 0])])) (R := R44) (o := (opOf (cgo 55 [false, true] [Item.code B104])).getD default) (N := 18) (by kernel_rfl) (by kernel_rfl) (by kernel_rfl) (T' := cgo 56 [false, true] [Item.code B104]) (by kernel_rfl) (by kernel_rfl) (by kernel_rfl) (by kernel_rfl) (by kernel_rfl) (by kernel_rfl) (by kernel_rfl) hYi ?_
      rintro r σ' ⟨rfl, rfl⟩
      refine ⟨_, rfl, ?_⟩
      refine .sg0 9 [0, 7, 31, 32, 33, 34, 35, 36, 37, 38, 39, 40, 41, 42, 43, 44] (cgo 65 [false, true, false] [.code B104]) [(33, .d (.int .i64 (IntKind.i64.wrap ((↑i : Int) + 1)))), (43, .d (.bool false)), (44, .d (.int .i64 (IntKind.i64.wrap ((↑i : Int) + 1))))] ?_
      simp (disch := omega) only [wrap_i64, wrap_u64s, wrap_u32s, wrap_u8s, wrap_i32s, iadd_i64, isub_i64, irem_n, iquo_n, tdiv_nn, tmod_nn]
      refine .kp [0, 31, 32, 33] ?_
      refine .sub (List.range 17) (mk 45 [(0, V.yield 10), (31, .d (.list 2 ((d.nk.zip d.nv).map (afD d)))), (32, .d (.int .i64 (d.nk.length : Nat))), (33, .d (.int .i64 ((i + 1 : Nat) : Int)))]) (S44x d (i + 1) .ready) none [15] ⟨rfl, rfl, by kernel_rfl⟩ (by kernel_rfl) ⟨Nat.le_of_ble_eq_true (by kernel_rfl), by kernel_rfl⟩ (by kernel_rfl) ⟨by kernel_rfl, by kernel_rfl⟩ ⟨rfl, rfl⟩ ?_
      exact .seg 1 [0, 31, 32, 33] (by kernel_rfl) ih1
    · simp only [bsX] at h1
      omega
theorem spec_104 (d : Dk) (N : Nat) (h : d.Ok N) : CallsA Try.prog 104 [.yield 10, .ptr 7 0 0] (S44 d 0 .ready) fun r σ' => r = .ret (.tuple []) ∧ σ' = S44 d d.nk.length .ready := by
  refine CallsA.start F104 (tm := mk (Try.f104.ntmps) [(0, .yield 10), (1, .ptr 7 0 0)]) (by kernel_rfl) ?_
  refine .sg 19 [0, 1, 3, 10, 11, 12, 13] (cgo 19 [false] [.code B104]) [(3, .ptr 11 0 0), (10, .ptr 0 0 0), (11, .ptr 0 0 0), (12, .ptr 0 0 1), (13, .ptr 2 0 0)] [(11, .cells [.ex 2 []])] ?_
  refine .ca [2, 3, 4] (cgo 20 [false] [.code B104]) F72 (@spec_72 (map strD d.nk) (map intD d.nv)) ?_
  rintro r0 s0 ⟨rfl, rfl⟩
  refine ⟨_, rfl, ?_⟩
  refine .seg 2 [0, 1, 3, 14] (T' := cgo 22 [false] [.code B104]) (tm' := mk 45 [(0, .yield 10), (1, .ptr 7 0 0), (3, .ptr 11 0 0), (14, .fn (Fn.func 109) [] [.ptr 12 0 0, .ptr 13 0 0])]) (σ' := [.cells [.row 1, .ptr 2 0 0, .ep 2 (D.agg [D.list 1 (map strD d.sk), D.list 1 (map intD d.sv)]) 0, .row 5, .d (.int .i64 d.quota), .d (.bool d.full), .d (.bool d.off), .d (.int .i64 d.stop), .d (.int .i64 d.calls)], .row 2 (map fileD d.files) false, .cells [.row 3, .row 4], .row 1 (map strD d.nk) false, .row 1 (map intD d.nv) false, .row 3 (map chD d.ch) false, .cells [.row 8], .cells [.ptr 0 0 0], .row 1 [] true, .defd, lp (cgo 11 [] [.code B44]) 44 (mk 13 [(2, .ptr 6 0 0), (5, .fn (Fn.func 104) [] [.ptr 7 0 0])]) LoopState.ready, .cells [.ex 2 []], .cells [.ptr 2 0 0], .cells [.fn (Fn.func 98) [] []]]) (by kernel_rfl) ?_
  refine .virtX 11 0 2 rfl rfl ?_
  refine .raise 14 rfl rfl ?_
  refine .rangeH (first := []) (cap := [.ptr 12 0 0, .ptr 13 0 0]) (List.range 17) [.yield 16, .ptr 12 0 0, .ptr 13 0 0] (S104 d 0 .ready) F109 (by kernel_rfl) (T' := cgo 23 [false] [Item.code B104]) (by kernel_rfl) (by kernel_rfl) (it104 d N h) (by kernel_rfl) (by kernel_rfl) (by refine ⟨rfl, by kernel_rfl, ?_⟩; kernel_rfl) ?_
  rintro r σc' ⟨rfl, rfl⟩
  refine ⟨.tuple [], .ready, (mk 45 [(0, V.yield 10), (1, V.ptr 7 0 0), (3, V.ptr 11 0 0), (14, V.fn (Fn.func 109) [] [V.ptr 12 0 0, V.ptr 13 0 0])]), rfPs (cgo 22 [false] [Item.code B104]), rfAs (cgo 22 [false] [Item.code B104]), rfBd (cgo 22 [false] [Item.code B104]), 104, rfl, by simp, by kernel_rfl, ?_⟩
  have e1 : (allF d).take d.nk.length = allF d := by rw [List.take_of_length_le]; rw [allF_length d h.nl]; exact Nat.le_refl _
  refine .seg 8 [0, 31, 32, 33] (T' := cgo 31 [false] [.code B104]) (tm' := mk 45 [(0, .yield 10), (31, .row 14), (32, .d (.int .i64 (↑(List.take d.nk.length (allF d)).length : Int))), (33, .d (.int .i64 0))]) (σ' := [.cells [.row 1, .ptr 2 0 0, .ep 2 (D.agg [D.list 1 (map strD d.sk), D.list 1 (map intD d.sv)]) 0, .row 5, .d (.int .i64 d.quota), .d (.bool d.full), .d (.bool d.off), .d (.int .i64 d.stop), .d (.int .i64 d.calls)], .row 2 (map fileD d.files) false, .cells [.row 3, .row 4], .row 1 (map strD d.nk) false, .row 1 (map intD d.nv) false, .row 3 (map chD d.ch) false, .cells [.row 8], .cells [.ptr 0 0 0], .row 1 [] true, .defd, lp (cgo 11 [] [.code B44]) 44 (mk 13 [(2, .ptr 6 0 0), (5, .fn (Fn.func 104) [] [.ptr 7 0 0])]) LoopState.ready, .cells [.row 14], .cells [.ptr 2 0 0], .cells [.fn (Fn.func 98) [] []], .row 2 (List.take d.nk.length (allF d)) true, .defd, lp (cgo 22 [false] [.code B104]) 104 (mk 45 [(0, .yield 10), (1, .ptr 7 0 0), (3, .ptr 11 0 0), (14, .fn (Fn.func 109) [] [.ptr 12 0 0, .ptr 13 0 0])]) LoopState.exhausted]) (by kernel_rfl) ?_
  rw [e1, allF_length d h.nl]
  refine .freeze 14 (sz := 2) (xs := allF d) (mv := true) (by kernel_rfl) ?_
  exact .seg 1 [0, 31, 32, 33] (by kernel_rfl) (lo104b d N h d.nk.length 0 (by omega))
theorem spec_44 (d : Dk) (N : Nat) (h : d.Ok N) : CallsA Try.prog 44 [.ptr 0 0 0] (SD d false) fun r σ' => r = .ret (.d (.list 1 (d.nk.map strD))) ∧ σ' = SD d false := by
  refine CallsA.start F44 (tm := mk (Try.f44.ntmps) [(0, .ptr 0 0 0)]) (by kernel_rfl) ?_
  refine .sg 8 [0, 2, 4] (cgo 8 [] [.code B44]) [(2, .ptr 6 0 0), (4, .ptr 0 0 0)] [(6, .cells [.ex 1 []])] ?_
  refine .ca [0, 1, 2, 3, 4, 5] (cgo 9 [] [.code B44]) F82 (@spec_82 (d)) ?_
  rintro r0 s0 ⟨rfl, rfl⟩
  refine ⟨_, rfl, ?_⟩
  refine .seg 2 [2, 5] (T' := cgo 11 [] [.code B44]) (tm' := mk 13 [(2, .ptr 6 0 0), (5, .fn (Fn.func 104) [] [.ptr 7 0 0])]) (σ' := [.cells [.row 1, .ptr 2 0 0, .ep 2 (D.agg [D.list 1 (map strD d.sk), D.list 1 (map intD d.sv)]) 0, .row 5, .d (.int .i64 d.quota), .d (.bool d.full), .d (.bool d.off), .d (.int .i64 d.stop), .d (.int .i64 d.calls)], .row 2 (map fileD d.files) false, .cells [.row 3, .row 4], .row 1 (map strD d.nk) false, .row 1 (map intD d.nv) false, .row 3 (map chD d.ch) false, .cells [.ex 1 []], .cells [.ptr 0 0 0]]) (by kernel_rfl) ?_
  refine .virtX 6 0 1 rfl rfl ?_
  refine .raise 8 rfl rfl ?_
  refine .rangeH (first := []) (cap := [.ptr 7 0 0]) (List.range 11) [.yield 10, .ptr 7 0 0] (S44 d 0 .ready) F104 (by kernel_rfl) (T' := cgo 12 [] [Item.code B44]) (by kernel_rfl) (by kernel_rfl) (spec_104 d N h) (by kernel_rfl) (by kernel_rfl) (by refine ⟨rfl, by kernel_rfl, ?_⟩; kernel_rfl) ?_
  rintro r σc' ⟨rfl, rfl⟩
  refine ⟨.tuple [], .ready, (mk 13 [(2, V.ptr 6 0 0), (5, V.fn (Fn.func 104) [] [V.ptr 7 0 0])]), rfPs (cgo 11 [] [Item.code B44]), rfAs (cgo 11 [] [Item.code B44]), rfBd (cgo 11 [] [Item.code B44]), 44, rfl, by simp, by kernel_rfl, ?_⟩
  have e1 : d.nk.take d.nk.length = d.nk := List.take_length
  refine .seg 6 [2] (T' := cgo 18 [] [.code B44]) (tm' := mk 13 [(2, .ptr 6 0 0)]) (σ' := [.cells [.row 1, .ptr 2 0 0, .ep 2 (D.agg [D.list 1 (map strD d.sk), D.list 1 (map intD d.sv)]) 0, .row 5, .d (.int .i64 d.quota), .d (.bool d.full), .d (.bool d.off), .d (.int .i64 d.stop), .d (.int .i64 d.calls)], .row 2 (map fileD d.files) false, .cells [.row 3, .row 4], .row 1 (map strD d.nk) false, .row 1 (map intD d.nv) false, .row 3 (map chD d.ch) false, .cells [.row 8], .cells [.ptr 0 0 0], .row 1 (map strD (List.take d.nk.length d.nk)) true, .defd, lp (cgo 11 [] [.code B44]) 44 (mk 13 [(2, .ptr 6 0 0), (5, .fn (Fn.func 104) [] [.ptr 7 0 0])]) LoopState.exhausted]) (by kernel_rfl) ?_
  refine .freeze 8 (sz := 1) (xs := map strD (List.take d.nk.length d.nk)) (mv := true) (by kernel_rfl) ?_
  refine .retX (v := V.d (D.list 1 (map strD (List.take d.nk.length d.nk)))) [0, 1, 2, 3, 4, 5] (V.d (D.list 1 (map strD (List.take d.nk.length d.nk)))) F44 (by kernel_rfl) ⟨by kernel_rfl, by kernel_rfl⟩ (σ1 := (SP 1 2 d false [O.cells [V.d (D.list 1 (map strD (List.take d.nk.length d.nk)))], O.cells [V.ptr 0 0 0], O.dead, O.dead, lp (cgo 11 [] [Item.code B44]) 44 (mk 13 [(2, V.ptr 6 0 0), (5, V.fn (Fn.func 104) [] [V.ptr 7 0 0])]) LoopState.exhausted])) (by kernel_rfl) (by kernel_rfl) (σ2 := (SP 1 2 d false [])) ⟨rfl, rfl, by kernel_rfl⟩ (by kernel_rfl) ⟨Nat.le_of_ble_eq_true (by kernel_rfl), by kernel_rfl⟩ (by kernel_rfl) ?_
  simp [SD, dirD]
end Go.Proofs.Ytoelkgbeefoplaa
namespace Go.Proofs.Ytoelkgbeefoplaa
open Go Go.Br Go.Proofs
open List (map)
def flip (bs : List UInt8) (j b : Nat) : List UInt8 := bs.set j (bs.getD j 0 ^^^ (1 <<< UInt8.ofNat b))
def turn (A o N : Nat) (P : BitVec 32) : Nat → Nat → List UInt8 → Bool → List UInt8 × Bool
  | 0, _, row, tn => (row, tn)
  | m + 1, i, row, tn => if o + i < N then (if P.getLsbD i then turn A o N P m (i + 1) (flip row (A + 4 + (o + i) / 8) ((o + i) % 8)) true else turn A o N P m (i + 1) row tn) else (row, tn)
theorem flip_length (bs : List UInt8) (j b : Nat) : (flip bs j b).length = bs.length := by simp [flip]
section
variable {Q : AE → Store → Prop} {k : Nat}
end
end Go.Proofs.Ytoelkgbeefoplaa
namespace Go.Proofs.Ytoelkgbeefoplaa
open Go Go.Br Go.Proofs
open List (map)
def feed (s : BitVec 32) (bs : List UInt8) : BitVec 32 := bs.foldl crcB s
theorem and_one32 (r : BitVec 32) : r &&& 1#32 = if r.getLsbD 0 then 1#32 else 0#32 := by
  apply BitVec.eq_of_getLsbD_eq
  intro j hj
  by_cases h0 : j = 0
  · subst h0
    rw [BitVec.getLsbD_and]
    cases h : r.getLsbD 0 <;> rfl
  · cases h : r.getLsbD 0 <;> simp [h0]
theorem crc1_eq (r : BitVec 32) : crc1 r = (r >>> 1) ^^^ (if r.getLsbD 0 then 0xEDB88320#32 else 0#32) := by
  unfold crc1
  rw [and_one32]
  cases r.getLsbD 0
  · rfl
  · rfl
theorem crc1_xor (x y : BitVec 32) : crc1 (x ^^^ y) = crc1 x ^^^ crc1 y := by
  rw [crc1_eq, crc1_eq, crc1_eq, BitVec.getLsbD_xor, BitVec.ushiftRight_xor_distrib]
  generalize x >>> 1 = a
  generalize y >>> 1 = b
  generalize 0xEDB88320#32 = p
  apply BitVec.eq_of_getLsbD_eq
  intro j hj
  cases x.getLsbD 0 <;> cases y.getLsbD 0 <;> simp <;> cases a.getLsbD j <;> cases b.getLsbD j <;> cases p.getLsbD j <;> rfl
theorem crc8_xor : ∀ (n : Nat) (x y : BitVec 32), crc8 n (x ^^^ y) = crc8 n x ^^^ crc8 n y
  | 0, _, _ => rfl
  | n + 1, x, y => by rw [crc8, crc1_xor, crc8_xor n]; rfl
theorem crc8_add : ∀ (m n : Nat) (x : BitVec 32), crc8 (m + n) x = crc8 n (crc8 m x)
  | 0, n, x => by rw [Nat.zero_add]; rfl
  | m + 1, n, x => by rw [Nat.add_right_comm, crc8, crc8_add m n]; rfl
theorem crc1_shl (i : Fin 31) : crc1 (1#32 <<< (i.val + 1)) = 1#32 <<< i.val := by
  revert i; decide
theorem crc8_shl : ∀ i : Nat, i < 32 → crc8 i (1#32 <<< i) = 1#32
  | 0, _ => rfl
  | i + 1, h => by rw [crc8, crc1_shl ⟨i, by omega⟩, crc8_shl i (by omega)]
theorem zx_xor (c d : UInt8) : (c ^^^ d).toBitVec.zeroExtend 32 = c.toBitVec.zeroExtend 32 ^^^ d.toBitVec.zeroExtend 32 := by
  simp [BitVec.setWidth_xor]
theorem crcB_xor (a b : BitVec 32) (c d : UInt8) : crcB (a ^^^ b) (c ^^^ d) = crcB a c ^^^ crcB b d := by
  unfold crcB
  rw [zx_xor, ← crc8_xor]
  congr 1
  ac_rfl
theorem crcB_left (a b : BitVec 32) (c : UInt8) : crcB (a ^^^ b) c = crcB a c ^^^ crc8 8 b := by
  have := crcB_xor a b c 0
  rw [UInt8.xor_zero] at this
  rw [this]
  congr 1
  show crc8 8 (b ^^^ 0#32) = _
  rw [BitVec.xor_zero]
theorem feed_xor : ∀ (bs : List UInt8) (a b : BitVec 32), feed (a ^^^ b) bs = feed a bs ^^^ crc8 (8 * bs.length) b
  | [], _, _ => rfl
  | c :: bs, a, b => by
    show feed (crcB (a ^^^ b) c) bs = feed (crcB a c) bs ^^^ _
    rw [crcB_left, feed_xor bs, ← crc8_add, List.length_cons]
    congr 2
    omega
theorem zx_shl (b : Nat) (h : b < 8) : (1 <<< UInt8.ofNat b : UInt8).toBitVec.zeroExtend 32 = 1#32 <<< b := by
  have : b = 0 ∨ b = 1 ∨ b = 2 ∨ b = 3 ∨ b = 4 ∨ b = 5 ∨ b = 6 ∨ b = 7 := by omega
  rcases this with h | h | h | h | h | h | h | h <;> subst h <;> rfl
theorem feed_flip : ∀ (bs : List UInt8) (j b : Nat) (s : BitVec 32), j < bs.length → b < 8 → feed s (flip bs j b) = feed s bs ^^^ crc8 (8 * (bs.length - j) - b) 1#32
  | [], j, b, s, h, _ => by simp at h
  | c :: bs, 0, b, s, _, hb => by
    show feed (crcB s (c ^^^ (1 <<< UInt8.ofNat b))) bs = feed (crcB s c) bs ^^^ _
    have h1 : crcB s (c ^^^ (1 <<< UInt8.ofNat b)) = crcB s c ^^^ crc8 (8 - b) 1#32 := by
      have h2 := crcB_xor s 0#32 c (1 <<< UInt8.ofNat b)
      rw [BitVec.xor_zero] at h2
      rw [h2]
      congr 1
      rw [crcB, BitVec.zero_xor, zx_shl b hb, ← crc8_shl b (by omega), ← crc8_add, crc8_shl b (by omega)]
      congr 1
      omega
    rw [h1, feed_xor, ← crc8_add, List.length_cons]
    congr 2
    omega
  | c :: bs, j + 1, b, s, h, hb => by
    have h1 : flip (c :: bs) (j + 1) b = c :: flip bs j b := by simp [flip]
    rw [h1]
    show feed (crcB s c) (flip bs j b) = feed (crcB s c) bs ^^^ _
    rw [feed_flip bs j b _ (by simpa using h) hb, List.length_cons]
    congr 2
    omega
theorem flip_app (pre f post : List UInt8) (q b : Nat) (h : q < f.length) : flip (pre ++ f ++ post) (pre.length + q) b = pre ++ flip f q b ++ post := by
  have h1 : (pre ++ f ++ post).getD (pre.length + q) 0 = f.getD q 0 := by
    rw [List.getD_eq_getElem?_getD, List.getD_eq_getElem?_getD, List.append_assoc, List.getElem?_append_right (by omega), Nat.add_sub_cancel_left, List.getElem?_append_left h]
  unfold flip
  rw [h1, List.append_assoc, List.set_append_right _ _ (by omega), Nat.add_sub_cancel_left, List.set_append_left _ _ h, List.append_assoc]
theorem bit_ne {E : BitVec 32} {i : Nat} (hi : i < 32) (h : ∀ j, j < i + 1 → E.getLsbD j = false) : (1#32 <<< i ^^^ E) ≠ 0#32 := by
  intro he
  have := congrArg (fun z => z.getLsbD i) he
  rw [BitVec.getLsbD_xor, h i (by omega)] at this
  simp [hi] at this
theorem turn_ok (pre post : List UInt8) (M o : Nat) (P : BitVec 32) (ho : o < 8 * M) : ∀ (m i : Nat) (f : List UInt8) (tn : Bool), i + m = 32 → f.length = M + 4 →
    ∃ f' E, turn pre.length o (8 * M) P m i (pre ++ f ++ post) tn = (pre ++ f' ++ post, tn || decide (E ≠ 0#32)) ∧ f'.length = f.length ∧ f'.take 4 = f.take 4 ∧ (∀ j, j < i → E.getLsbD j = false) ∧ (E = 0#32 → f' = f) ∧ ∀ s, feed s f' = feed s f ^^^ crc8 (8 * M - o) E := by
  intro m
  have hz : ∀ n, crc8 n 0#32 = 0#32 := fun n => by have := crc8_xor n 0#32 0#32; rw [BitVec.xor_self, BitVec.xor_self] at this; exact this
  have none : ∀ (f : List UInt8) (tn : Bool) (i : Nat) (r : List UInt8 × Bool), r = (pre ++ f ++ post, tn) → ∃ f' E, r = (pre ++ f' ++ post, tn || decide (E ≠ 0#32)) ∧ f'.length = f.length ∧ f'.take 4 = f.take 4 ∧ (∀ j, j < i → E.getLsbD j = false) ∧ (E = 0#32 → f' = f) ∧ ∀ s, feed s f' = feed s f ^^^ crc8 (8 * M - o) E :=
    fun f tn i r hr => ⟨f, 0#32, by rw [hr]; simp, rfl, rfl, fun j _ => by simp, fun _ => rfl, fun s => by rw [hz, BitVec.xor_zero]⟩
  induction m with
  | zero => exact fun i f tn _ _ => none f tn i _ rfl
  | succ m ih =>
    intro i f tn hi hf
    by_cases hoi : o + i < 8 * M
    case neg => exact none f tn i _ (by rw [turn, if_neg hoi])
    rw [turn, if_pos hoi]
    by_cases hP : P.getLsbD i = true
    case neg =>
      rw [if_neg hP]
      obtain ⟨f', E, h1, h2, h3, h4, h5, h6⟩ := ih (i + 1) f tn (by omega) hf
      exact ⟨f', E, h1, h2, h3, fun j hj => h4 j (by omega), h5, h6⟩
    rw [if_pos hP, Nat.add_assoc, flip_app pre f post _ _ (by omega)]
    obtain ⟨f', E, h1, h2, h3, h4, h5, h6⟩ := ih (i + 1) (flip f (4 + (o + i) / 8) ((o + i) % 8)) true (by omega) (by rw [flip_length]; exact hf)
    have hne := bit_ne (E := E) (i := i) (by omega) h4
    refine ⟨f', 1#32 <<< i ^^^ E, by rw [h1, decide_eq_true hne]; simp, by rw [h2, flip_length], ?_, fun j hj => ?_, fun h => absurd h hne, fun s => ?_⟩
    · rw [h3, flip, List.take_set]
      rw [List.set_eq_of_length_le (by simp; omega)]
    · rw [BitVec.getLsbD_xor, h4 j (by omega)]
      simp [BitVec.getLsbD_shiftLeft, hj]
    · rw [h6, feed_flip _ _ _ _ (by omega) (by omega), crc8_xor, BitVec.xor_assoc]
      congr 2
      rw [show 8 * M - o = i + (8 * M - o - i) by omega, crc8_add, crc8_shl i (by omega)]
      congr 1
      omega
end Go.Proofs.Ytoelkgbeefoplaa
namespace Go.Proofs.Ytoelkgbeefoplaa
open Go Go.Br Go.Proofs
open List (map)
end Go.Proofs.Ytoelkgbeefoplaa
namespace Go.Proofs.Ytoelkgbeefoplaa
open Go Go.Br Go.Proofs
open List (map)
end Go.Proofs.Ytoelkgbeefoplaa
namespace Go.Proofs.Ytoelkgbeefoplaa
open Go Go.Br Go.Proofs
open List (map)
end Go.Proofs.Ytoelkgbeefoplaa
namespace Go.Proofs.Ytoelkgbeefoplaa
open Go Go.Br Go.Proofs
open List (map)
theorem spec_27a (d : Dk) (N : Nat) (h : d.Ok N) (x : ByteArray) (hl : (look d.nk d.nv x).isSome = true) :
    CallsA Try.prog 27 [.ptr 0 0 0, .d (.str x)] (SD d false) fun r σ' => r = .ret (.tuple [.d (bsD (d.file (d.num x)).1), .d (.int .i64 0)]) ∧ σ' = SD d false := by
  have hc := spec_27 d N h x
  rw [if_pos hl, if_pos hl] at hc
  exact hc
end Go.Proofs.Ytoelkgbeefoplaa
namespace Go.Proofs.Ytoelkgbeefoplaa
open Go Go.Br Go.Proofs
open List (map)
noncomputable def B9 : Code := (Try.f9.body).getD .skip
theorem F9 : Fnc Try.prog 9 Try.f9 B9 := ⟨Try.func9, by kernel_rfl, by kernel_rfl⟩
def SY (d e : Dk) (m : Bool) : Store := [.cells [.row 1, .ptr 2 0 0, .ep 2 (dirD d.sk d.sv) 0, .row 5, .d (.int .i64 d.quota), .d (.bool d.full), .d (.bool d.off), .d (.int .i64 d.stop), .d (.int .i64 d.calls)],
  .row 2 (d.files.map fileD) m, .cells [.row 3, .row 4], .row 1 (d.nk.map strD) m, .row 1 (d.nv.map intD) m, .row 3 (d.ch.map chD) m,
  .cells [.row 7, .d (.list 2 ((e.nk.zip e.nv).map nmD)), .d (.list 2 ((e.sk.zip e.sv).map nmD)), .row 8, .d (.int .i64 e.quota), .d (.bool e.full), .d (.bool e.off), .d (.int .i64 (-1)), .d (.int .i64 e.calls)], .row 2 (e.files.map fileD) m, .row 3 (e.ch.map chD) m]
theorem lo9c (k : Nat) (hk : k ≤ 70) (cs : List DOp) (hcs : cs.length ≤ 60) (d e : Dk) (N M : Nat) (h : d.Ok N) (he : e.Ok M) (hd : d.files = e.files ∧ d.nk = e.nk ∧ d.nv = e.nv) (hc : d.calls = min (cs.length : Int) ((k : Int) + 1)) : ∀ (m j : Nat), j + m = (e.nk.zip e.nv).length →
    AW Try.prog 9 none 0 (cgo 80 [false, false] [Item.code B9]) (mk 138 [(1, .d (.int .i64 (k : Nat))), (4, .d (.bool false)), (5, .d (.list 7 (cs.map dopD))), (8, .ptr 0 0 0), (9, .ptr 6 0 0), (12, .d (.bool true)), (90, .d (.list 2 ((e.nk.zip e.nv).map nmD))), (91, .d (.int .i64 ((e.nk.zip e.nv).length : Nat))), (92, .d (.int .i64 (j : Nat)))])
      (SY d e true) [] fun r _ => r = .ret (.d (.bool true)) := by
  have hlen : (e.nk.zip e.nv).length ≤ 50000 := by
    have h1 := he.nkl
    have h2 := he.nb
    rw [List.length_zip]; omega
  intro m
  induction m with
  | zero =>
    intro j hj
    have hj : j = (e.nk.zip e.nv).length := by omega
    subst hj
    clear hd he
    generalize e.nk.zip e.nv = zs at *
    refine .sg0 5 [1, 4, 5, 8, 9, 12, 90, 91, 92, 93] (cgo 85 [false, false] [.code B9]) [(93, .d (.bool (decide ((↑zs.length : Int) < (↑zs.length : Int)))))] ?_
    refine .if' (decide ((↑zs.length : Int) < (↑zs.length : Int))) (cgo 86 [false, false, true] [.code B9]) (cgo 86 [false, false, false] [.code B9]) (fun h1 => ?_) (fun h1 => ?_)
    · simp only [bsX] at h1
      omega
    · simp only [bsX] at h1
      refine .sg0 6 [1, 4, 5, 8, 12, 124, 125, 126] (cgo 92 [false, false, false] [.code B9]) [(124, .d (.bool true)), (125, .d (.bool true)), (126, .ptr 0 0 0)] ?_
      refine .ca [0, 1, 2, 3, 4, 5] (cgo 93 [false, false, false] [.code B9]) F45 (@spec_45 (d)) ?_
      rintro r1 s1 ⟨rfl, rfl⟩
      refine ⟨_, rfl, ?_⟩
      refine .sg0 8 [1, 4, 5, 8, 12, 124, 125, 126, 127, 128, 129, 130, 131, 132, 133, 134, 135] (cgo 101 [false, false, false] [.code B9]) [(128, .d (.list 7 (map dopD cs))), (129, .d (.int .i64 (↑(map dopD cs).length : Int))), (130, .d (.int .i64 (↑k : Int))), (131, .d (.int .i64 (IntKind.i64.wrap ((↑k : Int) + 1)))), (132, .d (.int .i64 (if IntKind.i64.wrap ((↑k : Int) + 1) < (↑(map dopD cs).length : Int) then IntKind.i64.wrap ((↑k : Int) + 1) else (↑(map dopD cs).length : Int)))), (133, .d (.bool (d.calls == if IntKind.i64.wrap ((↑k : Int) + 1) < (↑(map dopD cs).length : Int) then IntKind.i64.wrap ((↑k : Int) + 1) else (↑(map dopD cs).length : Int)))), (134, .d (.bool (d.calls == if IntKind.i64.wrap ((↑k : Int) + 1) < (↑(map dopD cs).length : Int) then IntKind.i64.wrap ((↑k : Int) + 1) else (↑(map dopD cs).length : Int)))), (135, .d (.bool (d.calls == if IntKind.i64.wrap ((↑k : Int) + 1) < (↑(map dopD cs).length : Int) then IntKind.i64.wrap ((↑k : Int) + 1) else (↑(map dopD cs).length : Int))))] ?_
      simp only [List.length_map]
      simp (disch := omega) only [wrap_i64, wrap_u64s, wrap_u32s, wrap_u8s, wrap_i32s, iadd_i64, isub_i64, irem_n, iquo_n, tdiv_nn, tmod_nn]
      rcases Bool.eq_false_or_eq_true (d.calls == if (↑k : Int) + 1 < (↑cs.length : Int) then (↑k : Int) + 1 else (↑cs.length : Int)) with h3 | h3
      · rw [h3]
        simp only [bsX] at h3
        refine .cd (cgo 102 [false, false, false] [.code B9]) F30 (@spec_30) ?_
        refine .sg0 3 [4] (cgo 105 [false, false, false] [.code B9]) [(4, .d (.bool true))] ?_
        refine .kp [4] ?_
        refine .su [] (mk 138 [(4, .d (.bool true))]) [] ?_
        refine .retH F9 (v := V.d (D.bool true)) (by kernel_rfl) (by kernel_rfl) ?_
        exact rfl
      · rw [h3]
        simp only [bsX] at h3
        omega
  | succ m ih =>
    intro j hj
    have ih1 := ih (j + 1) (by omega)
    obtain ⟨p, hp⟩ := get_some (l := e.nk.zip e.nv) (i := j) (by omega)
    have hl : look e.nk e.nv p.1 = some p.2 := (mem_zip_iff he.nr).1 (List.mem_of_getElem? hp)
    obtain ⟨_, a2, a3, a4⟩ := at_some (t := -1) he hl
    have hf : e.files[p.2.toNat]? = some (e.file p.2.toNat) := a4
    obtain ⟨d1, d2, d3⟩ := hd
    have hl2 : (look d.nk d.nv p.1).isSome = true := by rw [d2, d3, hl]; rfl
    have hn : d.num p.1 = p.2.toNat := by unfold Dk.num; rw [d2, d3, hl]; rfl
    have hfd : d.file p.2.toNat = e.file p.2.toNat := by unfold Dk.file; rw [d1]
    have h27 := spec_27a d N h p.1 hl2
    rw [hn, hfd] at h27
    have hfs := (he.fs _ (List.mem_of_getElem? hf)).2
    have hfl := he.fl
    have hsame : ((strOf (e.file p.2.toNat).1).toList == (strOf (e.file p.2.toNat).1).toList) = true := by simp
    clear ih hl hl2 hn hfd a4 he d1 d2 d3 h
    generalize e.file p.2.toNat = f at *
    generalize e.nk.zip e.nv = zs at *
    refine .sg0 5 [1, 4, 5, 8, 9, 12, 90, 91, 92, 93] (cgo 85 [false, false] [.code B9]) [(93, .d (.bool (decide ((↑j : Int) < (↑zs.length : Int)))))] ?_
    refine .if' (decide ((↑j : Int) < (↑zs.length : Int))) (cgo 86 [false, false, true] [.code B9]) (cgo 86 [false, false, false] [.code B9]) (fun h1 => ?_) (fun h1 => ?_)
    · simp only [bsX] at h1
      refine .sg0 5 [1, 4, 5, 8, 9, 12, 90, 91, 92, 93] (cgo 91 [false, false, true] [.code B9]) [] ?_
      refine .op' (cgo 92 [false, false, true] [.code B9]) (ixData_ok (t := 69) (x := (.tmp 90)) (i := (.tmp 92)) (k := IntKind.i64) (n := (↑j : Int)) (sz := 2) (xs := map nmD zs) (d := nmD p) (by kernel_rfl) (by kernel_rfl) (by kernel_rfl) (by kernel_rfl) (by omega) (map_get hp)) ?_
      refine .sg 9 [1, 4, 5, 8, 9, 12, 14, 90, 91, 92, 93, 94, 95, 97, 98, 99] (cgo 101 [false, false, true] [.code B9]) [(14, .ptr 9 0 0), (95, .d (.agg [D.str p.fst, D.int IntKind.i64 p.snd])), (97, .ptr 0 0 0), (98, .ptr 9 0 0), (99, .d (.str p.fst))] [(9, .cells [.d (.str p.fst), .d (.int .i64 p.snd)])] ?_
      refine .ca [0, 1, 2, 3, 4, 5] (cgo 102 [false, false, true] [.code B9]) F27 h27 ?_
      rintro r0 s0 ⟨rfl, rfl⟩
      refine ⟨_, rfl, ?_⟩
      clear h27
      refine .sg0 6 [1, 4, 5, 8, 9, 12, 14, 15, 16, 90, 91, 92, 93, 94, 95, 96, 97, 98, 99, 100, 101, 102] (cgo 108 [false, false, true] [.code B9]) [(15, .d (.list 1 (map u8 f.fst))), (16, .d (.int .i64 0)), (96, .tuple [.d (.list 1 (map u8 f.fst)), .d (.int .i64 0)]), (101, .d (.list 1 (map u8 f.fst))), (102, .d (.int .i64 0))] ?_
      refine .dr (cgo 109 [false, false, true] [.code B9]) [(103, .d (.bool true)), (104, .d (.bool true)), (105, .d (.int .i64 0)), (106, .d (.bool true)), (107, .d (.bool true)), (108, .d (.bool true)), (109, .d (.list 1 (map u8 f.fst))), (110, .d (.str (strOf f.fst))), (111, .ptr 6 0 0), (112, .ptr 6 0 0), (113, .ptr 6 0 0), (114, .row 7), (115, .ptr 9 0 1), (116, .d (.int .i64 p.snd)), (117, .ptr 7 p.snd.toNat 0), (118, .ptr 7 p.snd.toNat 0), (119, .d (.list 1 (map u8 f.fst))), (120, .d (.str (strOf f.fst))), (121, .d (.bool true)), (122, .d (.bool true))] [] (fun kz L hL => ?_) ?_
      · refine ⟨[nF, nF, nF, nF, nF, nF, nF, nF, ⟨[], [], [], [6], [6], [], true, false⟩, ⟨[], [], [], [6], [6], [6], true, false⟩, ⟨[], [], [], [6], [6], [6], true, false⟩, ⟨[6], [], [], [7], [6, 7, 8], [], true, false⟩, ⟨[], [], [], [9], [9], [9], true, false⟩, ⟨[9], [], [], [], [9], [], true, false⟩, ⟨[7], [], [], [7], [7], [], true, false⟩, ⟨[], [], [], [7], [7], [7], true, false⟩, ⟨[7], [], [], [], [7], [], true, false⟩, nF, nF, nF, nF], run_amongF hL _ [] [0, 1, 2, 3, 4, 5, 6, 7, 8, 9, 10, 11, 12, 13, 14, 15, 16, 17, 18, 19, 20] (by intro p hp; cases hp) (by kernel_rfl) ?_⟩
        refine Run.ap [0, 1, 2, 3, 4, 5, 6] [(103, .d (.bool true)), (104, .d (.bool true)), (105, .d (.int .i64 0)), (106, .d (.bool true)), (107, .d (.bool true)), (108, .d (.bool true)), (109, .d (.list 1 (map u8 f.fst)))] [] ?_
        refine Run.lk 7 (.d (.str (strOf f.fst))) [(.tmp 109)] (fun tm' σ2 hv hr => bts_data (s := 22) (t := 9) (x := (.tmp 109)) (bs := f.fst) (by kernel_rfl) (by kernel_rfl) (by kernel_rfl) (evv hv)) ?_
        refine Run.ap [8, 9, 10, 11, 12, 13] [(111, .ptr 6 0 0), (112, .ptr 6 0 0), (113, .ptr 6 0 0), (114, .row 7), (115, .ptr 9 0 1), (116, .d (.int .i64 p.snd))] [] ?_
        refine Run.lk 14 (.ptr 7 p.snd.toNat 0) [(.tmp 114), (.tmp 116)] (fun tm' σ2 hv hr => ixRow_ok (t := 68) (x := (.tmp 114)) (i := (.tmp 116)) (k := IntKind.i64) (n := p.snd) (l := 7) (sz := 2) (xs := map fileD e.files) (mv := true) (by kernel_rfl) (evv hv) (evv hv) (atr hr) (by kernel_rfl) (by assumption) (by grind)) ?_
        refine Run.ap [15] [(118, .ptr 7 p.snd.toNat 0)] [] ?_
        refine Run.lk 16 (.d (.list 1 (map u8 f.fst))) [(.tmp 118)] (fun tm' σ2 hv hr => ldRow_ok (t := 22) (x := (.tmp 118)) (l := 7) (i := p.snd.toNat) (s := 0) (sz := 2) (xs := map fileD e.files) (mv := true) (d := fileD f) (v := .d (.list 1 (map u8 f.fst))) (by kernel_rfl) (evv hv) (atr hr) (map_get hf) (by kernel_rfl)) ?_
        refine Run.lk 17 (.d (.str (strOf f.fst))) [(.tmp 119)] (fun tm' σ2 hv hr => bts_data (s := 22) (t := 9) (x := (.tmp 119)) (bs := f.fst) (by kernel_rfl) (by kernel_rfl) (by kernel_rfl) (evv hv)) ?_
        refine Run.append (A := [18]) (srunF_ok (tm' := mk 138 [(1, .d (.int .i64 (↑k : Int))), (4, .d (.bool false)), (5, .d (.list 7 (map dopD cs))), (8, .ptr 0 0 0), (9, .ptr 6 0 0), (12, .d (.bool true)), (14, .ptr 9 0 0), (15, .d (.list 1 (map u8 f.fst))), (16, .d (.int .i64 0)), (90, .d (.list 2 (map nmD zs))), (91, .d (.int .i64 (↑zs.length : Int))), (92, .d (.int .i64 (↑j : Int))), (93, .d (.bool (decide ((↑j : Int) < (↑zs.length : Int))))), (94, .ep 2 (D.agg [D.str p.fst, D.int IntKind.i64 p.snd]) 0), (95, .d (.agg [D.str p.fst, D.int IntKind.i64 p.snd])), (96, V.tuple [.d (.list 1 (map u8 f.fst)), .d (.int .i64 0)]), (97, .ptr 0 0 0), (98, .ptr 9 0 0), (99, .d (.str p.fst)), (100, V.tuple [.d (.list 1 (map u8 f.fst)), .d (.int .i64 0)]), (101, .d (.list 1 (map u8 f.fst))), (102, .d (.int .i64 0)), (103, .d (.bool true)), (104, .d (.bool true)), (105, .d (.int .i64 0)), (106, .d (.bool true)), (107, .d (.bool true)), (108, .d (.bool true)), (109, .d (.list 1 (map u8 f.fst))), (110, .d (.str (strOf f.fst))), (111, .ptr 6 0 0), (112, .ptr 6 0 0), (113, .ptr 6 0 0), (114, .row 7), (115, .ptr 9 0 1), (116, .d (.int .i64 p.snd)), (117, .ptr 7 p.snd.toNat 0), (118, .ptr 7 p.snd.toNat 0), (119, .d (.list 1 (map u8 f.fst))), (120, .d (.str (strOf f.fst))), (121, .d (.bool ((strOf f.fst).toList == (strOf f.fst).toList)))]) (σ' := (SP 1 2 d true [.cells [.row 7, .d (.list 2 (map nmD (e.nk.zip e.nv))), .d (.list 2 (map nmD (e.sk.zip e.sv))), .row 8, .d (.int .i64 e.quota), .d (.bool e.full), .d (.bool e.off), .d (.int .i64 (-1)), .d (.int .i64 e.calls)], .row 2 (map fileD e.files) true, .row 3 (map chD e.ch) true, .cells [.d (.str p.fst), .d (.int .i64 p.snd)]])) (by kernel_rfl)) ?_
        rw [hsame]
        exact Run.fin
      refine .sg0 5 [1, 4, 5, 8, 9, 12, 14, 15, 16, 90, 91, 92, 93, 94, 95, 96, 97, 98, 99, 100, 101, 102, 103, 104, 105, 106, 107, 108, 109, 110, 111, 112, 113, 114, 115, 116, 117, 118, 119, 120, 121, 122, 123] (cgo 114 [false, false, true] [.code B9]) [(92, .d (.int .i64 (IntKind.i64.wrap ((↑j : Int) + 1)))), (123, .d (.int .i64 (IntKind.i64.wrap ((↑j : Int) + 1))))] ?_
      simp only [List.length_map]
      simp (disch := omega) only [wrap_i64, wrap_u64s, wrap_u32s, wrap_u8s, wrap_i32s, iadd_i64, isub_i64, irem_n, iquo_n, tdiv_nn, tmod_nn]
      refine .kp [1, 4, 5, 8, 9, 12, 90, 91, 92] ?_
      refine .su [0, 1, 2, 3, 4, 5, 6, 7, 8] (mk 138 [(1, .d (.int .i64 (k : Nat))), (4, .d (.bool false)), (5, .d (.list 7 (cs.map dopD))), (8, .ptr 0 0 0), (9, .ptr 6 0 0), (12, .d (.bool true)), (90, .d (.list 2 (zs.map nmD))), (91, .d (.int .i64 (zs.length : Nat))), (92, .d (.int .i64 ((j + 1 : Nat) : Int)))]) (SY d e true) ?_
      exact .seg 1 [1, 4, 5, 8, 9, 12, 90, 91, 92] (by kernel_rfl) ih1
    · simp only [bsX] at h1
      omega
end Go.Proofs.Ytoelkgbeefoplaa
namespace Go.Proofs.Ytoelkgbeefoplaa
open Go Go.Br Go.Proofs
open List (map)
theorem en9 (k : Nat) (hk : k ≤ 70) (cs : List DOp) (hcs : cs.length ≤ 60) (d e : Dk) (N M : Nat) (h : d.Ok N) (he : e.Ok M) (hd : d.files = e.files ∧ d.nk = e.nk ∧ d.nv = e.nv) (hc : d.calls = min (cs.length : Int) ((k : Int) + 1)) :
    AW Try.prog 9 none 0 (cgo 66 [false, false] [Item.code B9]) (mk 138 [(1, .d (.int .i64 (k : Nat))), (4, .d (.bool false)), (5, .d (.list 7 (cs.map dopD))), (8, .ptr 0 0 0), (9, .ptr 6 0 0)]) (SY d e true) [] fun r _ => r = .ret (.d (.bool true)) := by
  have hend := lo9c k hk cs hcs d e N M h he hd hc (e.nk.zip e.nv).length 0 (by omega)
  have hl : d.nk.length = (e.nk.zip e.nv).length := by rw [hd.2.1, List.length_zip, he.nl]; omega
  have hs : ((d.nk.length : Int) == ((e.nk.zip e.nv).length : Int)) = true := by rw [hl]; simp
  clear hd hc he hl
  refine .sg0 1 [1, 4, 5, 8, 9] (cgo 67 [false, false] [.code B9]) [] ?_
  refine .dr (cgo 68 [false, false] [.code B9]) [(12, .d (.bool ((↑(map strD d.nk).length : Int) == (↑(map nmD (e.nk.zip e.nv)).length : Int)))), (78, .ptr 0 0 0), (79, .d (.list 1 (map strD d.nk))), (80, .d (.int .i64 (↑(map strD d.nk).length : Int))), (81, .ptr 6 0 0), (82, .ptr 6 0 0), (83, .ptr 6 0 1), (84, .d (.list 2 (map nmD (e.nk.zip e.nv)))), (85, .d (.int .i64 (↑(map nmD (e.nk.zip e.nv)).length : Int))), (86, .d (.bool ((↑(map strD d.nk).length : Int) == (↑(map nmD (e.nk.zip e.nv)).length : Int))))] [] (fun kz L hL => ?_) ?_
  · refine ⟨[⟨[], [], [], [0], [0], [], true, false⟩, ⟨[0, 1, 2, 3, 4, 5], [], [], [], [0, 1, 2, 5, 3, 4], [], true, false⟩, nF, ⟨[], [], [], [6], [6], [], true, false⟩, ⟨[], [], [], [6], [6], [6], true, false⟩, ⟨[], [], [], [6], [6], [6], true, false⟩, ⟨[6], [], [], [], [6, 7, 8], [], true, false⟩, nF, nF, nF], run_amongF hL _ [] [0, 3, 4, 5, 6, 1, 2, 7, 8, 9] (by intro p hp; cases hp) (by kernel_rfl) ?_⟩
    refine Run.ap [0, 3, 4, 5, 6] [(78, .ptr 0 0 0), (81, .ptr 6 0 0), (82, .ptr 6 0 0), (83, .ptr 6 0 1), (84, .d (.list 2 (map nmD (e.nk.zip e.nv))))] [] ?_
    refine Run.cll 1 [0, 1, 2, 3, 4, 5] F44 (@spec_44 (d) (N) (by assumption)) ?_
    exact Run.fin
  refine .seg 11 [1, 4, 5, 8, 9, 12, 90, 91, 92] (T' := cgo 79 [false, false] [.code B9]) (tm' := mk 138 [(1, .d (.int .i64 (↑k : Int))), (4, .d (.bool false)), (5, .d (.list 7 (map dopD cs))), (8, .ptr 0 0 0), (9, .ptr 6 0 0), (12, .d (.bool ((↑(map strD d.nk).length : Int) == (↑(map nmD (e.nk.zip e.nv)).length : Int)))), (90, .d (.list 2 (map nmD (e.nk.zip e.nv)))), (91, .d (.int .i64 (↑(map nmD (e.nk.zip e.nv)).length : Int))), (92, .d (.int .i64 0))]) (σ' := [.cells [.row 1, .ptr 2 0 0, .ep 2 (D.agg [D.list 1 (map strD d.sk), D.list 1 (map intD d.sv)]) 0, .row 5, .d (.int .i64 d.quota), .d (.bool d.full), .d (.bool d.off), .d (.int .i64 d.stop), .d (.int .i64 d.calls)], .row 2 (map fileD d.files) true, .cells [.row 3, .row 4], .row 1 (map strD d.nk) true, .row 1 (map intD d.nv) true, .row 3 (map chD d.ch) true, .cells [.row 7, .d (.list 2 (map nmD (e.nk.zip e.nv))), .d (.list 2 (map nmD (e.sk.zip e.sv))), .row 8, .d (.int .i64 e.quota), .d (.bool e.full), .d (.bool e.off), .d (.int .i64 (-1)), .d (.int .i64 e.calls)], .row 2 (map fileD e.files) true, .row 3 (map chD e.ch) true]) (by kernel_rfl) ?_
  simp only [List.length_map]
  rw [hs]
  exact .seg 1 [1, 4, 5, 8, 9, 12, 90, 91, 92] (by kernel_rfl) hend
theorem lo9b (k : Nat) (hk : k ≤ 70) (cs : List DOp) (hcs : cs.length ≤ 60) (hsm : ∀ o ∈ cs, o.small ∧ o.fits ∧ o.kind % 10 < 6) : ∀ (m i : Nat) (d e : Dk) (N M : Nat), i + m = cs.length → d.Ok N → e.Ok M → e.Nm → N ≤ 2 * i → M ≤ 2 * i → Stops k i d e →
    AW Try.prog 9 none 0 (cgo 59 [false] [Item.code B9]) (mk 138 [(1, .d (.int .i64 (k : Nat))), (4, .d (.bool false)), (5, .d (.list 7 (cs.map dopD))), (8, .ptr 0 0 0), (9, .ptr 6 0 0), (42, .d (.list 7 (cs.map dopD))), (43, .d (.int .i64 (cs.length : Nat))), (44, .d (.int .i64 (i : Nat)))])
      (SY d e true) [] fun r _ => r = .ret (.d (.bool true)) := by
  intro m
  induction m with
  | zero =>
    intro i d e N M hi h he hn hN hM hst
    have hi : i = cs.length := by omega
    subst hi
    have hend := en9 k hk cs hcs d e N M h he hst.dir (by
      rcases Nat.lt_or_ge k cs.length with h1 | h1
      · rw [(hst.out h1).2]; omega
      · rw [(hst.on h1).2.2.2]; omega)
    clear hst h he hn hsm
    refine .sg0 5 [1, 4, 5, 8, 9, 42, 43, 44, 45] (cgo 64 [false] [.code B9]) [(45, .d (.bool (decide ((↑cs.length : Int) < (↑cs.length : Int)))))] ?_
    refine .if' (decide ((↑cs.length : Int) < (↑cs.length : Int))) (cgo 65 [false, true] [.code B9]) (cgo 65 [false, false] [.code B9]) (fun h1 => ?_) (fun h1 => ?_)
    · simp only [bsX] at h1
      omega
    · simp only [bsX] at h1
      refine .sg0 1 [1, 4, 5, 8, 9] (cgo 66 [false, false] [.code B9]) [] ?_
      exact .goes [1, 4, 5, 8, 9] (by kernel_rfl) (by kernel_rfl) (by kernel_rfl) hend
  | succ m ih =>
    intro i d e N M hi h he hn hN hM hst
    obtain ⟨o, ho⟩ := get_some (l := cs) (i := i) (by omega)
    obtain ⟨s1, s2, s3⟩ := hsm o (List.mem_of_getElem? ho)
    by_cases hik : i < k
    · have ih1 := ih (i + 1) _ _ (M + 2) (M + 2) (by omega) (step_ok he (by omega) o) (step_ok he (by omega) o) (step_nm he (by omega) hn o) (by omega) (by omega) ((hst.on (by omega)).1 ▸ hst.step hik o)
      obtain ⟨t1, t2, t3, t4⟩ := hst.on (by omega)
      subst t1
      have ht : Rt d (-1) := ⟨fun _ => .inr ⟨rfl, by omega⟩, ⟨by omega, by omega⟩⟩
      have htb : tb d (-1) = -1 := by unfold tb; rw [t2]; simp
      have h42 := spec_42 d (-1) M he hn (by omega) ht o s1 s2 s3
      rw [htb] at h42
      clear ih hst hsm hn ht htb
      refine .sg0 5 [1, 4, 5, 8, 9, 42, 43, 44, 45] (cgo 64 [false] [.code B9]) [(45, .d (.bool (decide ((↑i : Int) < (↑cs.length : Int)))))] ?_
      refine .if' (decide ((↑i : Int) < (↑cs.length : Int))) (cgo 65 [false, true] [.code B9]) (cgo 65 [false, false] [.code B9]) (fun h1 => ?_) (fun h1 => ?_)
      · simp only [bsX] at h1
        refine .sg0 6 [1, 4, 5, 8, 9, 42, 43, 44, 45, 46] (cgo 71 [false, true] [.code B9]) [(46, .d (.int .i64 (↑i : Int)))] ?_
        refine .op' (cgo 72 [false, true] [.code B9]) (ixData_ok (t := 54) (x := (.tmp 42)) (i := (.tmp 44)) (k := IntKind.i64) (n := (↑i : Int)) (sz := 7) (xs := map dopD cs) (d := dopD o) (by kernel_rfl) (by kernel_rfl) (by kernel_rfl) (by kernel_rfl) (by omega) (map_get ho)) ?_
        refine .sg 12 [1, 4, 5, 8, 9, 10, 11, 42, 43, 44, 45, 46, 47, 48, 49, 50, 51, 52] (cgo 84 [false, true] [.code B9]) [(10, .d (.int .i64 (↑i : Int))), (11, .ptr 9 0 0), (48, .d (.agg [D.int IntKind.u64 (↑o.kind : Int), D.str o.a, D.str o.b, D.list 1 (map u8 o.data), D.int IntKind.i64 o.n, D.int IntKind.i64 o.dir, D.list 1 (map intD o.keep)])), (49, .d (.int .i64 (↑i : Int))), (50, .d (.int .i64 (↑k : Int))), (51, .d (.bool (decide ((↑i : Int) < (↑k : Int))))), (52, .d (.bool (decide ((↑i : Int) < (↑k : Int)))))] [(9, .cells [.d (.int .u64 (↑o.kind : Int)), .d (.str o.a), .d (.str o.b), .d (.list 1 (map u8 o.data)), .d (.int .i64 o.n), .d (.int .i64 o.dir), .d (.list 1 (map intD o.keep))])] ?_
        rcases Bool.eq_false_or_eq_true (decide ((↑i : Int) < (↑k : Int))) with h2 | h2
        · rw [h2]
          simp only [bsX] at h2
          refine .sg0 1 [1, 4, 5, 8, 9, 10, 11, 42, 43, 44, 45, 46, 47, 48, 49, 50, 51, 52, 53] (cgo 85 [false, true] [.code B9]) [(53, .ptr 0 0 0)] ?_
          refine .ca [0, 1, 2, 3, 4, 5] (cgo 86 [false, true] [.code B9]) F41 (@spec_41 (d)) ?_
          rintro r2 s2 ⟨rfl, rfl⟩
          refine ⟨_, rfl, ?_⟩
          refine .sg0 1 [1, 4, 5, 8, 9, 10, 11, 42, 43, 44, 45, 46, 47, 48, 49, 50, 51, 52, 53, 54, 55] (cgo 87 [false, true] [.code B9]) [(55, .d (.bool d.off))] ?_
          rcases Bool.eq_false_or_eq_true (d.off) with h4 | h4
          · rw [h4]
            simp_all
          · rw [h4]
            refine .sg0 3 [1, 4, 5, 8, 9, 10, 11, 42, 43, 44, 45, 46, 47, 48, 49, 50, 51, 52, 53, 54, 55, 56, 57, 58] (cgo 90 [false, true] [.code B9]) [(56, .ptr 0 0 0), (57, .ptr 6 0 0), (58, .d (.agg [D.int IntKind.u64 (↑o.kind : Int), D.str o.a, D.str o.b, D.list 1 (map u8 o.data), D.int IntKind.i64 o.n, D.int IntKind.i64 o.dir, D.list 1 (map intD o.keep)]))] ?_
            refine .ca [0, 1, 2, 3, 4, 5, 6, 7, 8] (cgo 91 [false, true] [.code B9]) F42 h42 ?_
            rintro r3 s3 ⟨rfl, rfl⟩
            refine ⟨_, rfl, ?_⟩
            clear h42
            refine .sg0 12 [1, 4, 5, 8, 9, 10, 11, 42, 43, 44, 45, 46, 47, 48, 49, 50, 51, 52, 53, 54, 55, 56, 57, 58, 59, 60, 61, 62, 63, 64, 65, 66] (cgo 103 [false, true, false] [.code B9]) [(60, .d (.bool false)), (61, .d (.bool false)), (62, .d (.bool false)), (63, .d (.int .i64 (↑i : Int))), (64, .d (.int .i64 (↑k : Int))), (65, .d (.bool (decide ((↑i : Int) ≥ (↑k : Int))))), (66, .d (.bool (decide ((↑i : Int) ≥ (↑k : Int)))))] ?_
            rcases Bool.eq_false_or_eq_true (decide ((↑i : Int) ≥ (↑k : Int))) with h3 | h3
            · rw [h3]
              simp only [bsX] at h3
              omega
            · rw [h3]
              simp only [bsX] at h3
              refine .sg0 18 [1, 4, 5, 8, 9, 10, 11, 42, 43, 44, 45, 46, 47, 48, 49, 50, 51, 52, 53, 54, 55, 56, 57, 58, 59, 60, 61, 62, 63, 64, 65, 66, 67, 68, 69, 70, 71, 72, 73, 74, 75, 76, 77] (cgo 121 [false, true, false, false] [.code B9]) [(44, .d (.int .i64 (IntKind.i64.wrap ((↑i : Int) + 1)))), (67, .tuple []), (68, .tuple []), (69, .tuple []), (70, .tuple []), (71, .tuple []), (72, .tuple []), (73, .tuple []), (74, .tuple []), (75, .tuple []), (76, .d (.bool false)), (77, .d (.int .i64 (IntKind.i64.wrap ((↑i : Int) + 1))))] ?_
              simp only [List.length_map]
              simp (disch := omega) only [wrap_i64, wrap_u64s, wrap_u32s, wrap_u8s, wrap_i32s, iadd_i64, isub_i64, irem_n, iquo_n, tdiv_nn, tmod_nn]
              refine .kp [1, 4, 5, 8, 9, 42, 43, 44] ?_
              refine .su [0, 1, 2, 3, 4, 5, 6, 7, 8] (mk 138 [(1, .d (.int .i64 (k : Nat))), (4, .d (.bool false)), (5, .d (.list 7 (cs.map dopD))), (8, .ptr 0 0 0), (9, .ptr 6 0 0), (42, .d (.list 7 (cs.map dopD))), (43, .d (.int .i64 (cs.length : Nat))), (44, .d (.int .i64 ((i + 1 : Nat) : Int)))]) (SY (stepD d o) (stepD d o) true) ?_
              exact .seg 1 [1, 4, 5, 8, 9, 42, 43, 44] (by kernel_rfl) ih1
        · rw [h2]
          simp only [bsX] at h2
          omega
      · simp only [bsX] at h1
        omega
    · obtain ⟨b1, b2⟩ := hst.dead (by omega)
      have kb := Dk.begun_ok h (by omega)
      have ih1 := ih (i + 1) _ _ (N + 1) M (by omega) kb he hn (by omega) (by omega) b2
      have h43 := spec_43 d N h (by omega) b1 o s1 s2 s3
      clear ih hst hsm hn b2
      refine .sg0 5 [1, 4, 5, 8, 9, 42, 43, 44, 45] (cgo 64 [false] [.code B9]) [(45, .d (.bool (decide ((↑i : Int) < (↑cs.length : Int)))))] ?_
      refine .if' (decide ((↑i : Int) < (↑cs.length : Int))) (cgo 65 [false, true] [.code B9]) (cgo 65 [false, false] [.code B9]) (fun h1 => ?_) (fun h1 => ?_)
      · simp only [bsX] at h1
        refine .sg0 6 [1, 4, 5, 8, 9, 42, 43, 44, 45, 46] (cgo 71 [false, true] [.code B9]) [(46, .d (.int .i64 (↑i : Int)))] ?_
        refine .op' (cgo 72 [false, true] [.code B9]) (ixData_ok (t := 54) (x := (.tmp 42)) (i := (.tmp 44)) (k := IntKind.i64) (n := (↑i : Int)) (sz := 7) (xs := map dopD cs) (d := dopD o) (by kernel_rfl) (by kernel_rfl) (by kernel_rfl) (by kernel_rfl) (by omega) (map_get ho)) ?_
        refine .sg 12 [1, 4, 5, 8, 9, 10, 11, 42, 43, 44, 45, 46, 47, 48, 49, 50, 51, 52] (cgo 84 [false, true] [.code B9]) [(10, .d (.int .i64 (↑i : Int))), (11, .ptr 9 0 0), (48, .d (.agg [D.int IntKind.u64 (↑o.kind : Int), D.str o.a, D.str o.b, D.list 1 (map u8 o.data), D.int IntKind.i64 o.n, D.int IntKind.i64 o.dir, D.list 1 (map intD o.keep)])), (49, .d (.int .i64 (↑i : Int))), (50, .d (.int .i64 (↑k : Int))), (51, .d (.bool (decide ((↑i : Int) < (↑k : Int))))), (52, .d (.bool (decide ((↑i : Int) < (↑k : Int)))))] [(9, .cells [.d (.int .u64 (↑o.kind : Int)), .d (.str o.a), .d (.str o.b), .d (.list 1 (map u8 o.data)), .d (.int .i64 o.n), .d (.int .i64 o.dir), .d (.list 1 (map intD o.keep))])] ?_
        rcases Bool.eq_false_or_eq_true (decide ((↑i : Int) < (↑k : Int))) with h2 | h2
        · rw [h2]
          simp only [bsX] at h2
          omega
        · rw [h2]
          simp only [bsX] at h2
          refine .sg0 19 [1, 4, 5, 8, 9, 10, 11, 42, 43, 44, 45, 46, 47, 48, 49, 50, 51, 52, 53, 54, 55, 56, 57, 58, 59, 60, 61, 62, 63, 64, 65, 66] (cgo 103 [false, true, false] [.code B9]) [(53, .tuple []), (54, .tuple []), (55, .tuple []), (56, .tuple []), (57, .tuple []), (58, .tuple []), (59, .tuple []), (60, .tuple []), (61, .tuple []), (62, .d (.bool false)), (63, .d (.int .i64 (↑i : Int))), (64, .d (.int .i64 (↑k : Int))), (65, .d (.bool (decide ((↑i : Int) ≥ (↑k : Int))))), (66, .d (.bool (decide ((↑i : Int) ≥ (↑k : Int)))))] ?_
          rcases Bool.eq_false_or_eq_true (decide ((↑i : Int) ≥ (↑k : Int))) with h3 | h3
          · rw [h3]
            simp only [bsX] at h3
            refine .sg0 2 [1, 4, 5, 8, 9, 10, 11, 42, 43, 44, 45, 46, 47, 48, 49, 50, 51, 52, 53, 54, 55, 56, 57, 58, 59, 60, 61, 62, 63, 64, 65, 66, 67, 68] (cgo 105 [false, true, false] [.code B9]) [(67, .ptr 0 0 0), (68, .d (.agg [D.int IntKind.u64 (↑o.kind : Int), D.str o.a, D.str o.b, D.list 1 (map u8 o.data), D.int IntKind.i64 o.n, D.int IntKind.i64 o.dir, D.list 1 (map intD o.keep)]))] ?_
            simp only [List.length_map]
            refine .ca [0, 1, 2, 3, 4, 5] (cgo 106 [false, true, false] [.code B9]) F43 (@spec_43 (d) (N) (by assumption) (by omega) (by assumption) (o) (by assumption) (by assumption) (by assumption)) ?_
            rintro r3 s3 ⟨rfl, rfl⟩
            refine ⟨_, rfl, ?_⟩
            refine .sg0 3 [1, 4, 5, 8, 9, 10, 11, 42, 43, 44, 45, 46, 47, 48, 49, 50, 51, 52, 53, 54, 55, 56, 57, 58, 59, 60, 61, 62, 63, 64, 65, 66, 67, 68, 69, 70, 71, 72] (cgo 109 [false, true, false] [.code B9]) [(70, .d (.bool false)), (71, .d (.bool false)), (72, .ptr 0 0 0)] ?_
            simp only [List.length_map]
            refine .ca [0, 1, 2, 3, 4, 5] (cgo 110 [false, true, false] [.code B9]) F41 (@spec_41 (d.begun)) ?_
            rintro r4 s4 ⟨rfl, rfl⟩
            refine ⟨_, rfl, ?_⟩
            refine .sg0 4 [1, 4, 5, 8, 9, 10, 11, 42, 43, 44, 45, 46, 47, 48, 49, 50, 51, 52, 53, 54, 55, 56, 57, 58, 59, 60, 61, 62, 63, 64, 65, 66, 67, 68, 69, 70, 71, 72, 73, 74, 75, 76] (cgo 114 [false, true, false] [.code B9]) [(74, .d (.bool !d.begun.off)), (75, .d (.bool !d.begun.off)), (76, .d (.bool !d.begun.off))] ?_
            simp only [List.length_map]
            refine .if' (!d.begun.off) (cgo 115 [false, true, false, true] [.code B9]) (cgo 115 [false, true, false, false] [.code B9]) (fun h6 => ?_) (fun h6 => ?_)
            · simp only [bsX] at h6
              simp_all
            · simp only [bsX] at h6
              refine .sg0 6 [1, 4, 5, 8, 9, 10, 11, 42, 43, 44, 45, 46, 47, 48, 49, 50, 51, 52, 53, 54, 55, 56, 57, 58, 59, 60, 61, 62, 63, 64, 65, 66, 67, 68, 69, 70, 71, 72, 73, 74, 75, 76, 77] (cgo 121 [false, true, false, false] [.code B9]) [(44, .d (.int .i64 (IntKind.i64.wrap ((↑i : Int) + 1)))), (77, .d (.int .i64 (IntKind.i64.wrap ((↑i : Int) + 1))))] ?_
              simp only [List.length_map]
              simp (disch := omega) only [wrap_i64, wrap_u64s, wrap_u32s, wrap_u8s, wrap_i32s, iadd_i64, isub_i64, irem_n, iquo_n, tdiv_nn, tmod_nn]
              refine .kp [1, 4, 5, 8, 9, 42, 43, 44] ?_
              refine .su [0, 1, 2, 3, 4, 5, 6, 7, 8] (mk 138 [(1, .d (.int .i64 (k : Nat))), (4, .d (.bool false)), (5, .d (.list 7 (cs.map dopD))), (8, .ptr 0 0 0), (9, .ptr 6 0 0), (42, .d (.list 7 (cs.map dopD))), (43, .d (.int .i64 (cs.length : Nat))), (44, .d (.int .i64 ((i + 1 : Nat) : Int)))]) (SY d.begun e true) ?_
              exact .seg 1 [1, 4, 5, 8, 9, 42, 43, 44] (by kernel_rfl) ih1
          · rw [h3]
            simp only [bsX] at h3
            omega
      · simp only [bsX] at h1
        omega
end Go.Proofs.Ytoelkgbeefoplaa
namespace Go.Proofs.Ytoelkgbeefoplaa
open Go Go.Br Go.Proofs
open List (map)
def sixD (l : List DOp) : List DOp := l.filter fun o => decide (o.kind % 10 < 6)
theorem sixD_more {l : List DOp} {i : Nat} {o : DOp} (h : l[i]? = some o) : sixD (l.take (i + 1)) = sixD (l.take i) ++ if o.kind % 10 < 6 then [o] else [] := by
  obtain ⟨hi, rfl⟩ := List.getElem?_eq_some_iff.1 h
  unfold sixD
  rw [List.take_succ_eq_append_getElem hi, List.filter_append]
  congr 1
  by_cases h2 : l[i].kind % 10 < 6 <;> simp [h2]
theorem sixD_le (l : List DOp) : (sixD l).length ≤ l.length := List.length_filter_le _ _
theorem lo9a (k : Nat) (l : List DOp) (hl : l.length ≤ 60) (hf : ∀ o ∈ l, o.fits) {Q : AE → Store → Prop} (hend : AW Try.prog 9 none 0 (cgo 37 [false] [Item.code B9]) (mk 138 [(1, .d (.int .i64 (k : Nat))), (4, .d (.bool false)), (5, .d (.list 7 ((sixD l).map dopD)))]) [] [] Q) : ∀ (m i : Nat), i + m = l.length →
    AW Try.prog 9 none 0 (cgo 30 [] [Item.code B9]) (mk 138 [(1, .d (.int .i64 (k : Nat))), (4, .d (.bool false)), (5, .row 0), (22, .d (.list 7 (l.map dopD))), (23, .d (.int .i64 (l.length : Nat))), (24, .d (.int .i64 (i : Nat)))]) [.row 7 ((sixD (l.take i)).map dopD) true] [] Q := by
  intro m
  induction m with
  | zero =>
    intro i hi
    have hi : i = l.length := by omega
    subst hi
    rw [List.take_length]
    refine .sg0 5 [1, 4, 5, 22, 23, 24, 25] (cgo 35 [] [.code B9]) [(25, .d (.bool (decide ((↑l.length : Int) < (↑l.length : Int)))))] ?_
    refine .if' (decide ((↑l.length : Int) < (↑l.length : Int))) (cgo 36 [true] [.code B9]) (cgo 36 [false] [.code B9]) (fun h1 => ?_) (fun h1 => ?_)
    · simp only [bsX] at h1
      omega
    · simp only [bsX] at h1
      refine .seg 1 [1, 4, 5] (T' := cgo 37 [false] [.code B9]) (tm' := mk 138 [(1, .d (.int .i64 (k : Nat))), (4, .d (.bool false)), (5, .row 0)]) (σ' := [.row 7 ((sixD l).map dopD) true]) (by kernel_rfl) ?_
      refine .freeze 0 (sz := 7) (xs := (sixD l).map dopD) (mv := true) (by kernel_rfl) ?_
      exact .su [] (mk 138 [(1, .d (.int .i64 (k : Nat))), (4, .d (.bool false)), (5, .d (.list 7 ((sixD l).map dopD)))]) [] hend
  | succ m ih =>
    intro i hi
    obtain ⟨o, ho⟩ := get_some (l := l) (i := i) (by omega)
    have ih1 := ih (i + 1) (by omega)
    rw [sixD_more ho] at ih1
    have hk := (hf o (List.mem_of_getElem? ho)).k
    have hle := sixD_le (l.take i)
    rw [List.length_take] at hle
    have hle2 : (sixD (l.take i)).length ≤ 60 := by omega
    clear ih hend hf hle
    generalize sixD (l.take i) = acc at *
    refine .sg0 5 [1, 4, 5, 22, 23, 24, 25] (cgo 35 [] [.code B9]) [(25, .d (.bool (decide ((↑i : Int) < (↑l.length : Int)))))] ?_
    refine .if' (decide ((↑i : Int) < (↑l.length : Int))) (cgo 36 [true] [.code B9]) (cgo 36 [false] [.code B9]) (fun h1 => ?_) (fun h1 => ?_)
    · simp only [bsX] at h1
      refine .sg0 5 [1, 4, 5, 22, 23, 24, 25] (cgo 41 [true] [.code B9]) [] ?_
      refine .op' (cgo 42 [true] [.code B9]) (ixData_ok (t := 54) (x := (.tmp 22)) (i := (.tmp 24)) (k := IntKind.i64) (n := (↑i : Int)) (sz := 7) (xs := map dopD l) (d := dopD o) (by kernel_rfl) (by kernel_rfl) (by kernel_rfl) (by kernel_rfl) (by omega) (map_get ho)) ?_
      refine .sg 11 [1, 4, 5, 7, 22, 23, 24, 25, 26, 27, 28, 29, 30, 31] (cgo 53 [true] [.code B9]) [(7, .ptr 1 0 0), (27, .d (.agg [D.int IntKind.u64 (↑o.kind : Int), D.str o.a, D.str o.b, D.list 1 (map u8 o.data), D.int IntKind.i64 o.n, D.int IntKind.i64 o.dir, D.list 1 (map intD o.keep)])), (28, .ptr 1 0 0), (29, .d (.int .u64 (↑o.kind : Int))), (30, .d (.int .u64 ((↑o.kind : Int).tmod 10))), (31, .d (.bool (decide ((↑o.kind : Int).tmod 10 < 6))))] [(1, .cells [.d (.int .u64 (↑o.kind : Int)), .d (.str o.a), .d (.str o.b), .d (.list 1 (map u8 o.data)), .d (.int .i64 o.n), .d (.int .i64 o.dir), .d (.list 1 (map intD o.keep))])] ?_
      simp (disch := omega) only [wrap_i64, wrap_u64s, wrap_u32s, wrap_u8s, wrap_i32s, iadd_i64, isub_i64, irem_n, iquo_n, tdiv_nn, tmod_nn]
      refine .if' (decide ((↑o.kind : Int) % 10 < 6)) (cgo 54 [true, true] [.code B9]) (cgo 54 [true, false] [.code B9]) (fun h2 => ?_) (fun h2 => ?_)
      · simp only [bsX] at h2
        refine .sg 4 [1, 4, 5, 7, 22, 23, 24, 25, 26, 27, 28, 29, 30, 31, 32, 33, 34] (cgo 58 [true, true] [.code B9]) [(30, .d (.int .u64 ((↑o.kind : Int) % 10))), (31, .d (.bool (decide ((↑o.kind : Int) % 10 < 6)))), (32, .row 0), (33, .d (.agg [D.int IntKind.u64 (↑o.kind : Int), D.str o.a, D.str o.b, D.list 1 (map u8 o.data), D.int IntKind.i64 o.n, D.int IntKind.i64 o.dir, D.list 1 (map intD o.keep)])), (34, .row 2)] [(2, .row 7 [D.agg [D.int IntKind.u64 (↑o.kind : Int), D.str o.a, D.str o.b, D.list 1 (map u8 o.data), D.int IntKind.i64 o.n, D.int IntKind.i64 o.dir, D.list 1 (map intD o.keep)]] false)] ?_
        refine .op' (cgo 59 [true, true] [.code B9]) (appRow_ok (s := (.tmp 32)) (x := (.tmp 34)) (t := 54) (t2 := 54) (sz := 7) (by' := 104) (ys := [D.agg [D.int IntKind.u64 (↑o.kind : Int), D.str o.a, D.str o.b, D.list 1 (map u8 o.data), D.int IntKind.i64 o.n, D.int IntKind.i64 o.dir, D.list 1 (map intD o.keep)]]) (l := 0) (xs := map dopD acc) (mv := true) (by kernel_rfl) (by kernel_rfl) (by kernel_rfl) (by kernel_rfl) (by kernel_rfl) (by kernel_rfl) (by simp <;> omega) (by first | (simp [maxLen] <;> omega) | omega)) ?_
        refine .sg0 7 [1, 4, 5, 7, 22, 23, 24, 25, 26, 27, 28, 29, 30, 31, 33, 34, 35, 36] (cgo 66 [true, true] [.code B9]) [(5, .row 0), (24, .d (.int .i64 (IntKind.i64.wrap ((↑i : Int) + 1)))), (36, .d (.int .i64 (IntKind.i64.wrap ((↑i : Int) + 1))))] ?_
        simp (disch := omega) only [wrap_i64, wrap_u64s, wrap_u32s, wrap_u8s, wrap_i32s, iadd_i64, isub_i64, irem_n, iquo_n, tdiv_nn, tmod_nn]
        rw [if_pos (by omega)] at ih1
        rw [show List.map dopD acc ++ [D.agg [D.int IntKind.u64 (o.kind : Int), D.str o.a, D.str o.b, D.list 1 (List.map u8 o.data), D.int IntKind.i64 o.n, D.int IntKind.i64 o.dir, D.list 1 (List.map intD o.keep)]] = List.map dopD (acc ++ [o]) by simp [dopD, bsD]]
        refine .kp [1, 4, 5, 22, 23, 24] ?_
        refine .su [0] (mk 138 [(1, .d (.int .i64 (k : Nat))), (4, .d (.bool false)), (5, .row 0), (22, .d (.list 7 (l.map dopD))), (23, .d (.int .i64 (l.length : Nat))), (24, .d (.int .i64 ((i + 1 : Nat) : Int)))]) [.row 7 ((acc ++ [o]).map dopD) true] ?_
        exact .seg 1 [1, 4, 5, 22, 23, 24] (by kernel_rfl) ih1
      · simp only [bsX] at h2
        refine .sg0 6 [1, 4, 5, 7, 22, 23, 24, 25, 26, 27, 28, 29, 30, 31, 36] (cgo 60 [true, false] [.code B9]) [(24, .d (.int .i64 (IntKind.i64.wrap ((↑i : Int) + 1)))), (30, .d (.int .u64 ((↑o.kind : Int) % 10))), (31, .d (.bool (decide ((↑o.kind : Int) % 10 < 6)))), (36, .d (.int .i64 (IntKind.i64.wrap ((↑i : Int) + 1))))] ?_
        simp (disch := omega) only [wrap_i64, wrap_u64s, wrap_u32s, wrap_u8s, wrap_i32s, iadd_i64, isub_i64, irem_n, iquo_n, tdiv_nn, tmod_nn]
        rw [if_neg (by omega), List.append_nil] at ih1
        refine .kp [1, 4, 5, 22, 23, 24] ?_
        refine .su [0] (mk 138 [(1, .d (.int .i64 (k : Nat))), (4, .d (.bool false)), (5, .row 0), (22, .d (.list 7 (l.map dopD))), (23, .d (.int .i64 (l.length : Nat))), (24, .d (.int .i64 ((i + 1 : Nat) : Int)))]) [.row 7 (acc.map dopD) true] ?_
        exact .seg 1 [1, 4, 5, 22, 23, 24] (by kernel_rfl) ih1
    · simp only [bsX] at h1
      omega
end Go.Proofs.Ytoelkgbeefoplaa
