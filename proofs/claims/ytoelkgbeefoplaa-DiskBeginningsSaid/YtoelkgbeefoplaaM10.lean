/- Part 10 of this proof. -/
import Derived.Test.YtoelkgbeefoplaaM9
set_option linter.unusedSimpArgs false
set_option linter.unusedVariables false
set_option linter.constructorNameAsVariable false
namespace Go.Proofs.Ytoelkgbeefoplaa
open Go Go.Br Go.Proofs
open List (map)
noncomputable def B68 : Code := (Try.f68.body).getD .skip
noncomputable def G68 (n l) := cgo n l [.code B68]
theorem F68 : Fnc Try.prog 68 Try.f68 B68 := ⟨Try.func68, by kernel_rfl, by kernel_rfl⟩
def Dk.acc (d : Dk) (i : Nat) : Nat := ((d.nv.take i).map fun k => (d.file k.toNat).1.length).sum
theorem Dk.acc_succ {d : Dk} {i : Nat} {v : Int} {f : List UInt8 × Nat} (hy : d.nv[i]? = some v) (hf : d.files[v.toNat]? = some f) : d.acc (i + 1) = d.acc i + f.1.length := by
 obtain ⟨hi, rfl⟩ := List.getElem?_eq_some_iff.1 hy
 unfold Dk.acc
 rw [List.take_succ_eq_append_getElem hi, List.map_append, List.sum_append]
 simp [Dk.file, List.getD_eq_getElem?_getD, hf]
theorem Dk.acc_le {d : Dk} {N : Nat} (h : d.Ok N) : ∀ i, d.acc i ≤ i * 1048576
 | 0 => by simp [Dk.acc]
 | i + 1 => by
   have ih := Dk.acc_le h i
   cases hy : d.nv[i]? with
   | none =>
     have := List.getElem?_eq_none_iff.1 hy
     have e : d.nv.take (i + 1) = d.nv.take i := by rw [List.take_of_length_le this, List.take_of_length_le (by omega)]
     have : d.acc (i + 1) = d.acc i := by unfold Dk.acc; rw [e]
     omega
   | some v =>
     have hv := h.nn v (List.mem_of_getElem? hy)
     have hlt : v.toNat < d.files.length := by omega
     have hf := List.getElem?_eq_getElem hlt
     have hm := h.fs _ (List.getElem_mem hlt)
     rw [Dk.acc_succ hy hf]; omega
noncomputable def R68 : List Item := [.code (rfAs (G68 26 [true])), .beginRound, .code (rfBd (G68 26 [true]))]
noncomputable def S68 (d : Dk) (i : Nat) (st : LoopState) : Store :=
  [.cells [.row 1, .ptr 2 0 0, .ep 2 (dirD d.sk d.sv) 0, .row 5, .d (.int .i64 d.quota), .d (.bool d.full), .d (.bool d.off), .d (.int .i64 d.stop), .d (.int .i64 d.calls)], .row 2 (d.files.map fileD) false, .cells [.row 3, .row 4], .row 1 (d.nk.map strD) false, .row 1 (d.nv.map intD) false, .row 3 (d.ch.map chD) false,
    .cells [.ptr 0 0 0], .cells [.d (.int .i64 (d.acc i : Nat))], .cells [.ptr 2 0 0], .cells [.fn (.func 98) [] []], .defd, lp (G68 26 [true]) 68 (mk 27 [(1, V.ptr 6 0 0), (2, V.d (D.int IntKind.i64 0)), (3, V.ptr 7 0 0), (12, V.fn (Fn.func 109) [] [V.ptr 8 0 0, V.ptr 9 0 0])]) st]
theorem body68 (d : Dk) (N : Nat) (h : d.Ok N) (i : Nat) (x : ByteArray) (v : Int) (hx : d.nk[i]? = some x) (hy : d.nv[i]? = some v) :
   AW Try.prog 68 (some 11) 12 R68 (mk 27 [(1, V.ptr 6 0 0), (2, V.d (D.int IntKind.i64 0)), (3, V.ptr 7 0 0), (12, V.fn (Fn.func 109) [] [V.ptr 8 0 0, V.ptr 9 0 0]), (13, .d (.str x)), (14, .d (.int .i64 v))]) (S68 d i .ready) [] fun a σ' => a = .ret (.d (.bool true)) ∧ σ' = S68 d (i + 1) .ready := by
 refine .at (T' := cgo 0 [] R68) rfl ?_
 have hi := (List.getElem?_eq_some_iff.1 hx).1
 have hv := h.nn v (List.mem_of_getElem? hy)
 have hlt : v.toNat < d.files.length := by omega
 obtain ⟨f, hf⟩ := get_some (l := d.files) (i := v.toNat) hlt
 have hm := h.fs f (List.mem_of_getElem? hf)
 have ha := Dk.acc_le h i
 have hb := h.nkl
 have hc := h.nb
 have he := Dk.acc_succ hy hf
 have hv1 := hv.1
 have hv2 := hv.2
 have hw : IntKind.i64.wrap ((d.acc i : Int) + (f.1.length : Int)) = ((d.acc (i + 1) : Nat) : Int) := by
   rw [wrap_i64 (by omega) (by omega), he]; omega
 refine .sg0 3 [1, 2, 3, 5, 12, 14] (cgo 3 [] R68) [(5, .d (.int .i64 v))] ?_
 refine .beginL (T0 := cgo 26 [true] [Item.code B68]) (fn := 68) (tml := (mk 27 [(1, V.ptr 6 0 0), (2, V.d (D.int IntKind.i64 0)), (3, V.ptr 7 0 0), (12, V.fn (Fn.func 109) [] [V.ptr 8 0 0, V.ptr 9 0 0])])) (by kernel_rfl) (T' := cgo 4 [] R68) (by kernel_rfl) (σ' := (SP 1 2 d false [.cells [.ptr 0 0 0], .cells [.d (.int .i64 (↑(d.acc i) : Int))], .cells [.ptr 2 0 0], .cells [.fn (Fn.func 98) [] []], .defd, lp (G68 26 [true]) 68 (mk 27 [(1, .ptr 6 0 0), (2, .d (.int .i64 0)), (3, .ptr 7 0 0), (12, .fn (Fn.func 109) [] [.ptr 8 0 0, .ptr 9 0 0])]) LoopState.busy])) (by kernel_rfl) (by kernel_rfl) ?_
 refine .sg0 1 [1, 2, 3, 5] (cgo 5 [] R68) [] ?_
 refine .dr (cgo 6 [] R68) [(15, .d (.int .i64 (↑(d.acc i) : Int))), (16, .ptr 0 0 0), (17, .ptr 0 0 0), (18, .ptr 0 0 0), (19, .row 1), (20, .d (.int .i64 v)), (21, .ptr 1 v.toNat 0), (22, .ptr 1 v.toNat 0), (23, .d (.list 1 (map u8 f.fst))), (24, .d (.int .i64 (↑(map u8 f.fst).length : Int))), (25, .d (.int .i64 (IntKind.i64.wrap ((↑(d.acc i) : Int) + (↑(map u8 f.fst).length : Int)))))] [(7, .cells [.d (.int .i64 (IntKind.i64.wrap ((↑(d.acc i) : Int) + (↑(map u8 f.fst).length : Int))))])] (fun kz L hL => ?_) ?_
 · refine ⟨[fR 7, fB 6 0, fA 0, fA 0, fX [0] [] [] [1] [0, 1, 2, 5], nF, fX [1] [] [] [1] [1], fA 1, fR 1, nF, nF, fX [7] [7] [] [] [7]], run_amongF hL _ [] [0, 1, 2, 3, 4, 5, 6, 7, 8, 9, 10, 11] (by intro p hp; cases hp) (by kernel_rfl) ?_⟩
   refine Run.ap [0, 1, 2, 3, 4, 5] [(15, .d (.int .i64 (↑(d.acc i) : Int))), (16, .ptr 0 0 0), (17, .ptr 0 0 0), (18, .ptr 0 0 0), (19, .row 1), (20, .d (.int .i64 v))] [] ?_
   refine Run.lk 6 (.ptr 1 v.toNat 0) [(.tmp 19), (.tmp 20)] (fun tm' σ2 hv hr => ixRow_ok (t := 105) (x := (.tmp 19)) (i := (.tmp 20)) (k := IntKind.i64) (n := v) (l := 1) (sz := 2) (xs := map fileD d.files) (mv := false) (by kernel_rfl) (evv hv) (evv hv) (atr hr) (by kernel_rfl) (by assumption) (by simp <;> omega)) ?_
   refine Run.ap [7] [(22, .ptr 1 v.toNat 0)] [] ?_
   refine Run.lk 8 (.d (.list 1 (map u8 f.fst))) [(.tmp 22)] (fun tm' σ2 hv hr => ldRow_ok (t := 22) (x := (.tmp 22)) (l := 1) (i := v.toNat) (s := 0) (sz := 2) (xs := map fileD d.files) (mv := false) (d := fileD f) (v := .d (.list 1 (map u8 f.fst))) (by kernel_rfl) (evv hv) (atr hr) (map_get hf) (by kernel_rfl)) ?_
   exact Run.fin
 refine .sg0 1 [2] (cgo 7 [] R68) [] ?_
 simp only [List.length_map]
 simp (disch := omega) only [bsW]
 refine .roundEndL (T0 := cgo 26 [true] [Item.code B68]) (fn := 68) (tml := (mk 27 [(1, V.ptr 6 0 0), (2, V.d (D.int IntKind.i64 0)), (3, V.ptr 7 0 0), (12, V.fn (Fn.func 109) [] [V.ptr 8 0 0, V.ptr 9 0 0])])) (st := LoopState.busy) (by kernel_rfl) (by kernel_rfl) (σ' := (SP 1 2 d false [.cells [.ptr 0 0 0], .cells [.d (.int .i64 ((↑(d.acc i) : Int) + (↑f.fst.length : Int)))], .cells [.ptr 2 0 0], .cells [.fn (Fn.func 98) [] []], .defd, lp (G68 26 [true]) 68 (mk 27 [(1, .ptr 6 0 0), (2, .d (.int .i64 0)), (3, .ptr 7 0 0), (12, .fn (Fn.func 109) [] [.ptr 8 0 0, .ptr 9 0 0])]) LoopState.ready])) (by kernel_rfl) ?_
 simp_all [S68, dirD]
theorem lo68 (d : Dk) (N : Nat) (h : d.Ok N) (hl : d.nk.length < 60000) (hv : d.nv.length = d.nk.length) : ∀ (m i : Nat), i + m = (d.nk).length →
    AW Try.prog 109 none 12 (G109 24 [false]) (mk 43 [(0, V.yield 11), (5, V.d (.list 1 ((d.nk).map strD))), (6, V.d (.list 1 ((d.nv).map intD))), (27, V.d (.int .i64 ((d.nk).length : Nat))), (28, V.d (.int .i64 (i : Nat)))]) (S68 d i .ready) [] fun r σ' => r = .ret (.tuple []) ∧ σ' = S68 d (d.nk).length .ready := by
  intro m
  induction m with
  | zero =>
    intro i hi
    have hi : i = (d.nk).length := by omega
    subst hi
    refine .sge 5 [0, 5, 6, 27, 28, 29] (G109 29 [false]) ?_
    refine .if' (decide ((↑d.nk.length : Int) < (↑d.nk.length : Int))) (G109 30 [false, true]) (G109 30 [false, false]) (fun h1 => ?_) (fun h1 => ?_)
    · simp only [bsX] at h1
      omega
    · simp only [bsX] at h1
      refine .sge 1 [] (cgo 31 [false, false] [.code B109]) ?_
      refine .rt F109 (V.tuple []) ?_
      exact ⟨rfl, by kernel_rfl⟩
  | succ m ih =>
    intro i hi
    obtain ⟨x, hx⟩ := get_some (l := d.nk) (i := i) (by omega)
    obtain ⟨v, hy⟩ := get_some (l := d.nv) (i := i) (by omega)
    have hYi := body68 d N h i x v hx hy
    refine .sge 5 [0, 5, 6, 27, 28, 29] (G109 29 [false]) ?_
    refine .if' (decide ((↑i : Int) < (↑d.nk.length : Int))) (G109 30 [false, true]) (G109 30 [false, false]) (fun h1 => ?_) (fun h1 => ?_)
    · simp only [bsX] at h1
      refine .sge 9 [0, 5, 6, 7, 27, 28, 29, 30] (G109 39 [false, true]) ?_
      refine .dr (G109 40 [false, true]) [(31, .yield 11), (32, .d (.list 1 (map strD d.nk))), (33, .d (.int .i64 (↑i : Int))), (34, .ep 1 (D.str x) 0), (35, .d (.str x)), (36, .d (.list 1 (map intD d.nv))), (37, .d (.int .i64 (↑i : Int))), (38, .ep 1 (D.int IntKind.i64 v) 0), (39, .d (.int .i64 v)), (40, .d (.bool true)), (41, .d (.bool false))] [(7, .cells [.d (.int .i64 (↑(d.acc (i + 1)) : Int))])] (fun kz L hL => ?_) ?_
      · refine ⟨[fO 11, nF, nF, nF, nF, nF, nF, nF, nF, ⟨[], [], [], [], [], [], false, true⟩, nF], run_amongF hL _ [] [0, 1, 2, 3, 4, 5, 6, 7, 8, 9, 10] (by intro p hp; cases hp) (by kernel_rfl) ?_⟩
        refine Run.ap [0, 1, 2] [(31, .yield 11), (32, .d (.list 1 (map strD d.nk))), (33, .d (.int .i64 (↑i : Int)))] [] ?_
        refine Run.lk 3 (.ep 1 (D.str x) 0) [(.tmp 32), (.tmp 33)] (fun tm' σ2 hv hr => ixData_ok (t := 66) (x := (.tmp 32)) (i := (.tmp 33)) (k := IntKind.i64) (n := (↑i : Int)) (sz := 1) (xs := map strD d.nk) (d := strD x) (by kernel_rfl) (evl hv) (evv hv) (by kernel_rfl) (by omega) (map_get hx)) ?_
        refine Run.ap [4, 5, 6] [(35, .d (.str x)), (36, .d (.list 1 (map intD d.nv))), (37, .d (.int .i64 (↑i : Int)))] [] ?_
        refine Run.lk 7 (.ep 1 (D.int IntKind.i64 v) 0) [(.tmp 36), (.tmp 37)] (fun tm' σ2 hv hr => ixData_ok (t := 46) (x := (.tmp 36)) (i := (.tmp 37)) (k := IntKind.i64) (n := (↑i : Int)) (sz := 1) (xs := map intD d.nv) (d := intD v) (by kernel_rfl) (evl hv) (evv hv) (by kernel_rfl) (by omega) (map_get hy)) ?_
        refine Run.ap [8] [(39, .d (.int .i64 v))] [] ?_
        refine Run.yi 9 (cgo 26 [true] [.code B68]) hYi ?_
        exact Run.fin
      refine .sg0 7 [0, 5, 6, 27, 28] (cgo 47 [false, true, false] [.code B109]) [(28, .d (.int .i64 (IntKind.i64.wrap ((↑i : Int) + 1))))] ?_
      simp (disch := omega) only [bsW]
      exact .seg 1 [0, 5, 6, 27, 28] (by kernel_rfl) (ih (i + 1) (by omega))
    · simp only [bsX] at h1
      omega
theorem it68 (d : Dk) (N : Nat) (h : d.Ok N) : CallsA Try.prog 109 [.yield 11, .ptr 8 0 0, .ptr 9 0 0] (S68 d 0 .ready) fun r σ' => r = .ret (.tuple []) ∧ σ' = S68 d (d.nk).length .ready := by
 have hl : d.nk.length < 60000 := by have := h.nkl; have := h.nb; omega
 have hv := h.nl
 refine CallsA.start F109 (tm := mk (Try.f109.ntmps) [(0, .yield 11), (1, .ptr 8 0 0), (2, .ptr 9 0 0)]) (by kernel_rfl) ?_
 refine .sg0 11 [0, 1, 2, 10] (G109 11 [false]) [(10, .fn (Fn.func 98) [] [])] ?_
 refine .cd (G109 12 [false]) F98 (@spec_98) ?_
 refine .sg0 3 [0, 1, 4] (G109 15 [false]) [(4, .d (.int .i64 0))] ?_
 refine .dr (G109 16 [false]) [(5, .d (.list 1 (List.take ((map strD d.nk).length - 0) (List.drop 0 (map strD d.nk))))), (6, .d (.list 1 (List.take ((map intD d.nv).length - 0) (List.drop 0 (map intD d.nv))))), (12, .ptr 2 0 0), (13, .ptr 2 0 0), (14, .ptr 2 0 0), (15, .row 3), (16, .d (.int .i64 0)), (17, .sl 3 0 ((map strD d.nk).length - 0) none), (18, .d (.list 1 (List.take ((map strD d.nk).length - 0) (List.drop 0 (map strD d.nk))))), (19, .ptr 2 0 0), (20, .ptr 2 0 0), (21, .ptr 2 0 1), (22, .row 4), (23, .d (.int .i64 0)), (24, .sl 4 0 ((map intD d.nv).length - 0) none), (25, .d (.list 1 (List.take ((map intD d.nv).length - 0) (List.drop 0 (map intD d.nv)))))] [] (fun kz L hL => ?_) ?_
 · refine ⟨[fB 8 2, fA 2, fA 2, fX [2] [] [] [3] [2, 3, 4], nF, fX [3] [] [] [3] [3], fX [3] [3] [] [] [3], fB 8 2, fA 2, fA 2, fX [2] [] [] [4] [2, 3, 4], nF, fX [4] [] [] [4] [4], fR 4, nF, nF], run_amongF hL _ [] [0, 1, 2, 3, 4, 5, 7, 8, 9, 10, 11, 12, 6, 13, 14, 15] (by intro p hp; cases hp) (by kernel_rfl) ?_⟩
   refine Run.ap [0, 1, 2, 3, 4] [(12, .ptr 2 0 0), (13, .ptr 2 0 0), (14, .ptr 2 0 0), (15, .row 3), (16, .d (.int .i64 0))] [] ?_
   refine Run.lk 5 (.sl 3 0 ((map strD d.nk).length - 0) none) [(.tmp 15), (.tmp 16)] (fun tm' σ2 hv hr => slRow_ok (t := 66) (x := (.tmp 15)) (lo := (some (.tmp 16))) (hi := none) (lc := 3) (sz := 1) (xs := map strD d.nk) (mv := false) (0) ((map strD d.nk).length) (by kernel_rfl) (evv hv) (atr hr) (by kernel_rfl) (bnd_some (k := IntKind.i64) (i := 0) (evv hv) (by omega) (by rfl)) rfl (by omega) (by omega)) ?_
   refine Run.ap [7, 8, 9, 10, 11] [(19, .ptr 2 0 0), (20, .ptr 2 0 0), (21, .ptr 2 0 1), (22, .row 4), (23, .d (.int .i64 0))] [] ?_
   refine Run.lk 12 (.sl 4 0 ((map intD d.nv).length - 0) none) [(.tmp 22), (.tmp 23)] (fun tm' σ2 hv hr => slRow_ok (t := 46) (x := (.tmp 22)) (lo := (some (.tmp 23))) (hi := none) (lc := 4) (sz := 1) (xs := map intD d.nv) (mv := false) (0) ((map intD d.nv).length) (by kernel_rfl) (evv hv) (atr hr) (by kernel_rfl) (bnd_some (k := IntKind.i64) (i := 0) (evv hv) (by omega) (by rfl)) rfl (by omega) (by omega)) ?_
   refine Run.cl 6 [3] F110 (@spec_110b (map strD d.nk) (0) ((map strD d.nk).length - 0) (none) (by omega) (by simp <;> omega)) ?_
   refine Run.cll 13 [4] F111 (@spec_111b (map intD d.nv) (0) ((map intD d.nv).length - 0) (none) (by omega) (by simp <;> omega)) ?_
   exact Run.fin
 refine .seg 7 [0, 5, 6, 27, 28] (T' := cgo 23 [false] [.code B109]) (tm' := mk 43 [(0, .yield 11), (5, .d (.list 1 (List.take ((map strD d.nk).length - 0) (List.drop 0 (map strD d.nk))))), (6, .d (.list 1 (List.take ((map intD d.nv).length - 0) (List.drop 0 (map intD d.nv))))), (27, .d (.int .i64 (↑(List.take ((map strD d.nk).length - 0) (List.drop 0 (map strD d.nk))).length : Int))), (28, .d (.int .i64 0))]) (σ' := (SP 1 2 d false [.cells [.ptr 0 0 0], .cells [.d (.int .i64 (↑(d.acc 0) : Int))], .cells [.ptr 2 0 0], .cells [.fn (Fn.func 98) [] []], .defd, lp (G68 26 [true]) 68 (mk 27 [(1, .ptr 6 0 0), (2, .d (.int .i64 0)), (3, .ptr 7 0 0), (12, .fn (Fn.func 109) [] [.ptr 8 0 0, .ptr 9 0 0])]) LoopState.ready])) (by kernel_rfl) ?_
 simp only [List.length_map]
 rw [show List.take ((d.nk).length - 0) (List.drop 0 (List.map strD (d.nk))) = List.map strD (d.nk) by rw [Nat.sub_zero, List.drop_zero, List.take_of_length_le (by simp)], show List.take ((d.nv).length - 0) (List.drop 0 (List.map intD (d.nv))) = List.map intD (d.nv) by rw [Nat.sub_zero, List.drop_zero, List.take_of_length_le (by simp)], List.length_map]
 exact .seg 1 [0, 5, 6, 27, 28] (by kernel_rfl) (lo68 d N h hl hv (d.nk).length 0 (by omega))
theorem spec_68 (d : Dk) (N : Nat) (h : d.Ok N) :
  CallsA Try.prog 68 [.ptr 0 0 0] (SD d false) fun r σ' => r = .ret (.d (.int .i64 (d.used : Nat))) ∧ σ' = SD d false := by
 refine CallsA.start F68 (tm := mk (Try.f68.ntmps) [(0, .ptr 0 0 0)]) (by kernel_rfl) ?_
 refine .sg 23 [1, 2, 3, 8, 9, 10, 11] (G68 23 [true]) [(1, .ptr 6 0 0), (2, .d (.int .i64 0)), (3, .ptr 7 0 0), (8, .ptr 0 0 0), (9, .ptr 0 0 0), (10, .ptr 0 0 1), (11, .ptr 2 0 0)] [(6, .cells [.ptr 0 0 0]), (7, .cells [.d (.int .i64 0)])] ?_
 refine .ca [2, 3, 4] (G68 24 [true]) F72 (@spec_72 (map strD d.nk) (map intD d.nv)) ?_
 rintro r0 s0 ⟨rfl, rfl⟩
 refine ⟨_, rfl, ?_⟩
 refine .sg0 2 [1, 2, 3, 12] (G68 26 [true]) [] ?_
 refine .rangeH (first := []) (cap := [.ptr 8 0 0, .ptr 9 0 0]) (List.range 12) [.yield 11, .ptr 8 0 0, .ptr 9 0 0] (S68 d 0 .ready) F109 (by kernel_rfl) (T' := cgo 27 [true] [Item.code B68]) (by kernel_rfl) (by kernel_rfl) (it68 d N h) (by kernel_rfl) (by kernel_rfl) (by refine ⟨rfl, by kernel_rfl, ?_⟩; kernel_rfl) ?_
 rintro r σc' ⟨rfl, rfl⟩
 refine ⟨.tuple [], .ready, (mk 27 [(1, V.ptr 6 0 0), (2, V.d (D.int IntKind.i64 0)), (3, V.ptr 7 0 0), (12, V.fn (Fn.func 109) [] [V.ptr 8 0 0, V.ptr 9 0 0])]), rfPs (G68 26 [true]), rfAs (G68 26 [true]), rfBd (G68 26 [true]), 68, rfl, by simp, by kernel_rfl, ?_⟩
 have e1 : d.acc d.nk.length = d.used := by unfold Dk.acc Dk.used; rw [← h.nl, List.take_length]
 refine .seg 6 [2] (T' := cgo 33 [true] [.code B68]) (tm' := mk 27 [(2, .d (.int .i64 (↑(d.acc d.nk.length) : Int)))]) (σ' := (SP 1 2 d false [.cells [.ptr 0 0 0], .cells [.d (.int .i64 (↑(d.acc d.nk.length) : Int))], .cells [.ptr 2 0 0], .cells [.fn (Fn.func 98) [] []], .defd, lp (G68 26 [true]) 68 (mk 27 [(1, .ptr 6 0 0), (2, .d (.int .i64 0)), (3, .ptr 7 0 0), (12, .fn (Fn.func 109) [] [.ptr 8 0 0, .ptr 9 0 0])]) LoopState.exhausted])) (by kernel_rfl) ?_
 refine .retX (v := V.d (D.int IntKind.i64 (↑(d.acc d.nk.length) : Int))) [0, 1, 2, 3, 4, 5] (V.d (D.int IntKind.i64 (↑(d.acc d.nk.length) : Int))) F68 (by kernel_rfl) ⟨by kernel_rfl, by kernel_rfl⟩ (σ1 := (SP 1 2 d false [O.cells [V.ptr 0 0 0], O.cells [V.d (D.int IntKind.i64 (↑(d.acc d.nk.length) : Int))], O.cells [V.ptr 2 0 0], O.cells [V.fn (Fn.func 98) [] []], O.dead, lp (G68 26 [true]) 68 (mk 27 [(1, V.ptr 6 0 0), (2, V.d (D.int IntKind.i64 0)), (3, V.ptr 7 0 0), (12, V.fn (Fn.func 109) [] [V.ptr 8 0 0, V.ptr 9 0 0])]) LoopState.exhausted])) (by kernel_rfl) (by kernel_rfl) (σ2 := (SP 1 2 d false [])) ⟨rfl, rfl, by kernel_rfl⟩ (by kernel_rfl) ⟨Nat.le_of_ble_eq_true (by kernel_rfl), by kernel_rfl⟩ (by kernel_rfl) ?_
 simp_all [hC, SD, dirD]
noncomputable def B67 : Code := (Try.f67.body).getD .skip
noncomputable def G67 (n l) := cgo n l [.code B67]
theorem F67 : Fnc Try.prog 67 Try.f67 B67 := ⟨Try.func67, by kernel_rfl, by kernel_rfl⟩
theorem spec_67 (fs : List D) (su : D) (ch : List D) (nk : List ByteArray) (nv : List Int) (q s c : Int) (fu off : Bool) (g n : ByteArray) (k : Int) (h1 : Rising nk) (h2 : nv.length = nk.length) (h3 : nk.length < 60000) (h4 : ch.length < 60000) :
   CallsA Try.prog 67 [.ptr 0 0 0, .d (.agg [.str g, .str n, .int .i64 k])] [.cells [.row 1, .ptr 2 0 0, .ep 2 su 0, .row 5, .d (.int .i64 q), .d (.bool fu), .d (.bool off), .d (.int .i64 s), .d (.int .i64 c)], .row 2 fs false, .cells [.row 3, .row 4], .row 1 (nk.map strD) false, .row 1 (nv.map intD) false, .row 3 ch false] fun r σ' => r = .ret (.tuple []) ∧ σ' = [.cells [.row 1, .ptr 2 0 0, .ep 2 su 0, .row 5, .d (.int .i64 q), .d (.bool fu), .d (.bool off), .d (.int .i64 s), .d (.int .i64 c)], .row 2 fs false, .cells [.row 3, .row 4], .row 1 ((kapply nk nv g n k).1.map strD) true, .row 1 ((kapply nk nv g n k).2.map intD) true, .row 3 (ch ++ [.agg [.str g, .str n, .int .i64 k]]) true] := by
 refine CallsA.start F67 (tm := mk (Try.f67.ntmps) [(0, .ptr 0 0 0), (1, .d (.agg [.str g, .str n, .int .i64 k]))]) (by kernel_rfl) ?_
 refine .sge 5 [0, 3] (G67 5 []) ?_
 refine .dr (G67 6 []) [(4, .ptr 0 0 0), (5, .ptr 0 0 0), (6, .ptr 0 0 1), (7, .ptr 2 0 0), (8, .d (.agg [D.str g, D.str n, D.int IntKind.i64 k])), (9, .tuple [])] [(3, .row 1 (map strD (kapply nk nv g n k).fst) true), (4, .row 1 (map intD (kapply nk nv g n k).snd) true)] (fun kz L hL => ?_) ?_
 · refine ⟨[fO 0, fA 0, fA 0, fX [0] [] [] [2] [0, 1, 2, 5], fR 6, fX [2, 3, 4] [2, 3, 4] [3, 4] [3, 4] [2, 3, 4]], run_amongF hL _ [] [0, 1, 2, 3, 4, 5] (by intro p hp; cases hp) (by kernel_rfl) ?_⟩
   refine Run.ap [0, 1, 2, 3, 4] [(4, .ptr 0 0 0), (5, .ptr 0 0 0), (6, .ptr 0 0 1), (7, .ptr 2 0 0), (8, .d (.agg [D.str g, D.str n, D.int IntKind.i64 k]))] [] ?_
   refine Run.cl 5 [2, 3, 4] F71 (@spec_71 (nk) (nv) (g) (n) (k) (by assumption) (by omega) (by assumption)) ?_
   exact Run.fin
 refine .newVirt 3 ?_
 refine .dr (G67 7 []) [(10, .ptr 0 0 0), (11, .ptr 0 0 0), (12, .ptr 0 0 0), (13, .ptr 0 0 3), (15, .d (.agg [D.str g, D.str n, D.int IntKind.i64 k])), (16, .row 7), (17, .row 5), (18, .ptr 0 0 0), (19, .ptr 0 0 3)] [(5, .row 3 (ch ++ [D.agg [D.str g, D.str n, D.int IntKind.i64 k]]) true), (7, .row 3 [D.agg [D.str g, D.str n, D.int IntKind.i64 k]] true)] (fun kz L hL => ?_) ?_
 · refine ⟨[fO 0, fO 0, fA 0, fA 0, fX [0] [] [] [5] [0, 1, 2, 5], fR 6, fX [7] [7] [7] [7] [], fX [5, 7] [5] [5] [5] [5, 7], fA 0, fA 0, ⟨[0], [0], [], [1, 2, 5], [0, 5, 1, 2], [], false, false⟩], run_amongF hL _ [] [0, 1, 2, 3, 4, 5, 6, 7, 8, 9, 10] (by intro p hp; cases hp) (by kernel_rfl) ?_⟩
   refine Run.ap [0, 1, 2, 3, 4, 5] [(10, .ptr 0 0 0), (11, .ptr 0 0 0), (12, .ptr 0 0 0), (13, .ptr 0 0 3), (14, .row 5), (15, .d (.agg [D.str g, D.str n, D.int IntKind.i64 k]))] [] ?_
   refine Run.one (StepF.build (o := ((drawOf (G67 6 []))[6]?).getD default) (t := 106) (len := 1) (parts := #[(0, (.tmp 15))]) (l := 7) (ds := [D.agg [D.str g, D.str n, D.int IntKind.i64 k]]) (sz := 3) (mv := false) (by kernel_rfl) rfl (by kernel_rfl) (by kernel_rfl) (by kernel_rfl) (by kernel_rfl) (by kernel_rfl) (by kernel_rfl) (by kernel_rfl) (by kernel_rfl)) ?_
   refine Run.one (StepF.moves (o := ((drawOf (G67 6 []))[7]?).getD default) (v := .row 5) [(.tmp 14), (.tmp 16)] 5 (.row 3 (ch ++ [D.agg [D.str g, D.str n, D.int IntKind.i64 k]]) true) (by kernel_rfl) rfl (by kernel_rfl) (by kernel_rfl) (by kernel_rfl) (by kernel_rfl) (by kernel_rfl) (by kernel_rfl) (fun tm' σ2 hv hr => appRow_ok (s := (.tmp 14)) (x := (.tmp 16)) (t := 106) (t2 := 106) (sz := 3) (by' := 40) (ys := [D.agg [D.str g, D.str n, D.int IntKind.i64 k]]) (l := 5) (xs := ch) (mv := false) (by kernel_rfl) (evv hv) (atr hr) (by rw [hv _ (by simp)]; exact (cont_at fun l hl => hr l (subB_in (by kernel_rfl) hl)).trans (by kernel_rfl)) (by kernel_rfl) (by kernel_rfl) (by simp <;> omega) (by first | (simp [maxLen] <;> omega) | omega))) ?_
   exact Run.fin
 refine .kp [] ?_
 refine .su [0, 1, 2, 3, 4, 5] (mk 20 []) [.cells [.row 1, .ptr 2 0 0, .ep 2 su 0, .row 5, .d (.int .i64 q), .d (.bool fu), .d (.bool off), .d (.int .i64 s), .d (.int .i64 c)], .row 2 fs false, .cells [.row 3, .row 4], .row 1 (map strD (kapply nk nv g n k).fst) true, .row 1 (map intD (kapply nk nv g n k).snd) true, .row 3 (ch ++ [D.agg [D.str g, D.str n, D.int IntKind.i64 k]]) true] ?_
 refine .rt F67 (V.tuple []) ?_
 exact ⟨rfl, by kernel_rfl⟩
noncomputable def B26 : Code := (Try.f26.body).getD .skip
noncomputable def G26 (n l) := cgo n l [.code B26]
theorem F26 : Fnc Try.prog 26 Try.f26 B26 := ⟨Try.func26, by kernel_rfl, by kernel_rfl⟩
theorem spec_26 (d : Dk) (N : Nat) (h : d.Ok N) (hN : N + 2 ≤ 50000) (x : ByteArray) (hx : x.size < 1000000000) :
    CallsA Try.prog 26 [.ptr 0 0 0, .d (.str x)] (SD d false) fun r σ' => r = .ret (.d (.int .i64 (d.begun.createE x))) ∧ σ' = SD (d.begun.createD x) true := by
  refine CallsA.start F26 (tm := mk (Try.f26.ntmps) [(0, .ptr 0 0 0), (1, .d (.str x))]) (by kernel_rfl) ?_
  have hk := Dk.begun_ok h (by omega : N + 1 ≤ 50000)
  have q1 := hk.nr
  have q2 := hk.nl
  have q3 := hk.nkl
  have q4 := hk.nb
  have q7 := hk.chl
  have q8 := hk.fl
  have q5 : ∀ k, look d.begun.nk d.begun.nv x = some k → 0 ≤ k ∧ k < d.begun.files.length := fun k hk' => hk.nn k (look_mem hk')
  have hn1 : [D.str x] = List.map strD [x] := rfl
  cases hl : look d.begun.nk d.begun.nv x with
  | none =>
    refine .sg 10 [0, 1, 4, 8, 9, 10] (G26 10 []) [(4, .d (.int .i64 0)), (8, .ptr 0 0 0), (9, .d (.str x)), (10, .row 6)] [(6, .row 1 [D.str x] false)] ?_
    refine .ca [0, 1, 2, 3, 4, 5, 6] (G26 11 []) F64 (@spec_64b (d) (N) (by assumption) (false) ([x]) ([D.str x]) (by assumption) (by simp; done) (by simp <;> omega) (by simp; done) (by assumption)) ?_
    rintro r0 s0 ⟨rfl, rfl⟩
    refine ⟨_, rfl, ?_⟩
    refine .sg0 7 [0, 1, 4, 5, 13] (G26 18 []) [(5, .d (.int .i64 (d.begun.err false [x]))), (13, .d (.bool (d.begun.err false [x] != 0)))] ?_
    refine .if' (d.begun.err false [x] != 0) (G26 19 [true]) (G26 19 [false]) (fun h2 => ?_) (fun h2 => ?_)
    · simp only [bsX] at h2
      refine .sg0 5 [0, 1, 4] (G26 24 [true]) [(4, .d (.int .i64 (d.begun.err false [x])))] ?_
      refine .raises [1, 3, 4, 5] ?_
      refine .kp [4] ?_
      refine .su [0, 1, 2, 3, 4, 5] (mk 51 [(4, .d (.int .i64 (d.begun.err false [x])))]) (SP 1 2 d.begun true []) ?_
      refine .rt F26 (V.d (D.int IntKind.i64 (d.begun.err false [x]))) ?_
      simp_all [hC, SD, dirD, Dk.createE, Dk.createD, Dk.turn, fileD, chD, bsD, noName, i64]
    · simp only [bsX] at h2
      refine .sg0 6 [0, 1, 4, 16, 17] (G26 25 [false]) [(16, .ptr 0 0 0), (17, .d (.str x))] ?_
      refine .ca [0, 1, 2, 3, 4, 5] (G26 26 [false]) F65 (@spec_65 (d.begun) (x) (none) (by assumption) (by assumption) (by assumption) (by omega) (by assumption)) ?_
      rintro r2 s2 ⟨rfl, rfl⟩
      refine ⟨_, rfl, ?_⟩
      refine .sg0 15 [0, 1, 4, 7, 21, 22, 23, 24, 25, 26, 27] (G26 41 [false]) [(7, .d (.bool false)), (21, .d (.bool false)), (22, .d (.bool true)), (23, .d (.bool true)), (24, .ptr 0 0 0), (25, .ptr 0 0 0), (26, .ptr 0 0 1), (27, .ptr 2 0 0)] ?_
      refine .ca [2, 3, 4] (G26 42 [false]) F66 (@spec_66 (d.begun.nk) (d.begun.nv)) ?_
      rintro r3 s3 ⟨rfl, rfl⟩
      refine ⟨_, rfl, ?_⟩
      refine .sg0 3 [0, 1, 4, 30] (G26 45 [false]) [(30, .d (.bool (decide ((↑d.begun.nk.length : Int) ≥ 1024))))] ?_
      refine .if' (decide ((↑d.begun.nk.length : Int) ≥ 1024)) (G26 46 [false, true]) (G26 46 [false, false]) (fun h5 => ?_) (fun h5 => ?_)
      · simp only [bsX] at h5
        refine .sg0 4 [0, 1, 4] (G26 50 [false, true]) [(4, .d (.int .i64 2))] ?_
        refine .raises [1, 3, 4, 5] ?_
        refine .kp [4] ?_
        refine .su [0, 1, 2, 3, 4, 5] (mk 51 [(4, .d (.int .i64 2))]) (SP 1 2 d.begun true []) ?_
        refine .rt F26 (V.d (D.int IntKind.i64 2)) ?_
        have e : d.begun.createE x = 2 := by simp [Dk.createE, h2, hl]; omega
        have e' : d.begun.createD x = d.begun := by simp [Dk.createD, e]
        exact ⟨by rw [e], by rw [e']; rfl⟩
      · simp only [bsX] at h5
        refine .sg 10 [0, 1, 4, 31, 32, 33, 34, 35, 36, 37] (G26 56 [false, false]) [(31, .ptr 0 0 0), (32, .ptr 0 0 0), (33, .ptr 0 0 0), (34, .ptr 0 0 0), (35, .row 1), (36, .agg [.ex 1 [], .d (.int .i64 0)]), (37, .row 7)] [(7, .row 2 [D.agg [D.list 1 [], D.int IntKind.i64 0]] false)] ?_
        refine .op' (G26 57 [false, false]) (appRow_ok (s := (.tmp 35)) (x := (.tmp 37)) (t := 105) (t2 := 105) (sz := 2) (by' := 32) (ys := [D.agg [D.list 1 [], D.int IntKind.i64 0]]) (l := 1) (xs := map fileD d.begun.files) (mv := false) (by kernel_rfl) (by kernel_rfl) (by kernel_rfl) (by kernel_rfl) (by kernel_rfl) (by kernel_rfl) (by simp <;> omega) (by first | (simp [maxLen] <;> omega) | omega)) ?_
        refine .sg 15 [0, 1, 4, 41, 42, 43, 44, 45, 46, 47, 48, 49] (G26 72 [false, false]) [(41, .ptr 0 0 0), (42, .d (.str x)), (43, .ptr 0 0 0), (44, .ptr 0 0 0), (45, .ptr 0 0 0), (46, .row 1), (47, .d (.int .i64 (↑(map fileD d.begun.files ++ [D.agg [D.list 1 [], D.int IntKind.i64 0]]).length : Int))), (48, .d (.int .i64 (IntKind.i64.wrap ((↑(map fileD d.begun.files ++ [D.agg [D.list 1 [], D.int IntKind.i64 0]]).length : Int) - 1)))), (49, .d (.agg [D.str (ByteArray.mk #[]), D.str x, D.int IntKind.i64 (IntKind.i64.wrap ((↑(map fileD d.begun.files ++ [D.agg [D.list 1 [], D.int IntKind.i64 0]]).length : Int) - 1))]))] [(0, .cells (hC 1 2 5 d.begun))] ?_
        refine .ca [0, 1, 2, 3, 4, 5] (G26 73 [false, false]) F67 (@spec_67 (map fileD d.begun.files ++ [D.agg [D.list 1 [], D.int IntKind.i64 0]]) (D.agg [D.list 1 (map strD d.begun.sk), D.list 1 (map intD d.begun.sv)]) (map chD d.begun.ch) (d.begun.nk) (d.begun.nv) (d.begun.quota) (d.begun.stop) (d.begun.calls) (d.begun.full) (d.begun.off) (ByteArray.mk #[]) (x) (IntKind.i64.wrap ((↑(map fileD d.begun.files ++ [D.agg [D.list 1 [], D.int IntKind.i64 0]]).length : Int) - 1)) (by assumption) (by assumption) (by omega) (by simp <;> omega)) ?_
        rintro r5 s5 ⟨rfl, rfl⟩
        refine ⟨_, rfl, ?_⟩
        refine .sg0 5 [4] (G26 78 [false, false]) [] ?_
        refine .kp [4] ?_
        refine .su [0, 1, 2, 3, 4, 5] (mk 51 [(4, .d (.int .i64 0))]) [.cells (hC 1 2 5 d.begun), .row 2 (map fileD d.begun.files ++ [D.agg [D.list 1 [], D.int IntKind.i64 0]]) true, .cells [.row 3, .row 4], .row 1 (map strD (kapply d.begun.nk d.begun.nv (ByteArray.mk #[]) x (IntKind.i64.wrap ((↑(map fileD d.begun.files ++ [D.agg [D.list 1 [], D.int IntKind.i64 0]]).length : Int) - 1))).fst) true, .row 1 (map intD (kapply d.begun.nk d.begun.nv (ByteArray.mk #[]) x (IntKind.i64.wrap ((↑(map fileD d.begun.files ++ [D.agg [D.list 1 [], D.int IntKind.i64 0]]).length : Int) - 1))).snd) true, .row 3 (map chD d.begun.ch ++ [D.agg [D.str (ByteArray.mk #[]), D.str x, D.int IntKind.i64 (IntKind.i64.wrap ((↑(map fileD d.begun.files ++ [D.agg [D.list 1 [], D.int IntKind.i64 0]]).length : Int) - 1))]]) true] ?_
        refine .rt F26 (V.d (D.int IntKind.i64 0)) ?_
        have e : d.begun.createE x = 0 := by simp [Dk.createE, h2, hl]; omega
        have hw : IntKind.i64.wrap (((List.map fileD d.begun.files ++ [D.agg [D.list 1 [], D.int IntKind.i64 0]]).length : Int) - 1) = (d.begun.files.length : Int) := by rw [wrap_i64 (by simp <;> omega) (by simp <;> omega)]; simp
        rw [hw]
        exact ⟨by rw [e], by simp [hC, SD, dirD, Dk.createD, e, Dk.turn, fileD, chD, bsD, noName, i64]⟩
  | some k =>
    refine .sg 10 [0, 1, 4, 8, 9, 10] (G26 10 []) [(4, .d (.int .i64 0)), (8, .ptr 0 0 0), (9, .d (.str x)), (10, .row 6)] [(6, .row 1 [D.str x] false)] ?_
    refine .ca [0, 1, 2, 3, 4, 5, 6] (G26 11 []) F64 (@spec_64b (d) (N) (by assumption) (false) ([x]) ([D.str x]) (by assumption) (by simp; done) (by simp <;> omega) (by simp; done) (by assumption)) ?_
    rintro r0 s0 ⟨rfl, rfl⟩
    refine ⟨_, rfl, ?_⟩
    refine .sg0 7 [0, 1, 4, 5, 13] (G26 18 []) [(5, .d (.int .i64 (d.begun.err false [x]))), (13, .d (.bool (d.begun.err false [x] != 0)))] ?_
    refine .if' (d.begun.err false [x] != 0) (G26 19 [true]) (G26 19 [false]) (fun h2 => ?_) (fun h2 => ?_)
    · simp only [bsX] at h2
      refine .sg0 5 [0, 1, 4] (G26 24 [true]) [(4, .d (.int .i64 (d.begun.err false [x])))] ?_
      refine .raises [1, 3, 4, 5] ?_
      refine .kp [4] ?_
      refine .su [0, 1, 2, 3, 4, 5] (mk 51 [(4, .d (.int .i64 (d.begun.err false [x])))]) (SP 1 2 d.begun true []) ?_
      refine .rt F26 (V.d (D.int IntKind.i64 (d.begun.err false [x]))) ?_
      simp_all [hC, SD, dirD, Dk.createE, Dk.createD, Dk.turn, fileD, chD, bsD, noName, i64]
    · simp only [bsX] at h2
      refine .sg0 6 [0, 1, 4, 16, 17] (G26 25 [false]) [(16, .ptr 0 0 0), (17, .d (.str x))] ?_
      refine .ca [0, 1, 2, 3, 4, 5] (G26 26 [false]) F65 (@spec_65 (d.begun) (x) (some k) (by assumption) (by assumption) (by assumption) (by omega) (by assumption)) ?_
      rintro r2 s2 ⟨rfl, rfl⟩
      refine ⟨_, rfl, ?_⟩
      refine .sg 30 [0, 1, 4, 31, 32, 33, 34, 35, 36, 37] (G26 56 [false, false]) [(31, .ptr 0 0 0), (32, .ptr 0 0 0), (33, .ptr 0 0 0), (34, .ptr 0 0 0), (35, .row 1), (36, .agg [.ex 1 [], .d (.int .i64 0)]), (37, .row 7)] [(7, .row 2 [D.agg [D.list 1 [], D.int IntKind.i64 0]] false)] ?_
      refine .op' (G26 57 [false, false]) (appRow_ok (s := (.tmp 35)) (x := (.tmp 37)) (t := 105) (t2 := 105) (sz := 2) (by' := 32) (ys := [D.agg [D.list 1 [], D.int IntKind.i64 0]]) (l := 1) (xs := map fileD d.begun.files) (mv := false) (by kernel_rfl) (by kernel_rfl) (by kernel_rfl) (by kernel_rfl) (by kernel_rfl) (by kernel_rfl) (by simp <;> omega) (by first | (simp [maxLen] <;> omega) | omega)) ?_
      refine .sg 15 [0, 1, 4, 41, 42, 43, 44, 45, 46, 47, 48, 49] (G26 72 [false, false]) [(41, .ptr 0 0 0), (42, .d (.str x)), (43, .ptr 0 0 0), (44, .ptr 0 0 0), (45, .ptr 0 0 0), (46, .row 1), (47, .d (.int .i64 (↑(map fileD d.begun.files ++ [D.agg [D.list 1 [], D.int IntKind.i64 0]]).length : Int))), (48, .d (.int .i64 (IntKind.i64.wrap ((↑(map fileD d.begun.files ++ [D.agg [D.list 1 [], D.int IntKind.i64 0]]).length : Int) - 1)))), (49, .d (.agg [D.str (ByteArray.mk #[]), D.str x, D.int IntKind.i64 (IntKind.i64.wrap ((↑(map fileD d.begun.files ++ [D.agg [D.list 1 [], D.int IntKind.i64 0]]).length : Int) - 1))]))] [(0, .cells (hC 1 2 5 d.begun))] ?_
      refine .ca [0, 1, 2, 3, 4, 5] (G26 73 [false, false]) F67 (@spec_67 (map fileD d.begun.files ++ [D.agg [D.list 1 [], D.int IntKind.i64 0]]) (D.agg [D.list 1 (map strD d.begun.sk), D.list 1 (map intD d.begun.sv)]) (map chD d.begun.ch) (d.begun.nk) (d.begun.nv) (d.begun.quota) (d.begun.stop) (d.begun.calls) (d.begun.full) (d.begun.off) (ByteArray.mk #[]) (x) (IntKind.i64.wrap ((↑(map fileD d.begun.files ++ [D.agg [D.list 1 [], D.int IntKind.i64 0]]).length : Int) - 1)) (by assumption) (by assumption) (by omega) (by simp <;> omega)) ?_
      rintro r3 s3 ⟨rfl, rfl⟩
      refine ⟨_, rfl, ?_⟩
      refine .sg0 5 [4] (G26 78 [false, false]) [] ?_
      refine .kp [4] ?_
      refine .su [0, 1, 2, 3, 4, 5] (mk 51 [(4, .d (.int .i64 0))]) [.cells (hC 1 2 5 d.begun), .row 2 (map fileD d.begun.files ++ [D.agg [D.list 1 [], D.int IntKind.i64 0]]) true, .cells [.row 3, .row 4], .row 1 (map strD (kapply d.begun.nk d.begun.nv (ByteArray.mk #[]) x (IntKind.i64.wrap ((↑(map fileD d.begun.files ++ [D.agg [D.list 1 [], D.int IntKind.i64 0]]).length : Int) - 1))).fst) true, .row 1 (map intD (kapply d.begun.nk d.begun.nv (ByteArray.mk #[]) x (IntKind.i64.wrap ((↑(map fileD d.begun.files ++ [D.agg [D.list 1 [], D.int IntKind.i64 0]]).length : Int) - 1))).snd) true, .row 3 (map chD d.begun.ch ++ [D.agg [D.str (ByteArray.mk #[]), D.str x, D.int IntKind.i64 (IntKind.i64.wrap ((↑(map fileD d.begun.files ++ [D.agg [D.list 1 [], D.int IntKind.i64 0]]).length : Int) - 1))]]) true] ?_
      refine .rt F26 (V.d (D.int IntKind.i64 0)) ?_
      have e : d.begun.createE x = 0 := by simp [Dk.createE, h2, hl]
      have hw : IntKind.i64.wrap (((List.map fileD d.begun.files ++ [D.agg [D.list 1 [], D.int IntKind.i64 0]]).length : Int) - 1) = (d.begun.files.length : Int) := by rw [wrap_i64 (by simp <;> omega) (by simp <;> omega)]; simp
      rw [hw]
      exact ⟨by rw [e], by simp [hC, SD, dirD, Dk.createD, e, Dk.turn, fileD, chD, bsD, noName, i64]⟩
theorem Dk.err4 (d : Dk) (b : Bool) (l : List ByteArray) : d.err b l ≠ 4 := by
 unfold Dk.err
 split
 · simp
 · split
   · split <;> simp
   · simp
theorem Dk.used_le {d : Dk} {N : Nat} (h : d.Ok N) : d.used ≤ 52428800000 := by
 have e1 : d.acc d.nk.length = d.used := by unfold Dk.acc Dk.used; rw [← h.nl, List.take_length]
 have h2 := Dk.acc_le h d.nk.length
 have h3 := h.nkl
 have h4 := h.nb
 rw [e1] at h2
 omega
noncomputable def B31 : Code := (Try.f31.body).getD .skip
noncomputable def G31 (n l) := cgo n l [.code B31]
theorem F31 : Fnc Try.prog 31 Try.f31 B31 := ⟨Try.func31, by kernel_rfl, by kernel_rfl⟩
theorem spec_31 (d : Dk) (N : Nat) (h : d.Ok N) (hN : N + 2 ≤ 50000) (x : ByteArray) (hx : x.size < 1000000000) (bs : List UInt8) (hb : bs.length < 1000000000) :
    CallsA Try.prog 31 [.ptr 0 0 0, .d (.str x), .d (bsD bs)] (SD d false) fun r σ' => r = .ret (.d (.int .i64 (d.begun.appendE x bs))) ∧ σ' = SD (d.begun.appendD x bs) true := by
  refine CallsA.start F31 (tm := mk (Try.f31.ntmps) [(0, .ptr 0 0 0), (1, .d (.str x)), (2, .d (bsD bs))]) (by kernel_rfl) ?_
  have hk := Dk.begun_ok h (by omega : N + 1 ≤ 50000)
  have q1 := hk.nr
  have q2 := hk.nl
  have q3 := hk.nkl
  have q4 := hk.nb
  have q7 := hk.chl
  have q8 := hk.fl
  have q5 : ∀ k, look d.begun.nk d.begun.nv x = some k → 0 ≤ k ∧ k < d.begun.files.length := fun k hk' => hk.nn k (look_mem hk')
  have hn1 : [D.str x] = List.map strD [x] := rfl
  cases hl : look d.begun.nk d.begun.nv x with
  | none =>
    have he : d.begun.err true [x] ≠ 0 := by
      unfold Dk.err
      split
      · simp
      · split <;> simp [hl]
    refine .sg 10 [0, 1, 2, 6, 10, 11, 12] (G31 10 []) [(6, .d (.int .i64 0)), (10, .ptr 0 0 0), (11, .d (.str x)), (12, .row 6)] [(6, .row 1 [D.str x] false)] ?_
    refine .ca [0, 1, 2, 3, 4, 5, 6] (G31 11 []) F64 (@spec_64b (d) (N) (by assumption) (true) ([x]) ([D.str x]) (by assumption) (by simp; done) (by simp <;> omega) (by simp; done) (by assumption)) ?_
    rintro r0 s0 ⟨rfl, rfl⟩
    refine ⟨_, rfl, ?_⟩
    refine .sg0 7 [0, 1, 2, 6, 7, 15] (G31 18 []) [(7, .d (.int .i64 (d.begun.err true [x]))), (15, .d (.bool (d.begun.err true [x] != 0)))] ?_
    refine .if' (d.begun.err true [x] != 0) (G31 19 [true]) (G31 19 [false]) (fun h2 => ?_) (fun h2 => ?_)
    · simp only [bsX] at h2
      refine .sg0 5 [0, 1, 2, 6] (G31 24 [true]) [(6, .d (.int .i64 (d.begun.err true [x])))] ?_
      refine .raises [1, 3, 4, 5] ?_
      refine .kp [6] ?_
      refine .su [0, 1, 2, 3, 4, 5] (mk 67 [(6, .d (.int .i64 (d.begun.err true [x])))]) (SP 1 2 d.begun true []) ?_
      refine .rt F31 (V.d (D.int IntKind.i64 (d.begun.err true [x]))) ?_
      have e : d.begun.appendE x bs = d.begun.err true [x] := by simp [Dk.appendE, h2]
      have e4 := d.begun.err4 true [x]
      have e' : d.begun.appendD x bs = d.begun := by simp [Dk.appendD, e, h2, e4]
      exact ⟨by rw [e], by rw [e']; rfl⟩
    · simp only [bsX] at h2
      omega
  | some k =>
    have q6 := q5 k hl
    have q61 := q6.1
    have hlt : k.toNat < d.begun.files.length := by omega
    obtain ⟨f, hf⟩ := get_some (l := d.begun.files) (i := k.toNat) hlt
    have hm := hk.fs f (List.mem_of_getElem? hf)
    have hfile : d.begun.file (d.begun.num x) = f := by simp [Dk.file, Dk.num, hl, List.getD_eq_getElem?_getD, hf]
    have hnum : d.begun.num x = k.toNat := by simp [Dk.num, hl]
    refine .sg 10 [0, 1, 2, 6, 10, 11, 12] (G31 10 []) [(6, .d (.int .i64 0)), (10, .ptr 0 0 0), (11, .d (.str x)), (12, .row 6)] [(6, .row 1 [D.str x] false)] ?_
    refine .ca [0, 1, 2, 3, 4, 5, 6] (G31 11 []) F64 (@spec_64b (d) (N) (by assumption) (true) ([x]) ([D.str x]) (by assumption) (by simp; done) (by simp <;> omega) (by simp; done) (by assumption)) ?_
    rintro r0 s0 ⟨rfl, rfl⟩
    refine ⟨_, rfl, ?_⟩
    refine .sg0 7 [0, 1, 2, 6, 7, 15] (G31 18 []) [(7, .d (.int .i64 (d.begun.err true [x]))), (15, .d (.bool (d.begun.err true [x] != 0)))] ?_
    refine .if' (d.begun.err true [x] != 0) (G31 19 [true]) (G31 19 [false]) (fun h2 => ?_) (fun h2 => ?_)
    · simp only [bsX] at h2
      refine .sg0 5 [0, 1, 2, 6] (G31 24 [true]) [(6, .d (.int .i64 (d.begun.err true [x])))] ?_
      refine .raises [1, 3, 4, 5] ?_
      refine .kp [6] ?_
      refine .su [0, 1, 2, 3, 4, 5] (mk 67 [(6, .d (.int .i64 (d.begun.err true [x])))]) (SP 1 2 d.begun true []) ?_
      refine .rt F31 (V.d (D.int IntKind.i64 (d.begun.err true [x]))) ?_
      have e : d.begun.appendE x bs = d.begun.err true [x] := by simp [Dk.appendE, h2]
      have e4 := d.begun.err4 true [x]
      have e' : d.begun.appendD x bs = d.begun := by simp [Dk.appendD, e, h2, e4]
      exact ⟨by rw [e], by rw [e']; rfl⟩
    · simp only [bsX] at h2
      refine .sg0 5 [0, 1, 2, 6, 18, 19] (G31 24 [false]) [(18, .ptr 0 0 0), (19, .d (.str x))] ?_
      refine .ca [0, 1, 2, 3, 4, 5] (G31 25 [false]) F65 (@spec_65 (d.begun) (x) (some k) (by assumption) (by assumption) (by assumption) (by omega) (by assumption)) ?_
      rintro r2 s2 ⟨rfl, rfl⟩
      refine ⟨_, rfl, ?_⟩
      refine .sg0 15 [0, 2, 6, 8, 24, 25, 26, 27, 28] (G31 40 [false]) [(8, .ptr 1 k.toNat 0), (24, .d (.list 1 (map u8 bs))), (25, .d (.int .i64 (↑(map u8 bs).length : Int))), (26, .ptr 1 k.toNat 0), (27, .ptr 1 k.toNat 0), (28, .ptr 1 k.toNat 0)] ?_
      simp only [List.length_map]
      refine .ld (G31 41 [false]) (xs := map fileD d.begun.files) (map_get hf) ?_
      refine .sg0 5 [0, 2, 6, 8, 23] (G31 46 [false]) [(23, .d (.bool (decide ((↑bs.length : Int) > IntKind.i64.wrap (1048576 - (↑(map u8 f.fst).length : Int))))))] ?_
      simp only [List.length_map]
      simp (disch := omega) only [bsW]
      refine .if' (decide ((↑bs.length : Int) > 1048576 - (↑f.fst.length : Int))) (G31 47 [false, true]) (G31 47 [false, false]) (fun h4 => ?_) (fun h4 => ?_)
      · simp only [bsX] at h4
        refine .sg0 4 [2, 6, 8] (G31 51 [false, true]) [(6, .d (.int .i64 2))] ?_
        refine .raises [1, 3, 4, 5] ?_
        refine .kp [6] ?_
        refine .su [0, 1, 2, 3, 4, 5] (mk 67 [(6, .d (.int .i64 2))]) (SP 1 2 d.begun true []) ?_
        refine .rt F31 (V.d (D.int IntKind.i64 2)) ?_
        simp_all [hC, SD, dirD, Dk.appendE, Dk.appendD]
      · simp only [bsX] at h4
        refine .sg0 1 [0, 2, 6, 8] (G31 48 [false, false]) [] ?_
        refine .dr (G31 49 [false, false]) [(33, .d (.bool (decide ((↑(map u8 bs).length : Int) > IntKind.i64.wrap (d.begun.quota - (↑d.begun.used : Int)))))), (34, .d (.list 1 (map u8 bs))), (35, .d (.int .i64 (↑(map u8 bs).length : Int))), (36, .ptr 0 0 0), (37, .ptr 0 0 0), (38, .ptr 0 0 4), (39, .d (.int .i64 d.begun.quota)), (40, .ptr 0 0 0), (41, .d (.int .i64 (↑d.begun.used : Int))), (42, .d (.int .i64 (IntKind.i64.wrap (d.begun.quota - (↑d.begun.used : Int))))), (43, .d (.bool (decide ((↑(map u8 bs).length : Int) > IntKind.i64.wrap (d.begun.quota - (↑d.begun.used : Int))))))] [] (fun kz L hL => ?_) ?_
        · refine ⟨[nF, nF, fO 0, fA 0, fA 0, fX [0] [] [] [] [0, 1, 2, 5], fO 0, fX [0, 1, 2, 3, 4, 5] [] [] [] [0, 1, 2, 5, 3, 4], nF, nF, nF], run_amongF hL _ [] [0, 2, 3, 4, 5, 6, 1, 7, 8, 9, 10] (by intro p hp; cases hp) (by kernel_rfl) ?_⟩
          refine Run.ap [0, 2, 3, 4, 5, 6, 1] [(34, .d (.list 1 (map u8 bs))), (35, .d (.int .i64 (↑(map u8 bs).length : Int))), (36, .ptr 0 0 0), (37, .ptr 0 0 0), (38, .ptr 0 0 4), (39, .d (.int .i64 d.begun.quota)), (40, .ptr 0 0 0)] [] ?_
          refine Run.cll 7 [0, 1, 2, 3, 4, 5] F68 (@spec_68 (d.begun) (N + 1) (by assumption)) ?_
          exact Run.fin
        refine .if' (decide ((↑(map u8 bs).length : Int) > IntKind.i64.wrap (d.begun.quota - (↑d.begun.used : Int)))) (G31 50 [false, false, true]) (G31 50 [false, false, false]) (fun h8 => ?_) (fun h8 => ?_)
        · simp only [bsX] at h8
          refine .sg 11 [2, 6, 8] (G31 61 [false, false, true]) [(6, .d (.int .i64 4))] [(0, .cells [.row 1, .ptr 2 0 0, .ep 2 (D.agg [D.list 1 (map strD d.begun.sk), D.list 1 (map intD d.begun.sv)]) 0, .row 5, .d (.int .i64 d.begun.quota), .d (.bool true), .d (.bool d.begun.off), .d (.int .i64 d.begun.stop), .d (.int .i64 d.begun.calls)])] ?_
          refine .raises [1, 3, 4, 5] ?_
          refine .kp [6] ?_
          refine .su [0, 1, 2, 3, 4, 5] (mk 67 [(6, .d (.int .i64 4))]) [.cells [.row 1, .ptr 2 0 0, .ep 2 (D.agg [D.list 1 (map strD d.begun.sk), D.list 1 (map intD d.begun.sv)]) 0, .row 5, .d (.int .i64 d.begun.quota), .d (.bool true), .d (.bool d.begun.off), .d (.int .i64 d.begun.stop), .d (.int .i64 d.begun.calls)], .row 2 (map fileD d.begun.files) true, .cells [.row 3, .row 4], .row 1 (map strD d.begun.nk) true, .row 1 (map intD d.begun.nv) true, .row 3 (map chD d.begun.ch) true] ?_
          refine .rt F31 (V.d (D.int IntKind.i64 4)) ?_
          have hu := Dk.used_le hk
          have hq0 := hk.q0
          have hq1 := hk.q1
          have hw : IntKind.i64.wrap (d.begun.quota - (d.begun.used : Int)) = d.begun.quota - (d.begun.used : Int) := wrap_i64 (by omega) (by omega)
          rw [hw, List.length_map] at h8
          have e : d.begun.appendE x bs = 4 := by
            unfold Dk.appendE
            rw [if_neg (by simp [h2]), hfile, if_neg (by omega), if_pos (by omega)]
          have e' : d.begun.appendD x bs = { d.begun with full := true } := by simp [Dk.appendD, e]
          exact ⟨by rw [e], by rw [e']; rfl⟩
        · simp only [bsX] at h8
          refine .sg0 3 [2, 6, 8] (G31 53 [false, false, false]) [] ?_
          refine .dr (G31 54 [false, false, false]) [(47, .ptr 1 k.toNat 0), (48, .ptr 1 k.toNat 0), (49, .ptr 1 k.toNat 0), (50, .ptr 1 k.toNat 0), (51, .d (.list 1 (map u8 f.fst))), (52, .ptr 1 k.toNat 0), (53, .ptr 1 k.toNat 0), (54, .ptr 1 k.toNat 0), (55, .d (.list 1 (map u8 f.fst))), (56, .d (.int .i64 (↑(map u8 f.fst).length : Int))), (57, .ptr 1 k.toNat 0), (58, .ptr 1 k.toNat 0), (59, .ptr 1 k.toNat 0), (60, .d (.list 1 (map u8 f.fst))), (61, .d (.int .i64 (↑(map u8 f.fst).length : Int))), (62, .ex 1 (List.drop 0 (List.take (map u8 f.fst).length (map u8 f.fst)))), (63, .d (.list 1 (map u8 bs))), (64, .d (.list 1 (List.drop 0 (List.take (map u8 f.fst).length (map u8 f.fst)) ++ map u8 bs))), (65, .ptr 1 k.toNat 0), (66, .ptr 1 k.toNat 0)] [(1, .row 2 ((map fileD d.begun.files).set k.toNat (D.agg [D.list 1 (List.drop 0 (List.take (map u8 f.fst).length (map u8 f.fst)) ++ map u8 bs), D.int IntKind.i64 (↑f.snd : Int)])) false)] (fun kz L hL => ?_) ?_
          · refine ⟨[fO 1, fO 1, fA 1, fA 1, fR 1, fO 1, fA 1, fA 1, fR 1, nF, fO 1, fA 1, fA 1, fR 1, nF, nF, nF, nF, fA 1, fA 1, fX [1] [1] [] [] [1]], run_amongF hL _ [] [0, 1, 2, 3, 4, 5, 6, 7, 8, 10, 11, 12, 13, 16, 9, 14, 15, 17, 18, 19, 20] (by intro p hp; cases hp) (by kernel_rfl) ?_⟩
            refine Run.ap [0, 1, 2, 3] [(47, .ptr 1 k.toNat 0), (48, .ptr 1 k.toNat 0), (49, .ptr 1 k.toNat 0), (50, .ptr 1 k.toNat 0)] [] ?_
            refine Run.lk 4 (.d (.list 1 (map u8 f.fst))) [(.tmp 50)] (fun tm' σ2 hv hr => ldRow_ok (t := 22) (x := (.tmp 50)) (l := 1) (i := k.toNat) (s := 0) (sz := 2) (xs := map fileD d.begun.files) (mv := false) (d := fileD f) (v := .d (.list 1 (map u8 f.fst))) (by kernel_rfl) (evv hv) (atr hr) (map_get hf) (by kernel_rfl)) ?_
            refine Run.ap [5, 6, 7] [(52, .ptr 1 k.toNat 0), (53, .ptr 1 k.toNat 0), (54, .ptr 1 k.toNat 0)] [] ?_
            refine Run.lk 8 (.d (.list 1 (map u8 f.fst))) [(.tmp 54)] (fun tm' σ2 hv hr => ldRow_ok (t := 22) (x := (.tmp 54)) (l := 1) (i := k.toNat) (s := 0) (sz := 2) (xs := map fileD d.begun.files) (mv := false) (d := fileD f) (v := .d (.list 1 (map u8 f.fst))) (by kernel_rfl) (evv hv) (atr hr) (map_get hf) (by kernel_rfl)) ?_
            refine Run.ap [10, 11, 12] [(57, .ptr 1 k.toNat 0), (58, .ptr 1 k.toNat 0), (59, .ptr 1 k.toNat 0)] [] ?_
            refine Run.lk 13 (.d (.list 1 (map u8 f.fst))) [(.tmp 59)] (fun tm' σ2 hv hr => ldRow_ok (t := 22) (x := (.tmp 59)) (l := 1) (i := k.toNat) (s := 0) (sz := 2) (xs := map fileD d.begun.files) (mv := false) (d := fileD f) (v := .d (.list 1 (map u8 f.fst))) (by kernel_rfl) (evv hv) (atr hr) (map_get hf) (by kernel_rfl)) ?_
            refine Run.ap [16, 9, 14] [(56, .d (.int .i64 (↑(map u8 f.fst).length : Int))), (61, .d (.int .i64 (↑(map u8 f.fst).length : Int))), (63, .d (.list 1 (map u8 bs)))] [] ?_
            refine Run.lk 15 (.ex 1 (List.drop 0 (List.take (map u8 f.fst).length (map u8 f.fst)))) [(.tmp 51), (.tmp 56), (.tmp 61)] (fun tm' σ2 hv hr => sl3Data_ok (t := 22) (x := (.tmp 51)) (lo := none) (y := (.tmp 56)) (z := (.tmp 61)) (sz := 1) (xs := map u8 f.fst) (0) ((map u8 f.fst).length) (by kernel_rfl) (evl hv) (by kernel_rfl) rfl (bnd_some (k := IntKind.i64) (i := (↑(map u8 f.fst).length : Int)) (evv hv) (by omega) (by rfl)) (bnd_some (k := IntKind.i64) (i := (↑(map u8 f.fst).length : Int)) (evv hv) (by omega) (by rfl)) (by omega) (by omega)) ?_
            refine Run.lk 17 (.d (.list 1 (List.drop 0 (List.take (map u8 f.fst).length (map u8 f.fst)) ++ map u8 bs))) [(.tmp 62), (.tmp 63)] (fun tm' σ2 hv hr => appExD_ok (s := (.tmp 62)) (x := (.tmp 63)) (t := 22) (t2 := 22) (sz := 1) (by' := 1) (ys := map u8 bs) (xs := List.drop 0 (List.take (map u8 f.fst).length (map u8 f.fst))) (by kernel_rfl) (evv hv) (by rw [hv _ (by simp)]; exact (cont_at fun l hl => hr l (subB_in (by kernel_rfl) hl)).trans (by kernel_rfl)) (by kernel_rfl) (by kernel_rfl) (by simp <;> omega) (by first | (simp [maxLen] <;> omega) | omega)) ?_
            refine Run.ap [18, 19] [(65, .ptr 1 k.toNat 0), (66, .ptr 1 k.toNat 0)] [] ?_
            refine Run.one (StepF.sets (o := ((drawOf (G31 53 [false, false, false]))[20]?).getD default) (v := .undef) [(.tmp 66), (.tmp 64)] 1 (.row 2 ((map fileD d.begun.files).set k.toNat (D.agg [D.list 1 (List.drop 0 (List.take (map u8 f.fst).length (map u8 f.fst)) ++ map u8 bs), D.int IntKind.i64 (↑f.snd : Int)])) false) (by kernel_rfl) rfl (by kernel_rfl) (by kernel_rfl) (by kernel_rfl) (by kernel_rfl) (by kernel_rfl) (fun tm' σ2 hv hr => stRow_ok (t := 22) (x := (.tmp 66)) (y := (.tmp 64)) (l := 1) (i := k.toNat) (s := 0) (sz := 2) (xs := map fileD d.begun.files) (mv := false) (d := fileD f) (d' := D.agg [D.list 1 (List.drop 0 (List.take (map u8 f.fst).length (map u8 f.fst)) ++ map u8 bs), D.int IntKind.i64 (↑f.snd : Int)]) (by kernel_rfl) (evv hv) (atr hr) (map_get hf) (by unfold storeE; rw [hv _ (by simp)]; kernel_rfl))) ?_
            exact Run.fin
          refine .sg0 4 [6] (G31 58 [false, false, false]) [] ?_
          simp only [List.length_map]
          refine .raises [1, 3, 4, 5] ?_
          refine .kp [6] ?_
          refine .su [0, 1, 2, 3, 4, 5] (mk 67 [(6, .d (.int .i64 0))]) [.cells (hC 1 2 5 d.begun), .row 2 ((map fileD d.begun.files).set k.toNat (D.agg [D.list 1 (List.drop 0 (List.take f.fst.length (map u8 f.fst)) ++ map u8 bs), D.int IntKind.i64 (↑f.snd : Int)])) true, .cells [.row 3, .row 4], .row 1 (map strD d.begun.nk) true, .row 1 (map intD d.begun.nv) true, .row 3 (map chD d.begun.ch) true] ?_
          refine .rt F31 (V.d (D.int IntKind.i64 0)) ?_
          have hu := Dk.used_le hk
          have hq0 := hk.q0
          have hq1 := hk.q1
          have hw : IntKind.i64.wrap (d.begun.quota - (d.begun.used : Int)) = d.begun.quota - (d.begun.used : Int) := wrap_i64 (by omega) (by omega)
          rw [hw, List.length_map] at h8
          have e : d.begun.appendE x bs = 0 := by
            unfold Dk.appendE
            rw [if_neg (by simp [h2]), hfile, if_neg (by omega), if_neg (by omega)]
          have hf2 : d.begun.file k.toNat = f := by rw [← hnum]; exact hfile
          have e' : d.begun.appendD x bs = { d.begun with files := d.begun.files.set k.toNat (f.1 ++ bs, f.2) } := by simp [Dk.appendD, e, hf2, hnum]
          have e3 : List.take f.1.length (List.map u8 f.1) = List.map u8 f.1 := List.take_of_length_le (by simp)
          refine ⟨by rw [e], ?_⟩
          rw [e', e3]
          simp [hC, SD, dirD, List.map_set, fileD, bsD, i64]
noncomputable def B32 : Code := (Try.f32.body).getD .skip
noncomputable def G32 (n l) := cgo n l [.code B32]
theorem F32 : Fnc Try.prog 32 Try.f32 B32 := ⟨Try.func32, by kernel_rfl, by kernel_rfl⟩
noncomputable def B34 : Code := (Try.f34.body).getD .skip
noncomputable def G34 (n l) := cgo n l [.code B34]
theorem F34 : Fnc Try.prog 34 Try.f34 B34 := ⟨Try.func34, by kernel_rfl, by kernel_rfl⟩
noncomputable def B78 : Code := (Try.f78.body).getD .skip
noncomputable def G78 (n l) := cgo n l [.code B78]
theorem F78 : Fnc Try.prog 78 Try.f78 B78 := ⟨Try.func78, by kernel_rfl, by kernel_rfl⟩
theorem spec_32 (d : Dk) (N : Nat) (h : d.Ok N) (hN : N + 2 ≤ 50000) (x : ByteArray) (hx : x.size < 1000000000) :
   CallsA Try.prog 32 [.ptr 0 0 0, .d (.str x)] (SD d false) fun r σ' => r = .ret (.d (.int .i64 (d.begun.err true [x]))) ∧ σ' = SD (d.begun.syncD x) true := by
 refine CallsA.start F32 (tm := mk (Try.f32.ntmps) [(0, .ptr 0 0 0), (1, .d (.str x))]) (by kernel_rfl) ?_
 have hk := Dk.begun_ok h (by omega : N + 1 ≤ 50000)
 have q1 := hk.nr
 have q2 := hk.nl
 have q3 := hk.nkl
 have q4 := hk.nb
 have q7 := hk.chl
 have q8 := hk.fl
 have q5 : ∀ k, look d.begun.nk d.begun.nv x = some k → 0 ≤ k ∧ k < d.begun.files.length := fun k hk' => hk.nn k (look_mem hk')
 have hn1 : [D.str x] = List.map strD [x] := rfl
 cases hl : look d.begun.nk d.begun.nv x with
 | none =>
   have he : d.begun.err true [x] ≠ 0 := by
     unfold Dk.err
     split
     · simp
     · split <;> simp [hl]
   refine .sg 10 [0, 1, 4, 8, 9, 10] (G32 10 []) [(4, .d (.int .i64 0)), (8, .ptr 0 0 0), (9, .d (.str x)), (10, .row 6)] [(6, .row 1 [D.str x] false)] ?_
   refine .ca [0, 1, 2, 3, 4, 5, 6] (G32 11 []) F64 (@spec_64b (d) (N) (by assumption) (true) ([x]) ([D.str x]) (by assumption) (by simp; done) (by simp <;> omega) (by simp; done) (by assumption)) ?_
   rintro r0 s0 ⟨rfl, rfl⟩
   refine ⟨_, rfl, ?_⟩
   refine .sg0 7 [0, 1, 4, 5, 13] (G32 18 []) [(5, .d (.int .i64 (d.begun.err true [x]))), (13, .d (.bool (d.begun.err true [x] != 0)))] ?_
   refine .if' (d.begun.err true [x] != 0) (G32 19 [true]) (G32 19 [false]) (fun h2 => ?_) (fun h2 => ?_)
   · simp only [bsX] at h2
     refine .sg0 5 [0, 1, 4] (G32 24 [true]) [(4, .d (.int .i64 (d.begun.err true [x])))] ?_
     refine .raises [1, 3, 4, 5] ?_
     refine .kp [4] ?_
     refine .su [0, 1, 2, 3, 4, 5] (mk 29 [(4, .d (.int .i64 (d.begun.err true [x])))]) (SP 1 2 d.begun true []) ?_
     refine .rt F32 (V.d (D.int IntKind.i64 (d.begun.err true [x]))) ?_
     simp_all [hC, SD, dirD, Dk.syncD]
   · simp only [bsX] at h2
     omega
 | some k =>
   have q6 := q5 k hl
   have q61 := q6.1
   have hlt : k.toNat < d.begun.files.length := by omega
   obtain ⟨f, hf⟩ := get_some (l := d.begun.files) (i := k.toNat) hlt
   have hm := hk.fs f (List.mem_of_getElem? hf)
   have hfile : d.begun.file (d.begun.num x) = f := by simp [Dk.file, Dk.num, hl, List.getD_eq_getElem?_getD, hf]
   have hnum : d.begun.num x = k.toNat := by simp [Dk.num, hl]
   refine .sg 10 [0, 1, 4, 8, 9, 10] (G32 10 []) [(4, .d (.int .i64 0)), (8, .ptr 0 0 0), (9, .d (.str x)), (10, .row 6)] [(6, .row 1 [D.str x] false)] ?_
   refine .ca [0, 1, 2, 3, 4, 5, 6] (G32 11 []) F64 (@spec_64b (d) (N) (by assumption) (true) ([x]) ([D.str x]) (by assumption) (by simp; done) (by simp <;> omega) (by simp; done) (by assumption)) ?_
   rintro r0 s0 ⟨rfl, rfl⟩
   refine ⟨_, rfl, ?_⟩
   refine .sg0 7 [0, 1, 4, 5, 13] (G32 18 []) [(5, .d (.int .i64 (d.begun.err true [x]))), (13, .d (.bool (d.begun.err true [x] != 0)))] ?_
   refine .if' (d.begun.err true [x] != 0) (G32 19 [true]) (G32 19 [false]) (fun h2 => ?_) (fun h2 => ?_)
   · simp only [bsX] at h2
     refine .sg0 5 [0, 1, 4] (G32 24 [true]) [(4, .d (.int .i64 (d.begun.err true [x])))] ?_
     refine .raises [1, 3, 4, 5] ?_
     refine .kp [4] ?_
     refine .su [0, 1, 2, 3, 4, 5] (mk 29 [(4, .d (.int .i64 (d.begun.err true [x])))]) (SP 1 2 d.begun true []) ?_
     refine .rt F32 (V.d (D.int IntKind.i64 (d.begun.err true [x]))) ?_
     simp_all [hC, SD, dirD, Dk.syncD, fileD, bsD, i64]
   · simp only [bsX] at h2
     refine .sg0 5 [0, 1, 4, 16, 17] (G32 24 [false]) [(16, .ptr 0 0 0), (17, .d (.str x))] ?_
     refine .ca [0, 1, 2, 3, 4, 5] (G32 25 [false]) F65 (@spec_65 (d.begun) (x) (some k) (by assumption) (by assumption) (by assumption) (by omega) (by assumption)) ?_
     rintro r2 s2 ⟨rfl, rfl⟩
     refine ⟨_, rfl, ?_⟩
     refine .sg0 12 [4, 6, 21, 22, 23, 24] (G32 37 [false]) [(6, .ptr 1 k.toNat 0), (21, .ptr 1 k.toNat 0), (22, .ptr 1 k.toNat 0), (23, .ptr 1 k.toNat 0), (24, .ptr 1 k.toNat 0)] ?_
     refine .ld (G32 38 [false]) (xs := map fileD d.begun.files) (map_get hf) ?_
     refine .sg0 3 [4, 6, 21, 22, 23, 24, 25, 26, 27, 28] (G32 41 [false]) [(26, .d (.int .i64 (↑(map u8 f.fst).length : Int))), (27, .ptr 1 k.toNat 0), (28, .ptr 1 k.toNat 1)] ?_
     simp only [List.length_map]
     refine .op' (G32 42 [false]) (stRow_ok (t := 3) (x := (.tmp 28)) (y := (.tmp 26)) (l := 1) (i := k.toNat) (s := 1) (sz := 2) (xs := map fileD d.begun.files) (mv := false) (d := fileD f) (d' := D.agg [D.list 1 (map u8 f.fst), D.int IntKind.i64 (↑f.fst.length : Int)]) (by kernel_rfl) (by kernel_rfl) (by kernel_rfl) (map_get hf) (by kernel_rfl)) ?_
     refine .sg0 5 [4] (G32 47 [false]) [] ?_
     refine .raises [1, 3, 4, 5] ?_
     refine .kp [4] ?_
     refine .su [0, 1, 2, 3, 4, 5] (mk 29 [(4, .d (.int .i64 0))]) [.cells (hC 1 2 5 d.begun), .row 2 ((map fileD d.begun.files).set k.toNat (D.agg [D.list 1 (map u8 f.fst), D.int IntKind.i64 (↑f.fst.length : Int)])) true, .cells [.row 3, .row 4], .row 1 (map strD d.begun.nk) true, .row 1 (map intD d.begun.nv) true, .row 3 (map chD d.begun.ch) true] ?_
     refine .rt F32 (V.d (D.int IntKind.i64 0)) ?_
     simp_all [hC, SD, dirD, Dk.syncD, fileD, bsD, i64]
theorem spec_34 (d : Dk) (N : Nat) (h : d.Ok N) (hN : N + 2 ≤ 50000) (x y : ByteArray) (hx : x.size < 1000000000) (hy : y.size < 1000000000) :
   CallsA Try.prog 34 [.ptr 0 0 0, .d (.str x), .d (.str y)] (SD d false) fun r σ' => r = .ret (.d (.int .i64 (d.begun.err true [x, y]))) ∧ σ' = SD (d.begun.renameD x y) true := by
 refine CallsA.start F34 (tm := mk (Try.f34.ntmps) [(0, .ptr 0 0 0), (1, .d (.str x)), (2, .d (.str y))]) (by kernel_rfl) ?_
 have hk := Dk.begun_ok h (by omega : N + 1 ≤ 50000)
 have q1 := hk.nr
 have q2 := hk.nl
 have q3 := hk.nkl
 have q4 := hk.nb
 have q7 := hk.chl
 have q8 := hk.fl
 have q5 : ∀ k, look d.begun.nk d.begun.nv x = some k → 0 ≤ k ∧ k < d.begun.files.length := fun k hk' => hk.nn k (look_mem hk')
 have hn1 : [D.str x, D.str y] = List.map strD [x, y] := rfl
 cases hl : look d.begun.nk d.begun.nv x with
 | none =>
   have he : d.begun.err true [x, y] ≠ 0 := by
     unfold Dk.err
     split
     · simp
     · split <;> simp [hl]
   refine .sg 11 [0, 1, 2, 6, 10, 11, 12, 13] (G34 11 []) [(6, .d (.int .i64 0)), (10, .ptr 0 0 0), (11, .d (.str x)), (12, .d (.str y)), (13, .row 6)] [(6, .row 1 [D.str x, D.str y] false)] ?_
   refine .ca [0, 1, 2, 3, 4, 5, 6] (G34 12 []) F64 (@spec_64b (d) (N) (by assumption) (true) ([x, y]) ([D.str x, D.str y]) (by assumption) (by simp; done) (by simp <;> omega) (by simp; done) (by assumption)) ?_
   rintro r0 s0 ⟨rfl, rfl⟩
   refine ⟨_, rfl, ?_⟩
   refine .sg0 7 [0, 1, 2, 6, 7, 16] (G34 19 []) [(7, .d (.int .i64 (d.begun.err true [x, y]))), (16, .d (.bool (d.begun.err true [x, y] != 0)))] ?_
   refine .if' (d.begun.err true [x, y] != 0) (G34 20 [true]) (G34 20 [false]) (fun h2 => ?_) (fun h2 => ?_)
   · simp only [bsX] at h2
     refine .sg0 5 [0, 1, 2, 6] (G34 25 [true]) [(6, .d (.int .i64 (d.begun.err true [x, y])))] ?_
     refine .raises [1, 3, 4, 5] ?_
     refine .kp [6] ?_
     refine .su [0, 1, 2, 3, 4, 5] (mk 33 [(6, .d (.int .i64 (d.begun.err true [x, y])))]) (SP 1 2 d.begun true []) ?_
     refine .rt F34 (V.d (D.int IntKind.i64 (d.begun.err true [x, y]))) ?_
     simp_all [hC, SD, dirD, Dk.renameD]
   · simp only [bsX] at h2
     omega
 | some k =>
   have q6 := q5 k hl
   have q61 := q6.1
   have hlt : k.toNat < d.begun.files.length := by omega
   obtain ⟨f, hf⟩ := get_some (l := d.begun.files) (i := k.toNat) hlt
   have hm := hk.fs f (List.mem_of_getElem? hf)
   have hfile : d.begun.file (d.begun.num x) = f := by simp [Dk.file, Dk.num, hl, List.getD_eq_getElem?_getD, hf]
   have hnum : d.begun.num x = k.toNat := by simp [Dk.num, hl]
   refine .sg 11 [0, 1, 2, 6, 10, 11, 12, 13] (G34 11 []) [(6, .d (.int .i64 0)), (10, .ptr 0 0 0), (11, .d (.str x)), (12, .d (.str y)), (13, .row 6)] [(6, .row 1 [D.str x, D.str y] false)] ?_
   refine .ca [0, 1, 2, 3, 4, 5, 6] (G34 12 []) F64 (@spec_64b (d) (N) (by assumption) (true) ([x, y]) ([D.str x, D.str y]) (by assumption) (by simp; done) (by simp <;> omega) (by simp; done) (by assumption)) ?_
   rintro r0 s0 ⟨rfl, rfl⟩
   refine ⟨_, rfl, ?_⟩
   refine .sg0 7 [0, 1, 2, 6, 7, 16] (G34 19 []) [(7, .d (.int .i64 (d.begun.err true [x, y]))), (16, .d (.bool (d.begun.err true [x, y] != 0)))] ?_
   refine .if' (d.begun.err true [x, y] != 0) (G34 20 [true]) (G34 20 [false]) (fun h2 => ?_) (fun h2 => ?_)
   · simp only [bsX] at h2
     refine .sg0 5 [0, 1, 2, 6] (G34 25 [true]) [(6, .d (.int .i64 (d.begun.err true [x, y])))] ?_
     refine .raises [1, 3, 4, 5] ?_
     refine .kp [6] ?_
     refine .su [0, 1, 2, 3, 4, 5] (mk 33 [(6, .d (.int .i64 (d.begun.err true [x, y])))]) (SP 1 2 d.begun true []) ?_
     refine .rt F34 (V.d (D.int IntKind.i64 (d.begun.err true [x, y]))) ?_
     simp_all [hC, SD, dirD, Dk.renameD, Dk.turn, chD]
   · simp only [bsX] at h2
     refine .sg0 8 [0, 1, 2, 6, 19, 20, 21, 22, 23] (G34 28 [false]) [(19, .ptr 0 0 0), (20, .ptr 0 0 0), (21, .ptr 0 0 1), (22, .ptr 2 0 0), (23, .d (.str x))] ?_
     refine .ca [2, 3, 4] (G34 29 [false]) F70 (@spec_70 (d.begun.nk) (x) (d.begun.nv) (by assumption) (by omega) (by assumption)) ?_
     rintro r2 s2 ⟨rfl, rfl⟩
     refine ⟨_, rfl, ?_⟩
     refine .sg0 13 [0, 1, 2, 6, 8, 27, 28, 29, 30, 31] (G34 42 [false]) [(8, .d (.int .i64 ((look d.begun.nk d.begun.nv x).getD 0))), (27, .ptr 0 0 0), (28, .d (.str x)), (29, .d (.str y)), (30, .d (.int .i64 ((look d.begun.nk d.begun.nv x).getD 0))), (31, .d (.agg [D.str x, D.str y, D.int IntKind.i64 ((look d.begun.nk d.begun.nv x).getD 0)]))] ?_
     refine .ca [0, 1, 2, 3, 4, 5] (G34 43 [false]) F67 (@spec_67 (map fileD d.begun.files) (D.agg [D.list 1 (map strD d.begun.sk), D.list 1 (map intD d.begun.sv)]) (map chD d.begun.ch) (d.begun.nk) (d.begun.nv) (d.begun.quota) (d.begun.stop) (d.begun.calls) (d.begun.full) (d.begun.off) (x) (y) ((look d.begun.nk d.begun.nv x).getD 0) (by assumption) (by assumption) (by omega) (by simp <;> omega)) ?_
     rintro r3 s3 ⟨rfl, rfl⟩
     refine ⟨_, rfl, ?_⟩
     refine .sg0 5 [6] (G34 48 [false]) [] ?_
     refine .raises [1] ?_
     refine .kp [6] ?_
     refine .su [0, 1, 2, 3, 4, 5] (mk 33 [(6, .d (.int .i64 0))]) [.cells (hC 1 2 5 d.begun), .row 2 (map fileD d.begun.files) true, .cells [.row 3, .row 4], .row 1 (map strD (kapply d.begun.nk d.begun.nv x y ((look d.begun.nk d.begun.nv x).getD 0)).fst) true, .row 1 (map intD (kapply d.begun.nk d.begun.nv x y ((look d.begun.nk d.begun.nv x).getD 0)).snd) true, .row 3 (map chD d.begun.ch ++ [D.agg [D.str x, D.str y, D.int IntKind.i64 ((look d.begun.nk d.begun.nv x).getD 0)]]) true] ?_
     refine .rt F34 (V.d (D.int IntKind.i64 0)) ?_
     simp_all [hC, SD, dirD, Dk.renameD, Dk.turn, chD]
theorem spec_78 (d : Dk) (N : Nat) (h : d.Ok N) (hN : N + 2 ≤ 50000) (x : ByteArray) (hx : x.size < 1000000000) :
   CallsA Try.prog 78 [.ptr 0 0 0, .d (.str x)] (SD d false) fun r σ' => r = .ret (.d (.int .i64 (d.begun.err true [x]))) ∧ σ' = SD (d.begun.removeD x) true := by
 refine CallsA.start F78 (tm := mk (Try.f78.ntmps) [(0, .ptr 0 0 0), (1, .d (.str x))]) (by kernel_rfl) ?_
 have hk := Dk.begun_ok h (by omega : N + 1 ≤ 50000)
 have q1 := hk.nr
 have q2 := hk.nl
 have q3 := hk.nkl
 have q4 := hk.nb
 have q7 := hk.chl
 have q8 := hk.fl
 have q5 : ∀ k, look d.begun.nk d.begun.nv x = some k → 0 ≤ k ∧ k < d.begun.files.length := fun k hk' => hk.nn k (look_mem hk')
 have hn1 : [D.str x] = List.map strD [x] := rfl
 cases hl : look d.begun.nk d.begun.nv x with
 | none =>
   have he : d.begun.err true [x] ≠ 0 := by
     unfold Dk.err
     split
     · simp
     · split <;> simp [hl]
   refine .sg 10 [0, 1, 4, 6, 7, 8] (G78 10 []) [(4, .d (.int .i64 0)), (6, .ptr 0 0 0), (7, .d (.str x)), (8, .row 6)] [(6, .row 1 [D.str x] false)] ?_
   refine .ca [0, 1, 2, 3, 4, 5, 6] (G78 11 []) F64 (@spec_64b (d) (N) (by assumption) (true) ([x]) ([D.str x]) (by assumption) (by simp; done) (by simp <;> omega) (by simp; done) (by assumption)) ?_
   rintro r0 s0 ⟨rfl, rfl⟩
   refine ⟨_, rfl, ?_⟩
   refine .sg0 7 [0, 1, 4, 5, 11] (G78 18 []) [(5, .d (.int .i64 (d.begun.err true [x]))), (11, .d (.bool (d.begun.err true [x] != 0)))] ?_
   refine .if' (d.begun.err true [x] != 0) (G78 19 [true]) (G78 19 [false]) (fun h2 => ?_) (fun h2 => ?_)
   · simp only [bsX] at h2
     refine .sg0 5 [0, 1, 4] (G78 24 [true]) [(4, .d (.int .i64 (d.begun.err true [x])))] ?_
     refine .raises [1, 3, 4, 5] ?_
     refine .kp [4] ?_
     refine .su [0, 1, 2, 3, 4, 5] (mk 17 [(4, .d (.int .i64 (d.begun.err true [x])))]) (SP 1 2 d.begun true []) ?_
     refine .rt F78 (V.d (D.int IntKind.i64 (d.begun.err true [x]))) ?_
     simp_all [hC, SD, dirD, Dk.removeD]
   · simp only [bsX] at h2
     omega
 | some k =>
   have q6 := q5 k hl
   have q61 := q6.1
   have hlt : k.toNat < d.begun.files.length := by omega
   obtain ⟨f, hf⟩ := get_some (l := d.begun.files) (i := k.toNat) hlt
   have hm := hk.fs f (List.mem_of_getElem? hf)
   have hfile : d.begun.file (d.begun.num x) = f := by simp [Dk.file, Dk.num, hl, List.getD_eq_getElem?_getD, hf]
   have hnum : d.begun.num x = k.toNat := by simp [Dk.num, hl]
   refine .sg 10 [0, 1, 4, 6, 7, 8] (G78 10 []) [(4, .d (.int .i64 0)), (6, .ptr 0 0 0), (7, .d (.str x)), (8, .row 6)] [(6, .row 1 [D.str x] false)] ?_
   refine .ca [0, 1, 2, 3, 4, 5, 6] (G78 11 []) F64 (@spec_64b (d) (N) (by assumption) (true) ([x]) ([D.str x]) (by assumption) (by simp; done) (by simp <;> omega) (by simp; done) (by assumption)) ?_
   rintro r0 s0 ⟨rfl, rfl⟩
   refine ⟨_, rfl, ?_⟩
   refine .sg0 7 [0, 1, 4, 5, 11] (G78 18 []) [(5, .d (.int .i64 (d.begun.err true [x]))), (11, .d (.bool (d.begun.err true [x] != 0)))] ?_
   refine .if' (d.begun.err true [x] != 0) (G78 19 [true]) (G78 19 [false]) (fun h2 => ?_) (fun h2 => ?_)
   · simp only [bsX] at h2
     refine .sg0 5 [0, 1, 4] (G78 24 [true]) [(4, .d (.int .i64 (d.begun.err true [x])))] ?_
     refine .raises [1, 3, 4, 5] ?_
     refine .kp [4] ?_
     refine .su [0, 1, 2, 3, 4, 5] (mk 17 [(4, .d (.int .i64 (d.begun.err true [x])))]) (SP 1 2 d.begun true []) ?_
     refine .rt F78 (V.d (D.int IntKind.i64 (d.begun.err true [x]))) ?_
     simp_all [hC, SD, dirD, Dk.removeD, Dk.turn, chD, noName]
   · simp only [bsX] at h2
     refine .sg0 6 [0, 1, 4, 13, 14, 15] (G78 25 [false]) [(13, .ptr 0 0 0), (14, .d (.str x)), (15, .d (.agg [D.str x, D.str (ByteArray.mk #[]), D.int IntKind.i64 0]))] ?_
     refine .ca [0, 1, 2, 3, 4, 5] (G78 26 [false]) F67 (@spec_67 (map fileD d.begun.files) (D.agg [D.list 1 (map strD d.begun.sk), D.list 1 (map intD d.begun.sv)]) (map chD d.begun.ch) (d.begun.nk) (d.begun.nv) (d.begun.quota) (d.begun.stop) (d.begun.calls) (d.begun.full) (d.begun.off) (x) (ByteArray.mk #[]) (0) (by assumption) (by assumption) (by omega) (by simp <;> omega)) ?_
     rintro r2 s2 ⟨rfl, rfl⟩
     refine ⟨_, rfl, ?_⟩
     refine .sg0 5 [4] (G78 31 [false]) [] ?_
     refine .raises [1] ?_
     refine .kp [4] ?_
     refine .su [0, 1, 2, 3, 4, 5] (mk 17 [(4, .d (.int .i64 0))]) [.cells (hC 1 2 5 d.begun), .row 2 (map fileD d.begun.files) true, .cells [.row 3, .row 4], .row 1 (map strD (kapply d.begun.nk d.begun.nv x (ByteArray.mk #[]) 0).fst) true, .row 1 (map intD (kapply d.begun.nk d.begun.nv x (ByteArray.mk #[]) 0).snd) true, .row 3 (map chD d.begun.ch ++ [D.agg [D.str x, D.str (ByteArray.mk #[]), D.int IntKind.i64 0]]) true] ?_
     refine .rt F78 (V.d (D.int IntKind.i64 0)) ?_
     simp_all [hC, SD, dirD, Dk.removeD, Dk.turn, chD, noName]
theorem spec_97e (x : D) : CallsA Try.prog 97 [.ep 2 x 0, .fn (.func 98) [] []] [] fun r σ' => r = .ret (.fn (.func 109) [] [.ptr 0 0 0, .ptr 1 0 0]) ∧ σ' = [.cells [.ep 2 x 0], .cells [.fn (.func 98) [] []]] := by
 refine CallsA.start F97 (tm := mk (Try.f97.ntmps) [(0, .ep 2 x 0), (1, .fn (.func 98) [] [])]) (by kernel_rfl) ?_
 refine .sge 11 [4] (cgo 11 [] [.code B97]) ?_
 refine .rt F97 (V.fn (Fn.func 109) [] [V.ptr 0 0 0, V.ptr 1 0 0]) ?_
 exact ⟨rfl, by kernel_rfl⟩
theorem spec_72e (x : D) : CallsA Try.prog 72 [.ep 2 x 0] [] fun r σ' => r = .ret (.fn (.func 109) [] [.ptr 0 0 0, .ptr 1 0 0]) ∧ σ' = [.cells [.ep 2 x 0], .cells [.fn (.func 98) [] []]] := by
 refine CallsA.start F72 (tm := mk (Try.f72.ntmps) [(0, .ep 2 x 0)]) (by kernel_rfl) ?_
 refine .sge 7 [0, 2, 3] (G72 7 []) ?_
 refine .ca [] (G72 8 []) F97 (@spec_97e (x)) ?_
 rintro r0 s0 ⟨rfl, rfl⟩
 refine ⟨_, rfl, ?_⟩
 refine .sge 2 [2] (cgo 10 [] [.code B72]) ?_
 refine .rt F72 (V.fn (Fn.func 109) [] [V.ptr 0 0 0, V.ptr 1 0 0]) ?_
 exact ⟨rfl, by kernel_rfl⟩
noncomputable def S69e (ks : List ByteArray) (V2 : List Int) (i : Nat) (st : LoopState) : Store :=
  [.cells [.row 4, .row 5], .cells [.ptr 0 0 0], .cells [.ep 2 (dirD ks V2) 0], .cells [.fn (.func 98) [] []], .row 1 ((ks.take i).map strD) true, .row 1 ((V2.take i).map intD) true, .defd, lp (G69 18 []) 69 (mk 17 [(2, V.d (D.raw (Value.pointer none))), (3, V.ptr 1 0 0), (9, V.fn (Fn.func 109) [] [V.ptr 2 0 0, V.ptr 3 0 0])]) st]
theorem body69e (ks : List ByteArray) (V2 : List Int) (hr : Rising ks) (hl : ks.length < 60000) (hv : V2.length = ks.length) (i : Nat) (x : ByteArray) (v : Int) (hx : ks[i]? = some x) (hy : V2[i]? = some v) :
  AW Try.prog 69 (some 7) 8 R69 (mk 17 [(2, V.d (D.raw (Value.pointer none))), (3, V.ptr 1 0 0), (9, V.fn (Fn.func 109) [] [V.ptr 2 0 0, V.ptr 3 0 0]), (10, .d (.str x)), (11, .d (.int .i64 v))]) (S69e ks V2 i .ready) [] fun a σ' => a = .ret (.d (.bool true)) ∧ σ' = S69e ks V2 (i + 1) .ready := by
 refine .at (T' := cgo 0 [] R69) rfl ?_
 have hi := (List.getElem?_eq_some_iff.1 hx).1
 have hk : kput (ks.take i) (V2.take i) x v = (ks.take (i + 1), V2.take (i + 1)) := by
  obtain ⟨_, rfl⟩ := List.getElem?_eq_some_iff.1 hx
  obtain ⟨_, rfl⟩ := List.getElem?_eq_some_iff.1 hy
  exact kput_next hr hv i hi
 have hr2 : Rising (ks.take i) := List.Pairwise.sublist (List.take_sublist _ _) hr
 have hl2 : (ks.take i).length < 1000000 := by simp; omega
 have hv2 : (V2.take i).length = (ks.take i).length := by simp [hv]
 refine .sg0 7 [2, 3, 4, 5, 9, 10, 11] (cgo 7 [] R69) [(4, .d (.str x)), (5, .d (.int .i64 v))] ?_
 refine .beginL (T0 := cgo 18 [] [Item.code B69]) (fn := 69) (tml := (mk 17 [(2, V.d (D.raw (Value.pointer none))), (3, V.ptr 1 0 0), (9, V.fn (Fn.func 109) [] [V.ptr 2 0 0, V.ptr 3 0 0])])) (by kernel_rfl) (T' := cgo 8 [] R69) (by kernel_rfl) (σ' := [.cells [.row 4, .row 5], .cells [.ptr 0 0 0], .cells [.ep 2 (D.agg [D.list 1 (map strD ks), D.list 1 (map intD V2)]) 0], .cells [.fn (Fn.func 98) [] []], .row 1 (map strD (List.take i ks)) true, .row 1 (map intD (List.take i V2)) true, .defd, lp (G69 18 []) 69 (mk 17 [(2, .d (.raw (Value.pointer none))), (3, .ptr 1 0 0), (9, .fn (Fn.func 109) [] [.ptr 2 0 0, .ptr 3 0 0])]) LoopState.busy]) (by kernel_rfl) (by kernel_rfl) ?_
 refine .sg0 5 [2, 3, 4, 5, 12, 13, 14] (cgo 13 [] R69) [(12, .ptr 0 0 0), (13, .d (.str x)), (14, .d (.int .i64 v))] ?_
 refine .ca [0, 4, 5] (cgo 14 [] R69) F76 (@spec_76 (List.take i ks) (x) (List.take i V2) (v) (by assumption) (by assumption) (by assumption)) ?_
 rintro r0 s0 ⟨rfl, rfl⟩
 refine ⟨_, rfl, ?_⟩
 refine .sg 2 [2] (cgo 16 [] R69) [] [(7, lp (G69 18 []) 69 (mk 17 [(2, .d (.raw (Value.pointer none))), (3, .ptr 1 0 0), (9, .fn (Fn.func 109) [] [.ptr 2 0 0, .ptr 3 0 0])]) LoopState.busy)] ?_
 refine .roundEndL (T0 := cgo 18 [] [Item.code B69]) (fn := 69) (tml := (mk 17 [(2, V.d (D.raw (Value.pointer none))), (3, V.ptr 1 0 0), (9, V.fn (Fn.func 109) [] [V.ptr 2 0 0, V.ptr 3 0 0])])) (st := LoopState.busy) (by kernel_rfl) (by kernel_rfl) (σ' := [.cells [.row 4, .row 5], .cells [.ptr 0 0 0], .cells [.ep 2 (D.agg [D.list 1 (map strD ks), D.list 1 (map intD V2)]) 0], .cells [.fn (Fn.func 98) [] []], .row 1 (map strD (kput (List.take i ks) (List.take i V2) x v).fst) true, .row 1 (map intD (kput (List.take i ks) (List.take i V2) x v).snd) true, .defd, lp (G69 18 []) 69 (mk 17 [(2, .d (.raw (Value.pointer none))), (3, .ptr 1 0 0), (9, .fn (Fn.func 109) [] [.ptr 2 0 0, .ptr 3 0 0])]) LoopState.ready]) (by kernel_rfl) ?_
 simp_all [S69e, dirD]
theorem lo69e (ks : List ByteArray) (V2 : List Int) (hr : Rising ks) (hl : ks.length < 60000) (hv : V2.length = ks.length) : ∀ (m i : Nat), i + m = (ks).length →
    AW Try.prog 109 none 8 (G109 24 [false]) (mk 43 [(0, V.yield 7), (5, V.d (.list 1 ((ks).map strD))), (6, V.d (.list 1 ((V2).map intD))), (27, V.d (.int .i64 ((ks).length : Nat))), (28, V.d (.int .i64 (i : Nat)))]) (S69e ks V2 i .ready) [] fun r σ' => r = .ret (.tuple []) ∧ σ' = S69e ks V2 (ks).length .ready := by
  intro m
  induction m with
  | zero =>
    intro i hi
    have hi : i = (ks).length := by omega
    subst hi
    refine .sge 5 [0, 5, 6, 27, 28, 29] (G109 29 [false]) ?_
    refine .if' (decide ((↑ks.length : Int) < (↑ks.length : Int))) (G109 30 [false, true]) (G109 30 [false, false]) (fun h1 => ?_) (fun h1 => ?_)
    · simp only [bsX] at h1
      omega
    · simp only [bsX] at h1
      refine .sge 1 [] (cgo 31 [false, false] [.code B109]) ?_
      refine .rt F109 (V.tuple []) ?_
      exact ⟨rfl, by kernel_rfl⟩
  | succ m ih =>
    intro i hi
    obtain ⟨x, hx⟩ := get_some (l := ks) (i := i) (by omega)
    obtain ⟨v, hy⟩ := get_some (l := V2) (i := i) (by omega)
    have hYi := body69e ks V2 hr hl hv i x v hx hy
    refine .sge 5 [0, 5, 6, 27, 28, 29] (G109 29 [false]) ?_
    refine .if' (decide ((↑i : Int) < (↑ks.length : Int))) (G109 30 [false, true]) (G109 30 [false, false]) (fun h1 => ?_) (fun h1 => ?_)
    · simp only [bsX] at h1
      refine .sge 9 [0, 5, 6, 7, 27, 28, 29, 30] (G109 39 [false, true]) ?_
      refine .dr (G109 40 [false, true]) [(31, .yield 7), (32, .d (.list 1 (map strD ks))), (33, .d (.int .i64 (↑i : Int))), (34, .ep 1 (D.str x) 0), (35, .d (.str x)), (36, .d (.list 1 (map intD V2))), (37, .d (.int .i64 (↑i : Int))), (38, .ep 1 (D.int IntKind.i64 v) 0), (39, .d (.int .i64 v)), (40, .d (.bool true)), (41, .d (.bool false))] [(4, .row 1 (map strD (List.take (i + 1) ks)) true), (5, .row 1 (map intD (List.take (i + 1) V2)) true)] (fun kz L hL => ?_) ?_
      · refine ⟨[fO 7, nF, nF, nF, nF, nF, nF, nF, nF, ⟨[], [], [], [], [], [], false, true⟩, nF], run_amongF hL _ [] [0, 1, 2, 3, 4, 5, 6, 7, 8, 9, 10] (by intro p hp; cases hp) (by kernel_rfl) ?_⟩
        refine Run.ap [0, 1, 2] [(31, .yield 7), (32, .d (.list 1 (map strD ks))), (33, .d (.int .i64 (↑i : Int)))] [] ?_
        refine Run.lk 3 (.ep 1 (D.str x) 0) [(.tmp 32), (.tmp 33)] (fun tm' σ2 hv hr => ixData_ok (t := 66) (x := (.tmp 32)) (i := (.tmp 33)) (k := IntKind.i64) (n := (↑i : Int)) (sz := 1) (xs := map strD ks) (d := strD x) (by kernel_rfl) (evl hv) (evv hv) (by kernel_rfl) (by omega) (map_get hx)) ?_
        refine Run.ap [4, 5, 6] [(35, .d (.str x)), (36, .d (.list 1 (map intD V2))), (37, .d (.int .i64 (↑i : Int)))] [] ?_
        refine Run.lk 7 (.ep 1 (D.int IntKind.i64 v) 0) [(.tmp 36), (.tmp 37)] (fun tm' σ2 hv hr => ixData_ok (t := 46) (x := (.tmp 36)) (i := (.tmp 37)) (k := IntKind.i64) (n := (↑i : Int)) (sz := 1) (xs := map intD V2) (d := intD v) (by kernel_rfl) (evl hv) (evv hv) (by kernel_rfl) (by omega) (map_get hy)) ?_
        refine Run.ap [8] [(39, .d (.int .i64 v))] [] ?_
        refine Run.yi 9 (cgo 18 [] [.code B69]) hYi ?_
        exact Run.fin
      refine .sg0 7 [0, 5, 6, 27, 28] (cgo 47 [false, true, false] [.code B109]) [(28, .d (.int .i64 (IntKind.i64.wrap ((↑i : Int) + 1))))] ?_
      simp (disch := omega) only [bsW]
      exact .seg 1 [0, 5, 6, 27, 28] (by kernel_rfl) (ih (i + 1) (by omega))
    · simp only [bsX] at h1
      omega
theorem it69e (ks : List ByteArray) (V2 : List Int) (hr : Rising ks) (hl : ks.length < 60000) (hv : V2.length = ks.length) : CallsA Try.prog 109 [.yield 7, .ptr 2 0 0, .ptr 3 0 0] (S69e ks V2 0 .ready) fun r σ' => r = .ret (.tuple []) ∧ σ' = S69e ks V2 (ks).length .ready := by
 refine CallsA.start F109 (tm := mk (Try.f109.ntmps) [(0, .yield 7), (1, .ptr 2 0 0), (2, .ptr 3 0 0)]) (by kernel_rfl) ?_
 refine .sg0 11 [0, 1, 2, 10] (G109 11 [false]) [(10, .fn (Fn.func 98) [] [])] ?_
 refine .cd (G109 12 [false]) F98 (@spec_98) ?_
 refine .sg0 3 [0, 1, 4] (G109 15 [false]) [(4, .d (.int .i64 0))] ?_
 refine .dr (G109 16 [false]) [(5, .d (.list 1 (List.drop 0 (List.take (map strD ks).length (map strD ks))))), (6, .d (.list 1 (List.drop 0 (List.take (map intD V2).length (map intD V2))))), (12, .ep 2 (D.agg [D.list 1 (map strD ks), D.list 1 (map intD V2)]) 0), (13, .ep 2 (D.agg [D.list 1 (map strD ks), D.list 1 (map intD V2)]) 0), (14, .ep 2 (D.agg [D.list 1 (map strD ks), D.list 1 (map intD V2)]) 0), (15, .d (.list 1 (map strD ks))), (16, .d (.int .i64 0)), (17, .d (.list 1 (List.drop 0 (List.take (map strD ks).length (map strD ks))))), (18, .d (.list 1 (List.drop 0 (List.take (map strD ks).length (map strD ks))))), (19, .ep 2 (D.agg [D.list 1 (map strD ks), D.list 1 (map intD V2)]) 0), (20, .ep 2 (D.agg [D.list 1 (map strD ks), D.list 1 (map intD V2)]) 0), (21, .ep 2 (D.agg [D.list 1 (map strD ks), D.list 1 (map intD V2)]) 1), (22, .d (.list 1 (map intD V2))), (23, .d (.int .i64 0)), (24, .d (.list 1 (List.drop 0 (List.take (map intD V2).length (map intD V2))))), (25, .d (.list 1 (List.drop 0 (List.take (map intD V2).length (map intD V2)))))] [] (fun kz L hL => ?_) ?_
 · refine ⟨[fR 2, nF, nF, nF, nF, nF, nF, fR 2, nF, nF, nF, nF, nF, nF, nF, nF], run_amongF hL _ [] [0, 1, 2, 3, 4, 5, 7, 8, 9, 10, 11, 12, 6, 13, 14, 15] (by intro p hp; cases hp) (by kernel_rfl) ?_⟩
   refine Run.ap [0, 1, 2, 3, 4] [(12, .ep 2 (D.agg [D.list 1 (map strD ks), D.list 1 (map intD V2)]) 0), (13, .ep 2 (D.agg [D.list 1 (map strD ks), D.list 1 (map intD V2)]) 0), (14, .ep 2 (D.agg [D.list 1 (map strD ks), D.list 1 (map intD V2)]) 0), (15, .d (.list 1 (map strD ks))), (16, .d (.int .i64 0))] [] ?_
   refine Run.lk 5 (.d (.list 1 (List.drop 0 (List.take (map strD ks).length (map strD ks))))) [(.tmp 15), (.tmp 16)] (fun tm' σ2 hv hr => slData_ok (t := 66) (x := (.tmp 15)) (lo := (some (.tmp 16))) (hi := none) (sz := 1) (xs := map strD ks) (0) ((map strD ks).length) (by kernel_rfl) (evl hv) (by kernel_rfl) (bnd_some (k := IntKind.i64) (i := 0) (evv hv) (by omega) (by rfl)) rfl (by omega) (by omega)) ?_
   refine Run.ap [7, 8, 9, 10, 11] [(19, .ep 2 (D.agg [D.list 1 (map strD ks), D.list 1 (map intD V2)]) 0), (20, .ep 2 (D.agg [D.list 1 (map strD ks), D.list 1 (map intD V2)]) 0), (21, .ep 2 (D.agg [D.list 1 (map strD ks), D.list 1 (map intD V2)]) 1), (22, .d (.list 1 (map intD V2))), (23, .d (.int .i64 0))] [] ?_
   refine Run.lk 12 (.d (.list 1 (List.drop 0 (List.take (map intD V2).length (map intD V2))))) [(.tmp 22), (.tmp 23)] (fun tm' σ2 hv hr => slData_ok (t := 46) (x := (.tmp 22)) (lo := (some (.tmp 23))) (hi := none) (sz := 1) (xs := map intD V2) (0) ((map intD V2).length) (by kernel_rfl) (evl hv) (by kernel_rfl) (bnd_some (k := IntKind.i64) (i := 0) (evv hv) (by omega) (by rfl)) rfl (by omega) (by omega)) ?_
   refine Run.one (StepF.data (o := ((drawOf (G109 15 [false]))[6]?).getD default) (v := .d (.list 1 (List.drop 0 (List.take (map strD ks).length (map strD ks))))) (by kernel_rfl) rfl (by kernel_rfl) (by kernel_rfl) (by kernel_rfl) (fun s => sem_data0 (x := (.func 110)) (args := #[(.tmp 17)]) (ts := #[66]) (first := []) (cap := []) (ds := [.d (.list 1 (List.drop 0 (List.take (map strD ks).length (map strD ks))))]) (v := .d (.list 1 (List.drop 0 (List.take (map strD ks).length (map strD ks))))) F110 (@spec_110 (List.drop 0 (List.take (map strD ks).length (map strD ks))) (by simp <;> omega)) (by kernel_rfl) (by kernel_rfl) (by kernel_rfl) (by kernel_rfl) (by kernel_rfl) (by kernel_rfl) _)) ?_
   refine Run.one (StepF.data (o := ((drawOf (G109 15 [false]))[13]?).getD default) (v := .d (.list 1 (List.drop 0 (List.take (map intD V2).length (map intD V2))))) (by kernel_rfl) rfl (by kernel_rfl) (by kernel_rfl) (by kernel_rfl) (fun s => sem_data0 (x := (.func 111)) (args := #[(.tmp 24)]) (ts := #[46]) (first := []) (cap := []) (ds := [.d (.list 1 (List.drop 0 (List.take (map intD V2).length (map intD V2))))]) (v := .d (.list 1 (List.drop 0 (List.take (map intD V2).length (map intD V2))))) F111 (@spec_111 (List.drop 0 (List.take (map intD V2).length (map intD V2))) (by simp <;> omega)) (by kernel_rfl) (by kernel_rfl) (by kernel_rfl) (by kernel_rfl) (by kernel_rfl) (by kernel_rfl) _)) ?_
   exact Run.fin
 refine .seg 7 [0, 5, 6, 27, 28] (T' := cgo 23 [false] [.code B109]) (tm' := mk 43 [(0, .yield 7), (5, .d (.list 1 (List.drop 0 (List.take (map strD ks).length (map strD ks))))), (6, .d (.list 1 (List.drop 0 (List.take (map intD V2).length (map intD V2))))), (27, .d (.int .i64 (↑(List.drop 0 (List.take (map strD ks).length (map strD ks))).length : Int))), (28, .d (.int .i64 0))]) (σ' := [.cells [.row 4, .row 5], .cells [.ptr 0 0 0], .cells [.ep 2 (D.agg [D.list 1 (map strD ks), D.list 1 (map intD V2)]) 0], .cells [.fn (Fn.func 98) [] []], .row 1 [] true, .row 1 [] true, .defd, lp (G69 18 []) 69 (mk 17 [(2, .d (.raw (Value.pointer none))), (3, .ptr 1 0 0), (9, .fn (Fn.func 109) [] [.ptr 2 0 0, .ptr 3 0 0])]) LoopState.ready]) (by kernel_rfl) ?_
 simp only [List.length_map]
 rw [eachM (ks) strD, eachM (V2) intD, List.length_map]
 exact .seg 1 [0, 5, 6, 27, 28] (by kernel_rfl) (lo69e ks V2 hr hl hv (ks).length 0 (by omega))
theorem spec_69e (ks : List ByteArray) (V2 : List Int) (hr : Rising ks) (hl : ks.length < 60000) (hv : V2.length = ks.length) :
  CallsA Try.prog 69 [.ep 2 (dirD ks V2) 0] [] fun r σ' => r = .ret (.ptr 0 0 0) ∧ σ' = [.cells [.row 1, .row 2], .row 1 (ks.map strD) true, .row 1 (V2.map intD) true] := by
 refine CallsA.start F69 (tm := mk (Try.f69.ntmps) [(0, .ep 2 (dirD ks V2) 0)]) (by kernel_rfl) ?_
 refine .sge 15 [0, 2, 3, 8] (G69 15 []) ?_
 refine .ca [] (G69 16 []) F72 (@spec_72e (D.agg [D.list 1 (map strD ks), D.list 1 (map intD V2)])) ?_
 rintro r0 s0 ⟨rfl, rfl⟩
 refine ⟨_, rfl, ?_⟩
 refine .seg 2 [2, 3, 9] (T' := cgo 18 [] [.code B69]) (tm' := mk 17 [(2, .d (.raw (Value.pointer none))), (3, .ptr 1 0 0), (9, .fn (Fn.func 109) [] [.ptr 2 0 0, .ptr 3 0 0])]) (σ' := [.cells [.ex 1 [], .ex 1 []], .cells [.ptr 0 0 0], .cells [.ep 2 (D.agg [D.list 1 (map strD ks), D.list 1 (map intD V2)]) 0], .cells [.fn (Fn.func 98) [] []]]) (by kernel_rfl) ?_
 refine .virtX 0 0 1 rfl rfl ?_
 refine .virtX 0 1 1 rfl rfl ?_
 refine .raises [4, 5] ?_
 refine .rangeH (first := []) (cap := [.ptr 2 0 0, .ptr 3 0 0]) (List.range 8) [.yield 7, .ptr 2 0 0, .ptr 3 0 0] (S69e ks V2 0 .ready) F109 (by kernel_rfl) (T' := cgo 19 [] [Item.code B69]) (by kernel_rfl) (by kernel_rfl) (it69e ks V2 hr hl hv) (by kernel_rfl) (by kernel_rfl) (by refine ⟨rfl, by kernel_rfl, ?_⟩; kernel_rfl) ?_
 rintro r σc' ⟨rfl, rfl⟩
 refine ⟨.tuple [], .ready, (mk 17 [(2, V.d (D.raw (Value.pointer none))), (3, V.ptr 1 0 0), (9, V.fn (Fn.func 109) [] [V.ptr 2 0 0, V.ptr 3 0 0])]), rfPs (G69 18 []), rfAs (G69 18 []), rfBd (G69 18 []), 69, rfl, by simp, by kernel_rfl, ?_⟩
 have e1 : ks.take ks.length = ks := List.take_length
 have e2 : V2.take ks.length = V2 := by rw [← hv]; exact List.take_length
 refine .seg 6 [2] (T' := cgo 25 [] [.code B69]) (tm' := mk 17 [(2, .ptr 0 0 0)]) (σ' := [.cells [.row 4, .row 5], .cells [.ptr 0 0 0], .cells [.ep 2 (D.agg [D.list 1 (map strD ks), D.list 1 (map intD V2)]) 0], .cells [.fn (Fn.func 98) [] []], .row 1 (map strD (List.take ks.length ks)) true, .row 1 (map intD (List.take ks.length V2)) true, .defd, lp (G69 18 []) 69 (mk 17 [(2, .d (.raw (Value.pointer none))), (3, .ptr 1 0 0), (9, .fn (Fn.func 109) [] [.ptr 2 0 0, .ptr 3 0 0])]) LoopState.exhausted]) (by kernel_rfl) ?_
 refine .retX (v := V.ptr 0 0 0) [0, 4, 5] (V.ptr 0 0 0) F69 (by kernel_rfl) ⟨by kernel_rfl, by kernel_rfl⟩ (σ1 := [O.cells [V.row 4, V.row 5], O.cells [V.ptr 0 0 0], O.cells [V.ep 2 (D.agg [D.list 1 (map strD ks), D.list 1 (map intD V2)]) 0], O.cells [V.fn (Fn.func 98) [] []], O.row 1 (map strD (List.take ks.length ks)) true, O.row 1 (map intD (List.take ks.length V2)) true, O.dead, lp (G69 18 []) 69 (mk 17 [(2, V.d (D.raw (Value.pointer none))), (3, V.ptr 1 0 0), (9, V.fn (Fn.func 109) [] [V.ptr 2 0 0, V.ptr 3 0 0])]) LoopState.exhausted]) (by kernel_rfl) (by kernel_rfl) (σ2 := [O.cells [V.row 1, V.row 2], O.row 1 (map strD (List.take ks.length ks)) true, O.row 1 (map intD (List.take ks.length V2)) true]) ⟨rfl, rfl, by kernel_rfl⟩ (by kernel_rfl) ⟨Nat.le_of_ble_eq_true (by kernel_rfl), by kernel_rfl⟩ (by kernel_rfl) ?_
 simp_all
end Go.Proofs.Ytoelkgbeefoplaa
