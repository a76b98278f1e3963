/- Texts of this proof, part 12: CopyB, OpsD, TurnB, TurnD, TurnC, WalA, WalB, WalC, WalF, WalD. -/
import Derived.Test.YtoelkgbeefoplaaM11
set_option linter.unusedSimpArgs false
set_option linter.unusedVariables false
set_option linter.constructorNameAsVariable false
namespace Go.Proofs.Ytoelkgbeefoplaa
open Go Go.Br Go.Proofs
open List (map)
theorem spec_97e (x : D) : CallsA Try.prog 97 [.ep 2 x 0, .fn (.func 98) [] []] [] fun r σ' => r = .ret (.fn (.func 109) [] [.ptr 0 0 0, .ptr 1 0 0]) ∧ σ' = [.cells [.ep 2 x 0], .cells [.fn (.func 98) [] []]] := by
  refine CallsA.start F97 (tm := mk (Try.f97.ntmps) [(0, .ep 2 x 0), (1, .fn (.func 98) [] [])]) (by kernel_rfl) ?_
  refine .seg 11 [4] (T' := cgo 11 [] [.code B97]) (tm' := mk 6 [(4, .fn (Fn.func 109) [] [.ptr 0 0 0, .ptr 1 0 0])]) (σ' := [.cells [.ep 2 x 0], .cells [.fn (Fn.func 98) [] []]]) (by kernel_rfl) ?_
  refine .retH F97 (v := V.fn (Fn.func 109) [] [V.ptr 0 0 0, V.ptr 1 0 0]) (by kernel_rfl) (by kernel_rfl) ?_
  exact ⟨rfl, rfl⟩
theorem spec_72e (x : D) : CallsA Try.prog 72 [.ep 2 x 0] [] fun r σ' => r = .ret (.fn (.func 109) [] [.ptr 0 0 0, .ptr 1 0 0]) ∧ σ' = [.cells [.ep 2 x 0], .cells [.fn (.func 98) [] []]] := by
  refine CallsA.start F72 (tm := mk (Try.f72.ntmps) [(0, .ep 2 x 0)]) (by kernel_rfl) ?_
  refine .sg0 7 [0, 2, 3] (cgo 7 [] [.code B72]) [(2, .d (.raw Value.nilFunc)), (3, .ep 2 x 0)] ?_
  refine .ca [] (cgo 8 [] [.code B72]) F97 (@spec_97e (x)) ?_
  rintro r0 s0 ⟨rfl, rfl⟩
  refine ⟨_, rfl, ?_⟩
  refine .seg 2 [2] (T' := cgo 10 [] [.code B72]) (tm' := mk 5 [(2, .fn (Fn.func 109) [] [.ptr 0 0 0, .ptr 1 0 0])]) (σ' := [.cells [.ep 2 x 0], .cells [.fn (Fn.func 98) [] []]]) (by kernel_rfl) ?_
  refine .retH F72 (v := V.fn (Fn.func 109) [] [V.ptr 0 0 0, V.ptr 1 0 0]) (by kernel_rfl) (by kernel_rfl) ?_
  exact ⟨rfl, rfl⟩
noncomputable def S69e (ks : List ByteArray) (V2 : List Int) (i : Nat) (st : LoopState) : Store :=
  [.cells [.row 4, .row 5], .cells [.ptr 0 0 0], .cells [.ep 2 (dirD ks V2) 0], .cells [.fn (.func 98) [] []], .row 1 ((ks.take i).map strD) true, .row 1 ((V2.take i).map intD) true, .defd, lp (cgo 18 [] [Item.code B69]) 69 (mk 17 [(2, V.d (D.raw (Value.pointer none))), (3, V.ptr 1 0 0), (9, V.fn (Fn.func 109) [] [V.ptr 2 0 0, V.ptr 3 0 0])]) st]
theorem body69e (ks : List ByteArray) (V2 : List Int) (hr : Rising ks) (hl : ks.length < 60000) (hv : V2.length = ks.length) (i : Nat) (x : ByteArray) (v : Int) (hx : ks[i]? = some x) (hy : V2[i]? = some v) :
    AW Try.prog 69 (some 7) 8 R69 (mk 17 [(2, V.d (D.raw (Value.pointer none))), (3, V.ptr 1 0 0), (9, V.fn (Fn.func 109) [] [V.ptr 2 0 0, V.ptr 3 0 0]), (10, .d (.str x)), (11, .d (.int .i64 v))]) (S69e ks V2 i .ready) [] fun a σ' => a = .ret (.d (.bool true)) ∧ σ' = S69e ks V2 (i + 1) .ready := by
  refine .at (T' := cgo 0 [] R69) rfl ?_
  have hi := (List.getElem?_eq_some_iff.1 hx).1
  have hk : kput (ks.take i) (V2.take i) x v = (ks.take (i + 1), V2.take (i + 1)) := by
    obtain ⟨_, rfl⟩ := List.getElem?_eq_some_iff.1 hx
    obtain ⟨_, rfl⟩ := List.getElem?_eq_some_iff.1 hy
    exact kput_next hr hv i hi
  have hr2 : Rising (ks.take i) := List.Pairwise.sublist (List.take_sublist _ _) hr
  have hl2 : (ks.take i).length < 1000000 := by simp; omega
  have hv2 : (V2.take i).length = (ks.take i).length := by simp [hv]
  refine .sg0 7 [2, 3, 4, 5, 9, 10, 11] (cgo 7 [] R69) [(4, .d (.str x)), (5, .d (.int .i64 v))] ?_
  refine .beginL (T0 := cgo 18 [] [Item.code B69]) (fn := 69) (tml := (mk 17 [(2, V.d (D.raw (Value.pointer none))), (3, V.ptr 1 0 0), (9, V.fn (Fn.func 109) [] [V.ptr 2 0 0, V.ptr 3 0 0])])) (by kernel_rfl) (T' := cgo 8 [] R69) (by kernel_rfl) (σ' := [.cells [.row 4, .row 5], .cells [.ptr 0 0 0], .cells [.ep 2 (D.agg [D.list 1 (map strD ks), D.list 1 (map intD V2)]) 0], .cells [.fn (Fn.func 98) [] []], .row 1 (map strD (List.take i ks)) true, .row 1 (map intD (List.take i V2)) true, .defd, lp (cgo 18 [] [Item.code B69]) 69 (mk 17 [(2, .d (.raw (Value.pointer none))), (3, .ptr 1 0 0), (9, .fn (Fn.func 109) [] [.ptr 2 0 0, .ptr 3 0 0])]) LoopState.busy]) (by kernel_rfl) (by kernel_rfl) ?_
  refine .sg0 5 [2, 3, 4, 5, 12, 13, 14] (cgo 13 [] R69) [(12, .ptr 0 0 0), (13, .d (.str x)), (14, .d (.int .i64 v))] ?_
  refine .ca [0, 4, 5] (cgo 14 [] R69) F76 (@spec_76 (List.take i ks) (x) (List.take i V2) (v) (by assumption) (by assumption) (by assumption)) ?_
  rintro r0 s0 ⟨rfl, rfl⟩
  refine ⟨_, rfl, ?_⟩
  refine .sg 2 [2] (cgo 16 [] R69) [] [(7, lp (cgo 18 [] [Item.code B69]) 69 (mk 17 [(2, .d (.raw (Value.pointer none))), (3, .ptr 1 0 0), (9, .fn (Fn.func 109) [] [.ptr 2 0 0, .ptr 3 0 0])]) LoopState.busy)] ?_
  refine .roundEndL (T0 := cgo 18 [] [Item.code B69]) (fn := 69) (tml := (mk 17 [(2, V.d (D.raw (Value.pointer none))), (3, V.ptr 1 0 0), (9, V.fn (Fn.func 109) [] [V.ptr 2 0 0, V.ptr 3 0 0])])) (st := LoopState.busy) (by kernel_rfl) (by kernel_rfl) (σ' := [.cells [.row 4, .row 5], .cells [.ptr 0 0 0], .cells [.ep 2 (D.agg [D.list 1 (map strD ks), D.list 1 (map intD V2)]) 0], .cells [.fn (Fn.func 98) [] []], .row 1 (map strD (kput (List.take i ks) (List.take i V2) x v).fst) true, .row 1 (map intD (kput (List.take i ks) (List.take i V2) x v).snd) true, .defd, lp (cgo 18 [] [Item.code B69]) 69 (mk 17 [(2, .d (.raw (Value.pointer none))), (3, .ptr 1 0 0), (9, .fn (Fn.func 109) [] [.ptr 2 0 0, .ptr 3 0 0])]) LoopState.ready]) (by kernel_rfl) ?_
  simp_all [S69e, dirD]
theorem lo69e (ks : List ByteArray) (V2 : List Int) (hr : Rising ks) (hl : ks.length < 60000) (hv : V2.length = ks.length) : ∀ (m i : Nat), i + m = (ks).length →
    AW Try.prog 109 none 8 (cgo 24 [false] [Item.code B109]) (mk 43 [(0, V.yield 7), (5, V.d (.list 1 ((ks).map strD))), (6, V.d (.list 1 ((V2).map intD))), (27, V.d (.int .i64 ((ks).length : Nat))), (28, V.d (.int .i64 (i : Nat)))]) (S69e ks V2 i .ready) [] fun r σ' => r = .ret (.tuple []) ∧ σ' = S69e ks V2 (ks).length .ready := by
  intro m
  induction m with
  | zero =>
    intro i hi
    have hi : i = (ks).length := by omega
    subst hi
    refine .sg0 5 [0, 5, 6, 27, 28, 29] (cgo 29 [false] [.code B109]) [(29, .d (.bool (decide ((↑ks.length : Int) < (↑ks.length : Int)))))] ?_
    refine .if' (decide ((↑ks.length : Int) < (↑ks.length : Int))) (cgo 30 [false, true] [.code B109]) (cgo 30 [false, false] [.code B109]) (fun h1 => ?_) (fun h1 => ?_)
    · simp only [bsX] at h1
      omega
    · simp only [bsX] at h1
      refine .seg 1 [] (T' := cgo 31 [false, false] [.code B109]) (tm' := mk 43 []) (σ' := [.cells [.row 4, .row 5], .cells [.ptr 0 0 0], .cells [.ep 2 (D.agg [D.list 1 (map strD ks), D.list 1 (map intD V2)]) 0], .cells [.fn (Fn.func 98) [] []], .row 1 (map strD (List.take ks.length ks)) true, .row 1 (map intD (List.take ks.length V2)) true, .defd, lp (cgo 18 [] [.code B69]) 69 (mk 17 [(2, .d (.raw (Value.pointer none))), (3, .ptr 1 0 0), (9, .fn (Fn.func 109) [] [.ptr 2 0 0, .ptr 3 0 0])]) LoopState.ready]) (by kernel_rfl) ?_
      refine .retH F109 (v := V.tuple []) (by kernel_rfl) (by kernel_rfl) ?_
      exact ⟨rfl, rfl⟩
  | succ m ih =>
    intro i hi
    obtain ⟨x, hx⟩ := get_some (l := ks) (i := i) (by omega)
    obtain ⟨v, hy⟩ := get_some (l := V2) (i := i) (by omega)
    have hYi := body69e ks V2 hr hl hv i x v hx hy
    refine .sg0 5 [0, 5, 6, 27, 28, 29] (cgo 29 [false] [.code B109]) [(29, .d (.bool (decide ((↑i : Int) < (↑ks.length : Int)))))] ?_
    refine .if' (decide ((↑i : Int) < (↑ks.length : Int))) (cgo 30 [false, true] [.code B109]) (cgo 30 [false, false] [.code B109]) (fun h1 => ?_) (fun h1 => ?_)
    · simp only [bsX] at h1
      refine .sg0 9 [0, 5, 6, 7, 27, 28, 29, 30] (cgo 39 [false, true] [.code B109]) [(7, .d (.int .i64 (↑i : Int))), (30, .d (.int .i64 (↑i : Int)))] ?_
      refine .dr (cgo 40 [false, true] [.code B109]) [(31, .yield 7), (32, .d (.list 1 (map strD ks))), (33, .d (.int .i64 (↑i : Int))), (34, .ep 1 (D.str x) 0), (35, .d (.str x)), (36, .d (.list 1 (map intD V2))), (37, .d (.int .i64 (↑i : Int))), (38, .ep 1 (D.int IntKind.i64 v) 0), (39, .d (.int .i64 v)), (40, .d (.bool true)), (41, .d (.bool false))] [(4, .row 1 (map strD (List.take (i + 1) ks)) true), (5, .row 1 (map intD (List.take (i + 1) V2)) true)] (fun kz L hL => ?_) ?_
      · refine ⟨[⟨[], [], [], [7], [7], [], true, false⟩, nF, nF, nF, nF, nF, nF, nF, nF, ⟨[], [], [], [], [], [], false, true⟩, nF], run_amongF hL _ [] [0, 1, 2, 3, 4, 5, 6, 7, 8, 9, 10] (by intro p hp; cases hp) (by kernel_rfl) ?_⟩
        refine Run.ap [0, 1, 2] [(31, .yield 7), (32, .d (.list 1 (map strD ks))), (33, .d (.int .i64 (↑i : Int)))] [] ?_
        refine Run.one (StepF.look (o := ((drawOf (cgo 39 [false, true] [.code B109]))[3]?).getD default) (v := .ep 1 (D.str x) 0) [(.tmp 32), (.tmp 33)] (by kernel_rfl) rfl (by kernel_rfl) (by kernel_rfl) (by kernel_rfl) (by kernel_rfl) (by kernel_rfl) (fun tm' σ2 hv hr => ixData_ok (t := 66) (x := (.tmp 32)) (i := (.tmp 33)) (k := IntKind.i64) (n := (↑i : Int)) (sz := 1) (xs := map strD ks) (d := strD x) (by kernel_rfl) (by rw [hv _ (by simp)]; kernel_rfl) (by rw [hv _ (by simp)]; kernel_rfl) (by kernel_rfl) (by omega) (map_get hx))) ?_
        refine Run.ap [4, 5, 6] [(35, .d (.str x)), (36, .d (.list 1 (map intD V2))), (37, .d (.int .i64 (↑i : Int)))] [] ?_
        refine Run.one (StepF.look (o := ((drawOf (cgo 39 [false, true] [.code B109]))[7]?).getD default) (v := .ep 1 (D.int IntKind.i64 v) 0) [(.tmp 36), (.tmp 37)] (by kernel_rfl) rfl (by kernel_rfl) (by kernel_rfl) (by kernel_rfl) (by kernel_rfl) (by kernel_rfl) (fun tm' σ2 hv hr => ixData_ok (t := 46) (x := (.tmp 36)) (i := (.tmp 37)) (k := IntKind.i64) (n := (↑i : Int)) (sz := 1) (xs := map intD V2) (d := intD v) (by kernel_rfl) (by rw [hv _ (by simp)]; kernel_rfl) (by rw [hv _ (by simp)]; kernel_rfl) (by kernel_rfl) (by omega) (map_get hy))) ?_
        refine Run.ap [8] [(39, .d (.int .i64 v))] [] ?_
        refine Run.one (s1 := (mk 43 [(0, .yield 7), (5, .d (.list 1 (map strD ks))), (6, .d (.list 1 (map intD V2))), (7, .d (.int .i64 (↑i : Int))), (27, .d (.int .i64 (↑ks.length : Int))), (28, .d (.int .i64 (↑i : Int))), (29, .d (.bool (decide ((↑i : Int) < (↑ks.length : Int))))), (30, .d (.int .i64 (↑i : Int))), (31, .yield 7), (32, .d (.list 1 (map strD ks))), (33, .d (.int .i64 (↑i : Int))), (34, .ep 1 (D.str x) 0), (35, .d (.str x)), (36, .d (.list 1 (map intD V2))), (37, .d (.int .i64 (↑i : Int))), (38, .ep 1 (D.int IntKind.i64 v) 0), (39, .d (.int .i64 v)), (40, .d (.bool true))], [.cells [.row 4, .row 5], .cells [.ptr 0 0 0], .cells [.ep 2 (D.agg [D.list 1 (map strD ks), D.list 1 (map intD V2)]) 0], .cells [.fn (Fn.func 98) [] []], .row 1 (map strD (List.take (i + 1) ks)) true, .row 1 (map intD (List.take (i + 1) V2)) true, .defd, lp (cgo 18 [] [Item.code B69]) 69 (mk 17 [(2, .d (.raw (Value.pointer none))), (3, .ptr 1 0 0), (9, .fn (Fn.func 109) [] [.ptr 2 0 0, .ptr 3 0 0])]) LoopState.ready])) (StepF.all (o := ((drawOf (cgo 39 [false, true] [Item.code B109]))[9]?).getD default) (by kernel_rfl) (by kernel_rfl) fun rest hn => AW.yieldD (T0 := cgo 18 [] [Item.code B69]) (x := (.tmp 31)) (args := #[(.tmp 35), (.tmp 39)]) (ts := #[9, 3]) (l := 7) (st := LoopState.ready) (fn := 69) (tml := (mk 17 [(2, .d (.raw (Value.pointer none))), (3, .ptr 1 0 0), (9, .fn (Fn.func 109) [] [.ptr 2 0 0, .ptr 3 0 0])])) (R := R69) (o := ((drawOf (cgo 39 [false, true] [Item.code B109]))[9]?).getD default) (N := 8) (by kernel_rfl) (by kernel_rfl) (by kernel_rfl) (by kernel_rfl) (by kernel_rfl) (by kernel_rfl) (by kernel_rfl) (by kernel_rfl) (by kernel_rfl) hYi (by rintro r s ⟨rfl, rfl⟩; exact ⟨_, rfl, AW.as (by kernel_rfl) (by kernel_rfl) hn⟩)) ?_
        exact Run.fin
      refine .seg 7 [0, 5, 6, 7, 27, 28, 29, 30, 31, 32, 33, 34, 35, 36, 37, 38, 39, 40, 41, 42] (T' := cgo 47 [false, true, false] [.code B109]) (tm' := mk 43 [(0, .yield 7), (5, .d (.list 1 (map strD ks))), (6, .d (.list 1 (map intD V2))), (7, .d (.int .i64 (↑i : Int))), (27, .d (.int .i64 (↑ks.length : Int))), (28, .d (.int .i64 (IntKind.i64.wrap ((↑i : Int) + 1)))), (29, .d (.bool (decide ((↑i : Int) < (↑ks.length : Int))))), (30, .d (.int .i64 (↑i : Int))), (31, .yield 7), (32, .d (.list 1 (map strD ks))), (33, .d (.int .i64 (↑i : Int))), (34, .ep 1 (D.str x) 0), (35, .d (.str x)), (36, .d (.list 1 (map intD V2))), (37, .d (.int .i64 (↑i : Int))), (38, .ep 1 (D.int IntKind.i64 v) 0), (39, .d (.int .i64 v)), (40, .d (.bool true)), (41, .d (.bool false)), (42, .d (.int .i64 (IntKind.i64.wrap ((↑i : Int) + 1))))]) (σ' := [.cells [.row 4, .row 5], .cells [.ptr 0 0 0], .cells [.ep 2 (D.agg [D.list 1 (map strD ks), D.list 1 (map intD V2)]) 0], .cells [.fn (Fn.func 98) [] []], .row 1 (map strD (List.take (i + 1) ks)) true, .row 1 (map intD (List.take (i + 1) V2)) true, .defd, lp (cgo 18 [] [.code B69]) 69 (mk 17 [(2, .d (.raw (Value.pointer none))), (3, .ptr 1 0 0), (9, .fn (Fn.func 109) [] [.ptr 2 0 0, .ptr 3 0 0])]) LoopState.ready]) (by kernel_rfl) ?_
      simp (disch := omega) only [wrap_i64, wrap_u64s, wrap_u32s, wrap_u8s, wrap_i32s, iadd_i64, isub_i64, irem_n, iquo_n, tdiv_nn, tmod_nn]
      exact .seg 1 [0, 5, 6, 27, 28] (by kernel_rfl) (ih (i + 1) (by omega))
    · simp only [bsX] at h1
      omega
theorem it69e (ks : List ByteArray) (V2 : List Int) (hr : Rising ks) (hl : ks.length < 60000) (hv : V2.length = ks.length) : CallsA Try.prog 109 [.yield 7, .ptr 2 0 0, .ptr 3 0 0] (S69e ks V2 0 .ready) fun r σ' => r = .ret (.tuple []) ∧ σ' = S69e ks V2 (ks).length .ready := by
  refine CallsA.start F109 (tm := mk (Try.f109.ntmps) [(0, .yield 7), (1, .ptr 2 0 0), (2, .ptr 3 0 0)]) (by kernel_rfl) ?_
  refine .sg0 11 [0, 1, 2, 10] (cgo 11 [false] [.code B109]) [(10, .fn (Fn.func 98) [] [])] ?_
  refine .semH (o := (opOf (cgo 11 [false] [Item.code B109])).getD default) (v := .d (.int .i64 0)) (by kernel_rfl) (by kernel_rfl) (T' := cgo 12 [false] [Item.code B109]) (by kernel_rfl) (fun kz => sem_data0 (x := (.tmp 10)) (args := #[]) (ts := #[]) (first := []) (cap := []) (ds := []) (v := .d (.int .i64 0)) F98 (@spec_98) (by kernel_rfl) (by kernel_rfl) (by kernel_rfl) (by kernel_rfl) (by kernel_rfl) (by kernel_rfl) _) ?_
  refine .sg0 3 [0, 1, 4] (cgo 15 [false] [.code B109]) [(4, .d (.int .i64 0))] ?_
  refine .dr (cgo 16 [false] [.code B109]) [(5, .d (.list 1 (List.drop 0 (List.take (map strD ks).length (map strD ks))))), (6, .d (.list 1 (List.drop 0 (List.take (map intD V2).length (map intD V2))))), (12, .ep 2 (D.agg [D.list 1 (map strD ks), D.list 1 (map intD V2)]) 0), (13, .ep 2 (D.agg [D.list 1 (map strD ks), D.list 1 (map intD V2)]) 0), (14, .ep 2 (D.agg [D.list 1 (map strD ks), D.list 1 (map intD V2)]) 0), (15, .d (.list 1 (map strD ks))), (16, .d (.int .i64 0)), (17, .d (.list 1 (List.drop 0 (List.take (map strD ks).length (map strD ks))))), (18, .d (.list 1 (List.drop 0 (List.take (map strD ks).length (map strD ks))))), (19, .ep 2 (D.agg [D.list 1 (map strD ks), D.list 1 (map intD V2)]) 0), (20, .ep 2 (D.agg [D.list 1 (map strD ks), D.list 1 (map intD V2)]) 0), (21, .ep 2 (D.agg [D.list 1 (map strD ks), D.list 1 (map intD V2)]) 1), (22, .d (.list 1 (map intD V2))), (23, .d (.int .i64 0)), (24, .d (.list 1 (List.drop 0 (List.take (map intD V2).length (map intD V2))))), (25, .d (.list 1 (List.drop 0 (List.take (map intD V2).length (map intD V2)))))] [] (fun kz L hL => ?_) ?_
  · refine ⟨[⟨[2], [], [], [], [2], [], true, false⟩, nF, nF, nF, nF, nF, nF, ⟨[2], [], [], [], [2], [], true, false⟩, nF, nF, nF, nF, nF, nF, nF, nF], run_amongF hL _ [] [0, 1, 2, 3, 4, 5, 7, 8, 9, 10, 11, 12, 6, 13, 14, 15] (by intro p hp; cases hp) (by kernel_rfl) ?_⟩
    refine Run.ap [0, 1, 2, 3, 4] [(12, .ep 2 (D.agg [D.list 1 (map strD ks), D.list 1 (map intD V2)]) 0), (13, .ep 2 (D.agg [D.list 1 (map strD ks), D.list 1 (map intD V2)]) 0), (14, .ep 2 (D.agg [D.list 1 (map strD ks), D.list 1 (map intD V2)]) 0), (15, .d (.list 1 (map strD ks))), (16, .d (.int .i64 0))] [] ?_
    refine Run.one (StepF.look (o := ((drawOf (cgo 15 [false] [.code B109]))[5]?).getD default) (v := .d (.list 1 (List.drop 0 (List.take (map strD ks).length (map strD ks))))) [(.tmp 15), (.tmp 16)] (by kernel_rfl) rfl (by kernel_rfl) (by kernel_rfl) (by kernel_rfl) (by kernel_rfl) (by kernel_rfl) (fun tm' σ2 hv hr => slData_ok (t := 66) (x := (.tmp 15)) (lo := (some (.tmp 16))) (hi := none) (sz := 1) (xs := map strD ks) (0) ((map strD ks).length) (by kernel_rfl) (by rw [hv _ (by simp)]; kernel_rfl) (by kernel_rfl) (bnd_some (k := IntKind.i64) (i := 0) (by rw [hv _ (by simp)]; kernel_rfl) (by omega) (by rfl)) rfl (by omega) (by omega))) ?_
    refine Run.ap [7, 8, 9, 10, 11] [(19, .ep 2 (D.agg [D.list 1 (map strD ks), D.list 1 (map intD V2)]) 0), (20, .ep 2 (D.agg [D.list 1 (map strD ks), D.list 1 (map intD V2)]) 0), (21, .ep 2 (D.agg [D.list 1 (map strD ks), D.list 1 (map intD V2)]) 1), (22, .d (.list 1 (map intD V2))), (23, .d (.int .i64 0))] [] ?_
    refine Run.one (StepF.look (o := ((drawOf (cgo 15 [false] [.code B109]))[12]?).getD default) (v := .d (.list 1 (List.drop 0 (List.take (map intD V2).length (map intD V2))))) [(.tmp 22), (.tmp 23)] (by kernel_rfl) rfl (by kernel_rfl) (by kernel_rfl) (by kernel_rfl) (by kernel_rfl) (by kernel_rfl) (fun tm' σ2 hv hr => slData_ok (t := 46) (x := (.tmp 22)) (lo := (some (.tmp 23))) (hi := none) (sz := 1) (xs := map intD V2) (0) ((map intD V2).length) (by kernel_rfl) (by rw [hv _ (by simp)]; kernel_rfl) (by kernel_rfl) (bnd_some (k := IntKind.i64) (i := 0) (by rw [hv _ (by simp)]; kernel_rfl) (by omega) (by rfl)) rfl (by omega) (by omega))) ?_
    refine Run.one (StepF.data (o := ((drawOf (cgo 15 [false] [.code B109]))[6]?).getD default) (v := .d (.list 1 (List.drop 0 (List.take (map strD ks).length (map strD ks))))) (by kernel_rfl) rfl (by kernel_rfl) (by kernel_rfl) (by kernel_rfl) (fun s => sem_data0 (x := (.func 110)) (args := #[(.tmp 17)]) (ts := #[66]) (first := []) (cap := []) (ds := [.d (.list 1 (List.drop 0 (List.take (map strD ks).length (map strD ks))))]) (v := .d (.list 1 (List.drop 0 (List.take (map strD ks).length (map strD ks))))) F110 (@spec_110 (List.drop 0 (List.take (map strD ks).length (map strD ks))) (by simp <;> omega)) (by kernel_rfl) (by kernel_rfl) (by kernel_rfl) (by kernel_rfl) (by kernel_rfl) (by kernel_rfl) _)) ?_
    refine Run.one (StepF.data (o := ((drawOf (cgo 15 [false] [.code B109]))[13]?).getD default) (v := .d (.list 1 (List.drop 0 (List.take (map intD V2).length (map intD V2))))) (by kernel_rfl) rfl (by kernel_rfl) (by kernel_rfl) (by kernel_rfl) (fun s => sem_data0 (x := (.func 111)) (args := #[(.tmp 24)]) (ts := #[46]) (first := []) (cap := []) (ds := [.d (.list 1 (List.drop 0 (List.take (map intD V2).length (map intD V2))))]) (v := .d (.list 1 (List.drop 0 (List.take (map intD V2).length (map intD V2))))) F111 (@spec_111 (List.drop 0 (List.take (map intD V2).length (map intD V2))) (by simp <;> omega)) (by kernel_rfl) (by kernel_rfl) (by kernel_rfl) (by kernel_rfl) (by kernel_rfl) (by kernel_rfl) _)) ?_
    exact Run.fin
  refine .seg 7 [0, 5, 6, 27, 28] (T' := cgo 23 [false] [.code B109]) (tm' := mk 43 [(0, .yield 7), (5, .d (.list 1 (List.drop 0 (List.take (map strD ks).length (map strD ks))))), (6, .d (.list 1 (List.drop 0 (List.take (map intD V2).length (map intD V2))))), (27, .d (.int .i64 (↑(List.drop 0 (List.take (map strD ks).length (map strD ks))).length : Int))), (28, .d (.int .i64 0))]) (σ' := [.cells [.row 4, .row 5], .cells [.ptr 0 0 0], .cells [.ep 2 (D.agg [D.list 1 (map strD ks), D.list 1 (map intD V2)]) 0], .cells [.fn (Fn.func 98) [] []], .row 1 [] true, .row 1 [] true, .defd, lp (cgo 18 [] [.code B69]) 69 (mk 17 [(2, .d (.raw (Value.pointer none))), (3, .ptr 1 0 0), (9, .fn (Fn.func 109) [] [.ptr 2 0 0, .ptr 3 0 0])]) LoopState.ready]) (by kernel_rfl) ?_
  simp only [List.length_map]
  rw [eachM (ks) strD, eachM (V2) intD, List.length_map]
  exact .seg 1 [0, 5, 6, 27, 28] (by kernel_rfl) (lo69e ks V2 hr hl hv (ks).length 0 (by omega))
theorem spec_69e (ks : List ByteArray) (V2 : List Int) (hr : Rising ks) (hl : ks.length < 60000) (hv : V2.length = ks.length) :
    CallsA Try.prog 69 [.ep 2 (dirD ks V2) 0] [] fun r σ' => r = .ret (.ptr 0 0 0) ∧ σ' = [.cells [.row 1, .row 2], .row 1 (ks.map strD) true, .row 1 (V2.map intD) true] := by
  refine CallsA.start F69 (tm := mk (Try.f69.ntmps) [(0, .ep 2 (dirD ks V2) 0)]) (by kernel_rfl) ?_
  refine .sg 15 [0, 2, 3, 8] (cgo 15 [] [.code B69]) [(2, .d (.raw (Value.pointer none))), (3, .ptr 1 0 0), (8, .ep 2 (D.agg [D.list 1 (map strD ks), D.list 1 (map intD V2)]) 0)] [(0, .cells [.ex 1 [], .ex 1 []]), (1, .cells [.ptr 0 0 0])] ?_
  refine .ca [] (cgo 16 [] [.code B69]) F72 (@spec_72e (D.agg [D.list 1 (map strD ks), D.list 1 (map intD V2)])) ?_
  rintro r0 s0 ⟨rfl, rfl⟩
  refine ⟨_, rfl, ?_⟩
  refine .seg 2 [2, 3, 9] (T' := cgo 18 [] [.code B69]) (tm' := mk 17 [(2, .d (.raw (Value.pointer none))), (3, .ptr 1 0 0), (9, .fn (Fn.func 109) [] [.ptr 2 0 0, .ptr 3 0 0])]) (σ' := [.cells [.ex 1 [], .ex 1 []], .cells [.ptr 0 0 0], .cells [.ep 2 (D.agg [D.list 1 (map strD ks), D.list 1 (map intD V2)]) 0], .cells [.fn (Fn.func 98) [] []]]) (by kernel_rfl) ?_
  refine .virtX 0 0 1 rfl rfl ?_
  refine .virtX 0 1 1 rfl rfl ?_
  refine .raise 4 rfl rfl ?_
  refine .raise 5 rfl rfl ?_
  refine .rangeH (first := []) (cap := [.ptr 2 0 0, .ptr 3 0 0]) (List.range 8) [.yield 7, .ptr 2 0 0, .ptr 3 0 0] (S69e ks V2 0 .ready) F109 (by kernel_rfl) (T' := cgo 19 [] [Item.code B69]) (by kernel_rfl) (by kernel_rfl) (it69e ks V2 hr hl hv) (by kernel_rfl) (by kernel_rfl) (by refine ⟨rfl, by kernel_rfl, ?_⟩; kernel_rfl) ?_
  rintro r σc' ⟨rfl, rfl⟩
  refine ⟨.tuple [], .ready, (mk 17 [(2, V.d (D.raw (Value.pointer none))), (3, V.ptr 1 0 0), (9, V.fn (Fn.func 109) [] [V.ptr 2 0 0, V.ptr 3 0 0])]), rfPs (cgo 18 [] [Item.code B69]), rfAs (cgo 18 [] [Item.code B69]), rfBd (cgo 18 [] [Item.code B69]), 69, rfl, by simp, by kernel_rfl, ?_⟩
  have e1 : ks.take ks.length = ks := List.take_length
  have e2 : V2.take ks.length = V2 := by rw [← hv]; exact List.take_length
  refine .seg 6 [2] (T' := cgo 25 [] [.code B69]) (tm' := mk 17 [(2, .ptr 0 0 0)]) (σ' := [.cells [.row 4, .row 5], .cells [.ptr 0 0 0], .cells [.ep 2 (D.agg [D.list 1 (map strD ks), D.list 1 (map intD V2)]) 0], .cells [.fn (Fn.func 98) [] []], .row 1 (map strD (List.take ks.length ks)) true, .row 1 (map intD (List.take ks.length V2)) true, .defd, lp (cgo 18 [] [.code B69]) 69 (mk 17 [(2, .d (.raw (Value.pointer none))), (3, .ptr 1 0 0), (9, .fn (Fn.func 109) [] [.ptr 2 0 0, .ptr 3 0 0])]) LoopState.exhausted]) (by kernel_rfl) ?_
  refine .retX (v := V.ptr 0 0 0) [0, 4, 5] (V.ptr 0 0 0) F69 (by kernel_rfl) ⟨by kernel_rfl, by kernel_rfl⟩ (σ1 := [O.cells [V.row 4, V.row 5], O.cells [V.ptr 0 0 0], O.cells [V.ep 2 (D.agg [D.list 1 (map strD ks), D.list 1 (map intD V2)]) 0], O.cells [V.fn (Fn.func 98) [] []], O.row 1 (map strD (List.take ks.length ks)) true, O.row 1 (map intD (List.take ks.length V2)) true, O.dead, lp (cgo 18 [] [Item.code B69]) 69 (mk 17 [(2, V.d (D.raw (Value.pointer none))), (3, V.ptr 1 0 0), (9, V.fn (Fn.func 109) [] [V.ptr 2 0 0, V.ptr 3 0 0])]) LoopState.exhausted]) (by kernel_rfl) (by kernel_rfl) (σ2 := [O.cells [V.row 1, V.row 2], O.row 1 (map strD (List.take ks.length ks)) true, O.row 1 (map intD (List.take ks.length V2)) true]) ⟨rfl, rfl, by kernel_rfl⟩ (by kernel_rfl) ⟨Nat.le_of_ble_eq_true (by kernel_rfl), by kernel_rfl⟩ (by kernel_rfl) ?_
  simp_all
end Go.Proofs.Ytoelkgbeefoplaa
namespace Go.Proofs.Ytoelkgbeefoplaa
open Go Go.Br Go.Proofs
open List (map)
noncomputable def B33 : Code := (Try.f33.body).getD .skip
theorem F33 : Fnc Try.prog 33 Try.f33 B33 := ⟨Try.func33, by kernel_rfl, by kernel_rfl⟩
noncomputable def B27 : Code := (Try.f27.body).getD .skip
theorem F27 : Fnc Try.prog 27 Try.f27 B27 := ⟨Try.func27, by kernel_rfl, by kernel_rfl⟩
noncomputable def B25 : Code := (Try.f25.body).getD .skip
theorem F25 : Fnc Try.prog 25 Try.f25 B25 := ⟨Try.func25, by kernel_rfl, by kernel_rfl⟩
theorem spec_61 (bs : List UInt8) (hlen : bs.length ≤ 140737488355000) : Br.Pure Try.prog 61 [.d (bsD bs)] (.d (bsD bs)) := clone_pure bs hlen
theorem spec_33 (d : Dk) (N : Nat) (h : d.Ok N) (hN : N + 2 ≤ 50000) :
    CallsA Try.prog 33 [.ptr 0 0 0] (SD d false) fun r σ' => r = .ret (.d (.int .i64 (d.begun.err false []))) ∧ σ' = SD d.begun.syncDirD true := by
  refine CallsA.start F33 (tm := mk (Try.f33.ntmps) [(0, .ptr 0 0 0)]) (by kernel_rfl) ?_
  have hk := Dk.begun_ok h (by omega : N + 1 ≤ 50000)
  have q1 := hk.nr
  have q2 := hk.nl
  have q3 := hk.nkl
  have q4 := hk.nb
  refine .sg0 8 [0, 2, 4] (cgo 8 [] [.code B33]) [(2, .d (.int .i64 0)), (4, .ptr 0 0 0)] ?_
  refine .ca [0, 1, 2, 3, 4, 5] (cgo 9 [] [.code B33]) F64 (@spec_64 (d) (N) (by assumption) (by assumption)) ?_
  rintro r0 s0 ⟨rfl, rfl⟩
  refine ⟨_, rfl, ?_⟩
  refine .sg0 7 [0, 2, 3, 7] (cgo 16 [] [.code B33]) [(3, .d (.int .i64 (d.begun.err false []))), (7, .d (.bool (d.begun.err false [] != 0)))] ?_
  refine .if' (d.begun.err false [] != 0) (cgo 17 [true] [.code B33]) (cgo 17 [false] [.code B33]) (fun h2 => ?_) (fun h2 => ?_)
  · simp only [bsX] at h2
    refine .seg 5 [0, 2] (T' := cgo 22 [true] [.code B33]) (tm' := mk 20 [(0, .ptr 0 0 0), (2, .d (.int .i64 (d.begun.err false [])))]) (σ' := [.cells [.row 1, .ptr 2 0 0, .ep 2 (D.agg [D.list 1 (map strD d.begun.sk), D.list 1 (map intD d.begun.sv)]) 0, .row 5, .d (.int .i64 d.begun.quota), .d (.bool d.begun.full), .d (.bool d.begun.off), .d (.int .i64 d.begun.stop), .d (.int .i64 d.begun.calls)], .row 2 (map fileD d.begun.files) false, .cells [.row 3, .row 4], .row 1 (map strD d.begun.nk) false, .row 1 (map intD d.begun.nv) false, .row 3 (map chD d.begun.ch) false]) (by kernel_rfl) ?_
    refine .raise 1 rfl rfl ?_
    refine .raise 3 rfl rfl ?_
    refine .raise 4 rfl rfl ?_
    refine .raise 5 rfl rfl ?_
    refine .retH F33 (v := V.d (D.int IntKind.i64 (d.begun.err false []))) (by kernel_rfl) (by kernel_rfl) ?_
    have e : d.begun.off = true := by
      cases ho : d.begun.off with
      | true => rfl
      | false => simp_all [Dk.err]
    exact ⟨rfl, by simp [SD, dirD, Dk.syncDirD, e]⟩
  · simp only [bsX] at h2
    refine .sg0 9 [0, 2, 9, 10, 11, 12, 13, 14] (cgo 26 [false] [.code B33]) [(9, .ptr 0 0 0), (10, .ptr 0 0 0), (11, .ptr 0 0 0), (12, .ptr 0 0 0), (13, .ptr 0 0 1), (14, .ptr 2 0 0)] ?_
    refine .ca [2, 3, 4] (cgo 27 [false] [.code B33]) F69 (@spec_69 (d.begun.nk) (d.begun.nv) (by assumption) (by omega) (by assumption)) ?_
    rintro r2 s2 ⟨rfl, rfl⟩
    refine ⟨_, rfl, ?_⟩
    refine .seg 11 [2] (T' := cgo 38 [false] [.code B33]) (tm' := mk 20 [(2, .d (.int .i64 0))]) (σ' := [.cells [.row 1, .ptr 2 0 0, .ptr 6 0 0, .ex 3 [], .d (.int .i64 d.begun.quota), .d (.bool d.begun.full), .d (.bool d.begun.off), .d (.int .i64 d.begun.stop), .d (.int .i64 d.begun.calls)], .row 2 (map fileD d.begun.files) false, .cells [.row 3, .row 4], .row 1 (map strD d.begun.nk) false, .row 1 (map intD d.begun.nv) false, .row 3 (map chD d.begun.ch) false, .cells [.row 7, .row 8], .row 1 (map strD d.begun.nk) true, .row 1 (map intD d.begun.nv) true]) (by kernel_rfl) ?_
    refine .freeze 7 (sz := 1) (xs := map strD d.begun.nk) (mv := true) (by kernel_rfl) ?_
    refine .freeze 8 (sz := 1) (xs := map intD d.begun.nv) (mv := true) (by kernel_rfl) ?_
    refine .freezeC 6 (cs0 := [.d (.list 1 (map strD d.begun.nk)), .d (.list 1 (map intD d.begun.nv))]) (ds := [D.list 1 (map strD d.begun.nk), D.list 1 (map intD d.begun.nv)]) (by kernel_rfl) (by kernel_rfl) ?_
    refine .virtX 0 3 3 rfl rfl ?_
    refine .raises [1, 3, 4, 9] ?_
    refine .subM [0, 1, 2, 3, 4, 9] (mk 20 [(2, .d (.int .i64 0))]) [.cells [.row 1, .ptr 2 0 0, .ep 2 (dirD d.begun.nk d.begun.nv) 0, .row 5, .d (.int .i64 d.begun.quota), .d (.bool d.begun.full), .d (.bool d.begun.off), .d (.int .i64 d.begun.stop), .d (.int .i64 d.begun.calls)], .row 2 (map fileD d.begun.files) true, .cells [.row 3, .row 4], .row 1 (map strD d.begun.nk) true, .row 1 (map intD d.begun.nv) true, .row 3 [] true] none [] ⟨rfl, rfl, by kernel_rfl⟩ (by kernel_rfl) ⟨Nat.le_of_ble_eq_true (by kernel_rfl), by kernel_rfl⟩ (by kernel_rfl) ⟨by kernel_rfl, by kernel_rfl⟩ ⟨rfl, rfl⟩ ?_
    refine .retH F33 (v := V.d (D.int IntKind.i64 0)) (by kernel_rfl) (by kernel_rfl) ?_
    have e : d.begun.off = false := by
      cases ho : d.begun.off with
      | false => rfl
      | true => simp_all [Dk.err]
    have e2 : d.begun.err false [] = 0 := by simp [Dk.err, e]
    exact ⟨by rw [e2], by simp [SD, Dk.syncDirD, e]⟩
theorem spec_27 (d : Dk) (N : Nat) (h : d.Ok N) (x : ByteArray) :
    CallsA Try.prog 27 [.ptr 0 0 0, .d (.str x)] (SD d false) fun r σ' => r = .ret (.tuple [.d (if (look d.nk d.nv x).isSome then bsD (d.file (d.num x)).1 else .list 1 []), .d (.int .i64 (if (look d.nk d.nv x).isSome then 0 else 3))]) ∧ σ' = SD d false := by
  refine CallsA.start F27 (tm := mk (Try.f27.ntmps) [(0, .ptr 0 0 0), (1, .d (.str x))]) (by kernel_rfl) ?_
  have q1 := h.nr
  have q2 := h.nl
  have q3 := h.nkl
  have q4 := h.nb
  have q5 : ∀ k, look d.nk d.nv x = some k → 0 ≤ k ∧ k < d.files.length := fun k hk' => h.nn k (look_mem hk')
  cases hl : look d.nk d.nv x with
  | none =>
    refine .sg0 9 [0, 1, 4, 5, 9, 10] (cgo 9 [] [.code B27]) [(4, .nils), (5, .d (.int .i64 0)), (9, .ptr 0 0 0), (10, .d (.str x))] ?_
    refine .ca [0, 1, 2, 3, 4, 5] (cgo 10 [] [.code B27]) F65 (@spec_65 (d) (x) (none) (by assumption) (by assumption) (by assumption) (by omega) (by assumption)) ?_
    rintro r0 s0 ⟨rfl, rfl⟩
    refine ⟨_, rfl, ?_⟩
    refine .sg0 18 [4, 5, 6] (cgo 28 [true] [.code B27]) [(5, .d (.int .i64 3)), (6, .d (.raw (Value.pointer none)))] ?_
    refine .coerce [0, 0, 0, 0, 22, 23] ?_
    refine .retH F27 (v := V.tuple [V.d (D.list 1 []), V.d (D.int IntKind.i64 3)]) (by kernel_rfl) (by kernel_rfl) ?_
    exact ⟨rfl, rfl⟩
  | some k =>
    have q6 := q5 k hl
    have q61 := q6.1
    have hlt : k.toNat < d.files.length := by omega
    obtain ⟨f, hf⟩ := get_some (l := d.files) (i := k.toNat) hlt
    have hm := h.fs f (List.mem_of_getElem? hf)
    have hfile : d.file (d.num x) = f := by simp [Dk.file, Dk.num, hl, List.getD_eq_getElem?_getD, hf]
    have hfb : bsD f.1 = D.list 1 (List.map u8 f.1) := rfl
    refine .sg0 9 [0, 1, 4, 5, 9, 10] (cgo 9 [] [.code B27]) [(4, .nils), (5, .d (.int .i64 0)), (9, .ptr 0 0 0), (10, .d (.str x))] ?_
    refine .ca [0, 1, 2, 3, 4, 5] (cgo 10 [] [.code B27]) F65 (@spec_65 (d) (x) (some k) (by assumption) (by assumption) (by assumption) (by omega) (by assumption)) ?_
    rintro r0 s0 ⟨rfl, rfl⟩
    refine ⟨_, rfl, ?_⟩
    refine .sg0 19 [4, 5, 6, 16, 17, 18] (cgo 29 [false] [.code B27]) [(6, .ptr 1 k.toNat 0), (16, .ptr 1 k.toNat 0), (17, .ptr 1 k.toNat 0), (18, .ptr 1 k.toNat 0)] ?_
    refine .op' (cgo 30 [false] [.code B27]) (ldRow_ok (t := 22) (x := (.tmp 18)) (l := 1) (i := k.toNat) (s := 0) (sz := 2) (xs := map fileD d.files) (mv := false) (d := fileD f) (v := .d (.list 1 (map u8 f.fst))) (by kernel_rfl) (by kernel_rfl) (by kernel_rfl) (map_get hf) (by kernel_rfl)) ?_
    refine .semH (o := (opOf (cgo 30 [false] [Item.code B27])).getD default) (v := .d (.list 1 (map u8 f.fst))) (by kernel_rfl) (by kernel_rfl) (T' := cgo 31 [false] [Item.code B27]) (by kernel_rfl) (fun kz => sem_data0 (x := (.func 61)) (args := #[(.tmp 19)]) (ts := #[22]) (first := []) (cap := []) (ds := [.d (.list 1 (map u8 f.fst))]) (v := .d (.list 1 (map u8 f.fst))) F61 (@spec_61 (f.fst) (by omega)) (by kernel_rfl) (by kernel_rfl) (by kernel_rfl) (by kernel_rfl) (by kernel_rfl) (by kernel_rfl) _) ?_
    refine .seg 3 [4, 5] (T' := cgo 34 [false] [.code B27]) (tm' := mk 21 [(4, .d (.list 1 (map u8 f.fst))), (5, .d (.int .i64 0))]) (σ' := [.cells [.row 1, .ptr 2 0 0, .ep 2 (D.agg [D.list 1 (map strD d.sk), D.list 1 (map intD d.sv)]) 0, .row 5, .d (.int .i64 d.quota), .d (.bool d.full), .d (.bool d.off), .d (.int .i64 d.stop), .d (.int .i64 d.calls)], .row 2 (map fileD d.files) false, .cells [.row 3, .row 4], .row 1 (map strD d.nk) false, .row 1 (map intD d.nv) false, .row 3 (map chD d.ch) false]) (by kernel_rfl) ?_
    refine .retH F27 (v := V.tuple [V.d (D.list 1 (map u8 f.fst)), V.d (D.int IntKind.i64 0)]) (by kernel_rfl) (by kernel_rfl) ?_
    simp_all [SD, dirD]
theorem spec_25 (q : Int) : CallsA Try.prog 25 [.d (.int .i64 q)] [] fun r σ' => r = .ret (.ptr 0 0 0) ∧ σ' = SD (Dk.new q) true := by
  refine CallsA.start F25 (tm := mk (Try.f25.ntmps) [(0, .d (.int .i64 q))]) (by kernel_rfl) ?_
  refine .seg 16 [2] (T' := cgo 16 [] [.code B25]) (tm' := mk 11 [(2, .ptr 2 0 0)]) (σ' := [.cells [.ex 1 [], .ex 1 []], .cells [.ex 1 [], .ex 1 []], .cells [.ex 2 [], .ptr 0 0 0, .ptr 1 0 0, .ex 3 [], .d (.int .i64 (if 0 > q then 0 else q)), .d (.bool false), .d (.bool false), .d (.int .i64 (-1)), .d (.int .i64 0)]]) (by kernel_rfl) ?_
  refine .virtX 2 0 2 rfl rfl ?_
  refine .virtX 2 3 3 rfl rfl ?_
  refine .virtX 0 0 1 rfl rfl ?_
  refine .virtX 0 1 1 rfl rfl ?_
  refine .freezeC 1 (cs0 := [V.ex 1 [], V.ex 1 []]) (ds := [D.list 1 [], D.list 1 []]) (by kernel_rfl) (by kernel_rfl) ?_
  refine .raises [3, 4, 5, 6] ?_
  refine .su [2, 3, 0, 5, 6, 4] (mk 11 [(2, .ptr 0 0 0)]) (SD (Dk.new q) true) ?_
  refine .retH F25 (v := V.ptr 0 0 0) (by kernel_rfl) (by kernel_rfl) ?_
  exact ⟨rfl, rfl⟩
end Go.Proofs.Ytoelkgbeefoplaa
namespace Go.Proofs.Ytoelkgbeefoplaa
open Go Go.Br Go.Proofs
open List (map)
def flip (bs : List UInt8) (j b : Nat) : List UInt8 := bs.set j (bs.getD j 0 ^^^ (1 <<< UInt8.ofNat b))
def turn (A o N : Nat) (P : BitVec 32) : Nat → Nat → List UInt8 → Bool → List UInt8 × Bool
  | 0, _, row, tn => (row, tn)
  | m + 1, i, row, tn => if o + i < N then (if P.getLsbD i then turn A o N P m (i + 1) (flip row (A + 4 + (o + i) / 8) ((o + i) % 8)) true else turn A o N P m (i + 1) row tn) else (row, tn)
theorem flip_length (bs : List UInt8) (j b : Nat) : (flip bs j b).length = bs.length := by simp [flip]
section
variable {Q : AE → Store → Prop} {k : Nat}
end
end Go.Proofs.Ytoelkgbeefoplaa
namespace Go.Proofs.Ytoelkgbeefoplaa
open Go Go.Br Go.Proofs
open List (map)
def feed (s : BitVec 32) (bs : List UInt8) : BitVec 32 := bs.foldl crcB s
theorem and_one32 (r : BitVec 32) : r &&& 1#32 = if r.getLsbD 0 then 1#32 else 0#32 := by
  apply BitVec.eq_of_getLsbD_eq
  intro j hj
  by_cases h0 : j = 0
  · subst h0
    rw [BitVec.getLsbD_and]
    cases h : r.getLsbD 0 <;> rfl
  · cases h : r.getLsbD 0 <;> simp [h0]
theorem crc1_eq (r : BitVec 32) : crc1 r = (r >>> 1) ^^^ (if r.getLsbD 0 then 0xEDB88320#32 else 0#32) := by
  unfold crc1
  rw [and_one32]
  cases r.getLsbD 0
  · rfl
  · rfl
theorem crc1_xor (x y : BitVec 32) : crc1 (x ^^^ y) = crc1 x ^^^ crc1 y := by
  rw [crc1_eq, crc1_eq, crc1_eq, BitVec.getLsbD_xor, BitVec.ushiftRight_xor_distrib]
  generalize x >>> 1 = a
  generalize y >>> 1 = b
  generalize 0xEDB88320#32 = p
  apply BitVec.eq_of_getLsbD_eq
  intro j hj
  cases x.getLsbD 0 <;> cases y.getLsbD 0 <;> simp <;> cases a.getLsbD j <;> cases b.getLsbD j <;> cases p.getLsbD j <;> rfl
theorem crc8_xor : ∀ (n : Nat) (x y : BitVec 32), crc8 n (x ^^^ y) = crc8 n x ^^^ crc8 n y
  | 0, _, _ => rfl
  | n + 1, x, y => by rw [crc8, crc1_xor, crc8_xor n]; rfl
theorem crc8_add : ∀ (m n : Nat) (x : BitVec 32), crc8 (m + n) x = crc8 n (crc8 m x)
  | 0, n, x => by rw [Nat.zero_add]; rfl
  | m + 1, n, x => by rw [Nat.add_right_comm, crc8, crc8_add m n]; rfl
theorem crc1_shl (i : Fin 31) : crc1 (1#32 <<< (i.val + 1)) = 1#32 <<< i.val := by
  revert i; decide
theorem crc8_shl : ∀ i : Nat, i < 32 → crc8 i (1#32 <<< i) = 1#32
  | 0, _ => rfl
  | i + 1, h => by rw [crc8, crc1_shl ⟨i, by omega⟩, crc8_shl i (by omega)]
theorem zx_xor (c d : UInt8) : (c ^^^ d).toBitVec.zeroExtend 32 = c.toBitVec.zeroExtend 32 ^^^ d.toBitVec.zeroExtend 32 := by
  simp [BitVec.setWidth_xor]
theorem crcB_xor (a b : BitVec 32) (c d : UInt8) : crcB (a ^^^ b) (c ^^^ d) = crcB a c ^^^ crcB b d := by
  unfold crcB
  rw [zx_xor, ← crc8_xor]
  congr 1
  ac_rfl
theorem crcB_left (a b : BitVec 32) (c : UInt8) : crcB (a ^^^ b) c = crcB a c ^^^ crc8 8 b := by
  have := crcB_xor a b c 0
  rw [UInt8.xor_zero] at this
  rw [this]
  congr 1
  show crc8 8 (b ^^^ 0#32) = _
  rw [BitVec.xor_zero]
theorem feed_xor : ∀ (bs : List UInt8) (a b : BitVec 32), feed (a ^^^ b) bs = feed a bs ^^^ crc8 (8 * bs.length) b
  | [], _, _ => rfl
  | c :: bs, a, b => by
    show feed (crcB (a ^^^ b) c) bs = feed (crcB a c) bs ^^^ _
    rw [crcB_left, feed_xor bs, ← crc8_add, List.length_cons]
    congr 2
    omega
theorem zx_shl (b : Nat) (h : b < 8) : (1 <<< UInt8.ofNat b : UInt8).toBitVec.zeroExtend 32 = 1#32 <<< b := by
  have : b = 0 ∨ b = 1 ∨ b = 2 ∨ b = 3 ∨ b = 4 ∨ b = 5 ∨ b = 6 ∨ b = 7 := by omega
  rcases this with h | h | h | h | h | h | h | h <;> subst h <;> rfl
theorem feed_flip : ∀ (bs : List UInt8) (j b : Nat) (s : BitVec 32), j < bs.length → b < 8 → feed s (flip bs j b) = feed s bs ^^^ crc8 (8 * (bs.length - j) - b) 1#32
  | [], j, b, s, h, _ => by simp at h
  | c :: bs, 0, b, s, _, hb => by
    show feed (crcB s (c ^^^ (1 <<< UInt8.ofNat b))) bs = feed (crcB s c) bs ^^^ _
    have h1 : crcB s (c ^^^ (1 <<< UInt8.ofNat b)) = crcB s c ^^^ crc8 (8 - b) 1#32 := by
      have h2 := crcB_xor s 0#32 c (1 <<< UInt8.ofNat b)
      rw [BitVec.xor_zero] at h2
      rw [h2]
      congr 1
      rw [crcB, BitVec.zero_xor, zx_shl b hb, ← crc8_shl b (by omega), ← crc8_add, crc8_shl b (by omega)]
      congr 1
      omega
    rw [h1, feed_xor, ← crc8_add, List.length_cons]
    congr 2
    omega
  | c :: bs, j + 1, b, s, h, hb => by
    have h1 : flip (c :: bs) (j + 1) b = c :: flip bs j b := by simp [flip]
    rw [h1]
    show feed (crcB s c) (flip bs j b) = feed (crcB s c) bs ^^^ _
    rw [feed_flip bs j b _ (by simpa using h) hb, List.length_cons]
    congr 2
    omega
theorem flip_app (pre f post : List UInt8) (q b : Nat) (h : q < f.length) : flip (pre ++ f ++ post) (pre.length + q) b = pre ++ flip f q b ++ post := by
  have h1 : (pre ++ f ++ post).getD (pre.length + q) 0 = f.getD q 0 := by
    rw [List.getD_eq_getElem?_getD, List.getD_eq_getElem?_getD, List.append_assoc, List.getElem?_append_right (by omega), Nat.add_sub_cancel_left, List.getElem?_append_left h]
  unfold flip
  rw [h1, List.append_assoc, List.set_append_right _ _ (by omega), Nat.add_sub_cancel_left, List.set_append_left _ _ h, List.append_assoc]
theorem bit_ne {E : BitVec 32} {i : Nat} (hi : i < 32) (h : ∀ j, j < i + 1 → E.getLsbD j = false) : (1#32 <<< i ^^^ E) ≠ 0#32 := by
  intro he
  have := congrArg (fun z => z.getLsbD i) he
  rw [BitVec.getLsbD_xor, h i (by omega)] at this
  simp [hi] at this
theorem turn_ok (pre post : List UInt8) (M o : Nat) (P : BitVec 32) (ho : o < 8 * M) : ∀ (m i : Nat) (f : List UInt8) (tn : Bool), i + m = 32 → f.length = M + 4 →
    ∃ f' E, turn pre.length o (8 * M) P m i (pre ++ f ++ post) tn = (pre ++ f' ++ post, tn || decide (E ≠ 0#32)) ∧ f'.length = f.length ∧ f'.take 4 = f.take 4 ∧ (∀ j, j < i → E.getLsbD j = false) ∧ (E = 0#32 → f' = f) ∧ ∀ s, feed s f' = feed s f ^^^ crc8 (8 * M - o) E := by
  intro m
  have hz : ∀ n, crc8 n 0#32 = 0#32 := fun n => by have := crc8_xor n 0#32 0#32; rw [BitVec.xor_self, BitVec.xor_self] at this; exact this
  have none : ∀ (f : List UInt8) (tn : Bool) (i : Nat) (r : List UInt8 × Bool), r = (pre ++ f ++ post, tn) → ∃ f' E, r = (pre ++ f' ++ post, tn || decide (E ≠ 0#32)) ∧ f'.length = f.length ∧ f'.take 4 = f.take 4 ∧ (∀ j, j < i → E.getLsbD j = false) ∧ (E = 0#32 → f' = f) ∧ ∀ s, feed s f' = feed s f ^^^ crc8 (8 * M - o) E :=
    fun f tn i r hr => ⟨f, 0#32, by rw [hr]; simp, rfl, rfl, fun j _ => by simp, fun _ => rfl, fun s => by rw [hz, BitVec.xor_zero]⟩
  induction m with
  | zero => exact fun i f tn _ _ => none f tn i _ rfl
  | succ m ih =>
    intro i f tn hi hf
    by_cases hoi : o + i < 8 * M
    case neg => exact none f tn i _ (by rw [turn, if_neg hoi])
    rw [turn, if_pos hoi]
    by_cases hP : P.getLsbD i = true
    case neg =>
      rw [if_neg hP]
      obtain ⟨f', E, h1, h2, h3, h4, h5, h6⟩ := ih (i + 1) f tn (by omega) hf
      exact ⟨f', E, h1, h2, h3, fun j hj => h4 j (by omega), h5, h6⟩
    rw [if_pos hP, Nat.add_assoc, flip_app pre f post _ _ (by omega)]
    obtain ⟨f', E, h1, h2, h3, h4, h5, h6⟩ := ih (i + 1) (flip f (4 + (o + i) / 8) ((o + i) % 8)) true (by omega) (by rw [flip_length]; exact hf)
    have hne := bit_ne (E := E) (i := i) (by omega) h4
    refine ⟨f', 1#32 <<< i ^^^ E, by rw [h1, decide_eq_true hne]; simp, by rw [h2, flip_length], ?_, fun j hj => ?_, fun h => absurd h hne, fun s => ?_⟩
    · rw [h3, flip, List.take_set]
      rw [List.set_eq_of_length_le (by simp; omega)]
    · rw [BitVec.getLsbD_xor, h4 j (by omega)]
      simp [BitVec.getLsbD_shiftLeft, hj]
    · rw [h6, feed_flip _ _ _ _ (by omega) (by omega), crc8_xor, BitVec.xor_assoc]
      congr 2
      rw [show 8 * M - o = i + (8 * M - o - i) by omega, crc8_add, crc8_shl i (by omega)]
      congr 1
      omega
end Go.Proofs.Ytoelkgbeefoplaa
namespace Go.Proofs.Ytoelkgbeefoplaa
open Go Go.Br Go.Proofs
open List (map)
theorem spec_21 : Br.Pure Try.prog 21 [] (.d (.bool true)) := lives_pure
theorem spec_17 (bs : List UInt8) (hlen : bs.length ≤ 1099511627776) : Br.Pure Try.prog 17 [.d (bsD bs)] (.tuple [.d (.list 1 ((parsed bs).map bsD)), .d (i64 (good (parsed bs)))]) := parse_pure bs hlen
theorem spec_20 (a b : List (List UInt8)) (ha : a.length < 9223372036854775807) : Br.Pure Try.prog 20 [.d (.list 1 (a.map bsD)), .d (.list 1 (b.map bsD))] (.d (.bool (decide (a = b)))) := same_pure a b ha
end Go.Proofs.Ytoelkgbeefoplaa
namespace Go.Proofs.Ytoelkgbeefoplaa
open Go Go.Br Go.Proofs
open List (map)
def SL (c s b : Int) (x : ByteArray) (d : Dk) (m : Bool) : Store := [.cells [.d (.int .i64 c), .d (.int .i64 s), .d (.int .i64 b), .ptr 1 0 0, .d (.str x)], .cells [.row 2, .ptr 3 0 0, .ep 2 (dirD d.sk d.sv) 0, .row 6, .d (.int .i64 d.quota), .d (.bool d.full), .d (.bool d.off), .d (.int .i64 d.stop), .d (.int .i64 d.calls)],
  .row 2 (d.files.map fileD) m, .cells [.row 4, .row 5], .row 1 (d.nk.map strD) m, .row 1 (d.nv.map intD) m, .row 3 (d.ch.map chD) m]
noncomputable def B55 : Code := (Try.f55.body).getD .skip
theorem F55 : Fnc Try.prog 55 Try.f55 B55 := ⟨Try.func55, by kernel_rfl, by kernel_rfl⟩
noncomputable def B56 : Code := (Try.f56.body).getD .skip
theorem F56 : Fnc Try.prog 56 Try.f56 B56 := ⟨Try.func56, by kernel_rfl, by kernel_rfl⟩
noncomputable def B88 : Code := (Try.f88.body).getD .skip
theorem F88 : Fnc Try.prog 88 Try.f88 B88 := ⟨Try.func88, by kernel_rfl, by kernel_rfl⟩
noncomputable def B52 : Code := (Try.f52.body).getD .skip
theorem F52 : Fnc Try.prog 52 Try.f52 B52 := ⟨Try.func52, by kernel_rfl, by kernel_rfl⟩
noncomputable def B53 : Code := (Try.f53.body).getD .skip
theorem F53 : Fnc Try.prog 53 Try.f53 B53 := ⟨Try.func53, by kernel_rfl, by kernel_rfl⟩
noncomputable def B54 : Code := (Try.f54.body).getD .skip
theorem F54 : Fnc Try.prog 54 Try.f54 B54 := ⟨Try.func54, by kernel_rfl, by kernel_rfl⟩
theorem spec_55 (c s b : Int) (x : ByteArray) (d : Dk) : CallsA Try.prog 55 [.ptr 0 0 0] (SL c s b x d false) fun r σ' => r = .ret (.d (.int .i64 b)) ∧ σ' = SL c s b x d false := by
  refine CallsA.start F55 (tm := mk (Try.f55.ntmps) [(0, .ptr 0 0 0)]) (by kernel_rfl) ?_
  refine .seg 21 [2] (T' := cgo 21 [false] [.code B55]) (tm' := mk 10 [(2, .d (.int .i64 b))]) (σ' := [.cells [.d (.int .i64 c), .d (.int .i64 s), .d (.int .i64 b), .ptr 1 0 0, .d (.str x)], .cells [.row 2, .ptr 3 0 0, .ep 2 (D.agg [D.list 1 (map strD d.sk), D.list 1 (map intD d.sv)]) 0, .row 6, .d (.int .i64 d.quota), .d (.bool d.full), .d (.bool d.off), .d (.int .i64 d.stop), .d (.int .i64 d.calls)], .row 2 (map fileD d.files) false, .cells [.row 4, .row 5], .row 1 (map strD d.nk) false, .row 1 (map intD d.nv) false, .row 3 (map chD d.ch) false]) (by kernel_rfl) ?_
  refine .retH F55 (v := V.d (D.int IntKind.i64 b)) (by kernel_rfl) (by kernel_rfl) ?_
  exact ⟨rfl, rfl⟩
theorem spec_56 (c s b : Int) (x : ByteArray) (d : Dk) : CallsA Try.prog 56 [.ptr 0 0 0] (SL c s b x d false) fun r σ' => r = .ret (.d (.int .i64 c)) ∧ σ' = SL c s b x d false := by
  refine CallsA.start F56 (tm := mk (Try.f56.ntmps) [(0, .ptr 0 0 0)]) (by kernel_rfl) ?_
  refine .seg 21 [2] (T' := cgo 21 [false] [.code B56]) (tm' := mk 10 [(2, .d (.int .i64 c))]) (σ' := [.cells [.d (.int .i64 c), .d (.int .i64 s), .d (.int .i64 b), .ptr 1 0 0, .d (.str x)], .cells [.row 2, .ptr 3 0 0, .ep 2 (D.agg [D.list 1 (map strD d.sk), D.list 1 (map intD d.sv)]) 0, .row 6, .d (.int .i64 d.quota), .d (.bool d.full), .d (.bool d.off), .d (.int .i64 d.stop), .d (.int .i64 d.calls)], .row 2 (map fileD d.files) false, .cells [.row 4, .row 5], .row 1 (map strD d.nk) false, .row 1 (map intD d.nv) false, .row 3 (map chD d.ch) false]) (by kernel_rfl) ?_
  refine .retH F56 (v := V.d (D.int IntKind.i64 c)) (by kernel_rfl) (by kernel_rfl) ?_
  exact ⟨rfl, rfl⟩
def chk (b e : Int) : Int := if e ≠ 0 then e else b
theorem spec_88 (c s b : Int) (x : ByteArray) (d : Dk) (e : Int) : CallsA Try.prog 88 [.ptr 0 0 0, .d (.int .i64 e)] (SL c s b x d false) fun r σ' => r = .ret (.d (.int .i64 e)) ∧ σ' = SL c s (chk b e) x d false := by
  refine CallsA.start F88 (tm := mk (Try.f88.ntmps) [(0, .ptr 0 0 0), (1, .d (.int .i64 e))]) (by kernel_rfl) ?_
  refine .sg0 10 [0, 1, 4, 6] (cgo 10 [] [.code B88]) [(4, .d (.int .i64 0)), (6, .d (.bool (e != 0)))] ?_
  refine .if' (e != 0) (cgo 11 [true] [.code B88]) (cgo 11 [false] [.code B88]) (fun h1 => ?_) (fun h1 => ?_)
  · simp only [bsX] at h1
    refine .seg 12 [4] (T' := cgo 23 [true] [.code B88]) (tm' := mk 12 [(4, .d (.int .i64 e))]) (σ' := [.cells [.d (.int .i64 c), .d (.int .i64 s), .d (.int .i64 e), .ptr 1 0 0, .d (.str x)], .cells [.row 2, .ptr 3 0 0, .ep 2 (D.agg [D.list 1 (map strD d.sk), D.list 1 (map intD d.sv)]) 0, .row 6, .d (.int .i64 d.quota), .d (.bool d.full), .d (.bool d.off), .d (.int .i64 d.stop), .d (.int .i64 d.calls)], .row 2 (map fileD d.files) false, .cells [.row 4, .row 5], .row 1 (map strD d.nk) false, .row 1 (map intD d.nv) false, .row 3 (map chD d.ch) false]) (by kernel_rfl) ?_
    refine .retH F88 (v := V.d (D.int IntKind.i64 e)) (by kernel_rfl) (by kernel_rfl) ?_
    simp_all [SL, dirD, chk]
  · simp only [bsX] at h1
    refine .seg 6 [4] (T' := cgo 17 [false] [.code B88]) (tm' := mk 12 [(4, .d (.int .i64 e))]) (σ' := [.cells [.d (.int .i64 c), .d (.int .i64 s), .d (.int .i64 b), .ptr 1 0 0, .d (.str x)], .cells [.row 2, .ptr 3 0 0, .ep 2 (D.agg [D.list 1 (map strD d.sk), D.list 1 (map intD d.sv)]) 0, .row 6, .d (.int .i64 d.quota), .d (.bool d.full), .d (.bool d.off), .d (.int .i64 d.stop), .d (.int .i64 d.calls)], .row 2 (map fileD d.files) false, .cells [.row 4, .row 5], .row 1 (map strD d.nk) false, .row 1 (map intD d.nv) false, .row 3 (map chD d.ch) false]) (by kernel_rfl) ?_
    refine .retH F88 (v := V.d (D.int IntKind.i64 e)) (by kernel_rfl) (by kernel_rfl) ?_
    simp_all [SL, dirD, chk]
end Go.Proofs.Ytoelkgbeefoplaa
namespace Go.Proofs.Ytoelkgbeefoplaa
open Go Go.Br Go.Proofs
open List (map)
def makeE (d : Dk) (x : ByteArray) : Int := if d.begun.createE x ≠ 0 then d.begun.createE x else (d.begun.createD x).begun.err false []
def makeL (d : Dk) (x : ByteArray) : Dk := if d.begun.createE x ≠ 0 then d.begun.createD x else (d.begun.createD x).begun.syncDirD
noncomputable def B87 : Code := (Try.f87.body).getD .skip
theorem F87 : Fnc Try.prog 87 Try.f87 B87 := ⟨Try.func87, by kernel_rfl, by kernel_rfl⟩
theorem spec_87 (c s b : Int) (x : ByteArray) (d : Dk) (N : Nat) (h : d.Ok N) (hN : N + 5 ≤ 50000) (hx : x.size < 1000000000) : CallsA Try.prog 87 [.ptr 0 0 0] (SL c s b x d false) fun r σ' => r = .ret (.d (.int .i64 (makeE d x))) ∧ σ' = SL c s b x (makeL d x) true := by
  refine CallsA.start F87 (tm := mk (Try.f87.ntmps) [(0, .ptr 0 0 0)]) (by kernel_rfl) ?_
  have h1 := Dk.createD_ok (Dk.begun_ok h (by omega)) (by omega) x
  refine .sg0 6 [0, 2] (cgo 6 [] [.code B87]) [(2, .d (.int .i64 0))] ?_
  refine .dr (cgo 7 [] [.code B87]) [(3, .d (.int .i64 (d.begun.createE x))), (4, .ptr 0 0 0), (5, .ptr 0 0 0), (6, .ptr 0 0 3), (7, .ptr 1 0 0), (8, .ptr 0 0 0), (9, .ptr 0 0 0), (10, .ptr 0 0 4), (11, .d (.str x)), (12, .d (.int .i64 (d.begun.createE x)))] [(1, .cells [.row 2, .ptr 3 0 0, .ep 2 (D.agg [D.list 1 (map strD (d.begun.createD x).sk), D.list 1 (map intD (d.begun.createD x).sv)]) 0, .row 6, .d (.int .i64 (d.begun.createD x).quota), .d (.bool (d.begun.createD x).full), .d (.bool (d.begun.createD x).off), .d (.int .i64 (d.begun.createD x).stop), .d (.int .i64 (d.begun.createD x).calls)]), (2, .row 2 (map fileD (d.begun.createD x).files) true), (4, .row 1 (map strD (d.begun.createD x).nk) true), (5, .row 1 (map intD (d.begun.createD x).nv) true), (6, .row 3 (map chD (d.begun.createD x).ch) true)] (fun kz L hL => ?_) ?_
  · refine ⟨[⟨[], [], [], [0], [0], [], true, false⟩, ⟨[], [], [], [0], [0], [0], true, false⟩, ⟨[], [], [], [0], [0], [0], true, false⟩, ⟨[0], [], [], [1], [0, 1], [], true, false⟩, ⟨[], [], [], [0], [0], [], true, false⟩, ⟨[], [], [], [0], [0], [0], true, false⟩, ⟨[], [], [], [0], [0], [0], true, false⟩, ⟨[0], [], [], [], [0, 1], [], true, false⟩, ⟨[1, 2, 3, 4, 5, 6], [1, 2, 3, 4, 5, 6], [2, 4, 5, 6], [2, 3, 6, 4, 5], [1, 2, 3, 6, 4, 5], [], true, false⟩, nF], run_amongF hL _ [] [0, 1, 2, 3, 4, 5, 6, 7, 8, 9] (by intro p hp; cases hp) (by kernel_rfl) ?_⟩
    refine Run.ap [0, 1, 2, 3, 4, 5, 6, 7] [(4, .ptr 0 0 0), (5, .ptr 0 0 0), (6, .ptr 0 0 3), (7, .ptr 1 0 0), (8, .ptr 0 0 0), (9, .ptr 0 0 0), (10, .ptr 0 0 4), (11, .d (.str x))] [] ?_
    refine Run.one (StepF.call (o := ((drawOf (cgo 6 [] [.code B87]))[8]?).getD default) (x := (.func 26)) (args := #[(.tmp 7), (.tmp 11)]) (ts := #[40, 9]) (first := []) (cap := []) [1, 2, 3, 4, 5, 6] [.ptr 0 0 0, .d (.str x)] [.cells [.row 1, .ptr 2 0 0, .ep 2 (D.agg [D.list 1 (map strD d.sk), D.list 1 (map intD d.sv)]) 0, .row 5, .d (.int .i64 d.quota), .d (.bool d.full), .d (.bool d.off), .d (.int .i64 d.stop), .d (.int .i64 d.calls)], .row 2 (map fileD d.files) false, .cells [.row 3, .row 4], .row 1 (map strD d.nk) false, .row 1 (map intD d.nv) false, .row 3 (map chD d.ch) false] [.cells [.row 1, .ptr 2 0 0, .ep 2 (dirD (d.begun.createD x).sk (d.begun.createD x).sv) 0, .row 5, .d (.int .i64 (d.begun.createD x).quota), .d (.bool (d.begun.createD x).full), .d (.bool (d.begun.createD x).off), .d (.int .i64 (d.begun.createD x).stop), .d (.int .i64 (d.begun.createD x).calls)], .row 2 (map fileD (d.begun.createD x).files) true, .cells [.row 3, .row 4], .row 1 (map strD (d.begun.createD x).nk) true, .row 1 (map intD (d.begun.createD x).nv) true, .row 3 (map chD (d.begun.createD x).ch) true] (v := .d (.int .i64 (d.begun.createE x))) (by kernel_rfl) rfl (by kernel_rfl) (by kernel_rfl) F26 (@spec_26 (d) (N) (by assumption) (by omega) (x) (by assumption)) (by kernel_rfl) (by kernel_rfl) (by kernel_rfl) (by kernel_rfl) ⟨rfl, rfl, by kernel_rfl⟩ (by kernel_rfl) (by kernel_rfl) (by kernel_rfl) (by kernel_rfl) (by kernel_rfl) rfl rfl) ?_
    exact Run.fin
  refine .sg0 5 [0, 2, 3, 14] (cgo 12 [] [.code B87]) [(14, .d (.bool (d.begun.createE x != 0)))] ?_
  refine .if' (d.begun.createE x != 0) (cgo 13 [true] [.code B87]) (cgo 13 [false] [.code B87]) (fun h4 => ?_) (fun h4 => ?_)
  · simp only [bsX] at h4
    refine .seg 5 [0, 2] (T' := cgo 18 [true] [.code B87]) (tm' := mk 21 [(0, .ptr 0 0 0), (2, .d (.int .i64 (d.begun.createE x)))]) (σ' := [.cells [.d (.int .i64 c), .d (.int .i64 s), .d (.int .i64 b), .ptr 1 0 0, .d (.str x)], .cells [.row 2, .ptr 3 0 0, .ep 2 (D.agg [D.list 1 (map strD (d.begun.createD x).sk), D.list 1 (map intD (d.begun.createD x).sv)]) 0, .row 6, .d (.int .i64 (d.begun.createD x).quota), .d (.bool (d.begun.createD x).full), .d (.bool (d.begun.createD x).off), .d (.int .i64 (d.begun.createD x).stop), .d (.int .i64 (d.begun.createD x).calls)], .row 2 (map fileD (d.begun.createD x).files) true, .cells [.row 4, .row 5], .row 1 (map strD (d.begun.createD x).nk) true, .row 1 (map intD (d.begun.createD x).nv) true, .row 3 (map chD (d.begun.createD x).ch) true]) (by kernel_rfl) ?_
    refine .retH F87 (v := V.d (D.int IntKind.i64 (d.begun.createE x))) (by kernel_rfl) (by kernel_rfl) ?_
    simp_all [SL, dirD, makeE, makeL]
  · simp only [bsX] at h4
    refine .sg0 7 [0, 2, 16, 17, 18, 19] (cgo 20 [false] [.code B87]) [(16, .ptr 0 0 0), (17, .ptr 0 0 0), (18, .ptr 0 0 3), (19, .ptr 1 0 0)] ?_
    refine .ca [1, 2, 3, 4, 5, 6] (cgo 21 [false] [.code B87]) F33 (@spec_33 (d.begun.createD x) (N + 1 + 1) (by assumption) (by omega)) ?_
    rintro r4 s4 ⟨rfl, rfl⟩
    refine ⟨_, rfl, ?_⟩
    refine .seg 2 [2] (T' := cgo 23 [false] [.code B87]) (tm' := mk 21 [(2, .d (.int .i64 ((d.begun.createD x).begun.err false [])))]) (σ' := [.cells [.d (.int .i64 c), .d (.int .i64 s), .d (.int .i64 b), .ptr 1 0 0, .d (.str x)], .cells [.row 2, .ptr 3 0 0, .ep 2 (D.agg [D.list 1 (map strD (d.begun.createD x).begun.syncDirD.sk), D.list 1 (map intD (d.begun.createD x).begun.syncDirD.sv)]) 0, .row 6, .d (.int .i64 (d.begun.createD x).begun.syncDirD.quota), .d (.bool (d.begun.createD x).begun.syncDirD.full), .d (.bool (d.begun.createD x).begun.syncDirD.off), .d (.int .i64 (d.begun.createD x).begun.syncDirD.stop), .d (.int .i64 (d.begun.createD x).begun.syncDirD.calls)], .row 2 (map fileD (d.begun.createD x).begun.syncDirD.files) true, .cells [.row 4, .row 5], .row 1 (map strD (d.begun.createD x).begun.syncDirD.nk) true, .row 1 (map intD (d.begun.createD x).begun.syncDirD.nv) true, .row 3 (map chD (d.begun.createD x).begun.syncDirD.ch) true]) (by kernel_rfl) ?_
    refine .retH F87 (v := V.d (D.int IntKind.i64 ((d.begun.createD x).begun.err false []))) (by kernel_rfl) (by kernel_rfl) ?_
    simp_all [SL, dirD, makeE, makeL]
end Go.Proofs.Ytoelkgbeefoplaa
namespace Go.Proofs.Ytoelkgbeefoplaa
open Go Go.Br Go.Proofs
open List (map)
def tmpX : ByteArray := ⟨#[46, 116, 109, 112]⟩
noncomputable def B51 : Code := (Try.f51.body).getD .skip
theorem F51 : Fnc Try.prog 51 Try.f51 B51 := ⟨Try.func51, by kernel_rfl, by kernel_rfl⟩
theorem spec_27a (d : Dk) (N : Nat) (h : d.Ok N) (x : ByteArray) (hl : (look d.nk d.nv x).isSome = true) :
    CallsA Try.prog 27 [.ptr 0 0 0, .d (.str x)] (SD d false) fun r σ' => r = .ret (.tuple [.d (bsD (d.file (d.num x)).1), .d (.int .i64 0)]) ∧ σ' = SD d false := by
  have hc := spec_27 d N h x
  rw [if_pos hl, if_pos hl] at hc
  exact hc
theorem spec_27a2 (d : Dk) (N : Nat) (h : d.Ok N) (x : ByteArray) (hl : look d.nk d.nv x = none) :
    CallsA Try.prog 27 [.ptr 0 0 0, .d (.str x)] (SD d false) fun r σ' => r = .ret (.tuple [.d (.list 1 []), .d (.int .i64 3)]) ∧ σ' = SD d false := by
  have hc := spec_27 d N h x
  rw [hl] at hc
  exact hc
theorem spec_51 (d : Dk) (N : Nat) (h : d.Ok N) (hN : N + 5 ≤ 50000) (x : ByteArray) (hx : x.size < 1000) (hm1 : mayName x = true) (hm2 : mayName (x ++ tmpX) = true) (ho : d.off = false) (hl : look d.nk d.nv x = none) (he : makeE d x = 0) :
    CallsA Try.prog 51 [.ptr 0 0 0, .d (.str x)] (SD d false) fun r σ' => r = .ret (.tuple [.ptr 6 0 0, .d (.list 1 []), .d (.int .i64 0)]) ∧ σ' = SD (makeL d x) true ++ [.cells [.d (.int .i64 0), .d (.int .i64 0), .d (.int .i64 0), .ptr 0 0 0, .d (.str x)]] := by
  refine CallsA.start F51 (tm := mk (Try.f51.ntmps) [(0, .ptr 0 0 0), (1, .d (.str x))]) (by kernel_rfl) ?_
  have hs : (⟨#[46, 116, 109, 112]⟩ : ByteArray).size = 4 := rfl
  have hx1 : (x ++ tmpX).size = x.size + 4 := by simp [tmpX, hs]
  simp only [tmpX] at *
  refine .sg0 10 [0, 1, 4, 5, 6, 14] (cgo 10 [] [.code B51]) [(4, .d (.raw (Value.pointer none))), (5, .nils), (6, .d (.int .i64 0)), (14, .d (.str x))] ?_
  refine .semH (o := (opOf (cgo 10 [] [Item.code B51])).getD default) (v := .d (.bool (mayName x))) (by kernel_rfl) (by kernel_rfl) (T' := cgo 11 [] [Item.code B51]) (by kernel_rfl) (fun kz => sem_data0 (x := (.func 28)) (args := #[(.tmp 14)]) (ts := #[9]) (first := []) (cap := []) (ds := [.d (.str x)]) (v := .d (.bool (mayName x))) F28 (@spec_28 (x) (by omega)) (by kernel_rfl) (by kernel_rfl) (by kernel_rfl) (by kernel_rfl) (by kernel_rfl) (by kernel_rfl) _) ?_
  refine .sg0 2 [0, 1, 4, 5, 6, 14, 15, 16, 17] (cgo 13 [] [.code B51]) [(16, .d (.bool !mayName x)), (17, .d (.bool !mayName x))] ?_
  rcases Bool.eq_false_or_eq_true (!mayName x) with h1 | h1
  · rw [h1]
    simp only [bsX] at h1
    simp_all
  · rw [h1]
    simp only [bsX] at h1
    refine .sg0 1 [0, 1, 4, 5, 6, 14, 15, 16, 17, 18] (cgo 14 [] [.code B51]) [(18, .d (.str x))] ?_
    refine .op' (cgo 15 [] [.code B51]) (cat_ok (t := 9) (ty := 9) (x := (.tmp 18)) (y := (.const (Value.string (ByteArray.mk #[46, 116, 109, 112])))) (s := x) (u := ByteArray.mk #[46, 116, 109, 112]) (by kernel_rfl) (by kernel_rfl) (by kernel_rfl) (by omega)) ?_
    refine .semH (o := (opOf (cgo 15 [] [Item.code B51])).getD default) (v := .d (.bool (mayName (x ++ ByteArray.mk #[46, 116, 109, 112])))) (by kernel_rfl) (by kernel_rfl) (T' := cgo 16 [] [Item.code B51]) (by kernel_rfl) (fun kz => sem_data0 (x := (.func 28)) (args := #[(.tmp 19)]) (ts := #[9]) (first := []) (cap := []) (ds := [.d (.str (x ++ ByteArray.mk #[46, 116, 109, 112]))]) (v := .d (.bool (mayName (x ++ ByteArray.mk #[46, 116, 109, 112])))) F28 (@spec_28 (x ++ ByteArray.mk #[46, 116, 109, 112]) (by omega)) (by kernel_rfl) (by kernel_rfl) (by kernel_rfl) (by kernel_rfl) (by kernel_rfl) (by kernel_rfl) _) ?_
    refine .sg0 3 [0, 1, 4, 5, 6, 22] (cgo 19 [] [.code B51]) [(22, .d (.bool !mayName (x ++ ByteArray.mk #[46, 116, 109, 112])))] ?_
    refine .if' (!mayName (x ++ ByteArray.mk #[46, 116, 109, 112])) (cgo 20 [true] [.code B51]) (cgo 20 [false] [.code B51]) (fun h2 => ?_) (fun h2 => ?_)
    · simp only [bsX] at h2
      simp_all
    · simp only [bsX] at h2
      refine .sg0 5 [0, 1, 4, 5, 6, 23] (cgo 25 [false] [.code B51]) [(23, .ptr 0 0 0)] ?_
      refine .ca [0, 1, 2, 3, 4, 5] (cgo 26 [false] [.code B51]) F41 (@spec_41 (d)) ?_
      rintro r2 s2 ⟨rfl, rfl⟩
      refine ⟨_, rfl, ?_⟩
      refine .sg0 1 [0, 1, 4, 5, 6, 24] (cgo 27 [false] [.code B51]) [] ?_
      refine .if' (d.off) (cgo 28 [false, true] [.code B51]) (cgo 28 [false, false] [.code B51]) (fun h4 => ?_) (fun h4 => ?_)
      · simp_all
      · refine .sg 13 [0, 1, 4, 5, 6, 7, 30, 31] (cgo 41 [false, false] [.code B51]) [(7, .ptr 6 0 0), (30, .ptr 0 0 0), (31, .d (.str x))] [(6, .cells [.d (.int .i64 0), .d (.int .i64 0), .d (.int .i64 0), .ptr 0 0 0, .d (.str x)])] ?_
        refine .ca [0, 1, 2, 3, 4, 5] (cgo 42 [false, false] [.code B51]) F27 (@spec_27a2 (d) (N) (by assumption) (x) (by assumption)) ?_
        rintro r4 s4 ⟨rfl, rfl⟩
        refine ⟨_, rfl, ?_⟩
        refine .sg0 17 [4, 5, 6, 7, 8, 37] (cgo 59 [false, false, true] [.code B51]) [(8, .d (.list 1 [])), (37, .ptr 6 0 0)] ?_
        refine .ca [6, 0, 1, 2, 3, 4, 5] (cgo 60 [false, false, true] [.code B51]) F87 (@spec_87 (0) (0) (0) (x) (d) (N) (by assumption) (by assumption) (by omega)) ?_
        rintro r5 s5 ⟨rfl, rfl⟩
        refine ⟨_, rfl, ?_⟩
        refine .sg0 7 [4, 5, 6, 7, 8, 10, 40] (cgo 67 [false, false, true] [.code B51]) [(10, .d (.int .i64 (makeE d x))), (40, .d (.bool (makeE d x != 0)))] ?_
        refine .if' (makeE d x != 0) (cgo 68 [false, false, true, true] [.code B51]) (cgo 68 [false, false, true, false] [.code B51]) (fun h7 => ?_) (fun h7 => ?_)
        · simp only [bsX] at h7
          omega
        · simp only [bsX] at h7
          refine .sg0 8 [4, 5, 6, 7, 8] (cgo 76 [false, false, true, false] [.code B51]) [(4, .ptr 6 0 0)] ?_
          refine .coerce [0, 0, 0, 0, 85, 26, 23] ?_
          refine .retH F51 (v := V.tuple [V.ptr 6 0 0, V.d (D.list 1 []), V.d (D.int IntKind.i64 0)]) (by kernel_rfl) (by kernel_rfl) ?_
          exact ⟨rfl, rfl⟩
end Go.Proofs.Ytoelkgbeefoplaa
namespace Go.Proofs.Ytoelkgbeefoplaa
open Go Go.Br Go.Proofs
open List (map)
theorem spec_16 (bs : List UInt8) (hlen : bs.length ≤ 65536) : CallsA Try.prog 16 [.d (.list 1 (bs.map u8))] [] fun r σ' => r = .ret (.tuple [.row 0, .d (i64 0)]) ∧ σ' = [.row 1 ((frame bs).map u8) false] := frame_pure bs hlen
theorem spec_16c (ds : List D) (h : 65536 < ds.length) (h' : ds.length < 1000000000) : Br.Pure Try.prog 16 [.d (.list 1 ds)] (.tuple [.d (.list 1 []), .d (.int .i64 2)]) := by
  refine CallsA.start F16 (tm := mk (Try.f16.ntmps) [(0, .d (.list 1 ds))]) (by kernel_rfl) ?_
  refine .seg 12 [0, 2, 3, 7] (T' := cgo 12 [] [.code B16]) (tm' := mk 19 [(0, .d (.list 1 ds)), (2, V.nils), (3, .d (.int .i64 0)), (7, .d (.bool (decide ((↑ds.length : Int) > 65536))))]) (σ' := []) (by kernel_rfl) ?_
  refine .ifH (b := decide ((↑ds.length : Int) > 65536)) (by kernel_rfl) (by kernel_rfl) (T1 := cgo 13 [true] [Item.code B16]) (T2 := cgo 13 [false] [Item.code B16]) (by kernel_rfl) (by kernel_rfl) (fun h1 => ?_) (fun h1 => ?_)
  · simp only [bsX] at h1
    refine .seg 5 [0, 2, 3] (T' := cgo 18 [true] [.code B16]) (tm' := mk 19 [(0, .d (.list 1 ds)), (2, V.nils), (3, .d (.int .i64 2))]) (σ' := []) (by kernel_rfl) ?_
    refine .coerce [0, 0, 22, 23] ?_
    refine .retH F16 (v := V.tuple [V.d (D.list 1 []), V.d (D.int IntKind.i64 2)]) (by kernel_rfl) (by kernel_rfl) ?_
    exact ⟨rfl, rfl⟩
  · simp only [bsX] at h1
    omega
end Go.Proofs.Ytoelkgbeefoplaa
namespace Go.Proofs.Ytoelkgbeefoplaa
open Go Go.Br Go.Proofs
open List (map)
def addE (d : Dk) (x : ByteArray) (bs : List UInt8) : Int := if 65536 < bs.length then 2 else d.begun.appendE x (frame bs)
def addL (d : Dk) (x : ByteArray) (bs : List UInt8) : Dk := if 65536 < bs.length then d else d.begun.appendD x (frame bs)
theorem spec_52 (c s : Int) (x : ByteArray) (d : Dk) (N : Nat) (h : d.Ok N) (hN : N + 5 ≤ 50000) (hx : x.size < 1000000000) (bs : List UInt8) (hb : bs.length < 1000000) (hc0 : 0 ≤ c) (hc1 : c < 1000000) (hs0 : 0 ≤ s) (hs1 : s < 1000000000) :
    CallsA Try.prog 52 [.ptr 0 0 0, .d (.list 1 (bs.map u8))] (SL c s 0 x d false) fun r σ' => r = .ret (.d (.int .i64 (addE d x bs))) ∧ σ' = SL (if addE d x bs = 0 then c + 1 else c) (if addE d x bs = 0 then s + (frame bs).length else s) (if addE d x bs = 0 ∨ addE d x bs = 2 ∨ addE d x bs = 4 then 0 else addE d x bs) x (addL d x bs) true := by
  have hfl : (frame bs).length = bs.length + 8 := frame_length bs
  refine CallsA.start F52 (tm := mk (Try.f52.ntmps) [(0, .ptr 0 0 0), (1, .d (.list 1 (bs.map u8)))]) (by kernel_rfl) ?_
  have hl2 : (bs.map u8).length = bs.length := List.length_map ..
  by_cases hbig : 65536 < bs.length
  · have hb2 : 65536 < (bs.map u8).length := by omega
    have hb3 : (bs.map u8).length < 1000000000 := by omega
    have e1 : addE d x bs = 2 := by simp [addE, hbig]
    have e2 : addL d x bs = d := by simp [addL, hbig]
    rw [e1, e2]
    refine .sg0 8 [0, 1, 4, 9] (cgo 8 [] [.code B52]) [(4, .d (.int .i64 0)), (9, .ptr 0 0 0)] ?_
    simp only [List.length_map]
    refine .ca [0, 1, 2, 3, 4, 5, 6] (cgo 9 [] [.code B52]) F55 (@spec_55 (c) (s) (0) (x) (d)) ?_
    rintro r0 s0 ⟨rfl, rfl⟩
    refine ⟨_, rfl, ?_⟩
    refine .sg0 12 [0, 1, 4, 15] (cgo 21 [false] [.code B52]) [(15, .d (.list 1 (map u8 bs)))] ?_
    refine .semH (o := (opOf (cgo 21 [false] [Item.code B52])).getD default) (v := .tuple [.d (.list 1 []), .d (.int .i64 2)]) (by kernel_rfl) (by kernel_rfl) (T' := cgo 22 [false] [Item.code B52]) (by kernel_rfl) (fun kz => sem_data0 (x := (.func 16)) (args := #[(.tmp 15)]) (ts := #[22]) (first := []) (cap := []) (ds := [.d (.list 1 (map u8 bs))]) (v := .tuple [.d (.list 1 []), .d (.int .i64 2)]) F16 (@spec_16c (map u8 bs) (by assumption) (by assumption)) (by kernel_rfl) (by kernel_rfl) (by kernel_rfl) (by kernel_rfl) (by kernel_rfl) (by kernel_rfl) _) ?_
    refine .seg 18 [0, 4, 6] (T' := cgo 40 [false, true] [.code B52]) (tm' := mk 64 [(0, .ptr 0 0 0), (4, .d (.int .i64 2)), (6, .d (.list 1 []))]) (σ' := [.cells [.d (.int .i64 c), .d (.int .i64 s), .d (.int .i64 0), .ptr 1 0 0, .d (.str x)], .cells [.row 2, .ptr 3 0 0, .ep 2 (D.agg [D.list 1 (map strD d.sk), D.list 1 (map intD d.sv)]) 0, .row 6, .d (.int .i64 d.quota), .d (.bool d.full), .d (.bool d.off), .d (.int .i64 d.stop), .d (.int .i64 d.calls)], .row 2 (map fileD d.files) false, .cells [.row 4, .row 5], .row 1 (map strD d.nk) false, .row 1 (map intD d.nv) false, .row 3 (map chD d.ch) false]) (by kernel_rfl) ?_
    refine .raise 2 rfl rfl ?_
    refine .raise 4 rfl rfl ?_
    refine .raise 5 rfl rfl ?_
    refine .raise 6 rfl rfl ?_
    refine .retH F52 (v := V.d (D.int IntKind.i64 2)) (by kernel_rfl) (by kernel_rfl) ?_
    exact ⟨rfl, rfl⟩
  · have hb2 : bs.length ≤ 65536 := by omega
    have hb3 : (frame bs).length < 1000000000 := by omega
    have e1 : addE d x bs = d.begun.appendE x (frame bs) := by simp [addE, hbig]
    have e2 : addL d x bs = d.begun.appendD x (frame bs) := by simp [addL, hbig]
    rw [e1, e2]
    refine .sg0 8 [0, 1, 4, 9] (cgo 8 [] [.code B52]) [(4, .d (.int .i64 0)), (9, .ptr 0 0 0)] ?_
    refine .ca [0, 1, 2, 3, 4, 5, 6] (cgo 9 [] [.code B52]) F55 (@spec_55 (c) (s) (0) (x) (d)) ?_
    rintro r0 s0 ⟨rfl, rfl⟩
    refine ⟨_, rfl, ?_⟩
    refine .sg0 12 [0, 1, 4, 15] (cgo 21 [false] [.code B52]) [(15, .d (.list 1 (map u8 bs)))] ?_
    refine .ca [] (cgo 22 [false] [.code B52]) F16 (@spec_16 (bs) (by assumption)) ?_
    rintro r1 s1 ⟨rfl, rfl⟩
    refine ⟨_, rfl, ?_⟩
    refine .sg0 15 [0, 4, 6] (cgo 37 [false, false] [.code B52]) [(6, .row 7)] ?_
    refine .freeze 7 (sz := 1) (xs := (frame bs).map u8) (mv := false) (by kernel_rfl) ?_
    refine .dr (cgo 38 [false, false] [.code B52]) [(8, .d (.int .i64 (d.begun.appendE x (frame bs)))), (22, .ptr 0 0 0), (23, .ptr 0 0 0), (24, .ptr 0 0 3), (25, .ptr 1 0 0), (26, .ptr 0 0 0), (27, .ptr 0 0 0), (28, .ptr 0 0 4), (29, .d (.str x)), (30, .d (.list 1 (map u8 (frame bs)))), (31, .d (.int .i64 (d.begun.appendE x (frame bs))))] [(1, .cells [.row 2, .ptr 3 0 0, .ep 2 (D.agg [D.list 1 (map strD (d.begun.appendD x (frame bs)).sk), D.list 1 (map intD (d.begun.appendD x (frame bs)).sv)]) 0, .row 6, .d (.int .i64 (d.begun.appendD x (frame bs)).quota), .d (.bool (d.begun.appendD x (frame bs)).full), .d (.bool (d.begun.appendD x (frame bs)).off), .d (.int .i64 (d.begun.appendD x (frame bs)).stop), .d (.int .i64 (d.begun.appendD x (frame bs)).calls)]), (2, .row 2 (map fileD (d.begun.appendD x (frame bs)).files) true), (4, .row 1 (map strD (d.begun.appendD x (frame bs)).nk) true), (5, .row 1 (map intD (d.begun.appendD x (frame bs)).nv) true), (6, .row 3 (map chD (d.begun.appendD x (frame bs)).ch) true)] (fun kz L hL => ?_) ?_
    · refine ⟨[⟨[], [], [], [0], [0], [], true, false⟩, ⟨[], [], [], [0], [0], [0], true, false⟩, ⟨[], [], [], [0], [0], [0], true, false⟩, ⟨[0], [], [], [1], [0, 1], [], true, false⟩, ⟨[], [], [], [0], [0], [], true, false⟩, ⟨[], [], [], [0], [0], [0], true, false⟩, ⟨[], [], [], [0], [0], [0], true, false⟩, ⟨[0], [], [], [], [0, 1], [], true, false⟩, nF, ⟨[1, 2, 3, 4, 5, 6], [1, 2, 3, 4, 5, 6], [2, 4, 5, 6], [2, 3, 6, 4, 5], [1, 2, 3, 6, 4, 5], [], true, false⟩, nF], run_amongF hL _ [] [0, 1, 2, 3, 4, 5, 6, 7, 8, 9, 10] (by intro p hp; cases hp) (by kernel_rfl) ?_⟩
      refine Run.ap [0, 1, 2, 3, 4, 5, 6, 7, 8] [(22, .ptr 0 0 0), (23, .ptr 0 0 0), (24, .ptr 0 0 3), (25, .ptr 1 0 0), (26, .ptr 0 0 0), (27, .ptr 0 0 0), (28, .ptr 0 0 4), (29, .d (.str x)), (30, .d (.list 1 (map u8 (frame bs))))] [] ?_
      refine Run.one (StepF.call (o := ((drawOf (cgo 37 [false, false] [.code B52]))[9]?).getD default) (x := (.func 31)) (args := #[(.tmp 25), (.tmp 29), (.tmp 30)]) (ts := #[40, 9, 22]) (first := []) (cap := []) [1, 2, 3, 4, 5, 6] [.ptr 0 0 0, .d (.str x), .d (.list 1 (map u8 (frame bs)))] [.cells [.row 1, .ptr 2 0 0, .ep 2 (D.agg [D.list 1 (map strD d.sk), D.list 1 (map intD d.sv)]) 0, .row 5, .d (.int .i64 d.quota), .d (.bool d.full), .d (.bool d.off), .d (.int .i64 d.stop), .d (.int .i64 d.calls)], .row 2 (map fileD d.files) false, .cells [.row 3, .row 4], .row 1 (map strD d.nk) false, .row 1 (map intD d.nv) false, .row 3 (map chD d.ch) false] [.cells [.row 1, .ptr 2 0 0, .ep 2 (dirD (d.begun.appendD x (frame bs)).sk (d.begun.appendD x (frame bs)).sv) 0, .row 5, .d (.int .i64 (d.begun.appendD x (frame bs)).quota), .d (.bool (d.begun.appendD x (frame bs)).full), .d (.bool (d.begun.appendD x (frame bs)).off), .d (.int .i64 (d.begun.appendD x (frame bs)).stop), .d (.int .i64 (d.begun.appendD x (frame bs)).calls)], .row 2 (map fileD (d.begun.appendD x (frame bs)).files) true, .cells [.row 3, .row 4], .row 1 (map strD (d.begun.appendD x (frame bs)).nk) true, .row 1 (map intD (d.begun.appendD x (frame bs)).nv) true, .row 3 (map chD (d.begun.appendD x (frame bs)).ch) true] (v := .d (.int .i64 (d.begun.appendE x (frame bs)))) (by kernel_rfl) rfl (by kernel_rfl) (by kernel_rfl) F31 (@spec_31 (d) (N) (by assumption) (by omega) (x) (by assumption) (frame bs) (by assumption)) (by kernel_rfl) (by kernel_rfl) (by kernel_rfl) (by kernel_rfl) ⟨rfl, rfl, by kernel_rfl⟩ (by kernel_rfl) (by kernel_rfl) (by kernel_rfl) (by kernel_rfl) (by kernel_rfl) rfl rfl) ?_
      exact Run.fin
    refine .sg0 10 [0, 4, 6, 8, 32, 38] (cgo 48 [false, false] [.code B52]) [(32, .d (.int .i64 (d.begun.appendE x (frame bs)))), (38, .d (.bool (d.begun.appendE x (frame bs) == 0)))] ?_
    refine .if' (d.begun.appendE x (frame bs) == 0) (cgo 49 [false, false, true] [.code B52]) (cgo 49 [false, false, false] [.code B52]) (fun h4 => ?_) (fun h4 => ?_)
    · simp only [bsX] at h4
      refine .sg 32 [4] (cgo 81 [false, false, true] [.code B52]) [] [(0, .cells [.d (.int .i64 (IntKind.i64.wrap (c + 1))), .d (.int .i64 (IntKind.i64.wrap (s + (↑(map u8 (frame bs)).length : Int)))), .d (.int .i64 0), .ptr 1 0 0, .d (.str x)])] ?_
      simp only [List.length_map]
      simp (disch := omega) only [wrap_i64, wrap_u64s, wrap_u32s, wrap_u8s, wrap_i32s, iadd_i64, isub_i64, irem_n, iquo_n, tdiv_nn, tmod_nn]
      refine .kp [4] ?_
      refine .su [0, 1, 2, 3, 4, 5, 6] (mk 64 [(4, .d (.int .i64 0))]) [.cells [.d (.int .i64 (c + 1)), .d (.int .i64 (s + (↑(frame bs).length : Int))), .d (.int .i64 0), .ptr 1 0 0, .d (.str x)], .cells [.row 2, .ptr 3 0 0, .ep 2 (D.agg [D.list 1 (map strD (d.begun.appendD x (frame bs)).sk), D.list 1 (map intD (d.begun.appendD x (frame bs)).sv)]) 0, .row 6, .d (.int .i64 (d.begun.appendD x (frame bs)).quota), .d (.bool (d.begun.appendD x (frame bs)).full), .d (.bool (d.begun.appendD x (frame bs)).off), .d (.int .i64 (d.begun.appendD x (frame bs)).stop), .d (.int .i64 (d.begun.appendD x (frame bs)).calls)], .row 2 (map fileD (d.begun.appendD x (frame bs)).files) true, .cells [.row 4, .row 5], .row 1 (map strD (d.begun.appendD x (frame bs)).nk) true, .row 1 (map intD (d.begun.appendD x (frame bs)).nv) true, .row 3 (map chD (d.begun.appendD x (frame bs)).ch) true] ?_
      refine .retH F52 (v := V.d (D.int IntKind.i64 0)) (by kernel_rfl) (by kernel_rfl) ?_
      simp_all [SL, dirD]
    · simp only [bsX] at h4
      refine .sg0 6 [0, 4, 8, 32, 60] (cgo 55 [false, false, false] [.code B52]) [(60, .d (.bool (d.begun.appendE x (frame bs) == 2)))] ?_
      refine .if' (d.begun.appendE x (frame bs) == 2) (cgo 56 [false, false, false, true] [.code B52]) (cgo 56 [false, false, false, false] [.code B52]) (fun h5 => ?_) (fun h5 => ?_)
      · simp only [bsX] at h5
        refine .sg0 1 [0, 4, 8, 60] (cgo 57 [false, false, false, true] [.code B52]) [] ?_
        refine .if' (d.begun.appendE x (frame bs) == 2) (cgo 58 [false, false, false, true, true] [.code B52]) (cgo 58 [false, false, false, true, false] [.code B52]) (fun h6 => ?_) (fun h6 => ?_)
        · simp only [bsX] at h6
          refine .sg0 5 [4] (cgo 63 [false, false, false, true, true] [.code B52]) [(4, .d (.int .i64 (d.begun.appendE x (frame bs))))] ?_
          refine .kp [4] ?_
          refine .su [0, 1, 2, 3, 4, 5, 6] (mk 64 [(4, .d (.int .i64 (d.begun.appendE x (frame bs))))]) [.cells [.d (.int .i64 c), .d (.int .i64 s), .d (.int .i64 0), .ptr 1 0 0, .d (.str x)], .cells [.row 2, .ptr 3 0 0, .ep 2 (D.agg [D.list 1 (map strD (d.begun.appendD x (frame bs)).sk), D.list 1 (map intD (d.begun.appendD x (frame bs)).sv)]) 0, .row 6, .d (.int .i64 (d.begun.appendD x (frame bs)).quota), .d (.bool (d.begun.appendD x (frame bs)).full), .d (.bool (d.begun.appendD x (frame bs)).off), .d (.int .i64 (d.begun.appendD x (frame bs)).stop), .d (.int .i64 (d.begun.appendD x (frame bs)).calls)], .row 2 (map fileD (d.begun.appendD x (frame bs)).files) true, .cells [.row 4, .row 5], .row 1 (map strD (d.begun.appendD x (frame bs)).nk) true, .row 1 (map intD (d.begun.appendD x (frame bs)).nv) true, .row 3 (map chD (d.begun.appendD x (frame bs)).ch) true] ?_
          refine .retH F52 (v := V.d (D.int IntKind.i64 (d.begun.appendE x (frame bs)))) (by kernel_rfl) (by kernel_rfl) ?_
          simp_all [SL, dirD]
        · simp only [bsX] at h6
          omega
      · simp only [bsX] at h5
        refine .sg0 4 [0, 4, 8, 60] (cgo 60 [false, false, false, false] [.code B52]) [(60, .d (.bool (d.begun.appendE x (frame bs) == 4)))] ?_
        refine .if' (d.begun.appendE x (frame bs) == 4) (cgo 61 [false, false, false, false, true] [.code B52]) (cgo 61 [false, false, false, false, false] [.code B52]) (fun h7 => ?_) (fun h7 => ?_)
        · simp only [bsX] at h7
          refine .sg0 5 [4] (cgo 66 [false, false, false, false, true] [.code B52]) [(4, .d (.int .i64 (d.begun.appendE x (frame bs))))] ?_
          refine .kp [4] ?_
          refine .su [0, 1, 2, 3, 4, 5, 6] (mk 64 [(4, .d (.int .i64 (d.begun.appendE x (frame bs))))]) [.cells [.d (.int .i64 c), .d (.int .i64 s), .d (.int .i64 0), .ptr 1 0 0, .d (.str x)], .cells [.row 2, .ptr 3 0 0, .ep 2 (D.agg [D.list 1 (map strD (d.begun.appendD x (frame bs)).sk), D.list 1 (map intD (d.begun.appendD x (frame bs)).sv)]) 0, .row 6, .d (.int .i64 (d.begun.appendD x (frame bs)).quota), .d (.bool (d.begun.appendD x (frame bs)).full), .d (.bool (d.begun.appendD x (frame bs)).off), .d (.int .i64 (d.begun.appendD x (frame bs)).stop), .d (.int .i64 (d.begun.appendD x (frame bs)).calls)], .row 2 (map fileD (d.begun.appendD x (frame bs)).files) true, .cells [.row 4, .row 5], .row 1 (map strD (d.begun.appendD x (frame bs)).nk) true, .row 1 (map intD (d.begun.appendD x (frame bs)).nv) true, .row 3 (map chD (d.begun.appendD x (frame bs)).ch) true] ?_
          refine .retH F52 (v := V.d (D.int IntKind.i64 (d.begun.appendE x (frame bs)))) (by kernel_rfl) (by kernel_rfl) ?_
          simp_all [SL, dirD]
        · simp only [bsX] at h7
          refine .sg0 6 [0, 4, 8, 33, 34, 35, 36] (cgo 67 [false, false, false, false, false] [.code B52]) [(33, .ptr 0 0 0), (34, .ptr 0 0 0), (35, .ptr 0 0 0), (36, .d (.int .i64 (d.begun.appendE x (frame bs))))] ?_
          refine .ca [0, 1, 2, 3, 4, 5, 6] (cgo 68 [false, false, false, false, false] [.code B52]) F88 (@spec_88 (c) (s) (0) (x) (d.begun.appendD x (frame bs)) (d.begun.appendE x (frame bs))) ?_
          rintro r7 s7 ⟨rfl, rfl⟩
          refine ⟨_, rfl, ?_⟩
          refine .sg0 2 [4] (cgo 70 [false, false, false, false, false] [.code B52]) [(4, .d (.int .i64 (d.begun.appendE x (frame bs))))] ?_
          refine .kp [4] ?_
          refine .su [0, 1, 2, 3, 4, 5, 6] (mk 64 [(4, .d (.int .i64 (d.begun.appendE x (frame bs))))]) [.cells [.d (.int .i64 c), .d (.int .i64 s), .d (.int .i64 (chk 0 (d.begun.appendE x (frame bs)))), .ptr 1 0 0, .d (.str x)], .cells [.row 2, .ptr 3 0 0, .ep 2 (D.agg [D.list 1 (map strD (d.begun.appendD x (frame bs)).sk), D.list 1 (map intD (d.begun.appendD x (frame bs)).sv)]) 0, .row 6, .d (.int .i64 (d.begun.appendD x (frame bs)).quota), .d (.bool (d.begun.appendD x (frame bs)).full), .d (.bool (d.begun.appendD x (frame bs)).off), .d (.int .i64 (d.begun.appendD x (frame bs)).stop), .d (.int .i64 (d.begun.appendD x (frame bs)).calls)], .row 2 (map fileD (d.begun.appendD x (frame bs)).files) true, .cells [.row 4, .row 5], .row 1 (map strD (d.begun.appendD x (frame bs)).nk) true, .row 1 (map intD (d.begun.appendD x (frame bs)).nv) true, .row 3 (map chD (d.begun.appendD x (frame bs)).ch) true] ?_
          refine .retH F52 (v := V.d (D.int IntKind.i64 (d.begun.appendE x (frame bs)))) (by kernel_rfl) (by kernel_rfl) ?_
          simp_all [SL, dirD, chk]
end Go.Proofs.Ytoelkgbeefoplaa
