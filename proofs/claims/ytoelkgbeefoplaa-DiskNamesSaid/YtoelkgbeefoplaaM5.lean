/- Texts of this proof, part 5: TurnK, OpsA, OpsB, OpsC, CopyB, OpsD, BitsA, BitsB, LeftA, CrashA. -/
import Derived.Test.YtoelkgbeefoplaaM4
namespace Go.Proofs.Ytoelkgbeefoplaa
open Go Go.Br Go.Proofs
set_option linter.unusedSimpArgs false
noncomputable def B67 : Code := (Try.f67.body).getD .skip
theorem F67 : Fnc Try.prog 67 Try.f67 B67 := ⟨Try.func67, by kernel_rfl, by kernel_rfl⟩
theorem spec_67 (fs : List D) (su : D) (ch : List D) (nk : List ByteArray) (nv : List Int) (q s c : Int) (fu off : Bool) (g n : ByteArray) (k : Int) (h1 : Rising nk) (h2 : nv.length = nk.length) (h3 : nk.length < 60000) (h4 : ch.length < 60000) :
    CallsA Try.prog 67 [.ptr 0 0 0, .d (.agg [.str g, .str n, .int .i64 k])] [.cells [.row 1, .ptr 2 0 0, .ep 2 su 0, .row 5, .d (.int .i64 q), .d (.bool fu), .d (.bool off), .d (.int .i64 s), .d (.int .i64 c)], .row 2 fs false, .cells [.row 3, .row 4], .row 1 (nk.map strD) false, .row 1 (nv.map intD) false, .row 3 ch false] fun r σ' => r = .ret (.tuple []) ∧ σ' = [.cells [.row 1, .ptr 2 0 0, .ep 2 su 0, .row 5, .d (.int .i64 q), .d (.bool fu), .d (.bool off), .d (.int .i64 s), .d (.int .i64 c)], .row 2 fs false, .cells [.row 3, .row 4], .row 1 ((kapply nk nv g n k).1.map strD) true, .row 1 ((kapply nk nv g n k).2.map intD) true, .row 3 (ch ++ [.agg [.str g, .str n, .int .i64 k]]) true] := by
  refine CallsA.start F67 (tm := mk (Try.f67.ntmps) [(0, .ptr 0 0 0), (1, .d (.agg [.str g, .str n, .int .i64 k]))]) (by kernel_rfl) ?_
  refine .seg 5 [0, 3] (T' := cgo 5 [] [.code B67]) (tm' := mk 20 [(0, .ptr 0 0 0), (3, .ptr 6 0 0)]) (σ' := [.cells [.row 1, .ptr 2 0 0, .ep 2 su 0, .row 5, .d (.int .i64 q), .d (.bool fu), .d (.bool off), .d (.int .i64 s), .d (.int .i64 c)], .row 2 fs false, .cells [.row 3, .row 4], .row 1 (List.map strD nk) false, .row 1 (List.map intD nv) false, .row 3 ch false, .cells [.d (.str g), .d (.str n), .d (.int .i64 k)]]) (by kernel_rfl) ?_
  refine .drawF (T' := cgo 6 [] [.code B67]) (tm' := mk 20 [(0, .ptr 0 0 0), (3, .ptr 6 0 0), (4, .ptr 0 0 0), (5, .ptr 0 0 0), (6, .ptr 0 0 1), (7, .ptr 2 0 0), (8, .d (.agg [D.str g, D.str n, D.int IntKind.i64 k])), (9, V.tuple [])]) (σ' := [.cells [.row 1, .ptr 2 0 0, .ep 2 su 0, .row 5, .d (.int .i64 q), .d (.bool fu), .d (.bool off), .d (.int .i64 s), .d (.int .i64 c)], .row 2 fs false, .cells [.row 3, .row 4], .row 1 (List.map strD (kapply nk nv g n k).fst) true, .row 1 (List.map intD (kapply nk nv g n k).snd) true, .row 3 ch false, .cells [.d (.str g), .d (.str n), .d (.int .i64 k)]]) (by kernel_rfl) (by kernel_rfl) (by kernel_rfl) (by kernel_rfl) (fun kz L hL => ?_) ?_
  · refine ⟨[⟨[], [], [], [0], [0], [], true, false⟩, ⟨[], [], [], [0], [0], [0], true, false⟩, ⟨[], [], [], [0], [0], [0], true, false⟩, ⟨[0], [], [], [2], [0, 1, 2, 5], [], true, false⟩, ⟨[6], [], [], [], [6], [], true, false⟩, ⟨[2, 3, 4], [2, 3, 4], [3, 4], [3, 4], [2, 3, 4], [], true, false⟩], run_amongF hL _ [] [0, 1, 2, 3, 4, 5] (by intro p hp; cases hp) (by kernel_rfl) ?_⟩
    refine Run.append (A := [0, 1, 2, 3, 4]) (srunF_ok (tm' := mk 20 [(0, .ptr 0 0 0), (3, .ptr 6 0 0), (4, .ptr 0 0 0), (5, .ptr 0 0 0), (6, .ptr 0 0 1), (7, .ptr 2 0 0), (8, .d (.agg [D.str g, D.str n, D.int IntKind.i64 k]))]) (σ' := [.cells [.row 1, .ptr 2 0 0, .ep 2 su 0, .row 5, .d (.int .i64 q), .d (.bool fu), .d (.bool off), .d (.int .i64 s), .d (.int .i64 c)], .row 2 fs false, .cells [.row 3, .row 4], .row 1 (List.map strD nk) false, .row 1 (List.map intD nv) false, .row 3 ch false, .cells [.d (.str g), .d (.str n), .d (.int .i64 k)]]) (by kernel_rfl)) ?_
    refine Run.one (StepF.call (o := ((drawOf (cgo 5 [] [.code B67]))[5]?).getD default) (x := (.func 71)) (args := #[(.tmp 7), (.tmp 8)]) (ts := #[102, 117]) (first := []) (cap := []) [2, 3, 4] [.ptr 0 0 0, .d (.agg [D.str g, D.str n, D.int IntKind.i64 k])] [.cells [.row 1, .row 2], .row 1 (List.map strD nk) false, .row 1 (List.map intD nv) false] [.cells [.row 1, .row 2], .row 1 (List.map strD (kapply nk nv g n k).fst) true, .row 1 (List.map intD (kapply nk nv g n k).snd) true] (v := V.tuple []) (tm' := mk 20 [(0, .ptr 0 0 0), (3, .ptr 6 0 0), (4, .ptr 0 0 0), (5, .ptr 0 0 0), (6, .ptr 0 0 1), (7, .ptr 2 0 0), (8, .d (.agg [D.str g, D.str n, D.int IntKind.i64 k])), (9, V.tuple [])]) (σ' := [.cells [.row 1, .ptr 2 0 0, .ep 2 su 0, .row 5, .d (.int .i64 q), .d (.bool fu), .d (.bool off), .d (.int .i64 s), .d (.int .i64 c)], .row 2 fs false, .cells [.row 3, .row 4], .row 1 (List.map strD (kapply nk nv g n k).fst) true, .row 1 (List.map intD (kapply nk nv g n k).snd) true, .row 3 ch false, .cells [.d (.str g), .d (.str n), .d (.int .i64 k)]]) (by kernel_rfl) rfl (by kernel_rfl) (by kernel_rfl) F71 (@spec_71 (nk) (nv) (g) (n) (k) (by assumption) (by omega) (by assumption)) (by kernel_rfl) (by kernel_rfl) (by kernel_rfl) (by kernel_rfl) ⟨rfl, rfl, by kernel_rfl⟩ (by kernel_rfl) (by kernel_rfl) (by kernel_rfl) (by kernel_rfl) (by kernel_rfl) (by kernel_rfl) (by kernel_rfl)) ?_
    refine Run.asP (tm' := mk 20 [(0, .ptr 0 0 0), (3, .ptr 6 0 0), (4, .ptr 0 0 0), (5, .ptr 0 0 0), (6, .ptr 0 0 1), (7, .ptr 2 0 0), (8, .d (.agg [D.str g, D.str n, D.int IntKind.i64 k])), (9, V.tuple [])]) (σ' := [.cells [.row 1, .ptr 2 0 0, .ep 2 su 0, .row 5, .d (.int .i64 q), .d (.bool fu), .d (.bool off), .d (.int .i64 s), .d (.int .i64 c)], .row 2 fs false, .cells [.row 3, .row 4], .row 1 (List.map strD (kapply nk nv g n k).fst) true, .row 1 (List.map intD (kapply nk nv g n k).snd) true, .row 3 ch false, .cells [.d (.str g), .d (.str n), .d (.int .i64 k)]]) (by kernel_rfl) (by kernel_rfl) ?_
    exact srunF_ok (by kernel_rfl)
  refine .newVirt 3 ?_
  refine .drawF (T' := cgo 7 [] [.code B67]) (tm' := mk 20 [(0, .ptr 0 0 0), (3, .ptr 6 0 0), (4, .ptr 0 0 0), (5, .ptr 0 0 0), (6, .ptr 0 0 1), (7, .ptr 2 0 0), (8, .d (.agg [D.str g, D.str n, D.int IntKind.i64 k])), (9, V.tuple []), (10, .ptr 0 0 0), (11, .ptr 0 0 0), (12, .ptr 0 0 0), (13, .ptr 0 0 3), (15, .d (.agg [D.str g, D.str n, D.int IntKind.i64 k])), (16, .row 7), (17, .row 5), (18, .ptr 0 0 0), (19, .ptr 0 0 3)]) (σ' := [.cells [.row 1, .ptr 2 0 0, .ep 2 su 0, .row 5, .d (.int .i64 q), .d (.bool fu), .d (.bool off), .d (.int .i64 s), .d (.int .i64 c)], .row 2 fs false, .cells [.row 3, .row 4], .row 1 (List.map strD (kapply nk nv g n k).fst) true, .row 1 (List.map intD (kapply nk nv g n k).snd) true, .row 3 (ch ++ [D.agg [D.str g, D.str n, D.int IntKind.i64 k]]) true, .cells [.d (.str g), .d (.str n), .d (.int .i64 k)], .row 3 [D.agg [D.str g, D.str n, D.int IntKind.i64 k]] true]) (by kernel_rfl) (by kernel_rfl) (by kernel_rfl) (by kernel_rfl) (fun kz L hL => ?_) ?_
  · refine ⟨[⟨[], [], [], [0], [0], [], true, false⟩, ⟨[], [], [], [0], [0], [], true, false⟩, ⟨[], [], [], [0], [0], [0], true, false⟩, ⟨[], [], [], [0], [0], [0], true, false⟩, ⟨[0], [], [], [5], [0, 1, 2, 5], [], true, false⟩, ⟨[6], [], [], [], [6], [], true, false⟩, ⟨[7], [7], [7], [7], [], [], true, false⟩, ⟨[5, 7], [5], [5], [5], [5, 7], [], true, false⟩, ⟨[], [], [], [0], [0], [0], true, false⟩, ⟨[], [], [], [0], [0], [0], true, false⟩, ⟨[0], [0], [], [1, 2, 5], [0, 5, 1, 2], [], false, false⟩], run_amongF hL _ [] [0, 1, 2, 3, 4, 5, 6, 7, 8, 9, 10] (by intro p hp; cases hp) (by kernel_rfl) ?_⟩
    refine Run.append (A := [0, 1, 2, 3, 4, 5]) (srunF_ok (tm' := mk 20 [(0, .ptr 0 0 0), (3, .ptr 6 0 0), (4, .ptr 0 0 0), (5, .ptr 0 0 0), (6, .ptr 0 0 1), (7, .ptr 2 0 0), (8, .d (.agg [D.str g, D.str n, D.int IntKind.i64 k])), (9, V.tuple []), (10, .ptr 0 0 0), (11, .ptr 0 0 0), (12, .ptr 0 0 0), (13, .ptr 0 0 3), (14, .row 5), (15, .d (.agg [D.str g, D.str n, D.int IntKind.i64 k]))]) (σ' := [.cells [.row 1, .ptr 2 0 0, .ep 2 su 0, .row 5, .d (.int .i64 q), .d (.bool fu), .d (.bool off), .d (.int .i64 s), .d (.int .i64 c)], .row 2 fs false, .cells [.row 3, .row 4], .row 1 (List.map strD (kapply nk nv g n k).fst) true, .row 1 (List.map intD (kapply nk nv g n k).snd) true, .row 3 ch false, .cells [.d (.str g), .d (.str n), .d (.int .i64 k)], .row 3 [] false]) (by kernel_rfl)) ?_
    refine Run.one (StepF.build (o := ((drawOf (cgo 6 [] [.code B67]))[6]?).getD default) (t := 106) (len := 1) (parts := #[(0, (.tmp 15))]) (l := 7) (ds := [D.agg [D.str g, D.str n, D.int IntKind.i64 k]]) (sz := 3) (mv := false) (by kernel_rfl) rfl (by kernel_rfl) (by kernel_rfl) (by kernel_rfl) (by kernel_rfl) (by kernel_rfl) (by kernel_rfl) (by kernel_rfl) (by kernel_rfl)) ?_
    refine Run.asP (tm' := mk 20 [(0, .ptr 0 0 0), (3, .ptr 6 0 0), (4, .ptr 0 0 0), (5, .ptr 0 0 0), (6, .ptr 0 0 1), (7, .ptr 2 0 0), (8, .d (.agg [D.str g, D.str n, D.int IntKind.i64 k])), (9, V.tuple []), (10, .ptr 0 0 0), (11, .ptr 0 0 0), (12, .ptr 0 0 0), (13, .ptr 0 0 3), (14, .row 5), (15, .d (.agg [D.str g, D.str n, D.int IntKind.i64 k])), (16, .row 7)]) (σ' := [.cells [.row 1, .ptr 2 0 0, .ep 2 su 0, .row 5, .d (.int .i64 q), .d (.bool fu), .d (.bool off), .d (.int .i64 s), .d (.int .i64 c)], .row 2 fs false, .cells [.row 3, .row 4], .row 1 (List.map strD (kapply nk nv g n k).fst) true, .row 1 (List.map intD (kapply nk nv g n k).snd) true, .row 3 ch false, .cells [.d (.str g), .d (.str n), .d (.int .i64 k)], .row 3 [D.agg [D.str g, D.str n, D.int IntKind.i64 k]] true]) (by kernel_rfl) (by kernel_rfl) ?_
    refine Run.one (StepF.moves (o := ((drawOf (cgo 6 [] [.code B67]))[7]?).getD default) (v := .row 5) [(.tmp 14), (.tmp 16)] 5 (.row 3 (ch ++ [D.agg [D.str g, D.str n, D.int IntKind.i64 k]]) true) (by kernel_rfl) rfl (by kernel_rfl) (by kernel_rfl) (by kernel_rfl) (by kernel_rfl) (by kernel_rfl) (by kernel_rfl) (fun tm' σ2 hv hr => appRow_ok (s := (.tmp 14)) (x := (.tmp 16)) (t := 106) (t2 := 106) (sz := 3) (by' := 40) (ys := [D.agg [D.str g, D.str n, D.int IntKind.i64 k]]) (l := 5) (xs := ch) (mv := false) (by kernel_rfl) (by rw [hv _ (by simp)]; kernel_rfl) ((hr _ (inK_iff.1 (by kernel_rfl))).trans (by kernel_rfl)) (by rw [hv _ (by simp)]; exact (cont_at fun l hl => hr l (subB_in (by kernel_rfl) hl)).trans (by kernel_rfl)) (by kernel_rfl) (by kernel_rfl) (by simp <;> omega) (by first | (simp [maxLen] <;> omega) | omega))) ?_
    refine Run.asP (tm' := mk 20 [(0, .ptr 0 0 0), (3, .ptr 6 0 0), (4, .ptr 0 0 0), (5, .ptr 0 0 0), (6, .ptr 0 0 1), (7, .ptr 2 0 0), (8, .d (.agg [D.str g, D.str n, D.int IntKind.i64 k])), (9, V.tuple []), (10, .ptr 0 0 0), (11, .ptr 0 0 0), (12, .ptr 0 0 0), (13, .ptr 0 0 3), (15, .d (.agg [D.str g, D.str n, D.int IntKind.i64 k])), (16, .row 7), (17, .row 5)]) (σ' := [.cells [.row 1, .ptr 2 0 0, .ep 2 su 0, .undef, .d (.int .i64 q), .d (.bool fu), .d (.bool off), .d (.int .i64 s), .d (.int .i64 c)], .row 2 fs false, .cells [.row 3, .row 4], .row 1 (List.map strD (kapply nk nv g n k).fst) true, .row 1 (List.map intD (kapply nk nv g n k).snd) true, .row 3 (ch ++ [D.agg [D.str g, D.str n, D.int IntKind.i64 k]]) true, .cells [.d (.str g), .d (.str n), .d (.int .i64 k)], .row 3 [D.agg [D.str g, D.str n, D.int IntKind.i64 k]] true]) (by kernel_rfl) (by kernel_rfl) ?_
    exact srunF_ok (by kernel_rfl)
  refine .keeps [] (tm' := mk 20 []) (by kernel_rfl) ?_
  refine .sub [0, 1, 2, 3, 4, 5] (mk 20 []) [.cells [.row 1, .ptr 2 0 0, .ep 2 su 0, .row 5, .d (.int .i64 q), .d (.bool fu), .d (.bool off), .d (.int .i64 s), .d (.int .i64 c)], .row 2 fs false, .cells [.row 3, .row 4], .row 1 (List.map strD (kapply nk nv g n k).fst) true, .row 1 (List.map intD (kapply nk nv g n k).snd) true, .row 3 (ch ++ [D.agg [D.str g, D.str n, D.int IntKind.i64 k]]) true] none [] ⟨rfl, rfl, by kernel_rfl⟩ (by kernel_rfl) ⟨Nat.le_of_ble_eq_true (by kernel_rfl), by kernel_rfl⟩ (by kernel_rfl) ⟨by kernel_rfl, by kernel_rfl⟩ ⟨rfl, rfl⟩ ?_
  refine .retH F67 (v := V.tuple []) (by kernel_rfl) (by kernel_rfl) ?_
  exact ⟨rfl, rfl⟩
end Go.Proofs.Ytoelkgbeefoplaa

namespace Go.Proofs.Ytoelkgbeefoplaa
open Go Go.Br Go.Proofs
set_option linter.unusedSimpArgs false
noncomputable def B26 : Code := (Try.f26.body).getD .skip
theorem F26 : Fnc Try.prog 26 Try.f26 B26 := ⟨Try.func26, by kernel_rfl, by kernel_rfl⟩
theorem spec_26 (d : Dk) (N : Nat) (h : d.Ok N) (hN : N + 2 ≤ 50000) (x : ByteArray) (hx : x.size < 1000000000) :
    CallsA Try.prog 26 [.ptr 0 0 0, .d (.str x)] (SD d false) fun r σ' => r = .ret (.d (.int .i64 (d.begun.createE x))) ∧ σ' = SD (d.begun.createD x) true := by
  refine CallsA.start F26 (tm := mk (Try.f26.ntmps) [(0, .ptr 0 0 0), (1, .d (.str x))]) (by kernel_rfl) ?_
  have hk := Dk.begun_ok h (by omega : N + 1 ≤ 50000)
  have q1 := hk.nr
  have q2 := hk.nl
  have q3 := hk.nkl
  have q4 := hk.nb
  have q7 := hk.chl
  have q8 := hk.fl
  have q5 : ∀ k, look d.begun.nk d.begun.nv x = some k → 0 ≤ k ∧ k < d.begun.files.length := fun k hk' => hk.nn k (look_mem hk')
  have hn1 : [D.str x] = List.map strD [x] := rfl
  cases hl : look d.begun.nk d.begun.nv x with
  | none =>
    refine .seg 10 [0, 1, 4, 8, 9, 10] (T' := cgo 10 [] [.code B26]) (tm' := mk 51 [(0, .ptr 0 0 0), (1, .d (.str x)), (4, .d (.int .i64 0)), (8, .ptr 0 0 0), (9, .d (.str x)), (10, .row 6)]) (σ' := (SP 1 2 d false [.row 1 [D.str x] false])) (by kernel_rfl) ?_
    refine .callH (o := (opOf (cgo 10 [] [.code B26])).getD default) (x := (.func 64)) (args := #[(.tmp 8), (.const (Value.bool false)), (.tmp 10)]) (ts := #[40, 4, 66]) (first := []) (cap := []) [0, 1, 2, 3, 4, 5, 6] [.ptr 0 0 0, .d (.bool false), .row 6] (SP 1 2 d false [.row 1 [D.str x] false]) F64 (@spec_64b (d) (N) (by assumption) (false) ([x]) ([D.str x]) (by assumption) (by simp; done) (by simp <;> omega) (by simp; done) (by assumption)) (by kernel_rfl) (by kernel_rfl) (T' := cgo 11 [] [.code B26]) (by kernel_rfl) (by kernel_rfl) (by kernel_rfl) (by kernel_rfl) (by kernel_rfl) ⟨rfl, rfl, by kernel_rfl⟩ ?_
    rintro r0 s0 ⟨rfl, rfl⟩
    refine ⟨_, rfl, ?_⟩
    refine .seg 7 [0, 1, 4, 5, 13] (T' := cgo 18 [] [.code B26]) (tm' := mk 51 [(0, .ptr 0 0 0), (1, .d (.str x)), (4, .d (.int .i64 0)), (5, .d (.int .i64 (d.begun.err false [x]))), (13, .d (.bool (d.begun.err false [x] != 0)))]) (σ' := (SP 1 2 d.begun false [.row 1 [D.str x] false])) (by kernel_rfl) ?_
    refine .ifH (b := d.begun.err false [x] != 0) (by kernel_rfl) (by kernel_rfl) (T1 := cgo 19 [true] [Item.code B26]) (T2 := cgo 19 [false] [Item.code B26]) (by kernel_rfl) (by kernel_rfl) (fun h2 => ?_) (fun h2 => ?_)
    · simp only [decide_eq_true_eq, decide_eq_false_iff_not, beq_iff_eq, bne_iff_ne, beq_eq_false_iff_ne, bne_eq_false_iff_eq, Bool.not_eq_true', Bool.not_eq_false', ne_eq, Decidable.not_not, Bool.not_eq_true, Bool.not_eq_false] at h2
      refine .seg 5 [0, 1, 4] (T' := cgo 24 [true] [.code B26]) (tm' := mk 51 [(0, .ptr 0 0 0), (1, .d (.str x)), (4, .d (.int .i64 (d.begun.err false [x])))]) (σ' := (SP 1 2 d.begun false [.row 1 [D.str x] false])) (by kernel_rfl) ?_
      refine .raise 1 rfl rfl ?_
      refine .raise 3 rfl rfl ?_
      refine .raise 4 rfl rfl ?_
      refine .raise 5 rfl rfl ?_
      refine .keeps [4] (tm' := mk 51 [(4, .d (.int .i64 (d.begun.err false [x])))]) (by kernel_rfl) ?_
      refine .sub [0, 1, 2, 3, 4, 5] (mk 51 [(4, .d (.int .i64 (d.begun.err false [x])))]) (SP 1 2 d.begun true []) none [] ⟨rfl, rfl, by kernel_rfl⟩ (by kernel_rfl) ⟨Nat.le_of_ble_eq_true (by kernel_rfl), by kernel_rfl⟩ (by kernel_rfl) ⟨by kernel_rfl, by kernel_rfl⟩ ⟨rfl, rfl⟩ ?_
      refine .retH F26 (v := V.d (D.int IntKind.i64 (d.begun.err false [x]))) (by kernel_rfl) (by kernel_rfl) ?_
      simp_all [SD, dirD, Dk.createE, Dk.createD, Dk.turn, fileD, chD, bsD, noName, i64]
    · simp only [decide_eq_true_eq, decide_eq_false_iff_not, beq_iff_eq, bne_iff_ne, beq_eq_false_iff_ne, bne_eq_false_iff_eq, Bool.not_eq_true', Bool.not_eq_false', ne_eq, Decidable.not_not, Bool.not_eq_true, Bool.not_eq_false] at h2
      refine .seg 6 [0, 1, 4, 16, 17] (T' := cgo 25 [false] [.code B26]) (tm' := mk 51 [(0, .ptr 0 0 0), (1, .d (.str x)), (4, .d (.int .i64 0)), (16, .ptr 0 0 0), (17, .d (.str x))]) (σ' := (SP 1 2 d.begun false [.row 1 [D.str x] false])) (by kernel_rfl) ?_
      refine .callH (o := (opOf (cgo 25 [false] [.code B26])).getD default) (x := (.func 65)) (args := #[(.tmp 16), (.tmp 17)]) (ts := #[40, 9]) (first := []) (cap := []) [0, 1, 2, 3, 4, 5] [.ptr 0 0 0, .d (.str x)] (SP 1 2 d.begun false []) F65 (@spec_65 (d.begun) (x) (none) (by assumption) (by assumption) (by assumption) (by omega) (by assumption)) (by kernel_rfl) (by kernel_rfl) (T' := cgo 26 [false] [.code B26]) (by kernel_rfl) (by kernel_rfl) (by kernel_rfl) (by kernel_rfl) (by kernel_rfl) ⟨rfl, rfl, by kernel_rfl⟩ ?_
      rintro r2 s2 ⟨rfl, rfl⟩
      refine ⟨_, rfl, ?_⟩
      refine .seg 15 [0, 1, 4, 7, 21, 22, 23, 24, 25, 26, 27] (T' := cgo 41 [false] [.code B26]) (tm' := mk 51 [(0, .ptr 0 0 0), (1, .d (.str x)), (4, .d (.int .i64 0)), (7, .d (.bool false)), (21, .d (.bool false)), (22, .d (.bool true)), (23, .d (.bool true)), (24, .ptr 0 0 0), (25, .ptr 0 0 0), (26, .ptr 0 0 1), (27, .ptr 2 0 0)]) (σ' := (SP 1 2 d.begun false [.row 1 [D.str x] false])) (by kernel_rfl) ?_
      refine .callH (o := (opOf (cgo 41 [false] [.code B26])).getD default) (x := (.func 66)) (args := #[(.tmp 27)]) (ts := #[102]) (first := []) (cap := []) [2, 3, 4] [.ptr 0 0 0] [.cells [.row 1, .row 2], .row 1 (List.map strD d.begun.nk) false, .row 1 (List.map intD d.begun.nv) false] F66 (@spec_66 (d.begun.nk) (d.begun.nv)) (by kernel_rfl) (by kernel_rfl) (T' := cgo 42 [false] [.code B26]) (by kernel_rfl) (by kernel_rfl) (by kernel_rfl) (by kernel_rfl) (by kernel_rfl) ⟨rfl, rfl, by kernel_rfl⟩ ?_
      rintro r3 s3 ⟨rfl, rfl⟩
      refine ⟨_, rfl, ?_⟩
      refine .seg 3 [0, 1, 4, 30] (T' := cgo 45 [false] [.code B26]) (tm' := mk 51 [(0, .ptr 0 0 0), (1, .d (.str x)), (4, .d (.int .i64 0)), (30, .d (.bool (decide ((↑d.begun.nk.length : Int) ≥ 1024))))]) (σ' := (SP 1 2 d.begun false [.row 1 [D.str x] false])) (by kernel_rfl) ?_
      refine .ifH (b := decide ((↑d.begun.nk.length : Int) ≥ 1024)) (by kernel_rfl) (by kernel_rfl) (T1 := cgo 46 [false, true] [Item.code B26]) (T2 := cgo 46 [false, false] [Item.code B26]) (by kernel_rfl) (by kernel_rfl) (fun h5 => ?_) (fun h5 => ?_)
      · simp only [decide_eq_true_eq, decide_eq_false_iff_not, beq_iff_eq, bne_iff_ne, beq_eq_false_iff_ne, bne_eq_false_iff_eq, Bool.not_eq_true', Bool.not_eq_false', ne_eq, Decidable.not_not, Bool.not_eq_true, Bool.not_eq_false] at h5
        refine .seg 4 [0, 1, 4] (T' := cgo 50 [false, true] [.code B26]) (tm' := mk 51 [(0, .ptr 0 0 0), (1, .d (.str x)), (4, .d (.int .i64 2))]) (σ' := (SP 1 2 d.begun false [.row 1 [D.str x] false])) (by kernel_rfl) ?_
        refine .raise 1 rfl rfl ?_
        refine .raise 3 rfl rfl ?_
        refine .raise 4 rfl rfl ?_
        refine .raise 5 rfl rfl ?_
        refine .keeps [4] (tm' := mk 51 [(4, .d (.int .i64 2))]) (by kernel_rfl) ?_
        refine .sub [0, 1, 2, 3, 4, 5] (mk 51 [(4, .d (.int .i64 2))]) (SP 1 2 d.begun true []) none [] ⟨rfl, rfl, by kernel_rfl⟩ (by kernel_rfl) ⟨Nat.le_of_ble_eq_true (by kernel_rfl), by kernel_rfl⟩ (by kernel_rfl) ⟨by kernel_rfl, by kernel_rfl⟩ ⟨rfl, rfl⟩ ?_
        refine .retH F26 (v := V.d (D.int IntKind.i64 2)) (by kernel_rfl) (by kernel_rfl) ?_
        have e : d.begun.createE x = 2 := by simp [Dk.createE, h2, hl]; omega
        have e' : d.begun.createD x = d.begun := by simp [Dk.createD, e]
        exact ⟨by rw [e], by rw [e']; rfl⟩
      · simp only [decide_eq_true_eq, decide_eq_false_iff_not, beq_iff_eq, bne_iff_ne, beq_eq_false_iff_ne, bne_eq_false_iff_eq, Bool.not_eq_true', Bool.not_eq_false', ne_eq, Decidable.not_not, Bool.not_eq_true, Bool.not_eq_false] at h5
        refine .seg 10 [0, 1, 4, 31, 32, 33, 34, 35, 36, 37] (T' := cgo 56 [false, false] [.code B26]) (tm' := mk 51 [(0, .ptr 0 0 0), (1, .d (.str x)), (4, .d (.int .i64 0)), (31, .ptr 0 0 0), (32, .ptr 0 0 0), (33, .ptr 0 0 0), (34, .ptr 0 0 0), (35, .row 1), (36, V.agg [V.ex 1 [], .d (.int .i64 0)]), (37, .row 7)]) (σ' := (SP 1 2 d.begun false [.row 1 [D.str x] false, .row 2 [D.agg [D.list 1 [], D.int IntKind.i64 0]] false])) (by kernel_rfl) ?_
        refine .opH (o := (opOf (cgo 56 [false, false] [.code B26])).getD default) (by kernel_rfl) (by kernel_rfl) (by kernel_rfl) (T' := cgo 57 [false, false] [.code B26]) (by kernel_rfl) (appRow_ok (s := (.tmp 35)) (x := (.tmp 37)) (t := 105) (t2 := 105) (sz := 2) (by' := 32) (ys := [D.agg [D.list 1 [], D.int IntKind.i64 0]]) (l := 1) (xs := List.map fileD d.begun.files) (mv := false) (by kernel_rfl) (by kernel_rfl) (by kernel_rfl) (by kernel_rfl) (by kernel_rfl) (by kernel_rfl) (by simp <;> omega) (by first | (simp [maxLen] <;> omega) | omega)) ?_
        refine .seg 15 [0, 1, 4, 41, 42, 43, 44, 45, 46, 47, 48, 49] (T' := cgo 72 [false, false] [.code B26]) (tm' := mk 51 [(0, .ptr 0 0 0), (1, .d (.str x)), (4, .d (.int .i64 0)), (41, .ptr 0 0 0), (42, .d (.str x)), (43, .ptr 0 0 0), (44, .ptr 0 0 0), (45, .ptr 0 0 0), (46, .row 1), (47, .d (.int .i64 (↑(List.map fileD d.begun.files ++ [D.agg [D.list 1 [], D.int IntKind.i64 0]]).length : Int))), (48, .d (.int .i64 (IntKind.i64.wrap ((↑(List.map fileD d.begun.files ++ [D.agg [D.list 1 [], D.int IntKind.i64 0]]).length : Int) - 1)))), (49, .d (.agg [D.str (ByteArray.mk #[]), D.str x, D.int IntKind.i64 (IntKind.i64.wrap ((↑(List.map fileD d.begun.files ++ [D.agg [D.list 1 [], D.int IntKind.i64 0]]).length : Int) - 1))]))]) (σ' := [.cells [.row 1, .ptr 2 0 0, .ep 2 (D.agg [D.list 1 (List.map strD d.begun.sk), D.list 1 (List.map intD d.begun.sv)]) 0, .row 5, .d (.int .i64 d.begun.quota), .d (.bool d.begun.full), .d (.bool d.begun.off), .d (.int .i64 d.begun.stop), .d (.int .i64 d.begun.calls)], .row 2 (List.map fileD d.begun.files ++ [D.agg [D.list 1 [], D.int IntKind.i64 0]]) true, .cells [.row 3, .row 4], .row 1 (List.map strD d.begun.nk) false, .row 1 (List.map intD d.begun.nv) false, .row 3 (List.map chD d.begun.ch) false, .row 1 [D.str x] false, .row 2 [D.agg [D.list 1 [], D.int IntKind.i64 0]] false]) (by kernel_rfl) ?_
        refine .callH (o := (opOf (cgo 72 [false, false] [.code B26])).getD default) (x := (.func 67)) (args := #[(.tmp 41), (.tmp 49)]) (ts := #[40, 117]) (first := []) (cap := []) [0, 1, 2, 3, 4, 5] [.ptr 0 0 0, .d (.agg [D.str (ByteArray.mk #[]), D.str x, D.int IntKind.i64 (IntKind.i64.wrap ((↑(List.map fileD d.begun.files ++ [D.agg [D.list 1 [], D.int IntKind.i64 0]]).length : Int) - 1))])] [.cells [.row 1, .ptr 2 0 0, .ep 2 (D.agg [D.list 1 (List.map strD d.begun.sk), D.list 1 (List.map intD d.begun.sv)]) 0, .row 5, .d (.int .i64 d.begun.quota), .d (.bool d.begun.full), .d (.bool d.begun.off), .d (.int .i64 d.begun.stop), .d (.int .i64 d.begun.calls)], .row 2 (List.map fileD d.begun.files ++ [D.agg [D.list 1 [], D.int IntKind.i64 0]]) false, .cells [.row 3, .row 4], .row 1 (List.map strD d.begun.nk) false, .row 1 (List.map intD d.begun.nv) false, .row 3 (List.map chD d.begun.ch) false] F67 (@spec_67 (List.map fileD d.begun.files ++ [D.agg [D.list 1 [], D.int IntKind.i64 0]]) (D.agg [D.list 1 (List.map strD d.begun.sk), D.list 1 (List.map intD d.begun.sv)]) (List.map chD d.begun.ch) (d.begun.nk) (d.begun.nv) (d.begun.quota) (d.begun.stop) (d.begun.calls) (d.begun.full) (d.begun.off) (ByteArray.mk #[]) (x) (IntKind.i64.wrap ((↑(List.map fileD d.begun.files ++ [D.agg [D.list 1 [], D.int IntKind.i64 0]]).length : Int) - 1)) (by assumption) (by assumption) (by omega) (by simp <;> omega)) (by kernel_rfl) (by kernel_rfl) (T' := cgo 73 [false, false] [.code B26]) (by kernel_rfl) (by kernel_rfl) (by kernel_rfl) (by kernel_rfl) (by kernel_rfl) ⟨rfl, rfl, by kernel_rfl⟩ ?_
        rintro r5 s5 ⟨rfl, rfl⟩
        refine ⟨_, rfl, ?_⟩
        refine .seg 5 [4] (T' := cgo 78 [false, false] [.code B26]) (tm' := mk 51 [(4, .d (.int .i64 0))]) (σ' := [.cells [.row 1, .ptr 2 0 0, .ep 2 (D.agg [D.list 1 (List.map strD d.begun.sk), D.list 1 (List.map intD d.begun.sv)]) 0, .row 5, .d (.int .i64 d.begun.quota), .d (.bool d.begun.full), .d (.bool d.begun.off), .d (.int .i64 d.begun.stop), .d (.int .i64 d.begun.calls)], .row 2 (List.map fileD d.begun.files ++ [D.agg [D.list 1 [], D.int IntKind.i64 0]]) true, .cells [.row 3, .row 4], .row 1 (List.map strD (kapply d.begun.nk d.begun.nv (ByteArray.mk #[]) x (IntKind.i64.wrap ((↑(List.map fileD d.begun.files ++ [D.agg [D.list 1 [], D.int IntKind.i64 0]]).length : Int) - 1))).fst) true, .row 1 (List.map intD (kapply d.begun.nk d.begun.nv (ByteArray.mk #[]) x (IntKind.i64.wrap ((↑(List.map fileD d.begun.files ++ [D.agg [D.list 1 [], D.int IntKind.i64 0]]).length : Int) - 1))).snd) true, .row 3 (List.map chD d.begun.ch ++ [D.agg [D.str (ByteArray.mk #[]), D.str x, D.int IntKind.i64 (IntKind.i64.wrap ((↑(List.map fileD d.begun.files ++ [D.agg [D.list 1 [], D.int IntKind.i64 0]]).length : Int) - 1))]]) true, .row 1 [D.str x] false, .row 2 [D.agg [D.list 1 [], D.int IntKind.i64 0]] false]) (by kernel_rfl) ?_
        refine .keeps [4] (tm' := mk 51 [(4, .d (.int .i64 0))]) (by kernel_rfl) ?_
        refine .sub [0, 1, 2, 3, 4, 5] (mk 51 [(4, .d (.int .i64 0))]) [.cells [.row 1, .ptr 2 0 0, .ep 2 (D.agg [D.list 1 (List.map strD d.begun.sk), D.list 1 (List.map intD d.begun.sv)]) 0, .row 5, .d (.int .i64 d.begun.quota), .d (.bool d.begun.full), .d (.bool d.begun.off), .d (.int .i64 d.begun.stop), .d (.int .i64 d.begun.calls)], .row 2 (List.map fileD d.begun.files ++ [D.agg [D.list 1 [], D.int IntKind.i64 0]]) true, .cells [.row 3, .row 4], .row 1 (List.map strD (kapply d.begun.nk d.begun.nv (ByteArray.mk #[]) x (IntKind.i64.wrap ((↑(List.map fileD d.begun.files ++ [D.agg [D.list 1 [], D.int IntKind.i64 0]]).length : Int) - 1))).fst) true, .row 1 (List.map intD (kapply d.begun.nk d.begun.nv (ByteArray.mk #[]) x (IntKind.i64.wrap ((↑(List.map fileD d.begun.files ++ [D.agg [D.list 1 [], D.int IntKind.i64 0]]).length : Int) - 1))).snd) true, .row 3 (List.map chD d.begun.ch ++ [D.agg [D.str (ByteArray.mk #[]), D.str x, D.int IntKind.i64 (IntKind.i64.wrap ((↑(List.map fileD d.begun.files ++ [D.agg [D.list 1 [], D.int IntKind.i64 0]]).length : Int) - 1))]]) true] none [] ⟨rfl, rfl, by kernel_rfl⟩ (by kernel_rfl) ⟨Nat.le_of_ble_eq_true (by kernel_rfl), by kernel_rfl⟩ (by kernel_rfl) ⟨by kernel_rfl, by kernel_rfl⟩ ⟨rfl, rfl⟩ ?_
        refine .retH F26 (v := V.d (D.int IntKind.i64 0)) (by kernel_rfl) (by kernel_rfl) ?_
        have e : d.begun.createE x = 0 := by simp [Dk.createE, h2, hl]; omega
        have hw : IntKind.i64.wrap (((List.map fileD d.begun.files ++ [D.agg [D.list 1 [], D.int IntKind.i64 0]]).length : Int) - 1) = (d.begun.files.length : Int) := by rw [wrap_i64 (by simp <;> omega) (by simp <;> omega)]; simp
        rw [hw]
        exact ⟨by rw [e], by simp [SD, dirD, Dk.createD, e, Dk.turn, fileD, chD, bsD, noName, i64]⟩
  | some k =>
    refine .seg 10 [0, 1, 4, 8, 9, 10] (T' := cgo 10 [] [.code B26]) (tm' := mk 51 [(0, .ptr 0 0 0), (1, .d (.str x)), (4, .d (.int .i64 0)), (8, .ptr 0 0 0), (9, .d (.str x)), (10, .row 6)]) (σ' := (SP 1 2 d false [.row 1 [D.str x] false])) (by kernel_rfl) ?_
    refine .callH (o := (opOf (cgo 10 [] [.code B26])).getD default) (x := (.func 64)) (args := #[(.tmp 8), (.const (Value.bool false)), (.tmp 10)]) (ts := #[40, 4, 66]) (first := []) (cap := []) [0, 1, 2, 3, 4, 5, 6] [.ptr 0 0 0, .d (.bool false), .row 6] (SP 1 2 d false [.row 1 [D.str x] false]) F64 (@spec_64b (d) (N) (by assumption) (false) ([x]) ([D.str x]) (by assumption) (by simp; done) (by simp <;> omega) (by simp; done) (by assumption)) (by kernel_rfl) (by kernel_rfl) (T' := cgo 11 [] [.code B26]) (by kernel_rfl) (by kernel_rfl) (by kernel_rfl) (by kernel_rfl) (by kernel_rfl) ⟨rfl, rfl, by kernel_rfl⟩ ?_
    rintro r0 s0 ⟨rfl, rfl⟩
    refine ⟨_, rfl, ?_⟩
    refine .seg 7 [0, 1, 4, 5, 13] (T' := cgo 18 [] [.code B26]) (tm' := mk 51 [(0, .ptr 0 0 0), (1, .d (.str x)), (4, .d (.int .i64 0)), (5, .d (.int .i64 (d.begun.err false [x]))), (13, .d (.bool (d.begun.err false [x] != 0)))]) (σ' := (SP 1 2 d.begun false [.row 1 [D.str x] false])) (by kernel_rfl) ?_
    refine .ifH (b := d.begun.err false [x] != 0) (by kernel_rfl) (by kernel_rfl) (T1 := cgo 19 [true] [Item.code B26]) (T2 := cgo 19 [false] [Item.code B26]) (by kernel_rfl) (by kernel_rfl) (fun h2 => ?_) (fun h2 => ?_)
    · simp only [decide_eq_true_eq, decide_eq_false_iff_not, beq_iff_eq, bne_iff_ne, beq_eq_false_iff_ne, bne_eq_false_iff_eq, Bool.not_eq_true', Bool.not_eq_false', ne_eq, Decidable.not_not, Bool.not_eq_true, Bool.not_eq_false] at h2
      refine .seg 5 [0, 1, 4] (T' := cgo 24 [true] [.code B26]) (tm' := mk 51 [(0, .ptr 0 0 0), (1, .d (.str x)), (4, .d (.int .i64 (d.begun.err false [x])))]) (σ' := (SP 1 2 d.begun false [.row 1 [D.str x] false])) (by kernel_rfl) ?_
      refine .raise 1 rfl rfl ?_
      refine .raise 3 rfl rfl ?_
      refine .raise 4 rfl rfl ?_
      refine .raise 5 rfl rfl ?_
      refine .keeps [4] (tm' := mk 51 [(4, .d (.int .i64 (d.begun.err false [x])))]) (by kernel_rfl) ?_
      refine .sub [0, 1, 2, 3, 4, 5] (mk 51 [(4, .d (.int .i64 (d.begun.err false [x])))]) (SP 1 2 d.begun true []) none [] ⟨rfl, rfl, by kernel_rfl⟩ (by kernel_rfl) ⟨Nat.le_of_ble_eq_true (by kernel_rfl), by kernel_rfl⟩ (by kernel_rfl) ⟨by kernel_rfl, by kernel_rfl⟩ ⟨rfl, rfl⟩ ?_
      refine .retH F26 (v := V.d (D.int IntKind.i64 (d.begun.err false [x]))) (by kernel_rfl) (by kernel_rfl) ?_
      simp_all [SD, dirD, Dk.createE, Dk.createD, Dk.turn, fileD, chD, bsD, noName, i64]
    · simp only [decide_eq_true_eq, decide_eq_false_iff_not, beq_iff_eq, bne_iff_ne, beq_eq_false_iff_ne, bne_eq_false_iff_eq, Bool.not_eq_true', Bool.not_eq_false', ne_eq, Decidable.not_not, Bool.not_eq_true, Bool.not_eq_false] at h2
      refine .seg 6 [0, 1, 4, 16, 17] (T' := cgo 25 [false] [.code B26]) (tm' := mk 51 [(0, .ptr 0 0 0), (1, .d (.str x)), (4, .d (.int .i64 0)), (16, .ptr 0 0 0), (17, .d (.str x))]) (σ' := (SP 1 2 d.begun false [.row 1 [D.str x] false])) (by kernel_rfl) ?_
      refine .callH (o := (opOf (cgo 25 [false] [.code B26])).getD default) (x := (.func 65)) (args := #[(.tmp 16), (.tmp 17)]) (ts := #[40, 9]) (first := []) (cap := []) [0, 1, 2, 3, 4, 5] [.ptr 0 0 0, .d (.str x)] (SP 1 2 d.begun false []) F65 (@spec_65 (d.begun) (x) (some k) (by assumption) (by assumption) (by assumption) (by omega) (by assumption)) (by kernel_rfl) (by kernel_rfl) (T' := cgo 26 [false] [.code B26]) (by kernel_rfl) (by kernel_rfl) (by kernel_rfl) (by kernel_rfl) (by kernel_rfl) ⟨rfl, rfl, by kernel_rfl⟩ ?_
      rintro r2 s2 ⟨rfl, rfl⟩
      refine ⟨_, rfl, ?_⟩
      refine .seg 30 [0, 1, 4, 31, 32, 33, 34, 35, 36, 37] (T' := cgo 56 [false, false] [.code B26]) (tm' := mk 51 [(0, .ptr 0 0 0), (1, .d (.str x)), (4, .d (.int .i64 0)), (31, .ptr 0 0 0), (32, .ptr 0 0 0), (33, .ptr 0 0 0), (34, .ptr 0 0 0), (35, .row 1), (36, V.agg [V.ex 1 [], .d (.int .i64 0)]), (37, .row 7)]) (σ' := (SP 1 2 d.begun false [.row 1 [D.str x] false, .row 2 [D.agg [D.list 1 [], D.int IntKind.i64 0]] false])) (by kernel_rfl) ?_
      refine .opH (o := (opOf (cgo 56 [false, false] [.code B26])).getD default) (by kernel_rfl) (by kernel_rfl) (by kernel_rfl) (T' := cgo 57 [false, false] [.code B26]) (by kernel_rfl) (appRow_ok (s := (.tmp 35)) (x := (.tmp 37)) (t := 105) (t2 := 105) (sz := 2) (by' := 32) (ys := [D.agg [D.list 1 [], D.int IntKind.i64 0]]) (l := 1) (xs := List.map fileD d.begun.files) (mv := false) (by kernel_rfl) (by kernel_rfl) (by kernel_rfl) (by kernel_rfl) (by kernel_rfl) (by kernel_rfl) (by simp <;> omega) (by first | (simp [maxLen] <;> omega) | omega)) ?_
      refine .seg 15 [0, 1, 4, 41, 42, 43, 44, 45, 46, 47, 48, 49] (T' := cgo 72 [false, false] [.code B26]) (tm' := mk 51 [(0, .ptr 0 0 0), (1, .d (.str x)), (4, .d (.int .i64 0)), (41, .ptr 0 0 0), (42, .d (.str x)), (43, .ptr 0 0 0), (44, .ptr 0 0 0), (45, .ptr 0 0 0), (46, .row 1), (47, .d (.int .i64 (↑(List.map fileD d.begun.files ++ [D.agg [D.list 1 [], D.int IntKind.i64 0]]).length : Int))), (48, .d (.int .i64 (IntKind.i64.wrap ((↑(List.map fileD d.begun.files ++ [D.agg [D.list 1 [], D.int IntKind.i64 0]]).length : Int) - 1)))), (49, .d (.agg [D.str (ByteArray.mk #[]), D.str x, D.int IntKind.i64 (IntKind.i64.wrap ((↑(List.map fileD d.begun.files ++ [D.agg [D.list 1 [], D.int IntKind.i64 0]]).length : Int) - 1))]))]) (σ' := [.cells [.row 1, .ptr 2 0 0, .ep 2 (D.agg [D.list 1 (List.map strD d.begun.sk), D.list 1 (List.map intD d.begun.sv)]) 0, .row 5, .d (.int .i64 d.begun.quota), .d (.bool d.begun.full), .d (.bool d.begun.off), .d (.int .i64 d.begun.stop), .d (.int .i64 d.begun.calls)], .row 2 (List.map fileD d.begun.files ++ [D.agg [D.list 1 [], D.int IntKind.i64 0]]) true, .cells [.row 3, .row 4], .row 1 (List.map strD d.begun.nk) false, .row 1 (List.map intD d.begun.nv) false, .row 3 (List.map chD d.begun.ch) false, .row 1 [D.str x] false, .row 2 [D.agg [D.list 1 [], D.int IntKind.i64 0]] false]) (by kernel_rfl) ?_
      refine .callH (o := (opOf (cgo 72 [false, false] [.code B26])).getD default) (x := (.func 67)) (args := #[(.tmp 41), (.tmp 49)]) (ts := #[40, 117]) (first := []) (cap := []) [0, 1, 2, 3, 4, 5] [.ptr 0 0 0, .d (.agg [D.str (ByteArray.mk #[]), D.str x, D.int IntKind.i64 (IntKind.i64.wrap ((↑(List.map fileD d.begun.files ++ [D.agg [D.list 1 [], D.int IntKind.i64 0]]).length : Int) - 1))])] [.cells [.row 1, .ptr 2 0 0, .ep 2 (D.agg [D.list 1 (List.map strD d.begun.sk), D.list 1 (List.map intD d.begun.sv)]) 0, .row 5, .d (.int .i64 d.begun.quota), .d (.bool d.begun.full), .d (.bool d.begun.off), .d (.int .i64 d.begun.stop), .d (.int .i64 d.begun.calls)], .row 2 (List.map fileD d.begun.files ++ [D.agg [D.list 1 [], D.int IntKind.i64 0]]) false, .cells [.row 3, .row 4], .row 1 (List.map strD d.begun.nk) false, .row 1 (List.map intD d.begun.nv) false, .row 3 (List.map chD d.begun.ch) false] F67 (@spec_67 (List.map fileD d.begun.files ++ [D.agg [D.list 1 [], D.int IntKind.i64 0]]) (D.agg [D.list 1 (List.map strD d.begun.sk), D.list 1 (List.map intD d.begun.sv)]) (List.map chD d.begun.ch) (d.begun.nk) (d.begun.nv) (d.begun.quota) (d.begun.stop) (d.begun.calls) (d.begun.full) (d.begun.off) (ByteArray.mk #[]) (x) (IntKind.i64.wrap ((↑(List.map fileD d.begun.files ++ [D.agg [D.list 1 [], D.int IntKind.i64 0]]).length : Int) - 1)) (by assumption) (by assumption) (by omega) (by simp <;> omega)) (by kernel_rfl) (by kernel_rfl) (T' := cgo 73 [false, false] [.code B26]) (by kernel_rfl) (by kernel_rfl) (by kernel_rfl) (by kernel_rfl) (by kernel_rfl) ⟨rfl, rfl, by kernel_rfl⟩ ?_
      rintro r3 s3 ⟨rfl, rfl⟩
      refine ⟨_, rfl, ?_⟩
      refine .seg 5 [4] (T' := cgo 78 [false, false] [.code B26]) (tm' := mk 51 [(4, .d (.int .i64 0))]) (σ' := [.cells [.row 1, .ptr 2 0 0, .ep 2 (D.agg [D.list 1 (List.map strD d.begun.sk), D.list 1 (List.map intD d.begun.sv)]) 0, .row 5, .d (.int .i64 d.begun.quota), .d (.bool d.begun.full), .d (.bool d.begun.off), .d (.int .i64 d.begun.stop), .d (.int .i64 d.begun.calls)], .row 2 (List.map fileD d.begun.files ++ [D.agg [D.list 1 [], D.int IntKind.i64 0]]) true, .cells [.row 3, .row 4], .row 1 (List.map strD (kapply d.begun.nk d.begun.nv (ByteArray.mk #[]) x (IntKind.i64.wrap ((↑(List.map fileD d.begun.files ++ [D.agg [D.list 1 [], D.int IntKind.i64 0]]).length : Int) - 1))).fst) true, .row 1 (List.map intD (kapply d.begun.nk d.begun.nv (ByteArray.mk #[]) x (IntKind.i64.wrap ((↑(List.map fileD d.begun.files ++ [D.agg [D.list 1 [], D.int IntKind.i64 0]]).length : Int) - 1))).snd) true, .row 3 (List.map chD d.begun.ch ++ [D.agg [D.str (ByteArray.mk #[]), D.str x, D.int IntKind.i64 (IntKind.i64.wrap ((↑(List.map fileD d.begun.files ++ [D.agg [D.list 1 [], D.int IntKind.i64 0]]).length : Int) - 1))]]) true, .row 1 [D.str x] false, .row 2 [D.agg [D.list 1 [], D.int IntKind.i64 0]] false]) (by kernel_rfl) ?_
      refine .keeps [4] (tm' := mk 51 [(4, .d (.int .i64 0))]) (by kernel_rfl) ?_
      refine .sub [0, 1, 2, 3, 4, 5] (mk 51 [(4, .d (.int .i64 0))]) [.cells [.row 1, .ptr 2 0 0, .ep 2 (D.agg [D.list 1 (List.map strD d.begun.sk), D.list 1 (List.map intD d.begun.sv)]) 0, .row 5, .d (.int .i64 d.begun.quota), .d (.bool d.begun.full), .d (.bool d.begun.off), .d (.int .i64 d.begun.stop), .d (.int .i64 d.begun.calls)], .row 2 (List.map fileD d.begun.files ++ [D.agg [D.list 1 [], D.int IntKind.i64 0]]) true, .cells [.row 3, .row 4], .row 1 (List.map strD (kapply d.begun.nk d.begun.nv (ByteArray.mk #[]) x (IntKind.i64.wrap ((↑(List.map fileD d.begun.files ++ [D.agg [D.list 1 [], D.int IntKind.i64 0]]).length : Int) - 1))).fst) true, .row 1 (List.map intD (kapply d.begun.nk d.begun.nv (ByteArray.mk #[]) x (IntKind.i64.wrap ((↑(List.map fileD d.begun.files ++ [D.agg [D.list 1 [], D.int IntKind.i64 0]]).length : Int) - 1))).snd) true, .row 3 (List.map chD d.begun.ch ++ [D.agg [D.str (ByteArray.mk #[]), D.str x, D.int IntKind.i64 (IntKind.i64.wrap ((↑(List.map fileD d.begun.files ++ [D.agg [D.list 1 [], D.int IntKind.i64 0]]).length : Int) - 1))]]) true] none [] ⟨rfl, rfl, by kernel_rfl⟩ (by kernel_rfl) ⟨Nat.le_of_ble_eq_true (by kernel_rfl), by kernel_rfl⟩ (by kernel_rfl) ⟨by kernel_rfl, by kernel_rfl⟩ ⟨rfl, rfl⟩ ?_
      refine .retH F26 (v := V.d (D.int IntKind.i64 0)) (by kernel_rfl) (by kernel_rfl) ?_
      have e : d.begun.createE x = 0 := by simp [Dk.createE, h2, hl]
      have hw : IntKind.i64.wrap (((List.map fileD d.begun.files ++ [D.agg [D.list 1 [], D.int IntKind.i64 0]]).length : Int) - 1) = (d.begun.files.length : Int) := by rw [wrap_i64 (by simp <;> omega) (by simp <;> omega)]; simp
      rw [hw]
      exact ⟨by rw [e], by simp [SD, dirD, Dk.createD, e, Dk.turn, fileD, chD, bsD, noName, i64]⟩
end Go.Proofs.Ytoelkgbeefoplaa

namespace Go.Proofs.Ytoelkgbeefoplaa
open Go Go.Br Go.Proofs
set_option linter.unusedSimpArgs false
theorem Dk.err4 (d : Dk) (b : Bool) (l : List ByteArray) : d.err b l ≠ 4 := by
  unfold Dk.err
  split
  · simp
  · split
    · split <;> simp
    · simp
theorem Dk.used_le {d : Dk} {N : Nat} (h : d.Ok N) : d.used ≤ 52428800000 := by
  have e1 : d.acc d.nk.length = d.used := by unfold Dk.acc Dk.used; rw [← h.nl, List.take_length]
  have h2 := Dk.acc_le h d.nk.length
  have h3 := h.nkl
  have h4 := h.nb
  rw [e1] at h2
  omega
noncomputable def B31 : Code := (Try.f31.body).getD .skip
theorem F31 : Fnc Try.prog 31 Try.f31 B31 := ⟨Try.func31, by kernel_rfl, by kernel_rfl⟩
theorem spec_31 (d : Dk) (N : Nat) (h : d.Ok N) (hN : N + 2 ≤ 50000) (x : ByteArray) (hx : x.size < 1000000000) (bs : List UInt8) (hb : bs.length < 1000000000) :
    CallsA Try.prog 31 [.ptr 0 0 0, .d (.str x), .d (bsD bs)] (SD d false) fun r σ' => r = .ret (.d (.int .i64 (d.begun.appendE x bs))) ∧ σ' = SD (d.begun.appendD x bs) true := by
  refine CallsA.start F31 (tm := mk (Try.f31.ntmps) [(0, .ptr 0 0 0), (1, .d (.str x)), (2, .d (bsD bs))]) (by kernel_rfl) ?_
  have hk := Dk.begun_ok h (by omega : N + 1 ≤ 50000)
  have q1 := hk.nr
  have q2 := hk.nl
  have q3 := hk.nkl
  have q4 := hk.nb
  have q7 := hk.chl
  have q8 := hk.fl
  have q5 : ∀ k, look d.begun.nk d.begun.nv x = some k → 0 ≤ k ∧ k < d.begun.files.length := fun k hk' => hk.nn k (look_mem hk')
  have hn1 : [D.str x] = List.map strD [x] := rfl
  cases hl : look d.begun.nk d.begun.nv x with
  | none =>
    have he : d.begun.err true [x] ≠ 0 := by
      unfold Dk.err
      split
      · simp
      · split <;> simp [hl]
    refine .seg 10 [0, 1, 2, 6, 10, 11, 12] (T' := cgo 10 [] [.code B31]) (tm' := mk 67 [(0, .ptr 0 0 0), (1, .d (.str x)), (2, .d (.list 1 (List.map u8 bs))), (6, .d (.int .i64 0)), (10, .ptr 0 0 0), (11, .d (.str x)), (12, .row 6)]) (σ' := (SP 1 2 d false [.row 1 [D.str x] false])) (by kernel_rfl) ?_
    refine .callH (o := (opOf (cgo 10 [] [.code B31])).getD default) (x := (.func 64)) (args := #[(.tmp 10), (.const (Value.bool true)), (.tmp 12)]) (ts := #[40, 4, 66]) (first := []) (cap := []) [0, 1, 2, 3, 4, 5, 6] [.ptr 0 0 0, .d (.bool true), .row 6] (SP 1 2 d false [.row 1 [D.str x] false]) F64 (@spec_64b (d) (N) (by assumption) (true) ([x]) ([D.str x]) (by assumption) (by simp; done) (by simp <;> omega) (by simp; done) (by assumption)) (by kernel_rfl) (by kernel_rfl) (T' := cgo 11 [] [.code B31]) (by kernel_rfl) (by kernel_rfl) (by kernel_rfl) (by kernel_rfl) (by kernel_rfl) ⟨rfl, rfl, by kernel_rfl⟩ ?_
    rintro r0 s0 ⟨rfl, rfl⟩
    refine ⟨_, rfl, ?_⟩
    refine .seg 7 [0, 1, 2, 6, 7, 15] (T' := cgo 18 [] [.code B31]) (tm' := mk 67 [(0, .ptr 0 0 0), (1, .d (.str x)), (2, .d (.list 1 (List.map u8 bs))), (6, .d (.int .i64 0)), (7, .d (.int .i64 (d.begun.err true [x]))), (15, .d (.bool (d.begun.err true [x] != 0)))]) (σ' := (SP 1 2 d.begun false [.row 1 [D.str x] false])) (by kernel_rfl) ?_
    refine .ifH (b := d.begun.err true [x] != 0) (by kernel_rfl) (by kernel_rfl) (T1 := cgo 19 [true] [Item.code B31]) (T2 := cgo 19 [false] [Item.code B31]) (by kernel_rfl) (by kernel_rfl) (fun h2 => ?_) (fun h2 => ?_)
    · simp only [decide_eq_true_eq, decide_eq_false_iff_not, beq_iff_eq, bne_iff_ne, beq_eq_false_iff_ne, bne_eq_false_iff_eq, Bool.not_eq_true', Bool.not_eq_false', ne_eq, Decidable.not_not, Bool.not_eq_true, Bool.not_eq_false] at h2
      refine .seg 5 [0, 1, 2, 6] (T' := cgo 24 [true] [.code B31]) (tm' := mk 67 [(0, .ptr 0 0 0), (1, .d (.str x)), (2, .d (.list 1 (List.map u8 bs))), (6, .d (.int .i64 (d.begun.err true [x])))]) (σ' := (SP 1 2 d.begun false [.row 1 [D.str x] false])) (by kernel_rfl) ?_
      refine .raise 1 rfl rfl ?_
      refine .raise 3 rfl rfl ?_
      refine .raise 4 rfl rfl ?_
      refine .raise 5 rfl rfl ?_
      refine .keeps [6] (tm' := mk 67 [(6, .d (.int .i64 (d.begun.err true [x])))]) (by kernel_rfl) ?_
      refine .sub [0, 1, 2, 3, 4, 5] (mk 67 [(6, .d (.int .i64 (d.begun.err true [x])))]) (SP 1 2 d.begun true []) none [] ⟨rfl, rfl, by kernel_rfl⟩ (by kernel_rfl) ⟨Nat.le_of_ble_eq_true (by kernel_rfl), by kernel_rfl⟩ (by kernel_rfl) ⟨by kernel_rfl, by kernel_rfl⟩ ⟨rfl, rfl⟩ ?_
      refine .retH F31 (v := V.d (D.int IntKind.i64 (d.begun.err true [x]))) (by kernel_rfl) (by kernel_rfl) ?_
      have e : d.begun.appendE x bs = d.begun.err true [x] := by simp [Dk.appendE, h2]
      have e4 := d.begun.err4 true [x]
      have e' : d.begun.appendD x bs = d.begun := by simp [Dk.appendD, e, h2, e4]
      exact ⟨by rw [e], by rw [e']; rfl⟩
    · simp only [decide_eq_true_eq, decide_eq_false_iff_not, beq_iff_eq, bne_iff_ne, beq_eq_false_iff_ne, bne_eq_false_iff_eq, Bool.not_eq_true', Bool.not_eq_false', ne_eq, Decidable.not_not, Bool.not_eq_true, Bool.not_eq_false] at h2
      omega
  | some k =>
    have q6 := q5 k hl
    have q61 := q6.1
    have hlt : k.toNat < d.begun.files.length := by omega
    obtain ⟨f, hf⟩ := get_some (l := d.begun.files) (i := k.toNat) hlt
    have hm := hk.fs f (List.mem_of_getElem? hf)
    have hfile : d.begun.file (d.begun.num x) = f := by simp [Dk.file, Dk.num, hl, List.getD_eq_getElem?_getD, hf]
    have hnum : d.begun.num x = k.toNat := by simp [Dk.num, hl]
    refine .seg 10 [0, 1, 2, 6, 10, 11, 12] (T' := cgo 10 [] [.code B31]) (tm' := mk 67 [(0, .ptr 0 0 0), (1, .d (.str x)), (2, .d (.list 1 (List.map u8 bs))), (6, .d (.int .i64 0)), (10, .ptr 0 0 0), (11, .d (.str x)), (12, .row 6)]) (σ' := (SP 1 2 d false [.row 1 [D.str x] false])) (by kernel_rfl) ?_
    refine .callH (o := (opOf (cgo 10 [] [.code B31])).getD default) (x := (.func 64)) (args := #[(.tmp 10), (.const (Value.bool true)), (.tmp 12)]) (ts := #[40, 4, 66]) (first := []) (cap := []) [0, 1, 2, 3, 4, 5, 6] [.ptr 0 0 0, .d (.bool true), .row 6] (SP 1 2 d false [.row 1 [D.str x] false]) F64 (@spec_64b (d) (N) (by assumption) (true) ([x]) ([D.str x]) (by assumption) (by simp; done) (by simp <;> omega) (by simp; done) (by assumption)) (by kernel_rfl) (by kernel_rfl) (T' := cgo 11 [] [.code B31]) (by kernel_rfl) (by kernel_rfl) (by kernel_rfl) (by kernel_rfl) (by kernel_rfl) ⟨rfl, rfl, by kernel_rfl⟩ ?_
    rintro r0 s0 ⟨rfl, rfl⟩
    refine ⟨_, rfl, ?_⟩
    refine .seg 7 [0, 1, 2, 6, 7, 15] (T' := cgo 18 [] [.code B31]) (tm' := mk 67 [(0, .ptr 0 0 0), (1, .d (.str x)), (2, .d (.list 1 (List.map u8 bs))), (6, .d (.int .i64 0)), (7, .d (.int .i64 (d.begun.err true [x]))), (15, .d (.bool (d.begun.err true [x] != 0)))]) (σ' := (SP 1 2 d.begun false [.row 1 [D.str x] false])) (by kernel_rfl) ?_
    refine .ifH (b := d.begun.err true [x] != 0) (by kernel_rfl) (by kernel_rfl) (T1 := cgo 19 [true] [Item.code B31]) (T2 := cgo 19 [false] [Item.code B31]) (by kernel_rfl) (by kernel_rfl) (fun h2 => ?_) (fun h2 => ?_)
    · simp only [decide_eq_true_eq, decide_eq_false_iff_not, beq_iff_eq, bne_iff_ne, beq_eq_false_iff_ne, bne_eq_false_iff_eq, Bool.not_eq_true', Bool.not_eq_false', ne_eq, Decidable.not_not, Bool.not_eq_true, Bool.not_eq_false] at h2
      refine .seg 5 [0, 1, 2, 6] (T' := cgo 24 [true] [.code B31]) (tm' := mk 67 [(0, .ptr 0 0 0), (1, .d (.str x)), (2, .d (.list 1 (List.map u8 bs))), (6, .d (.int .i64 (d.begun.err true [x])))]) (σ' := (SP 1 2 d.begun false [.row 1 [D.str x] false])) (by kernel_rfl) ?_
      refine .raise 1 rfl rfl ?_
      refine .raise 3 rfl rfl ?_
      refine .raise 4 rfl rfl ?_
      refine .raise 5 rfl rfl ?_
      refine .keeps [6] (tm' := mk 67 [(6, .d (.int .i64 (d.begun.err true [x])))]) (by kernel_rfl) ?_
      refine .sub [0, 1, 2, 3, 4, 5] (mk 67 [(6, .d (.int .i64 (d.begun.err true [x])))]) (SP 1 2 d.begun true []) none [] ⟨rfl, rfl, by kernel_rfl⟩ (by kernel_rfl) ⟨Nat.le_of_ble_eq_true (by kernel_rfl), by kernel_rfl⟩ (by kernel_rfl) ⟨by kernel_rfl, by kernel_rfl⟩ ⟨rfl, rfl⟩ ?_
      refine .retH F31 (v := V.d (D.int IntKind.i64 (d.begun.err true [x]))) (by kernel_rfl) (by kernel_rfl) ?_
      have e : d.begun.appendE x bs = d.begun.err true [x] := by simp [Dk.appendE, h2]
      have e4 := d.begun.err4 true [x]
      have e' : d.begun.appendD x bs = d.begun := by simp [Dk.appendD, e, h2, e4]
      exact ⟨by rw [e], by rw [e']; rfl⟩
    · simp only [decide_eq_true_eq, decide_eq_false_iff_not, beq_iff_eq, bne_iff_ne, beq_eq_false_iff_ne, bne_eq_false_iff_eq, Bool.not_eq_true', Bool.not_eq_false', ne_eq, Decidable.not_not, Bool.not_eq_true, Bool.not_eq_false] at h2
      refine .seg 5 [0, 1, 2, 6, 18, 19] (T' := cgo 24 [false] [.code B31]) (tm' := mk 67 [(0, .ptr 0 0 0), (1, .d (.str x)), (2, .d (.list 1 (List.map u8 bs))), (6, .d (.int .i64 0)), (18, .ptr 0 0 0), (19, .d (.str x))]) (σ' := (SP 1 2 d.begun false [.row 1 [D.str x] false])) (by kernel_rfl) ?_
      refine .callH (o := (opOf (cgo 24 [false] [.code B31])).getD default) (x := (.func 65)) (args := #[(.tmp 18), (.tmp 19)]) (ts := #[40, 9]) (first := []) (cap := []) [0, 1, 2, 3, 4, 5] [.ptr 0 0 0, .d (.str x)] (SP 1 2 d.begun false []) F65 (@spec_65 (d.begun) (x) (some k) (by assumption) (by assumption) (by assumption) (by omega) (by assumption)) (by kernel_rfl) (by kernel_rfl) (T' := cgo 25 [false] [.code B31]) (by kernel_rfl) (by kernel_rfl) (by kernel_rfl) (by kernel_rfl) (by kernel_rfl) ⟨rfl, rfl, by kernel_rfl⟩ ?_
      rintro r2 s2 ⟨rfl, rfl⟩
      refine ⟨_, rfl, ?_⟩
      refine .seg 15 [0, 2, 6, 8, 24, 25, 26, 27, 28] (T' := cgo 40 [false] [.code B31]) (tm' := mk 67 [(0, .ptr 0 0 0), (2, .d (.list 1 (List.map u8 bs))), (6, .d (.int .i64 0)), (8, .ptr 1 k.toNat 0), (24, .d (.list 1 (List.map u8 bs))), (25, .d (.int .i64 (↑(List.map u8 bs).length : Int))), (26, .ptr 1 k.toNat 0), (27, .ptr 1 k.toNat 0), (28, .ptr 1 k.toNat 0)]) (σ' := (SP 1 2 d.begun false [.row 1 [D.str x] false])) (by kernel_rfl) ?_
      simp only [List.length_map]
      refine .opH (o := (opOf (cgo 40 [false] [.code B31])).getD default) (by kernel_rfl) (by kernel_rfl) (by kernel_rfl) (T' := cgo 41 [false] [.code B31]) (by kernel_rfl) (ldRow_ok (t := 22) (x := (.tmp 28)) (l := 1) (i := k.toNat) (s := 0) (sz := 2) (xs := List.map fileD d.begun.files) (mv := false) (d := fileD f) (v := .d (.list 1 (List.map u8 f.fst))) (by kernel_rfl) (by kernel_rfl) (by kernel_rfl) (map_get hf) (by kernel_rfl)) ?_
      refine .seg 5 [0, 2, 6, 8, 23] (T' := cgo 46 [false] [.code B31]) (tm' := mk 67 [(0, .ptr 0 0 0), (2, .d (.list 1 (List.map u8 bs))), (6, .d (.int .i64 0)), (8, .ptr 1 k.toNat 0), (23, .d (.bool (decide ((↑bs.length : Int) > IntKind.i64.wrap (1048576 - (↑(List.map u8 f.fst).length : Int))))))]) (σ' := (SP 1 2 d.begun false [.row 1 [D.str x] false])) (by kernel_rfl) ?_
      simp only [List.length_map]
      simp (disch := omega) only [wrap_i64, wrap_u64s, wrap_u32s, wrap_u8s, wrap_i32s, iadd_i64, isub_i64, irem_n, iquo_n, tdiv_nn, tmod_nn]
      refine .ifH (b := decide ((↑bs.length : Int) > 1048576 - (↑f.fst.length : Int))) (by kernel_rfl) (by kernel_rfl) (T1 := cgo 47 [false, true] [Item.code B31]) (T2 := cgo 47 [false, false] [Item.code B31]) (by kernel_rfl) (by kernel_rfl) (fun h4 => ?_) (fun h4 => ?_)
      · simp only [decide_eq_true_eq, decide_eq_false_iff_not, beq_iff_eq, bne_iff_ne, beq_eq_false_iff_ne, bne_eq_false_iff_eq, Bool.not_eq_true', Bool.not_eq_false', ne_eq, Decidable.not_not, Bool.not_eq_true, Bool.not_eq_false] at h4
        refine .seg 4 [2, 6, 8] (T' := cgo 51 [false, true] [.code B31]) (tm' := mk 67 [(2, .d (.list 1 (List.map u8 bs))), (6, .d (.int .i64 2)), (8, .ptr 1 k.toNat 0)]) (σ' := (SP 1 2 d.begun false [.row 1 [D.str x] false])) (by kernel_rfl) ?_
        refine .raise 1 rfl rfl ?_
        refine .raise 3 rfl rfl ?_
        refine .raise 4 rfl rfl ?_
        refine .raise 5 rfl rfl ?_
        refine .keeps [6] (tm' := mk 67 [(6, .d (.int .i64 2))]) (by kernel_rfl) ?_
        refine .sub [0, 1, 2, 3, 4, 5] (mk 67 [(6, .d (.int .i64 2))]) (SP 1 2 d.begun true []) none [] ⟨rfl, rfl, by kernel_rfl⟩ (by kernel_rfl) ⟨Nat.le_of_ble_eq_true (by kernel_rfl), by kernel_rfl⟩ (by kernel_rfl) ⟨by kernel_rfl, by kernel_rfl⟩ ⟨rfl, rfl⟩ ?_
        refine .retH F31 (v := V.d (D.int IntKind.i64 2)) (by kernel_rfl) (by kernel_rfl) ?_
        simp_all [SD, dirD, Dk.appendE, Dk.appendD]
      · simp only [decide_eq_true_eq, decide_eq_false_iff_not, beq_iff_eq, bne_iff_ne, beq_eq_false_iff_ne, bne_eq_false_iff_eq, Bool.not_eq_true', Bool.not_eq_false', ne_eq, Decidable.not_not, Bool.not_eq_true, Bool.not_eq_false] at h4
        refine .seg 1 [0, 2, 6, 8] (T' := cgo 48 [false, false] [.code B31]) (tm' := mk 67 [(0, .ptr 0 0 0), (2, .d (.list 1 (List.map u8 bs))), (6, .d (.int .i64 0)), (8, .ptr 1 k.toNat 0)]) (σ' := (SP 1 2 d.begun false [.row 1 [D.str x] false])) (by kernel_rfl) ?_
        refine .drawF (T' := cgo 49 [false, false] [.code B31]) (tm' := mk 67 [(0, .ptr 0 0 0), (2, .d (.list 1 (List.map u8 bs))), (6, .d (.int .i64 0)), (8, .ptr 1 k.toNat 0), (33, .d (.bool (decide ((↑(List.map u8 bs).length : Int) > IntKind.i64.wrap (d.begun.quota - (↑d.begun.used : Int)))))), (34, .d (.list 1 (List.map u8 bs))), (35, .d (.int .i64 (↑(List.map u8 bs).length : Int))), (36, .ptr 0 0 0), (37, .ptr 0 0 0), (38, .ptr 0 0 4), (39, .d (.int .i64 d.begun.quota)), (40, .ptr 0 0 0), (41, .d (.int .i64 (↑d.begun.used : Int))), (42, .d (.int .i64 (IntKind.i64.wrap (d.begun.quota - (↑d.begun.used : Int))))), (43, .d (.bool (decide ((↑(List.map u8 bs).length : Int) > IntKind.i64.wrap (d.begun.quota - (↑d.begun.used : Int))))))]) (σ' := (SP 1 2 d.begun false [.row 1 [D.str x] false])) (by kernel_rfl) (by kernel_rfl) (by kernel_rfl) (by kernel_rfl) (fun kz L hL => ?_) ?_
        · refine ⟨[⟨[], [], [], [], [], [], true, false⟩, ⟨[], [], [], [], [], [], true, false⟩, ⟨[], [], [], [0], [0], [], true, false⟩, ⟨[], [], [], [0], [0], [0], true, false⟩, ⟨[], [], [], [0], [0], [0], true, false⟩, ⟨[0], [], [], [], [0, 1, 2, 5], [], true, false⟩, ⟨[], [], [], [0], [0], [], true, false⟩, ⟨[0, 1, 2, 3, 4, 5], [], [], [], [0, 1, 2, 5, 3, 4], [], true, false⟩, ⟨[], [], [], [], [], [], true, false⟩, ⟨[], [], [], [], [], [], true, false⟩, ⟨[], [], [], [], [], [], true, false⟩], run_amongF hL _ [] [0, 2, 3, 4, 5, 6, 1, 7, 8, 9, 10] (by intro p hp; cases hp) (by kernel_rfl) ?_⟩
          refine Run.append (A := [0, 2, 3, 4, 5, 6, 1]) (srunF_ok (tm' := mk 67 [(0, .ptr 0 0 0), (2, .d (.list 1 (List.map u8 bs))), (6, .d (.int .i64 0)), (8, .ptr 1 k.toNat 0), (34, .d (.list 1 (List.map u8 bs))), (35, .d (.int .i64 (↑(List.map u8 bs).length : Int))), (36, .ptr 0 0 0), (37, .ptr 0 0 0), (38, .ptr 0 0 4), (39, .d (.int .i64 d.begun.quota)), (40, .ptr 0 0 0)]) (σ' := (SP 1 2 d.begun false [.row 1 [D.str x] false])) (by kernel_rfl)) ?_
          refine Run.one (StepF.callLook (o := ((drawOf (cgo 48 [false, false] [.code B31]))[7]?).getD default) (x := (.func 68)) (args := #[(.tmp 40)]) (ts := #[40]) (first := []) (cap := []) [0, 1, 2, 3, 4, 5] [.ptr 0 0 0] (SP 1 2 d.begun false []) (v := .d (.int .i64 (↑d.begun.used : Int))) (by kernel_rfl) rfl (by kernel_rfl) (by kernel_rfl) F68 (@spec_68 (d.begun) (N + 1) (by assumption)) (by kernel_rfl) (by kernel_rfl) (by kernel_rfl) (by kernel_rfl) ⟨rfl, rfl, by kernel_rfl⟩ (by kernel_rfl) (by kernel_rfl) (by kernel_rfl) (by kernel_rfl) (by kernel_rfl)) ?_
          refine Run.asP (tm' := mk 67 [(0, .ptr 0 0 0), (2, .d (.list 1 (List.map u8 bs))), (6, .d (.int .i64 0)), (8, .ptr 1 k.toNat 0), (34, .d (.list 1 (List.map u8 bs))), (35, .d (.int .i64 (↑(List.map u8 bs).length : Int))), (36, .ptr 0 0 0), (37, .ptr 0 0 0), (38, .ptr 0 0 4), (39, .d (.int .i64 d.begun.quota)), (40, .ptr 0 0 0), (41, .d (.int .i64 (↑d.begun.used : Int)))]) (σ' := (SP 1 2 d.begun false [.row 1 [D.str x] false])) (by kernel_rfl) (by kernel_rfl) ?_
          exact srunF_ok (by kernel_rfl)
        refine .ifH (b := decide ((↑(List.map u8 bs).length : Int) > IntKind.i64.wrap (d.begun.quota - (↑d.begun.used : Int)))) (by kernel_rfl) (by kernel_rfl) (T1 := cgo 50 [false, false, true] [Item.code B31]) (T2 := cgo 50 [false, false, false] [Item.code B31]) (by kernel_rfl) (by kernel_rfl) (fun h8 => ?_) (fun h8 => ?_)
        · simp only [decide_eq_true_eq, decide_eq_false_iff_not, beq_iff_eq, bne_iff_ne, beq_eq_false_iff_ne, bne_eq_false_iff_eq, Bool.not_eq_true', Bool.not_eq_false', ne_eq, Decidable.not_not, Bool.not_eq_true, Bool.not_eq_false] at h8
          refine .seg 11 [2, 6, 8] (T' := cgo 61 [false, false, true] [.code B31]) (tm' := mk 67 [(2, .d (.list 1 (List.map u8 bs))), (6, .d (.int .i64 4)), (8, .ptr 1 k.toNat 0)]) (σ' := [.cells [.row 1, .ptr 2 0 0, .ep 2 (D.agg [D.list 1 (List.map strD d.begun.sk), D.list 1 (List.map intD d.begun.sv)]) 0, .row 5, .d (.int .i64 d.begun.quota), .d (.bool true), .d (.bool d.begun.off), .d (.int .i64 d.begun.stop), .d (.int .i64 d.begun.calls)], .row 2 (List.map fileD d.begun.files) false, .cells [.row 3, .row 4], .row 1 (List.map strD d.begun.nk) false, .row 1 (List.map intD d.begun.nv) false, .row 3 (List.map chD d.begun.ch) false, .row 1 [D.str x] false]) (by kernel_rfl) ?_
          refine .raise 1 rfl rfl ?_
          refine .raise 3 rfl rfl ?_
          refine .raise 4 rfl rfl ?_
          refine .raise 5 rfl rfl ?_
          refine .keeps [6] (tm' := mk 67 [(6, .d (.int .i64 4))]) (by kernel_rfl) ?_
          refine .sub [0, 1, 2, 3, 4, 5] (mk 67 [(6, .d (.int .i64 4))]) [.cells [.row 1, .ptr 2 0 0, .ep 2 (D.agg [D.list 1 (List.map strD d.begun.sk), D.list 1 (List.map intD d.begun.sv)]) 0, .row 5, .d (.int .i64 d.begun.quota), .d (.bool true), .d (.bool d.begun.off), .d (.int .i64 d.begun.stop), .d (.int .i64 d.begun.calls)], .row 2 (List.map fileD d.begun.files) true, .cells [.row 3, .row 4], .row 1 (List.map strD d.begun.nk) true, .row 1 (List.map intD d.begun.nv) true, .row 3 (List.map chD d.begun.ch) true] none [] ⟨rfl, rfl, by kernel_rfl⟩ (by kernel_rfl) ⟨Nat.le_of_ble_eq_true (by kernel_rfl), by kernel_rfl⟩ (by kernel_rfl) ⟨by kernel_rfl, by kernel_rfl⟩ ⟨rfl, rfl⟩ ?_
          refine .retH F31 (v := V.d (D.int IntKind.i64 4)) (by kernel_rfl) (by kernel_rfl) ?_
          have hu := Dk.used_le hk
          have hq0 := hk.q0
          have hq1 := hk.q1
          have hw : IntKind.i64.wrap (d.begun.quota - (d.begun.used : Int)) = d.begun.quota - (d.begun.used : Int) := wrap_i64 (by omega) (by omega)
          rw [hw, List.length_map] at h8
          have e : d.begun.appendE x bs = 4 := by
            unfold Dk.appendE
            rw [if_neg (by simp [h2]), hfile, if_neg (by omega), if_pos (by omega)]
          have e' : d.begun.appendD x bs = { d.begun with full := true } := by simp [Dk.appendD, e]
          exact ⟨by rw [e], by rw [e']; rfl⟩
        · simp only [decide_eq_true_eq, decide_eq_false_iff_not, beq_iff_eq, bne_iff_ne, beq_eq_false_iff_ne, bne_eq_false_iff_eq, Bool.not_eq_true', Bool.not_eq_false', ne_eq, Decidable.not_not, Bool.not_eq_true, Bool.not_eq_false] at h8
          refine .seg 3 [2, 6, 8] (T' := cgo 53 [false, false, false] [.code B31]) (tm' := mk 67 [(2, .d (.list 1 (List.map u8 bs))), (6, .d (.int .i64 0)), (8, .ptr 1 k.toNat 0)]) (σ' := (SP 1 2 d.begun false [.row 1 [D.str x] false])) (by kernel_rfl) ?_
          refine .drawF (T' := cgo 54 [false, false, false] [.code B31]) (tm' := mk 67 [(2, .d (.list 1 (List.map u8 bs))), (6, .d (.int .i64 0)), (8, .ptr 1 k.toNat 0), (47, .ptr 1 k.toNat 0), (48, .ptr 1 k.toNat 0), (49, .ptr 1 k.toNat 0), (50, .ptr 1 k.toNat 0), (51, .d (.list 1 (List.map u8 f.fst))), (52, .ptr 1 k.toNat 0), (53, .ptr 1 k.toNat 0), (54, .ptr 1 k.toNat 0), (55, .d (.list 1 (List.map u8 f.fst))), (56, .d (.int .i64 (↑(List.map u8 f.fst).length : Int))), (57, .ptr 1 k.toNat 0), (58, .ptr 1 k.toNat 0), (59, .ptr 1 k.toNat 0), (60, .d (.list 1 (List.map u8 f.fst))), (61, .d (.int .i64 (↑(List.map u8 f.fst).length : Int))), (62, V.ex 1 (List.drop 0 (List.take (List.map u8 f.fst).length (List.map u8 f.fst)))), (63, .d (.list 1 (List.map u8 bs))), (64, .d (.list 1 (List.drop 0 (List.take (List.map u8 f.fst).length (List.map u8 f.fst)) ++ List.map u8 bs))), (65, .ptr 1 k.toNat 0), (66, .ptr 1 k.toNat 0)]) (σ' := [.cells [.row 1, .ptr 2 0 0, .ep 2 (D.agg [D.list 1 (List.map strD d.begun.sk), D.list 1 (List.map intD d.begun.sv)]) 0, .row 5, .d (.int .i64 d.begun.quota), .d (.bool d.begun.full), .d (.bool d.begun.off), .d (.int .i64 d.begun.stop), .d (.int .i64 d.begun.calls)], .row 2 ((List.map fileD d.begun.files).set k.toNat (D.agg [D.list 1 (List.drop 0 (List.take (List.map u8 f.fst).length (List.map u8 f.fst)) ++ List.map u8 bs), D.int IntKind.i64 (↑f.snd : Int)])) false, .cells [.row 3, .row 4], .row 1 (List.map strD d.begun.nk) false, .row 1 (List.map intD d.begun.nv) false, .row 3 (List.map chD d.begun.ch) false, .row 1 [D.str x] false]) (by kernel_rfl) (by kernel_rfl) (by kernel_rfl) (by kernel_rfl) (fun kz L hL => ?_) ?_
          · refine ⟨[⟨[], [], [], [1], [1], [], true, false⟩, ⟨[], [], [], [1], [1], [], true, false⟩, ⟨[], [], [], [1], [1], [1], true, false⟩, ⟨[], [], [], [1], [1], [1], true, false⟩, ⟨[1], [], [], [], [1], [], true, false⟩, ⟨[], [], [], [1], [1], [], true, false⟩, ⟨[], [], [], [1], [1], [1], true, false⟩, ⟨[], [], [], [1], [1], [1], true, false⟩, ⟨[1], [], [], [], [1], [], true, false⟩, ⟨[], [], [], [], [], [], true, false⟩, ⟨[], [], [], [1], [1], [], true, false⟩, ⟨[], [], [], [1], [1], [1], true, false⟩, ⟨[], [], [], [1], [1], [1], true, false⟩, ⟨[1], [], [], [], [1], [], true, false⟩, ⟨[], [], [], [], [], [], true, false⟩, ⟨[], [], [], [], [], [], true, false⟩, ⟨[], [], [], [], [], [], true, false⟩, ⟨[], [], [], [], [], [], true, false⟩, ⟨[], [], [], [1], [1], [1], true, false⟩, ⟨[], [], [], [1], [1], [1], true, false⟩, ⟨[1], [1], [], [], [1], [], true, false⟩], run_amongF hL _ [] [0, 1, 2, 3, 4, 5, 6, 7, 8, 10, 11, 12, 13, 16, 9, 14, 15, 17, 18, 19, 20] (by intro p hp; cases hp) (by kernel_rfl) ?_⟩
            refine Run.append (A := [0, 1, 2, 3]) (srunF_ok (tm' := mk 67 [(2, .d (.list 1 (List.map u8 bs))), (6, .d (.int .i64 0)), (8, .ptr 1 k.toNat 0), (47, .ptr 1 k.toNat 0), (48, .ptr 1 k.toNat 0), (49, .ptr 1 k.toNat 0), (50, .ptr 1 k.toNat 0)]) (σ' := (SP 1 2 d.begun false [.row 1 [D.str x] false])) (by kernel_rfl)) ?_
            refine Run.one (StepF.look (o := ((drawOf (cgo 53 [false, false, false] [.code B31]))[4]?).getD default) (v := .d (.list 1 (List.map u8 f.fst))) [(.tmp 50)] (by kernel_rfl) rfl (by kernel_rfl) (by kernel_rfl) (by kernel_rfl) (by kernel_rfl) (by kernel_rfl) (fun tm' σ2 hv hr => ldRow_ok (t := 22) (x := (.tmp 50)) (l := 1) (i := k.toNat) (s := 0) (sz := 2) (xs := List.map fileD d.begun.files) (mv := false) (d := fileD f) (v := .d (.list 1 (List.map u8 f.fst))) (by kernel_rfl) (by rw [hv _ (by simp)]; kernel_rfl) ((hr _ (inK_iff.1 (by kernel_rfl))).trans (by kernel_rfl)) (map_get hf) (by kernel_rfl))) ?_
            refine Run.asP (tm' := mk 67 [(2, .d (.list 1 (List.map u8 bs))), (6, .d (.int .i64 0)), (8, .ptr 1 k.toNat 0), (47, .ptr 1 k.toNat 0), (48, .ptr 1 k.toNat 0), (49, .ptr 1 k.toNat 0), (50, .ptr 1 k.toNat 0), (51, .d (.list 1 (List.map u8 f.fst)))]) (σ' := (SP 1 2 d.begun false [.row 1 [D.str x] false])) (by kernel_rfl) (by kernel_rfl) ?_
            refine Run.append (A := [5, 6, 7]) (srunF_ok (tm' := mk 67 [(2, .d (.list 1 (List.map u8 bs))), (6, .d (.int .i64 0)), (8, .ptr 1 k.toNat 0), (47, .ptr 1 k.toNat 0), (48, .ptr 1 k.toNat 0), (49, .ptr 1 k.toNat 0), (50, .ptr 1 k.toNat 0), (51, .d (.list 1 (List.map u8 f.fst))), (52, .ptr 1 k.toNat 0), (53, .ptr 1 k.toNat 0), (54, .ptr 1 k.toNat 0)]) (σ' := (SP 1 2 d.begun false [.row 1 [D.str x] false])) (by kernel_rfl)) ?_
            refine Run.one (StepF.look (o := ((drawOf (cgo 53 [false, false, false] [.code B31]))[8]?).getD default) (v := .d (.list 1 (List.map u8 f.fst))) [(.tmp 54)] (by kernel_rfl) rfl (by kernel_rfl) (by kernel_rfl) (by kernel_rfl) (by kernel_rfl) (by kernel_rfl) (fun tm' σ2 hv hr => ldRow_ok (t := 22) (x := (.tmp 54)) (l := 1) (i := k.toNat) (s := 0) (sz := 2) (xs := List.map fileD d.begun.files) (mv := false) (d := fileD f) (v := .d (.list 1 (List.map u8 f.fst))) (by kernel_rfl) (by rw [hv _ (by simp)]; kernel_rfl) ((hr _ (inK_iff.1 (by kernel_rfl))).trans (by kernel_rfl)) (map_get hf) (by kernel_rfl))) ?_
            refine Run.asP (tm' := mk 67 [(2, .d (.list 1 (List.map u8 bs))), (6, .d (.int .i64 0)), (8, .ptr 1 k.toNat 0), (47, .ptr 1 k.toNat 0), (48, .ptr 1 k.toNat 0), (49, .ptr 1 k.toNat 0), (50, .ptr 1 k.toNat 0), (51, .d (.list 1 (List.map u8 f.fst))), (52, .ptr 1 k.toNat 0), (53, .ptr 1 k.toNat 0), (54, .ptr 1 k.toNat 0), (55, .d (.list 1 (List.map u8 f.fst)))]) (σ' := (SP 1 2 d.begun false [.row 1 [D.str x] false])) (by kernel_rfl) (by kernel_rfl) ?_
            refine Run.append (A := [10, 11, 12]) (srunF_ok (tm' := mk 67 [(2, .d (.list 1 (List.map u8 bs))), (6, .d (.int .i64 0)), (8, .ptr 1 k.toNat 0), (47, .ptr 1 k.toNat 0), (48, .ptr 1 k.toNat 0), (49, .ptr 1 k.toNat 0), (50, .ptr 1 k.toNat 0), (51, .d (.list 1 (List.map u8 f.fst))), (52, .ptr 1 k.toNat 0), (53, .ptr 1 k.toNat 0), (54, .ptr 1 k.toNat 0), (55, .d (.list 1 (List.map u8 f.fst))), (57, .ptr 1 k.toNat 0), (58, .ptr 1 k.toNat 0), (59, .ptr 1 k.toNat 0)]) (σ' := (SP 1 2 d.begun false [.row 1 [D.str x] false])) (by kernel_rfl)) ?_
            refine Run.one (StepF.look (o := ((drawOf (cgo 53 [false, false, false] [.code B31]))[13]?).getD default) (v := .d (.list 1 (List.map u8 f.fst))) [(.tmp 59)] (by kernel_rfl) rfl (by kernel_rfl) (by kernel_rfl) (by kernel_rfl) (by kernel_rfl) (by kernel_rfl) (fun tm' σ2 hv hr => ldRow_ok (t := 22) (x := (.tmp 59)) (l := 1) (i := k.toNat) (s := 0) (sz := 2) (xs := List.map fileD d.begun.files) (mv := false) (d := fileD f) (v := .d (.list 1 (List.map u8 f.fst))) (by kernel_rfl) (by rw [hv _ (by simp)]; kernel_rfl) ((hr _ (inK_iff.1 (by kernel_rfl))).trans (by kernel_rfl)) (map_get hf) (by kernel_rfl))) ?_
            refine Run.asP (tm' := mk 67 [(2, .d (.list 1 (List.map u8 bs))), (6, .d (.int .i64 0)), (8, .ptr 1 k.toNat 0), (47, .ptr 1 k.toNat 0), (48, .ptr 1 k.toNat 0), (49, .ptr 1 k.toNat 0), (50, .ptr 1 k.toNat 0), (51, .d (.list 1 (List.map u8 f.fst))), (52, .ptr 1 k.toNat 0), (53, .ptr 1 k.toNat 0), (54, .ptr 1 k.toNat 0), (55, .d (.list 1 (List.map u8 f.fst))), (57, .ptr 1 k.toNat 0), (58, .ptr 1 k.toNat 0), (59, .ptr 1 k.toNat 0), (60, .d (.list 1 (List.map u8 f.fst)))]) (σ' := (SP 1 2 d.begun false [.row 1 [D.str x] false])) (by kernel_rfl) (by kernel_rfl) ?_
            refine Run.append (A := [16, 9, 14]) (srunF_ok (tm' := mk 67 [(2, .d (.list 1 (List.map u8 bs))), (6, .d (.int .i64 0)), (8, .ptr 1 k.toNat 0), (47, .ptr 1 k.toNat 0), (48, .ptr 1 k.toNat 0), (49, .ptr 1 k.toNat 0), (50, .ptr 1 k.toNat 0), (51, .d (.list 1 (List.map u8 f.fst))), (52, .ptr 1 k.toNat 0), (53, .ptr 1 k.toNat 0), (54, .ptr 1 k.toNat 0), (55, .d (.list 1 (List.map u8 f.fst))), (56, .d (.int .i64 (↑(List.map u8 f.fst).length : Int))), (57, .ptr 1 k.toNat 0), (58, .ptr 1 k.toNat 0), (59, .ptr 1 k.toNat 0), (60, .d (.list 1 (List.map u8 f.fst))), (61, .d (.int .i64 (↑(List.map u8 f.fst).length : Int))), (63, .d (.list 1 (List.map u8 bs)))]) (σ' := (SP 1 2 d.begun false [.row 1 [D.str x] false])) (by kernel_rfl)) ?_
            refine Run.one (StepF.look (o := ((drawOf (cgo 53 [false, false, false] [.code B31]))[15]?).getD default) (v := V.ex 1 (List.drop 0 (List.take (List.map u8 f.fst).length (List.map u8 f.fst)))) [(.tmp 51), (.tmp 56), (.tmp 61)] (by kernel_rfl) rfl (by kernel_rfl) (by kernel_rfl) (by kernel_rfl) (by kernel_rfl) (by kernel_rfl) (fun tm' σ2 hv hr => sl3Data_ok (t := 22) (x := (.tmp 51)) (lo := none) (y := (.tmp 56)) (z := (.tmp 61)) (sz := 1) (xs := List.map u8 f.fst) (0) ((List.map u8 f.fst).length) (by kernel_rfl) (by rw [hv _ (by simp)]; kernel_rfl) (by kernel_rfl) rfl (bnd_some (k := IntKind.i64) (i := (↑(List.map u8 f.fst).length : Int)) (by rw [hv _ (by simp)]; kernel_rfl) (by omega) (by rfl)) (bnd_some (k := IntKind.i64) (i := (↑(List.map u8 f.fst).length : Int)) (by rw [hv _ (by simp)]; kernel_rfl) (by omega) (by rfl)) (by omega) (by omega))) ?_
            refine Run.asP (tm' := mk 67 [(2, .d (.list 1 (List.map u8 bs))), (6, .d (.int .i64 0)), (8, .ptr 1 k.toNat 0), (47, .ptr 1 k.toNat 0), (48, .ptr 1 k.toNat 0), (49, .ptr 1 k.toNat 0), (50, .ptr 1 k.toNat 0), (51, .d (.list 1 (List.map u8 f.fst))), (52, .ptr 1 k.toNat 0), (53, .ptr 1 k.toNat 0), (54, .ptr 1 k.toNat 0), (55, .d (.list 1 (List.map u8 f.fst))), (56, .d (.int .i64 (↑(List.map u8 f.fst).length : Int))), (57, .ptr 1 k.toNat 0), (58, .ptr 1 k.toNat 0), (59, .ptr 1 k.toNat 0), (60, .d (.list 1 (List.map u8 f.fst))), (61, .d (.int .i64 (↑(List.map u8 f.fst).length : Int))), (62, V.ex 1 (List.drop 0 (List.take (List.map u8 f.fst).length (List.map u8 f.fst)))), (63, .d (.list 1 (List.map u8 bs)))]) (σ' := (SP 1 2 d.begun false [.row 1 [D.str x] false])) (by kernel_rfl) (by kernel_rfl) ?_
            refine Run.one (StepF.look (o := ((drawOf (cgo 53 [false, false, false] [.code B31]))[17]?).getD default) (v := .d (.list 1 (List.drop 0 (List.take (List.map u8 f.fst).length (List.map u8 f.fst)) ++ List.map u8 bs))) [(.tmp 62), (.tmp 63)] (by kernel_rfl) rfl (by kernel_rfl) (by kernel_rfl) (by kernel_rfl) (by kernel_rfl) (by kernel_rfl) (fun tm' σ2 hv hr => appExD_ok (s := (.tmp 62)) (x := (.tmp 63)) (t := 22) (t2 := 22) (sz := 1) (by' := 1) (ys := List.map u8 bs) (xs := List.drop 0 (List.take (List.map u8 f.fst).length (List.map u8 f.fst))) (by kernel_rfl) (by rw [hv _ (by simp)]; kernel_rfl) (by rw [hv _ (by simp)]; exact (cont_at fun l hl => hr l (subB_in (by kernel_rfl) hl)).trans (by kernel_rfl)) (by kernel_rfl) (by kernel_rfl) (by simp <;> omega) (by first | (simp [maxLen] <;> omega) | omega))) ?_
            refine Run.asP (tm' := mk 67 [(2, .d (.list 1 (List.map u8 bs))), (6, .d (.int .i64 0)), (8, .ptr 1 k.toNat 0), (47, .ptr 1 k.toNat 0), (48, .ptr 1 k.toNat 0), (49, .ptr 1 k.toNat 0), (50, .ptr 1 k.toNat 0), (51, .d (.list 1 (List.map u8 f.fst))), (52, .ptr 1 k.toNat 0), (53, .ptr 1 k.toNat 0), (54, .ptr 1 k.toNat 0), (55, .d (.list 1 (List.map u8 f.fst))), (56, .d (.int .i64 (↑(List.map u8 f.fst).length : Int))), (57, .ptr 1 k.toNat 0), (58, .ptr 1 k.toNat 0), (59, .ptr 1 k.toNat 0), (60, .d (.list 1 (List.map u8 f.fst))), (61, .d (.int .i64 (↑(List.map u8 f.fst).length : Int))), (62, V.ex 1 (List.drop 0 (List.take (List.map u8 f.fst).length (List.map u8 f.fst)))), (63, .d (.list 1 (List.map u8 bs))), (64, .d (.list 1 (List.drop 0 (List.take (List.map u8 f.fst).length (List.map u8 f.fst)) ++ List.map u8 bs)))]) (σ' := (SP 1 2 d.begun false [.row 1 [D.str x] false])) (by kernel_rfl) (by kernel_rfl) ?_
            refine Run.append (A := [18, 19]) (srunF_ok (tm' := mk 67 [(2, .d (.list 1 (List.map u8 bs))), (6, .d (.int .i64 0)), (8, .ptr 1 k.toNat 0), (47, .ptr 1 k.toNat 0), (48, .ptr 1 k.toNat 0), (49, .ptr 1 k.toNat 0), (50, .ptr 1 k.toNat 0), (51, .d (.list 1 (List.map u8 f.fst))), (52, .ptr 1 k.toNat 0), (53, .ptr 1 k.toNat 0), (54, .ptr 1 k.toNat 0), (55, .d (.list 1 (List.map u8 f.fst))), (56, .d (.int .i64 (↑(List.map u8 f.fst).length : Int))), (57, .ptr 1 k.toNat 0), (58, .ptr 1 k.toNat 0), (59, .ptr 1 k.toNat 0), (60, .d (.list 1 (List.map u8 f.fst))), (61, .d (.int .i64 (↑(List.map u8 f.fst).length : Int))), (62, V.ex 1 (List.drop 0 (List.take (List.map u8 f.fst).length (List.map u8 f.fst)))), (63, .d (.list 1 (List.map u8 bs))), (64, .d (.list 1 (List.drop 0 (List.take (List.map u8 f.fst).length (List.map u8 f.fst)) ++ List.map u8 bs))), (65, .ptr 1 k.toNat 0), (66, .ptr 1 k.toNat 0)]) (σ' := (SP 1 2 d.begun false [.row 1 [D.str x] false])) (by kernel_rfl)) ?_
            refine Run.one (StepF.sets (o := ((drawOf (cgo 53 [false, false, false] [.code B31]))[20]?).getD default) (v := .undef) [(.tmp 66), (.tmp 64)] 1 (.row 2 ((List.map fileD d.begun.files).set k.toNat (D.agg [D.list 1 (List.drop 0 (List.take (List.map u8 f.fst).length (List.map u8 f.fst)) ++ List.map u8 bs), D.int IntKind.i64 (↑f.snd : Int)])) false) (by kernel_rfl) rfl (by kernel_rfl) (by kernel_rfl) (by kernel_rfl) (by kernel_rfl) (by kernel_rfl) (fun tm' σ2 hv hr => stRow_ok (t := 22) (x := (.tmp 66)) (y := (.tmp 64)) (l := 1) (i := k.toNat) (s := 0) (sz := 2) (xs := List.map fileD d.begun.files) (mv := false) (d := fileD f) (d' := D.agg [D.list 1 (List.drop 0 (List.take (List.map u8 f.fst).length (List.map u8 f.fst)) ++ List.map u8 bs), D.int IntKind.i64 (↑f.snd : Int)]) (by kernel_rfl) (by rw [hv _ (by simp)]; kernel_rfl) ((hr _ (inK_iff.1 (by kernel_rfl))).trans (by kernel_rfl)) (map_get hf) (by unfold storeE; rw [hv _ (by simp)]; kernel_rfl))) ?_
            refine Run.asP (tm' := mk 67 [(2, .d (.list 1 (List.map u8 bs))), (6, .d (.int .i64 0)), (8, .ptr 1 k.toNat 0), (47, .ptr 1 k.toNat 0), (48, .ptr 1 k.toNat 0), (49, .ptr 1 k.toNat 0), (50, .ptr 1 k.toNat 0), (51, .d (.list 1 (List.map u8 f.fst))), (52, .ptr 1 k.toNat 0), (53, .ptr 1 k.toNat 0), (54, .ptr 1 k.toNat 0), (55, .d (.list 1 (List.map u8 f.fst))), (56, .d (.int .i64 (↑(List.map u8 f.fst).length : Int))), (57, .ptr 1 k.toNat 0), (58, .ptr 1 k.toNat 0), (59, .ptr 1 k.toNat 0), (60, .d (.list 1 (List.map u8 f.fst))), (61, .d (.int .i64 (↑(List.map u8 f.fst).length : Int))), (62, V.ex 1 (List.drop 0 (List.take (List.map u8 f.fst).length (List.map u8 f.fst)))), (63, .d (.list 1 (List.map u8 bs))), (64, .d (.list 1 (List.drop 0 (List.take (List.map u8 f.fst).length (List.map u8 f.fst)) ++ List.map u8 bs))), (65, .ptr 1 k.toNat 0), (66, .ptr 1 k.toNat 0)]) (σ' := [.cells [.row 1, .ptr 2 0 0, .ep 2 (D.agg [D.list 1 (List.map strD d.begun.sk), D.list 1 (List.map intD d.begun.sv)]) 0, .row 5, .d (.int .i64 d.begun.quota), .d (.bool d.begun.full), .d (.bool d.begun.off), .d (.int .i64 d.begun.stop), .d (.int .i64 d.begun.calls)], .row 2 ((List.map fileD d.begun.files).set k.toNat (D.agg [D.list 1 (List.drop 0 (List.take (List.map u8 f.fst).length (List.map u8 f.fst)) ++ List.map u8 bs), D.int IntKind.i64 (↑f.snd : Int)])) false, .cells [.row 3, .row 4], .row 1 (List.map strD d.begun.nk) false, .row 1 (List.map intD d.begun.nv) false, .row 3 (List.map chD d.begun.ch) false, .row 1 [D.str x] false]) (by kernel_rfl) (by kernel_rfl) ?_
            exact srunF_ok (by kernel_rfl)
          refine .seg 4 [6] (T' := cgo 58 [false, false, false] [.code B31]) (tm' := mk 67 [(6, .d (.int .i64 0))]) (σ' := [.cells [.row 1, .ptr 2 0 0, .ep 2 (D.agg [D.list 1 (List.map strD d.begun.sk), D.list 1 (List.map intD d.begun.sv)]) 0, .row 5, .d (.int .i64 d.begun.quota), .d (.bool d.begun.full), .d (.bool d.begun.off), .d (.int .i64 d.begun.stop), .d (.int .i64 d.begun.calls)], .row 2 ((List.map fileD d.begun.files).set k.toNat (D.agg [D.list 1 (List.drop 0 (List.take (List.map u8 f.fst).length (List.map u8 f.fst)) ++ List.map u8 bs), D.int IntKind.i64 (↑f.snd : Int)])) false, .cells [.row 3, .row 4], .row 1 (List.map strD d.begun.nk) false, .row 1 (List.map intD d.begun.nv) false, .row 3 (List.map chD d.begun.ch) false, .row 1 [D.str x] false]) (by kernel_rfl) ?_
          simp only [List.length_map]
          refine .raise 1 rfl rfl ?_
          refine .raise 3 rfl rfl ?_
          refine .raise 4 rfl rfl ?_
          refine .raise 5 rfl rfl ?_
          refine .keeps [6] (tm' := mk 67 [(6, .d (.int .i64 0))]) (by kernel_rfl) ?_
          refine .sub [0, 1, 2, 3, 4, 5] (mk 67 [(6, .d (.int .i64 0))]) [.cells [.row 1, .ptr 2 0 0, .ep 2 (D.agg [D.list 1 (List.map strD d.begun.sk), D.list 1 (List.map intD d.begun.sv)]) 0, .row 5, .d (.int .i64 d.begun.quota), .d (.bool d.begun.full), .d (.bool d.begun.off), .d (.int .i64 d.begun.stop), .d (.int .i64 d.begun.calls)], .row 2 ((List.map fileD d.begun.files).set k.toNat (D.agg [D.list 1 (List.drop 0 (List.take f.fst.length (List.map u8 f.fst)) ++ List.map u8 bs), D.int IntKind.i64 (↑f.snd : Int)])) true, .cells [.row 3, .row 4], .row 1 (List.map strD d.begun.nk) true, .row 1 (List.map intD d.begun.nv) true, .row 3 (List.map chD d.begun.ch) true] none [] ⟨rfl, rfl, by kernel_rfl⟩ (by kernel_rfl) ⟨Nat.le_of_ble_eq_true (by kernel_rfl), by kernel_rfl⟩ (by kernel_rfl) ⟨by kernel_rfl, by kernel_rfl⟩ ⟨rfl, rfl⟩ ?_
          refine .retH F31 (v := V.d (D.int IntKind.i64 0)) (by kernel_rfl) (by kernel_rfl) ?_
          have hu := Dk.used_le hk
          have hq0 := hk.q0
          have hq1 := hk.q1
          have hw : IntKind.i64.wrap (d.begun.quota - (d.begun.used : Int)) = d.begun.quota - (d.begun.used : Int) := wrap_i64 (by omega) (by omega)
          rw [hw, List.length_map] at h8
          have e : d.begun.appendE x bs = 0 := by
            unfold Dk.appendE
            rw [if_neg (by simp [h2]), hfile, if_neg (by omega), if_neg (by omega)]
          have hf2 : d.begun.file k.toNat = f := by rw [← hnum]; exact hfile
          have e' : d.begun.appendD x bs = { d.begun with files := d.begun.files.set k.toNat (f.1 ++ bs, f.2) } := by simp [Dk.appendD, e, hf2, hnum]
          have e3 : List.take f.1.length (List.map u8 f.1) = List.map u8 f.1 := List.take_of_length_le (by simp)
          refine ⟨by rw [e], ?_⟩
          rw [e', e3]
          simp [SD, dirD, List.map_set, fileD, bsD, i64]
end Go.Proofs.Ytoelkgbeefoplaa

namespace Go.Proofs.Ytoelkgbeefoplaa
open Go Go.Br Go.Proofs
set_option linter.unusedSimpArgs false
noncomputable def B32 : Code := (Try.f32.body).getD .skip
theorem F32 : Fnc Try.prog 32 Try.f32 B32 := ⟨Try.func32, by kernel_rfl, by kernel_rfl⟩
theorem spec_32 (d : Dk) (N : Nat) (h : d.Ok N) (hN : N + 2 ≤ 50000) (x : ByteArray) (hx : x.size < 1000000000) :
    CallsA Try.prog 32 [.ptr 0 0 0, .d (.str x)] (SD d false) fun r σ' => r = .ret (.d (.int .i64 (d.begun.err true [x]))) ∧ σ' = SD (d.begun.syncD x) true := by
  refine CallsA.start F32 (tm := mk (Try.f32.ntmps) [(0, .ptr 0 0 0), (1, .d (.str x))]) (by kernel_rfl) ?_
  have hk := Dk.begun_ok h (by omega : N + 1 ≤ 50000)
  have q1 := hk.nr
  have q2 := hk.nl
  have q3 := hk.nkl
  have q4 := hk.nb
  have q7 := hk.chl
  have q8 := hk.fl
  have q5 : ∀ k, look d.begun.nk d.begun.nv x = some k → 0 ≤ k ∧ k < d.begun.files.length := fun k hk' => hk.nn k (look_mem hk')
  have hn1 : [D.str x] = List.map strD [x] := rfl
  cases hl : look d.begun.nk d.begun.nv x with
  | none =>
    have he : d.begun.err true [x] ≠ 0 := by
      unfold Dk.err
      split
      · simp
      · split <;> simp [hl]
    refine .seg 10 [0, 1, 4, 8, 9, 10] (T' := cgo 10 [] [.code B32]) (tm' := mk 29 [(0, .ptr 0 0 0), (1, .d (.str x)), (4, .d (.int .i64 0)), (8, .ptr 0 0 0), (9, .d (.str x)), (10, .row 6)]) (σ' := (SP 1 2 d false [.row 1 [D.str x] false])) (by kernel_rfl) ?_
    refine .callH (o := (opOf (cgo 10 [] [.code B32])).getD default) (x := (.func 64)) (args := #[(.tmp 8), (.const (Value.bool true)), (.tmp 10)]) (ts := #[40, 4, 66]) (first := []) (cap := []) [0, 1, 2, 3, 4, 5, 6] [.ptr 0 0 0, .d (.bool true), .row 6] (SP 1 2 d false [.row 1 [D.str x] false]) F64 (@spec_64b (d) (N) (by assumption) (true) ([x]) ([D.str x]) (by assumption) (by simp; done) (by simp <;> omega) (by simp; done) (by assumption)) (by kernel_rfl) (by kernel_rfl) (T' := cgo 11 [] [.code B32]) (by kernel_rfl) (by kernel_rfl) (by kernel_rfl) (by kernel_rfl) (by kernel_rfl) ⟨rfl, rfl, by kernel_rfl⟩ ?_
    rintro r0 s0 ⟨rfl, rfl⟩
    refine ⟨_, rfl, ?_⟩
    refine .seg 7 [0, 1, 4, 5, 13] (T' := cgo 18 [] [.code B32]) (tm' := mk 29 [(0, .ptr 0 0 0), (1, .d (.str x)), (4, .d (.int .i64 0)), (5, .d (.int .i64 (d.begun.err true [x]))), (13, .d (.bool (d.begun.err true [x] != 0)))]) (σ' := (SP 1 2 d.begun false [.row 1 [D.str x] false])) (by kernel_rfl) ?_
    refine .ifH (b := d.begun.err true [x] != 0) (by kernel_rfl) (by kernel_rfl) (T1 := cgo 19 [true] [Item.code B32]) (T2 := cgo 19 [false] [Item.code B32]) (by kernel_rfl) (by kernel_rfl) (fun h2 => ?_) (fun h2 => ?_)
    · simp only [decide_eq_true_eq, decide_eq_false_iff_not, beq_iff_eq, bne_iff_ne, beq_eq_false_iff_ne, bne_eq_false_iff_eq, Bool.not_eq_true', Bool.not_eq_false', ne_eq, Decidable.not_not, Bool.not_eq_true, Bool.not_eq_false] at h2
      refine .seg 5 [0, 1, 4] (T' := cgo 24 [true] [.code B32]) (tm' := mk 29 [(0, .ptr 0 0 0), (1, .d (.str x)), (4, .d (.int .i64 (d.begun.err true [x])))]) (σ' := (SP 1 2 d.begun false [.row 1 [D.str x] false])) (by kernel_rfl) ?_
      refine .raise 1 rfl rfl ?_
      refine .raise 3 rfl rfl ?_
      refine .raise 4 rfl rfl ?_
      refine .raise 5 rfl rfl ?_
      refine .keeps [4] (tm' := mk 29 [(4, .d (.int .i64 (d.begun.err true [x])))]) (by kernel_rfl) ?_
      refine .sub [0, 1, 2, 3, 4, 5] (mk 29 [(4, .d (.int .i64 (d.begun.err true [x])))]) (SP 1 2 d.begun true []) none [] ⟨rfl, rfl, by kernel_rfl⟩ (by kernel_rfl) ⟨Nat.le_of_ble_eq_true (by kernel_rfl), by kernel_rfl⟩ (by kernel_rfl) ⟨by kernel_rfl, by kernel_rfl⟩ ⟨rfl, rfl⟩ ?_
      refine .retH F32 (v := V.d (D.int IntKind.i64 (d.begun.err true [x]))) (by kernel_rfl) (by kernel_rfl) ?_
      simp_all [SD, dirD, Dk.syncD]
    · simp only [decide_eq_true_eq, decide_eq_false_iff_not, beq_iff_eq, bne_iff_ne, beq_eq_false_iff_ne, bne_eq_false_iff_eq, Bool.not_eq_true', Bool.not_eq_false', ne_eq, Decidable.not_not, Bool.not_eq_true, Bool.not_eq_false] at h2
      omega
  | some k =>
    have q6 := q5 k hl
    have q61 := q6.1
    have hlt : k.toNat < d.begun.files.length := by omega
    obtain ⟨f, hf⟩ := get_some (l := d.begun.files) (i := k.toNat) hlt
    have hm := hk.fs f (List.mem_of_getElem? hf)
    have hfile : d.begun.file (d.begun.num x) = f := by simp [Dk.file, Dk.num, hl, List.getD_eq_getElem?_getD, hf]
    have hnum : d.begun.num x = k.toNat := by simp [Dk.num, hl]
    refine .seg 10 [0, 1, 4, 8, 9, 10] (T' := cgo 10 [] [.code B32]) (tm' := mk 29 [(0, .ptr 0 0 0), (1, .d (.str x)), (4, .d (.int .i64 0)), (8, .ptr 0 0 0), (9, .d (.str x)), (10, .row 6)]) (σ' := (SP 1 2 d false [.row 1 [D.str x] false])) (by kernel_rfl) ?_
    refine .callH (o := (opOf (cgo 10 [] [.code B32])).getD default) (x := (.func 64)) (args := #[(.tmp 8), (.const (Value.bool true)), (.tmp 10)]) (ts := #[40, 4, 66]) (first := []) (cap := []) [0, 1, 2, 3, 4, 5, 6] [.ptr 0 0 0, .d (.bool true), .row 6] (SP 1 2 d false [.row 1 [D.str x] false]) F64 (@spec_64b (d) (N) (by assumption) (true) ([x]) ([D.str x]) (by assumption) (by simp; done) (by simp <;> omega) (by simp; done) (by assumption)) (by kernel_rfl) (by kernel_rfl) (T' := cgo 11 [] [.code B32]) (by kernel_rfl) (by kernel_rfl) (by kernel_rfl) (by kernel_rfl) (by kernel_rfl) ⟨rfl, rfl, by kernel_rfl⟩ ?_
    rintro r0 s0 ⟨rfl, rfl⟩
    refine ⟨_, rfl, ?_⟩
    refine .seg 7 [0, 1, 4, 5, 13] (T' := cgo 18 [] [.code B32]) (tm' := mk 29 [(0, .ptr 0 0 0), (1, .d (.str x)), (4, .d (.int .i64 0)), (5, .d (.int .i64 (d.begun.err true [x]))), (13, .d (.bool (d.begun.err true [x] != 0)))]) (σ' := (SP 1 2 d.begun false [.row 1 [D.str x] false])) (by kernel_rfl) ?_
    refine .ifH (b := d.begun.err true [x] != 0) (by kernel_rfl) (by kernel_rfl) (T1 := cgo 19 [true] [Item.code B32]) (T2 := cgo 19 [false] [Item.code B32]) (by kernel_rfl) (by kernel_rfl) (fun h2 => ?_) (fun h2 => ?_)
    · simp only [decide_eq_true_eq, decide_eq_false_iff_not, beq_iff_eq, bne_iff_ne, beq_eq_false_iff_ne, bne_eq_false_iff_eq, Bool.not_eq_true', Bool.not_eq_false', ne_eq, Decidable.not_not, Bool.not_eq_true, Bool.not_eq_false] at h2
      refine .seg 5 [0, 1, 4] (T' := cgo 24 [true] [.code B32]) (tm' := mk 29 [(0, .ptr 0 0 0), (1, .d (.str x)), (4, .d (.int .i64 (d.begun.err true [x])))]) (σ' := (SP 1 2 d.begun false [.row 1 [D.str x] false])) (by kernel_rfl) ?_
      refine .raise 1 rfl rfl ?_
      refine .raise 3 rfl rfl ?_
      refine .raise 4 rfl rfl ?_
      refine .raise 5 rfl rfl ?_
      refine .keeps [4] (tm' := mk 29 [(4, .d (.int .i64 (d.begun.err true [x])))]) (by kernel_rfl) ?_
      refine .sub [0, 1, 2, 3, 4, 5] (mk 29 [(4, .d (.int .i64 (d.begun.err true [x])))]) (SP 1 2 d.begun true []) none [] ⟨rfl, rfl, by kernel_rfl⟩ (by kernel_rfl) ⟨Nat.le_of_ble_eq_true (by kernel_rfl), by kernel_rfl⟩ (by kernel_rfl) ⟨by kernel_rfl, by kernel_rfl⟩ ⟨rfl, rfl⟩ ?_
      refine .retH F32 (v := V.d (D.int IntKind.i64 (d.begun.err true [x]))) (by kernel_rfl) (by kernel_rfl) ?_
      simp_all [SD, dirD, Dk.syncD, fileD, bsD, i64]
    · simp only [decide_eq_true_eq, decide_eq_false_iff_not, beq_iff_eq, bne_iff_ne, beq_eq_false_iff_ne, bne_eq_false_iff_eq, Bool.not_eq_true', Bool.not_eq_false', ne_eq, Decidable.not_not, Bool.not_eq_true, Bool.not_eq_false] at h2
      refine .seg 5 [0, 1, 4, 16, 17] (T' := cgo 24 [false] [.code B32]) (tm' := mk 29 [(0, .ptr 0 0 0), (1, .d (.str x)), (4, .d (.int .i64 0)), (16, .ptr 0 0 0), (17, .d (.str x))]) (σ' := (SP 1 2 d.begun false [.row 1 [D.str x] false])) (by kernel_rfl) ?_
      refine .callH (o := (opOf (cgo 24 [false] [.code B32])).getD default) (x := (.func 65)) (args := #[(.tmp 16), (.tmp 17)]) (ts := #[40, 9]) (first := []) (cap := []) [0, 1, 2, 3, 4, 5] [.ptr 0 0 0, .d (.str x)] (SP 1 2 d.begun false []) F65 (@spec_65 (d.begun) (x) (some k) (by assumption) (by assumption) (by assumption) (by omega) (by assumption)) (by kernel_rfl) (by kernel_rfl) (T' := cgo 25 [false] [.code B32]) (by kernel_rfl) (by kernel_rfl) (by kernel_rfl) (by kernel_rfl) (by kernel_rfl) ⟨rfl, rfl, by kernel_rfl⟩ ?_
      rintro r2 s2 ⟨rfl, rfl⟩
      refine ⟨_, rfl, ?_⟩
      refine .seg 12 [4, 6, 21, 22, 23, 24] (T' := cgo 37 [false] [.code B32]) (tm' := mk 29 [(4, .d (.int .i64 0)), (6, .ptr 1 k.toNat 0), (21, .ptr 1 k.toNat 0), (22, .ptr 1 k.toNat 0), (23, .ptr 1 k.toNat 0), (24, .ptr 1 k.toNat 0)]) (σ' := (SP 1 2 d.begun false [.row 1 [D.str x] false])) (by kernel_rfl) ?_
      refine .opH (o := (opOf (cgo 37 [false] [.code B32])).getD default) (by kernel_rfl) (by kernel_rfl) (by kernel_rfl) (T' := cgo 38 [false] [.code B32]) (by kernel_rfl) (ldRow_ok (t := 22) (x := (.tmp 24)) (l := 1) (i := k.toNat) (s := 0) (sz := 2) (xs := List.map fileD d.begun.files) (mv := false) (d := fileD f) (v := .d (.list 1 (List.map u8 f.fst))) (by kernel_rfl) (by kernel_rfl) (by kernel_rfl) (map_get hf) (by kernel_rfl)) ?_
      refine .seg 3 [4, 6, 21, 22, 23, 24, 25, 26, 27, 28] (T' := cgo 41 [false] [.code B32]) (tm' := mk 29 [(4, .d (.int .i64 0)), (6, .ptr 1 k.toNat 0), (21, .ptr 1 k.toNat 0), (22, .ptr 1 k.toNat 0), (23, .ptr 1 k.toNat 0), (24, .ptr 1 k.toNat 0), (25, .d (.list 1 (List.map u8 f.fst))), (26, .d (.int .i64 (↑(List.map u8 f.fst).length : Int))), (27, .ptr 1 k.toNat 0), (28, .ptr 1 k.toNat 1)]) (σ' := (SP 1 2 d.begun false [.row 1 [D.str x] false])) (by kernel_rfl) ?_
      simp only [List.length_map]
      refine .opH (o := (opOf (cgo 41 [false] [.code B32])).getD default) (by kernel_rfl) (by kernel_rfl) (by kernel_rfl) (T' := cgo 42 [false] [.code B32]) (by kernel_rfl) (stRow_ok (t := 3) (x := (.tmp 28)) (y := (.tmp 26)) (l := 1) (i := k.toNat) (s := 1) (sz := 2) (xs := List.map fileD d.begun.files) (mv := false) (d := fileD f) (d' := D.agg [D.list 1 (List.map u8 f.fst), D.int IntKind.i64 (↑f.fst.length : Int)]) (by kernel_rfl) (by kernel_rfl) (by kernel_rfl) (map_get hf) (by kernel_rfl)) ?_
      refine .seg 5 [4] (T' := cgo 47 [false] [.code B32]) (tm' := mk 29 [(4, .d (.int .i64 0))]) (σ' := [.cells [.row 1, .ptr 2 0 0, .ep 2 (D.agg [D.list 1 (List.map strD d.begun.sk), D.list 1 (List.map intD d.begun.sv)]) 0, .row 5, .d (.int .i64 d.begun.quota), .d (.bool d.begun.full), .d (.bool d.begun.off), .d (.int .i64 d.begun.stop), .d (.int .i64 d.begun.calls)], .row 2 ((List.map fileD d.begun.files).set k.toNat (D.agg [D.list 1 (List.map u8 f.fst), D.int IntKind.i64 (↑f.fst.length : Int)])) false, .cells [.row 3, .row 4], .row 1 (List.map strD d.begun.nk) false, .row 1 (List.map intD d.begun.nv) false, .row 3 (List.map chD d.begun.ch) false, .row 1 [D.str x] false]) (by kernel_rfl) ?_
      refine .raise 1 rfl rfl ?_
      refine .raise 3 rfl rfl ?_
      refine .raise 4 rfl rfl ?_
      refine .raise 5 rfl rfl ?_
      refine .keeps [4] (tm' := mk 29 [(4, .d (.int .i64 0))]) (by kernel_rfl) ?_
      refine .sub [0, 1, 2, 3, 4, 5] (mk 29 [(4, .d (.int .i64 0))]) [.cells [.row 1, .ptr 2 0 0, .ep 2 (D.agg [D.list 1 (List.map strD d.begun.sk), D.list 1 (List.map intD d.begun.sv)]) 0, .row 5, .d (.int .i64 d.begun.quota), .d (.bool d.begun.full), .d (.bool d.begun.off), .d (.int .i64 d.begun.stop), .d (.int .i64 d.begun.calls)], .row 2 ((List.map fileD d.begun.files).set k.toNat (D.agg [D.list 1 (List.map u8 f.fst), D.int IntKind.i64 (↑f.fst.length : Int)])) true, .cells [.row 3, .row 4], .row 1 (List.map strD d.begun.nk) true, .row 1 (List.map intD d.begun.nv) true, .row 3 (List.map chD d.begun.ch) true] none [] ⟨rfl, rfl, by kernel_rfl⟩ (by kernel_rfl) ⟨Nat.le_of_ble_eq_true (by kernel_rfl), by kernel_rfl⟩ (by kernel_rfl) ⟨by kernel_rfl, by kernel_rfl⟩ ⟨rfl, rfl⟩ ?_
      refine .retH F32 (v := V.d (D.int IntKind.i64 0)) (by kernel_rfl) (by kernel_rfl) ?_
      simp_all [SD, dirD, Dk.syncD, fileD, bsD, i64]
end Go.Proofs.Ytoelkgbeefoplaa

namespace Go.Proofs.Ytoelkgbeefoplaa
open Go Go.Br Go.Proofs
set_option linter.unusedSimpArgs false
theorem spec_97e (x : D) : CallsA Try.prog 97 [.ep 2 x 0, .fn (.func 98) [] []] [] fun r σ' => r = .ret (.fn (.func 109) [] [.ptr 0 0 0, .ptr 1 0 0]) ∧ σ' = [.cells [.ep 2 x 0], .cells [.fn (.func 98) [] []]] := by
  refine CallsA.start F97 (tm := mk (Try.f97.ntmps) [(0, .ep 2 x 0), (1, .fn (.func 98) [] [])]) (by kernel_rfl) ?_
  refine .seg 11 [4] (T' := cgo 11 [] [.code B97]) (tm' := mk 6 [(4, .fn (Fn.func 109) [] [.ptr 0 0 0, .ptr 1 0 0])]) (σ' := [.cells [.ep 2 x 0], .cells [.fn (Fn.func 98) [] []]]) (by kernel_rfl) ?_
  refine .retH F97 (v := V.fn (Fn.func 109) [] [V.ptr 0 0 0, V.ptr 1 0 0]) (by kernel_rfl) (by kernel_rfl) ?_
  exact ⟨rfl, rfl⟩
theorem spec_72e (x : D) : CallsA Try.prog 72 [.ep 2 x 0] [] fun r σ' => r = .ret (.fn (.func 109) [] [.ptr 0 0 0, .ptr 1 0 0]) ∧ σ' = [.cells [.ep 2 x 0], .cells [.fn (.func 98) [] []]] := by
  refine CallsA.start F72 (tm := mk (Try.f72.ntmps) [(0, .ep 2 x 0)]) (by kernel_rfl) ?_
  refine .seg 7 [0, 2, 3] (T' := cgo 7 [] [.code B72]) (tm' := mk 5 [(0, .ep 2 x 0), (2, .d (.raw Value.nilFunc)), (3, .ep 2 x 0)]) (σ' := []) (by kernel_rfl) ?_
  refine .callH (o := (opOf (cgo 7 [] [.code B72])).getD default) (x := (.func 97)) (args := #[(.tmp 3), (.func 98)]) (ts := #[102, 77]) (first := []) (cap := []) [] [.ep 2 x 0, .fn (Fn.func 98) [] []] [] F97 (@spec_97e (x)) (by kernel_rfl) (by kernel_rfl) (T' := cgo 8 [] [.code B72]) (by kernel_rfl) (by kernel_rfl) (by kernel_rfl) (by kernel_rfl) (by kernel_rfl) ⟨rfl, rfl, by kernel_rfl⟩ ?_
  rintro r0 s0 ⟨rfl, rfl⟩
  refine ⟨_, rfl, ?_⟩
  refine .seg 2 [2] (T' := cgo 10 [] [.code B72]) (tm' := mk 5 [(2, .fn (Fn.func 109) [] [.ptr 0 0 0, .ptr 1 0 0])]) (σ' := [.cells [.ep 2 x 0], .cells [.fn (Fn.func 98) [] []]]) (by kernel_rfl) ?_
  refine .retH F72 (v := V.fn (Fn.func 109) [] [V.ptr 0 0 0, V.ptr 1 0 0]) (by kernel_rfl) (by kernel_rfl) ?_
  exact ⟨rfl, rfl⟩
noncomputable def S69e (ks : List ByteArray) (V2 : List Int) (i : Nat) (st : LoopState) : Store :=
  [.cells [.row 4, .row 5], .cells [.ptr 0 0 0], .cells [.ep 2 (dirD ks V2) 0], .cells [.fn (.func 98) [] []], .row 1 ((ks.take i).map strD) true, .row 1 ((V2.take i).map intD) true, .defd, lp (cgo 18 [] [Item.code B69]) 69 (mk 17 [(2, V.d (D.raw (Value.pointer none))), (3, V.ptr 1 0 0), (9, V.fn (Fn.func 109) [] [V.ptr 2 0 0, V.ptr 3 0 0])]) st]
theorem body69e (ks : List ByteArray) (V2 : List Int) (hr : Rising ks) (hl : ks.length < 60000) (hv : V2.length = ks.length) (i : Nat) (x : ByteArray) (v : Int) (hx : ks[i]? = some x) (hy : V2[i]? = some v) :
    AW Try.prog 69 (some 7) 8 R69 (mk 17 [(2, V.d (D.raw (Value.pointer none))), (3, V.ptr 1 0 0), (9, V.fn (Fn.func 109) [] [V.ptr 2 0 0, V.ptr 3 0 0]), (10, .d (.str x)), (11, .d (.int .i64 v))]) (S69e ks V2 i .ready) [] fun a σ' => a = .ret (.d (.bool true)) ∧ σ' = S69e ks V2 (i + 1) .ready := by
  refine .at (T' := cgo 0 [] R69) rfl ?_
  have hi := (List.getElem?_eq_some_iff.1 hx).1
  have hk : kput (ks.take i) (V2.take i) x v = (ks.take (i + 1), V2.take (i + 1)) := by
    obtain ⟨_, rfl⟩ := List.getElem?_eq_some_iff.1 hx
    obtain ⟨_, rfl⟩ := List.getElem?_eq_some_iff.1 hy
    exact kput_next hr hv i hi
  have hr2 : Rising (ks.take i) := List.Pairwise.sublist (List.take_sublist _ _) hr
  have hl2 : (ks.take i).length < 1000000 := by simp; omega
  have hv2 : (V2.take i).length = (ks.take i).length := by simp [hv]
  refine .seg 7 [2, 3, 4, 5, 9, 10, 11] (T' := cgo 7 [] R69) (tm' := mk 17 [(2, .d (.raw (Value.pointer none))), (3, .ptr 1 0 0), (4, .d (.str x)), (5, .d (.int .i64 v)), (9, .fn (Fn.func 109) [] [.ptr 2 0 0, .ptr 3 0 0]), (10, .d (.str x)), (11, .d (.int .i64 v))]) (σ' := [.cells [.row 4, .row 5], .cells [.ptr 0 0 0], .cells [.ep 2 (D.agg [D.list 1 (List.map strD ks), D.list 1 (List.map intD V2)]) 0], .cells [.fn (Fn.func 98) [] []], .row 1 (List.map strD (List.take i ks)) true, .row 1 (List.map intD (List.take i V2)) true, .defd, lp (cgo 18 [] [.code B69]) 69 (mk 17 [(2, .d (.raw (Value.pointer none))), (3, .ptr 1 0 0), (9, .fn (Fn.func 109) [] [.ptr 2 0 0, .ptr 3 0 0])]) LoopState.ready]) (by kernel_rfl) ?_
  refine .beginL (T0 := cgo 18 [] [Item.code B69]) (fn := 69) (tml := (mk 17 [(2, V.d (D.raw (Value.pointer none))), (3, V.ptr 1 0 0), (9, V.fn (Fn.func 109) [] [V.ptr 2 0 0, V.ptr 3 0 0])])) (by kernel_rfl) (T' := cgo 8 [] R69) (by kernel_rfl) (σ' := [.cells [.row 4, .row 5], .cells [.ptr 0 0 0], .cells [.ep 2 (D.agg [D.list 1 (List.map strD ks), D.list 1 (List.map intD V2)]) 0], .cells [.fn (Fn.func 98) [] []], .row 1 (List.map strD (List.take i ks)) true, .row 1 (List.map intD (List.take i V2)) true, .defd, lp (cgo 18 [] [Item.code B69]) 69 (mk 17 [(2, .d (.raw (Value.pointer none))), (3, .ptr 1 0 0), (9, .fn (Fn.func 109) [] [.ptr 2 0 0, .ptr 3 0 0])]) LoopState.busy]) (by kernel_rfl) (by kernel_rfl) ?_
  refine .seg 5 [2, 3, 4, 5, 12, 13, 14] (T' := cgo 13 [] R69) (tm' := mk 17 [(2, .d (.raw (Value.pointer none))), (3, .ptr 1 0 0), (4, .d (.str x)), (5, .d (.int .i64 v)), (12, .ptr 0 0 0), (13, .d (.str x)), (14, .d (.int .i64 v))]) (σ' := [.cells [.row 4, .row 5], .cells [.ptr 0 0 0], .cells [.ep 2 (D.agg [D.list 1 (List.map strD ks), D.list 1 (List.map intD V2)]) 0], .cells [.fn (Fn.func 98) [] []], .row 1 (List.map strD (List.take i ks)) true, .row 1 (List.map intD (List.take i V2)) true, .defd, lp (cgo 18 [] [.code B69]) 69 (mk 17 [(2, .d (.raw (Value.pointer none))), (3, .ptr 1 0 0), (9, .fn (Fn.func 109) [] [.ptr 2 0 0, .ptr 3 0 0])]) LoopState.busy]) (by kernel_rfl) ?_
  refine .callH (o := (opOf (cgo 13 [] R69)).getD default) (x := (.func 76)) (args := #[(.tmp 12), (.tmp 13), (.tmp 14)]) (ts := #[102, 9, 3]) (first := []) (cap := []) [0, 4, 5] [.ptr 0 0 0, .d (.str x), .d (.int .i64 v)] [.cells [.row 1, .row 2], .row 1 (List.map strD (List.take i ks)) false, .row 1 (List.map intD (List.take i V2)) false] F76 (@spec_76 (List.take i ks) (x) (List.take i V2) (v) (by assumption) (by assumption) (by assumption)) (by kernel_rfl) (by kernel_rfl) (T' := cgo 14 [] R69) (by kernel_rfl) (by kernel_rfl) (by kernel_rfl) (by kernel_rfl) (by kernel_rfl) ⟨rfl, rfl, by kernel_rfl⟩ ?_
  rintro r0 s0 ⟨rfl, rfl⟩
  refine ⟨_, rfl, ?_⟩
  refine .seg 2 [2] (T' := cgo 16 [] R69) (tm' := mk 17 [(2, .d (.raw (Value.pointer none)))]) (σ' := [.cells [.row 4, .row 5], .cells [.ptr 0 0 0], .cells [.ep 2 (D.agg [D.list 1 (List.map strD ks), D.list 1 (List.map intD V2)]) 0], .cells [.fn (Fn.func 98) [] []], .row 1 (List.map strD (kput (List.take i ks) (List.take i V2) x v).fst) true, .row 1 (List.map intD (kput (List.take i ks) (List.take i V2) x v).snd) true, .defd, lp (cgo 18 [] [.code B69]) 69 (mk 17 [(2, .d (.raw (Value.pointer none))), (3, .ptr 1 0 0), (9, .fn (Fn.func 109) [] [.ptr 2 0 0, .ptr 3 0 0])]) LoopState.busy]) (by kernel_rfl) ?_
  refine .roundEndL (T0 := cgo 18 [] [Item.code B69]) (fn := 69) (tml := (mk 17 [(2, V.d (D.raw (Value.pointer none))), (3, V.ptr 1 0 0), (9, V.fn (Fn.func 109) [] [V.ptr 2 0 0, V.ptr 3 0 0])])) (st := LoopState.busy) (by kernel_rfl) (by kernel_rfl) (σ' := [.cells [.row 4, .row 5], .cells [.ptr 0 0 0], .cells [.ep 2 (D.agg [D.list 1 (List.map strD ks), D.list 1 (List.map intD V2)]) 0], .cells [.fn (Fn.func 98) [] []], .row 1 (List.map strD (kput (List.take i ks) (List.take i V2) x v).fst) true, .row 1 (List.map intD (kput (List.take i ks) (List.take i V2) x v).snd) true, .defd, lp (cgo 18 [] [Item.code B69]) 69 (mk 17 [(2, .d (.raw (Value.pointer none))), (3, .ptr 1 0 0), (9, .fn (Fn.func 109) [] [.ptr 2 0 0, .ptr 3 0 0])]) LoopState.ready]) (by kernel_rfl) ?_
  simp_all [S69e, dirD]
theorem lo69e (ks : List ByteArray) (V2 : List Int) (hr : Rising ks) (hl : ks.length < 60000) (hv : V2.length = ks.length) : ∀ (m i : Nat), i + m = (ks).length →
    AW Try.prog 109 none 8 (cgo 24 [false] [Item.code B109]) (mk 43 [(0, V.yield 7), (5, V.d (.list 1 ((ks).map strD))), (6, V.d (.list 1 ((V2).map intD))), (27, V.d (.int .i64 ((ks).length : Nat))), (28, V.d (.int .i64 (i : Nat)))]) (S69e ks V2 i .ready) [] fun r σ' => r = .ret (.tuple []) ∧ σ' = S69e ks V2 (ks).length .ready := by
  intro m
  induction m with
  | zero =>
    intro i hi
    have hi : i = (ks).length := by omega
    subst hi
    refine .seg 5 [0, 5, 6, 27, 28, 29] (T' := cgo 29 [false] [.code B109]) (tm' := mk 43 [(0, V.yield 7), (5, .d (.list 1 (List.map strD ks))), (6, .d (.list 1 (List.map intD V2))), (27, .d (.int .i64 (↑ks.length : Int))), (28, .d (.int .i64 (↑ks.length : Int))), (29, .d (.bool (decide ((↑ks.length : Int) < (↑ks.length : Int)))))]) (σ' := [.cells [.row 4, .row 5], .cells [.ptr 0 0 0], .cells [.ep 2 (D.agg [D.list 1 (List.map strD ks), D.list 1 (List.map intD V2)]) 0], .cells [.fn (Fn.func 98) [] []], .row 1 (List.map strD (List.take ks.length ks)) true, .row 1 (List.map intD (List.take ks.length V2)) true, .defd, lp (cgo 18 [] [.code B69]) 69 (mk 17 [(2, .d (.raw (Value.pointer none))), (3, .ptr 1 0 0), (9, .fn (Fn.func 109) [] [.ptr 2 0 0, .ptr 3 0 0])]) LoopState.ready]) (by kernel_rfl) ?_
    refine .ifH (b := decide ((↑ks.length : Int) < (↑ks.length : Int))) (by kernel_rfl) (by kernel_rfl) (T1 := cgo 30 [false, true] [Item.code B109]) (T2 := cgo 30 [false, false] [Item.code B109]) (by kernel_rfl) (by kernel_rfl) (fun h1 => ?_) (fun h1 => ?_)
    · simp only [decide_eq_true_eq, decide_eq_false_iff_not, beq_iff_eq, bne_iff_ne, beq_eq_false_iff_ne, bne_eq_false_iff_eq, Bool.not_eq_true', Bool.not_eq_false', ne_eq, Decidable.not_not, Bool.not_eq_true, Bool.not_eq_false] at h1
      omega
    · simp only [decide_eq_true_eq, decide_eq_false_iff_not, beq_iff_eq, bne_iff_ne, beq_eq_false_iff_ne, bne_eq_false_iff_eq, Bool.not_eq_true', Bool.not_eq_false', ne_eq, Decidable.not_not, Bool.not_eq_true, Bool.not_eq_false] at h1
      refine .seg 1 [] (T' := cgo 31 [false, false] [.code B109]) (tm' := mk 43 []) (σ' := [.cells [.row 4, .row 5], .cells [.ptr 0 0 0], .cells [.ep 2 (D.agg [D.list 1 (List.map strD ks), D.list 1 (List.map intD V2)]) 0], .cells [.fn (Fn.func 98) [] []], .row 1 (List.map strD (List.take ks.length ks)) true, .row 1 (List.map intD (List.take ks.length V2)) true, .defd, lp (cgo 18 [] [.code B69]) 69 (mk 17 [(2, .d (.raw (Value.pointer none))), (3, .ptr 1 0 0), (9, .fn (Fn.func 109) [] [.ptr 2 0 0, .ptr 3 0 0])]) LoopState.ready]) (by kernel_rfl) ?_
      refine .retH F109 (v := V.tuple []) (by kernel_rfl) (by kernel_rfl) ?_
      exact ⟨rfl, rfl⟩
  | succ m ih =>
    intro i hi
    obtain ⟨x, hx⟩ := get_some (l := ks) (i := i) (by omega)
    obtain ⟨v, hy⟩ := get_some (l := V2) (i := i) (by omega)
    have hYi := body69e ks V2 hr hl hv i x v hx hy
    refine .seg 5 [0, 5, 6, 27, 28, 29] (T' := cgo 29 [false] [.code B109]) (tm' := mk 43 [(0, V.yield 7), (5, .d (.list 1 (List.map strD ks))), (6, .d (.list 1 (List.map intD V2))), (27, .d (.int .i64 (↑ks.length : Int))), (28, .d (.int .i64 (↑i : Int))), (29, .d (.bool (decide ((↑i : Int) < (↑ks.length : Int)))))]) (σ' := [.cells [.row 4, .row 5], .cells [.ptr 0 0 0], .cells [.ep 2 (D.agg [D.list 1 (List.map strD ks), D.list 1 (List.map intD V2)]) 0], .cells [.fn (Fn.func 98) [] []], .row 1 (List.map strD (List.take i ks)) true, .row 1 (List.map intD (List.take i V2)) true, .defd, lp (cgo 18 [] [.code B69]) 69 (mk 17 [(2, .d (.raw (Value.pointer none))), (3, .ptr 1 0 0), (9, .fn (Fn.func 109) [] [.ptr 2 0 0, .ptr 3 0 0])]) LoopState.ready]) (by kernel_rfl) ?_
    refine .ifH (b := decide ((↑i : Int) < (↑ks.length : Int))) (by kernel_rfl) (by kernel_rfl) (T1 := cgo 30 [false, true] [Item.code B109]) (T2 := cgo 30 [false, false] [Item.code B109]) (by kernel_rfl) (by kernel_rfl) (fun h1 => ?_) (fun h1 => ?_)
    · simp only [decide_eq_true_eq, decide_eq_false_iff_not, beq_iff_eq, bne_iff_ne, beq_eq_false_iff_ne, bne_eq_false_iff_eq, Bool.not_eq_true', Bool.not_eq_false', ne_eq, Decidable.not_not, Bool.not_eq_true, Bool.not_eq_false] at h1
      refine .seg 9 [0, 5, 6, 7, 27, 28, 29, 30] (T' := cgo 39 [false, true] [.code B109]) (tm' := mk 43 [(0, V.yield 7), (5, .d (.list 1 (List.map strD ks))), (6, .d (.list 1 (List.map intD V2))), (7, .d (.int .i64 (↑i : Int))), (27, .d (.int .i64 (↑ks.length : Int))), (28, .d (.int .i64 (↑i : Int))), (29, .d (.bool (decide ((↑i : Int) < (↑ks.length : Int))))), (30, .d (.int .i64 (↑i : Int)))]) (σ' := [.cells [.row 4, .row 5], .cells [.ptr 0 0 0], .cells [.ep 2 (D.agg [D.list 1 (List.map strD ks), D.list 1 (List.map intD V2)]) 0], .cells [.fn (Fn.func 98) [] []], .row 1 (List.map strD (List.take i ks)) true, .row 1 (List.map intD (List.take i V2)) true, .defd, lp (cgo 18 [] [.code B69]) 69 (mk 17 [(2, .d (.raw (Value.pointer none))), (3, .ptr 1 0 0), (9, .fn (Fn.func 109) [] [.ptr 2 0 0, .ptr 3 0 0])]) LoopState.ready]) (by kernel_rfl) ?_
      refine .drawF (T' := cgo 40 [false, true] [.code B109]) (tm' := mk 43 [(0, V.yield 7), (5, .d (.list 1 (List.map strD ks))), (6, .d (.list 1 (List.map intD V2))), (7, .d (.int .i64 (↑i : Int))), (27, .d (.int .i64 (↑ks.length : Int))), (28, .d (.int .i64 (↑i : Int))), (29, .d (.bool (decide ((↑i : Int) < (↑ks.length : Int))))), (30, .d (.int .i64 (↑i : Int))), (31, V.yield 7), (32, .d (.list 1 (List.map strD ks))), (33, .d (.int .i64 (↑i : Int))), (34, .ep 1 (D.str x) 0), (35, .d (.str x)), (36, .d (.list 1 (List.map intD V2))), (37, .d (.int .i64 (↑i : Int))), (38, .ep 1 (D.int IntKind.i64 v) 0), (39, .d (.int .i64 v)), (40, .d (.bool true)), (41, .d (.bool false))]) (σ' := [.cells [.row 4, .row 5], .cells [.ptr 0 0 0], .cells [.ep 2 (D.agg [D.list 1 (List.map strD ks), D.list 1 (List.map intD V2)]) 0], .cells [.fn (Fn.func 98) [] []], .row 1 (List.map strD (List.take (i + 1) ks)) true, .row 1 (List.map intD (List.take (i + 1) V2)) true, .defd, lp (cgo 18 [] [.code B69]) 69 (mk 17 [(2, .d (.raw (Value.pointer none))), (3, .ptr 1 0 0), (9, .fn (Fn.func 109) [] [.ptr 2 0 0, .ptr 3 0 0])]) LoopState.ready]) (by kernel_rfl) (by kernel_rfl) (by kernel_rfl) (by kernel_rfl) (fun kz L hL => ?_) ?_
      · refine ⟨[⟨[], [], [], [7], [7], [], true, false⟩, ⟨[], [], [], [], [], [], true, false⟩, ⟨[], [], [], [], [], [], true, false⟩, ⟨[], [], [], [], [], [], true, false⟩, ⟨[], [], [], [], [], [], true, false⟩, ⟨[], [], [], [], [], [], true, false⟩, ⟨[], [], [], [], [], [], true, false⟩, ⟨[], [], [], [], [], [], true, false⟩, ⟨[], [], [], [], [], [], true, false⟩, ⟨[], [], [], [], [], [], false, true⟩, ⟨[], [], [], [], [], [], true, false⟩], run_amongF hL _ [] [0, 1, 2, 3, 4, 5, 6, 7, 8, 9, 10] (by intro p hp; cases hp) (by kernel_rfl) ?_⟩
        refine Run.append (A := [0, 1, 2]) (srunF_ok (tm' := mk 43 [(0, V.yield 7), (5, .d (.list 1 (List.map strD ks))), (6, .d (.list 1 (List.map intD V2))), (7, .d (.int .i64 (↑i : Int))), (27, .d (.int .i64 (↑ks.length : Int))), (28, .d (.int .i64 (↑i : Int))), (29, .d (.bool (decide ((↑i : Int) < (↑ks.length : Int))))), (30, .d (.int .i64 (↑i : Int))), (31, V.yield 7), (32, .d (.list 1 (List.map strD ks))), (33, .d (.int .i64 (↑i : Int)))]) (σ' := [.cells [.row 4, .row 5], .cells [.ptr 0 0 0], .cells [.ep 2 (D.agg [D.list 1 (List.map strD ks), D.list 1 (List.map intD V2)]) 0], .cells [.fn (Fn.func 98) [] []], .row 1 (List.map strD (List.take i ks)) true, .row 1 (List.map intD (List.take i V2)) true, .defd, lp (cgo 18 [] [Item.code B69]) 69 (mk 17 [(2, .d (.raw (Value.pointer none))), (3, .ptr 1 0 0), (9, .fn (Fn.func 109) [] [.ptr 2 0 0, .ptr 3 0 0])]) LoopState.ready]) (by kernel_rfl)) ?_
        refine Run.one (StepF.look (o := ((drawOf (cgo 39 [false, true] [.code B109]))[3]?).getD default) (v := .ep 1 (D.str x) 0) [(.tmp 32), (.tmp 33)] (by kernel_rfl) rfl (by kernel_rfl) (by kernel_rfl) (by kernel_rfl) (by kernel_rfl) (by kernel_rfl) (fun tm' σ2 hv hr => ixData_ok (t := 66) (x := (.tmp 32)) (i := (.tmp 33)) (k := IntKind.i64) (n := (↑i : Int)) (sz := 1) (xs := List.map strD ks) (d := strD x) (by kernel_rfl) (by rw [hv _ (by simp)]; kernel_rfl) (by rw [hv _ (by simp)]; kernel_rfl) (by kernel_rfl) (by omega) (map_get hx))) ?_
        refine Run.asP (tm' := mk 43 [(0, V.yield 7), (5, .d (.list 1 (List.map strD ks))), (6, .d (.list 1 (List.map intD V2))), (7, .d (.int .i64 (↑i : Int))), (27, .d (.int .i64 (↑ks.length : Int))), (28, .d (.int .i64 (↑i : Int))), (29, .d (.bool (decide ((↑i : Int) < (↑ks.length : Int))))), (30, .d (.int .i64 (↑i : Int))), (31, V.yield 7), (32, .d (.list 1 (List.map strD ks))), (33, .d (.int .i64 (↑i : Int))), (34, .ep 1 (D.str x) 0)]) (σ' := [.cells [.row 4, .row 5], .cells [.ptr 0 0 0], .cells [.ep 2 (D.agg [D.list 1 (List.map strD ks), D.list 1 (List.map intD V2)]) 0], .cells [.fn (Fn.func 98) [] []], .row 1 (List.map strD (List.take i ks)) true, .row 1 (List.map intD (List.take i V2)) true, .defd, lp (cgo 18 [] [.code B69]) 69 (mk 17 [(2, .d (.raw (Value.pointer none))), (3, .ptr 1 0 0), (9, .fn (Fn.func 109) [] [.ptr 2 0 0, .ptr 3 0 0])]) LoopState.ready]) (by kernel_rfl) (by kernel_rfl) ?_
        refine Run.append (A := [4, 5, 6]) (srunF_ok (tm' := mk 43 [(0, V.yield 7), (5, .d (.list 1 (List.map strD ks))), (6, .d (.list 1 (List.map intD V2))), (7, .d (.int .i64 (↑i : Int))), (27, .d (.int .i64 (↑ks.length : Int))), (28, .d (.int .i64 (↑i : Int))), (29, .d (.bool (decide ((↑i : Int) < (↑ks.length : Int))))), (30, .d (.int .i64 (↑i : Int))), (31, V.yield 7), (32, .d (.list 1 (List.map strD ks))), (33, .d (.int .i64 (↑i : Int))), (34, .ep 1 (D.str x) 0), (35, .d (.str x)), (36, .d (.list 1 (List.map intD V2))), (37, .d (.int .i64 (↑i : Int)))]) (σ' := [.cells [.row 4, .row 5], .cells [.ptr 0 0 0], .cells [.ep 2 (D.agg [D.list 1 (List.map strD ks), D.list 1 (List.map intD V2)]) 0], .cells [.fn (Fn.func 98) [] []], .row 1 (List.map strD (List.take i ks)) true, .row 1 (List.map intD (List.take i V2)) true, .defd, lp (cgo 18 [] [Item.code B69]) 69 (mk 17 [(2, .d (.raw (Value.pointer none))), (3, .ptr 1 0 0), (9, .fn (Fn.func 109) [] [.ptr 2 0 0, .ptr 3 0 0])]) LoopState.ready]) (by kernel_rfl)) ?_
        refine Run.one (StepF.look (o := ((drawOf (cgo 39 [false, true] [.code B109]))[7]?).getD default) (v := .ep 1 (D.int IntKind.i64 v) 0) [(.tmp 36), (.tmp 37)] (by kernel_rfl) rfl (by kernel_rfl) (by kernel_rfl) (by kernel_rfl) (by kernel_rfl) (by kernel_rfl) (fun tm' σ2 hv hr => ixData_ok (t := 46) (x := (.tmp 36)) (i := (.tmp 37)) (k := IntKind.i64) (n := (↑i : Int)) (sz := 1) (xs := List.map intD V2) (d := intD v) (by kernel_rfl) (by rw [hv _ (by simp)]; kernel_rfl) (by rw [hv _ (by simp)]; kernel_rfl) (by kernel_rfl) (by omega) (map_get hy))) ?_
        refine Run.asP (tm' := mk 43 [(0, V.yield 7), (5, .d (.list 1 (List.map strD ks))), (6, .d (.list 1 (List.map intD V2))), (7, .d (.int .i64 (↑i : Int))), (27, .d (.int .i64 (↑ks.length : Int))), (28, .d (.int .i64 (↑i : Int))), (29, .d (.bool (decide ((↑i : Int) < (↑ks.length : Int))))), (30, .d (.int .i64 (↑i : Int))), (31, V.yield 7), (32, .d (.list 1 (List.map strD ks))), (33, .d (.int .i64 (↑i : Int))), (34, .ep 1 (D.str x) 0), (35, .d (.str x)), (36, .d (.list 1 (List.map intD V2))), (37, .d (.int .i64 (↑i : Int))), (38, .ep 1 (D.int IntKind.i64 v) 0)]) (σ' := [.cells [.row 4, .row 5], .cells [.ptr 0 0 0], .cells [.ep 2 (D.agg [D.list 1 (List.map strD ks), D.list 1 (List.map intD V2)]) 0], .cells [.fn (Fn.func 98) [] []], .row 1 (List.map strD (List.take i ks)) true, .row 1 (List.map intD (List.take i V2)) true, .defd, lp (cgo 18 [] [.code B69]) 69 (mk 17 [(2, .d (.raw (Value.pointer none))), (3, .ptr 1 0 0), (9, .fn (Fn.func 109) [] [.ptr 2 0 0, .ptr 3 0 0])]) LoopState.ready]) (by kernel_rfl) (by kernel_rfl) ?_
        refine Run.append (A := [8]) (srunF_ok (tm' := mk 43 [(0, V.yield 7), (5, .d (.list 1 (List.map strD ks))), (6, .d (.list 1 (List.map intD V2))), (7, .d (.int .i64 (↑i : Int))), (27, .d (.int .i64 (↑ks.length : Int))), (28, .d (.int .i64 (↑i : Int))), (29, .d (.bool (decide ((↑i : Int) < (↑ks.length : Int))))), (30, .d (.int .i64 (↑i : Int))), (31, V.yield 7), (32, .d (.list 1 (List.map strD ks))), (33, .d (.int .i64 (↑i : Int))), (34, .ep 1 (D.str x) 0), (35, .d (.str x)), (36, .d (.list 1 (List.map intD V2))), (37, .d (.int .i64 (↑i : Int))), (38, .ep 1 (D.int IntKind.i64 v) 0), (39, .d (.int .i64 v))]) (σ' := [.cells [.row 4, .row 5], .cells [.ptr 0 0 0], .cells [.ep 2 (D.agg [D.list 1 (List.map strD ks), D.list 1 (List.map intD V2)]) 0], .cells [.fn (Fn.func 98) [] []], .row 1 (List.map strD (List.take i ks)) true, .row 1 (List.map intD (List.take i V2)) true, .defd, lp (cgo 18 [] [Item.code B69]) 69 (mk 17 [(2, .d (.raw (Value.pointer none))), (3, .ptr 1 0 0), (9, .fn (Fn.func 109) [] [.ptr 2 0 0, .ptr 3 0 0])]) LoopState.ready]) (by kernel_rfl)) ?_
        refine Run.one (s1 := (mk 43 [(0, V.yield 7), (5, .d (.list 1 (List.map strD ks))), (6, .d (.list 1 (List.map intD V2))), (7, .d (.int .i64 (↑i : Int))), (27, .d (.int .i64 (↑ks.length : Int))), (28, .d (.int .i64 (↑i : Int))), (29, .d (.bool (decide ((↑i : Int) < (↑ks.length : Int))))), (30, .d (.int .i64 (↑i : Int))), (31, V.yield 7), (32, .d (.list 1 (List.map strD ks))), (33, .d (.int .i64 (↑i : Int))), (34, .ep 1 (D.str x) 0), (35, .d (.str x)), (36, .d (.list 1 (List.map intD V2))), (37, .d (.int .i64 (↑i : Int))), (38, .ep 1 (D.int IntKind.i64 v) 0), (39, .d (.int .i64 v)), (40, .d (.bool true))], [.cells [.row 4, .row 5], .cells [.ptr 0 0 0], .cells [.ep 2 (D.agg [D.list 1 (List.map strD ks), D.list 1 (List.map intD V2)]) 0], .cells [.fn (Fn.func 98) [] []], .row 1 (List.map strD (List.take (i + 1) ks)) true, .row 1 (List.map intD (List.take (i + 1) V2)) true, .defd, lp (cgo 18 [] [.code B69]) 69 (mk 17 [(2, .d (.raw (Value.pointer none))), (3, .ptr 1 0 0), (9, .fn (Fn.func 109) [] [.ptr 2 0 0, .ptr 3 0 0])]) LoopState.ready])) (StepF.all (o := ((drawOf (cgo 39 [false, true] [.code B109]))[9]?).getD default) (by kernel_rfl) (by kernel_rfl) fun rest hn => AW.yieldD (T0 := cgo 18 [] [.code B69]) (x := (.tmp 31)) (args := #[(.tmp 35), (.tmp 39)]) (ts := #[9, 3]) (l := 7) (st := LoopState.ready) (fn := 69) (tml := (mk 17 [(2, .d (.raw (Value.pointer none))), (3, .ptr 1 0 0), (9, .fn (Fn.func 109) [] [.ptr 2 0 0, .ptr 3 0 0])])) (R := R69) (o := ((drawOf (cgo 39 [false, true] [.code B109]))[9]?).getD default) (N := 8) (by kernel_rfl) (by kernel_rfl) (by kernel_rfl) (by kernel_rfl) (by kernel_rfl) (by kernel_rfl) (by kernel_rfl) (by kernel_rfl) (by kernel_rfl) hYi (by rintro r s ⟨rfl, rfl⟩; exact ⟨_, rfl, AW.as (by kernel_rfl) (by kernel_rfl) hn⟩)) ?_
        refine Run.asP (tm' := mk 43 [(0, V.yield 7), (5, .d (.list 1 (List.map strD ks))), (6, .d (.list 1 (List.map intD V2))), (7, .d (.int .i64 (↑i : Int))), (27, .d (.int .i64 (↑ks.length : Int))), (28, .d (.int .i64 (↑i : Int))), (29, .d (.bool (decide ((↑i : Int) < (↑ks.length : Int))))), (30, .d (.int .i64 (↑i : Int))), (31, V.yield 7), (32, .d (.list 1 (List.map strD ks))), (33, .d (.int .i64 (↑i : Int))), (34, .ep 1 (D.str x) 0), (35, .d (.str x)), (36, .d (.list 1 (List.map intD V2))), (37, .d (.int .i64 (↑i : Int))), (38, .ep 1 (D.int IntKind.i64 v) 0), (39, .d (.int .i64 v)), (40, .d (.bool true))]) (σ' := [.cells [.row 4, .row 5], .cells [.ptr 0 0 0], .cells [.ep 2 (D.agg [D.list 1 (List.map strD ks), D.list 1 (List.map intD V2)]) 0], .cells [.fn (Fn.func 98) [] []], .row 1 (List.map strD (List.take (i + 1) ks)) true, .row 1 (List.map intD (List.take (i + 1) V2)) true, .defd, lp (cgo 18 [] [.code B69]) 69 (mk 17 [(2, .d (.raw (Value.pointer none))), (3, .ptr 1 0 0), (9, .fn (Fn.func 109) [] [.ptr 2 0 0, .ptr 3 0 0])]) LoopState.ready]) (by kernel_rfl) (by kernel_rfl) ?_
        exact srunF_ok (by kernel_rfl)
      refine .seg 7 [0, 5, 6, 7, 27, 28, 29, 30, 31, 32, 33, 34, 35, 36, 37, 38, 39, 40, 41, 42] (T' := cgo 47 [false, true, false] [.code B109]) (tm' := mk 43 [(0, V.yield 7), (5, .d (.list 1 (List.map strD ks))), (6, .d (.list 1 (List.map intD V2))), (7, .d (.int .i64 (↑i : Int))), (27, .d (.int .i64 (↑ks.length : Int))), (28, .d (.int .i64 (IntKind.i64.wrap ((↑i : Int) + 1)))), (29, .d (.bool (decide ((↑i : Int) < (↑ks.length : Int))))), (30, .d (.int .i64 (↑i : Int))), (31, V.yield 7), (32, .d (.list 1 (List.map strD ks))), (33, .d (.int .i64 (↑i : Int))), (34, .ep 1 (D.str x) 0), (35, .d (.str x)), (36, .d (.list 1 (List.map intD V2))), (37, .d (.int .i64 (↑i : Int))), (38, .ep 1 (D.int IntKind.i64 v) 0), (39, .d (.int .i64 v)), (40, .d (.bool true)), (41, .d (.bool false)), (42, .d (.int .i64 (IntKind.i64.wrap ((↑i : Int) + 1))))]) (σ' := [.cells [.row 4, .row 5], .cells [.ptr 0 0 0], .cells [.ep 2 (D.agg [D.list 1 (List.map strD ks), D.list 1 (List.map intD V2)]) 0], .cells [.fn (Fn.func 98) [] []], .row 1 (List.map strD (List.take (i + 1) ks)) true, .row 1 (List.map intD (List.take (i + 1) V2)) true, .defd, lp (cgo 18 [] [.code B69]) 69 (mk 17 [(2, .d (.raw (Value.pointer none))), (3, .ptr 1 0 0), (9, .fn (Fn.func 109) [] [.ptr 2 0 0, .ptr 3 0 0])]) LoopState.ready]) (by kernel_rfl) ?_
      simp (disch := omega) only [wrap_i64, wrap_u64s, wrap_u32s, wrap_u8s, wrap_i32s, iadd_i64, isub_i64, irem_n, iquo_n, tdiv_nn, tmod_nn]
      exact .seg 1 [0, 5, 6, 27, 28] (by kernel_rfl) (ih (i + 1) (by omega))
    · simp only [decide_eq_true_eq, decide_eq_false_iff_not, beq_iff_eq, bne_iff_ne, beq_eq_false_iff_ne, bne_eq_false_iff_eq, Bool.not_eq_true', Bool.not_eq_false', ne_eq, Decidable.not_not, Bool.not_eq_true, Bool.not_eq_false] at h1
      omega
theorem it69e (ks : List ByteArray) (V2 : List Int) (hr : Rising ks) (hl : ks.length < 60000) (hv : V2.length = ks.length) : CallsA Try.prog 109 [.yield 7, .ptr 2 0 0, .ptr 3 0 0] (S69e ks V2 0 .ready) fun r σ' => r = .ret (.tuple []) ∧ σ' = S69e ks V2 (ks).length .ready := by
  refine CallsA.start F109 (tm := mk (Try.f109.ntmps) [(0, .yield 7), (1, .ptr 2 0 0), (2, .ptr 3 0 0)]) (by kernel_rfl) ?_
  refine .seg 11 [0, 1, 2, 10] (T' := cgo 11 [false] [.code B109]) (tm' := mk 43 [(0, V.yield 7), (1, .ptr 2 0 0), (2, .ptr 3 0 0), (10, .fn (Fn.func 98) [] [])]) (σ' := [.cells [.row 4, .row 5], .cells [.ptr 0 0 0], .cells [.ep 2 (D.agg [D.list 1 (List.map strD ks), D.list 1 (List.map intD V2)]) 0], .cells [.fn (Fn.func 98) [] []], .row 1 [] true, .row 1 [] true, .defd, lp (cgo 18 [] [.code B69]) 69 (mk 17 [(2, .d (.raw (Value.pointer none))), (3, .ptr 1 0 0), (9, .fn (Fn.func 109) [] [.ptr 2 0 0, .ptr 3 0 0])]) LoopState.ready]) (by kernel_rfl) ?_
  refine .semH (o := (opOf (cgo 11 [false] [Item.code B109])).getD default) (v := V.d (D.int IntKind.i64 0)) (σ' := [.cells [.row 4, .row 5], .cells [.ptr 0 0 0], .cells [.ep 2 (D.agg [D.list 1 (List.map strD ks), D.list 1 (List.map intD V2)]) 0], .cells [.fn (Fn.func 98) [] []], .row 1 [] true, .row 1 [] true, .defd, lp (cgo 18 [] [Item.code B69]) 69 (mk 17 [(2, .d (.raw (Value.pointer none))), (3, .ptr 1 0 0), (9, .fn (Fn.func 109) [] [.ptr 2 0 0, .ptr 3 0 0])]) LoopState.ready]) (by kernel_rfl) (by kernel_rfl) (T' := cgo 12 [false] [Item.code B109]) (by kernel_rfl) (fun kz => sem_data0 (x := (.tmp 10)) (args := #[]) (ts := #[]) (first := []) (cap := []) (ds := []) (v := V.d (D.int IntKind.i64 0)) F98 (@spec_98) (by kernel_rfl) (by kernel_rfl) (by kernel_rfl) (by kernel_rfl) (by kernel_rfl) (by kernel_rfl) _) ?_
  refine .seg 3 [0, 1, 4] (T' := cgo 15 [false] [.code B109]) (tm' := mk 43 [(0, V.yield 7), (1, .ptr 2 0 0), (4, .d (.int .i64 0))]) (σ' := [.cells [.row 4, .row 5], .cells [.ptr 0 0 0], .cells [.ep 2 (D.agg [D.list 1 (List.map strD ks), D.list 1 (List.map intD V2)]) 0], .cells [.fn (Fn.func 98) [] []], .row 1 [] true, .row 1 [] true, .defd, lp (cgo 18 [] [.code B69]) 69 (mk 17 [(2, .d (.raw (Value.pointer none))), (3, .ptr 1 0 0), (9, .fn (Fn.func 109) [] [.ptr 2 0 0, .ptr 3 0 0])]) LoopState.ready]) (by kernel_rfl) ?_
  refine .drawF (T' := cgo 16 [false] [.code B109]) (tm' := mk 43 [(0, V.yield 7), (1, .ptr 2 0 0), (4, .d (.int .i64 0)), (5, .d (.list 1 (List.drop 0 (List.take (List.map strD ks).length (List.map strD ks))))), (6, .d (.list 1 (List.drop 0 (List.take (List.map intD V2).length (List.map intD V2))))), (12, .ep 2 (D.agg [D.list 1 (List.map strD ks), D.list 1 (List.map intD V2)]) 0), (13, .ep 2 (D.agg [D.list 1 (List.map strD ks), D.list 1 (List.map intD V2)]) 0), (14, .ep 2 (D.agg [D.list 1 (List.map strD ks), D.list 1 (List.map intD V2)]) 0), (15, .d (.list 1 (List.map strD ks))), (16, .d (.int .i64 0)), (17, .d (.list 1 (List.drop 0 (List.take (List.map strD ks).length (List.map strD ks))))), (18, .d (.list 1 (List.drop 0 (List.take (List.map strD ks).length (List.map strD ks))))), (19, .ep 2 (D.agg [D.list 1 (List.map strD ks), D.list 1 (List.map intD V2)]) 0), (20, .ep 2 (D.agg [D.list 1 (List.map strD ks), D.list 1 (List.map intD V2)]) 0), (21, .ep 2 (D.agg [D.list 1 (List.map strD ks), D.list 1 (List.map intD V2)]) 1), (22, .d (.list 1 (List.map intD V2))), (23, .d (.int .i64 0)), (24, .d (.list 1 (List.drop 0 (List.take (List.map intD V2).length (List.map intD V2))))), (25, .d (.list 1 (List.drop 0 (List.take (List.map intD V2).length (List.map intD V2)))))]) (σ' := [.cells [.row 4, .row 5], .cells [.ptr 0 0 0], .cells [.ep 2 (D.agg [D.list 1 (List.map strD ks), D.list 1 (List.map intD V2)]) 0], .cells [.fn (Fn.func 98) [] []], .row 1 [] true, .row 1 [] true, .defd, lp (cgo 18 [] [.code B69]) 69 (mk 17 [(2, .d (.raw (Value.pointer none))), (3, .ptr 1 0 0), (9, .fn (Fn.func 109) [] [.ptr 2 0 0, .ptr 3 0 0])]) LoopState.ready]) (by kernel_rfl) (by kernel_rfl) (by kernel_rfl) (by kernel_rfl) (fun kz L hL => ?_) ?_
  · refine ⟨[⟨[2], [], [], [], [2], [], true, false⟩, ⟨[], [], [], [], [], [], true, false⟩, ⟨[], [], [], [], [], [], true, false⟩, ⟨[], [], [], [], [], [], true, false⟩, ⟨[], [], [], [], [], [], true, false⟩, ⟨[], [], [], [], [], [], true, false⟩, ⟨[], [], [], [], [], [], true, false⟩, ⟨[2], [], [], [], [2], [], true, false⟩, ⟨[], [], [], [], [], [], true, false⟩, ⟨[], [], [], [], [], [], true, false⟩, ⟨[], [], [], [], [], [], true, false⟩, ⟨[], [], [], [], [], [], true, false⟩, ⟨[], [], [], [], [], [], true, false⟩, ⟨[], [], [], [], [], [], true, false⟩, ⟨[], [], [], [], [], [], true, false⟩, ⟨[], [], [], [], [], [], true, false⟩], run_amongF hL _ [] [0, 1, 2, 3, 4, 5, 7, 8, 9, 10, 11, 12, 6, 13, 14, 15] (by intro p hp; cases hp) (by kernel_rfl) ?_⟩
    refine Run.append (A := [0, 1, 2, 3, 4]) (srunF_ok (tm' := mk 43 [(0, V.yield 7), (1, .ptr 2 0 0), (4, .d (.int .i64 0)), (12, .ep 2 (D.agg [D.list 1 (List.map strD ks), D.list 1 (List.map intD V2)]) 0), (13, .ep 2 (D.agg [D.list 1 (List.map strD ks), D.list 1 (List.map intD V2)]) 0), (14, .ep 2 (D.agg [D.list 1 (List.map strD ks), D.list 1 (List.map intD V2)]) 0), (15, .d (.list 1 (List.map strD ks))), (16, .d (.int .i64 0))]) (σ' := [.cells [.row 4, .row 5], .cells [.ptr 0 0 0], .cells [.ep 2 (D.agg [D.list 1 (List.map strD ks), D.list 1 (List.map intD V2)]) 0], .cells [.fn (Fn.func 98) [] []], .row 1 [] true, .row 1 [] true, .defd, lp (cgo 18 [] [Item.code B69]) 69 (mk 17 [(2, .d (.raw (Value.pointer none))), (3, .ptr 1 0 0), (9, .fn (Fn.func 109) [] [.ptr 2 0 0, .ptr 3 0 0])]) LoopState.ready]) (by kernel_rfl)) ?_
    refine Run.one (StepF.look (o := ((drawOf (cgo 15 [false] [.code B109]))[5]?).getD default) (v := .d (.list 1 (List.drop 0 (List.take (List.map strD ks).length (List.map strD ks))))) [(.tmp 15), (.tmp 16)] (by kernel_rfl) rfl (by kernel_rfl) (by kernel_rfl) (by kernel_rfl) (by kernel_rfl) (by kernel_rfl) (fun tm' σ2 hv hr => slData_ok (t := 66) (x := (.tmp 15)) (lo := (some (.tmp 16))) (hi := none) (sz := 1) (xs := List.map strD ks) (0) ((List.map strD ks).length) (by kernel_rfl) (by rw [hv _ (by simp)]; kernel_rfl) (by kernel_rfl) (bnd_some (k := IntKind.i64) (i := 0) (by rw [hv _ (by simp)]; kernel_rfl) (by omega) (by rfl)) rfl (by omega) (by omega))) ?_
    refine Run.asP (tm' := mk 43 [(0, V.yield 7), (1, .ptr 2 0 0), (4, .d (.int .i64 0)), (12, .ep 2 (D.agg [D.list 1 (List.map strD ks), D.list 1 (List.map intD V2)]) 0), (13, .ep 2 (D.agg [D.list 1 (List.map strD ks), D.list 1 (List.map intD V2)]) 0), (14, .ep 2 (D.agg [D.list 1 (List.map strD ks), D.list 1 (List.map intD V2)]) 0), (15, .d (.list 1 (List.map strD ks))), (16, .d (.int .i64 0)), (17, .d (.list 1 (List.drop 0 (List.take (List.map strD ks).length (List.map strD ks)))))]) (σ' := [.cells [.row 4, .row 5], .cells [.ptr 0 0 0], .cells [.ep 2 (D.agg [D.list 1 (List.map strD ks), D.list 1 (List.map intD V2)]) 0], .cells [.fn (Fn.func 98) [] []], .row 1 [] true, .row 1 [] true, .defd, lp (cgo 18 [] [.code B69]) 69 (mk 17 [(2, .d (.raw (Value.pointer none))), (3, .ptr 1 0 0), (9, .fn (Fn.func 109) [] [.ptr 2 0 0, .ptr 3 0 0])]) LoopState.ready]) (by kernel_rfl) (by kernel_rfl) ?_
    refine Run.append (A := [7, 8, 9, 10, 11]) (srunF_ok (tm' := mk 43 [(0, V.yield 7), (1, .ptr 2 0 0), (4, .d (.int .i64 0)), (12, .ep 2 (D.agg [D.list 1 (List.map strD ks), D.list 1 (List.map intD V2)]) 0), (13, .ep 2 (D.agg [D.list 1 (List.map strD ks), D.list 1 (List.map intD V2)]) 0), (14, .ep 2 (D.agg [D.list 1 (List.map strD ks), D.list 1 (List.map intD V2)]) 0), (15, .d (.list 1 (List.map strD ks))), (16, .d (.int .i64 0)), (17, .d (.list 1 (List.drop 0 (List.take (List.map strD ks).length (List.map strD ks))))), (19, .ep 2 (D.agg [D.list 1 (List.map strD ks), D.list 1 (List.map intD V2)]) 0), (20, .ep 2 (D.agg [D.list 1 (List.map strD ks), D.list 1 (List.map intD V2)]) 0), (21, .ep 2 (D.agg [D.list 1 (List.map strD ks), D.list 1 (List.map intD V2)]) 1), (22, .d (.list 1 (List.map intD V2))), (23, .d (.int .i64 0))]) (σ' := [.cells [.row 4, .row 5], .cells [.ptr 0 0 0], .cells [.ep 2 (D.agg [D.list 1 (List.map strD ks), D.list 1 (List.map intD V2)]) 0], .cells [.fn (Fn.func 98) [] []], .row 1 [] true, .row 1 [] true, .defd, lp (cgo 18 [] [Item.code B69]) 69 (mk 17 [(2, .d (.raw (Value.pointer none))), (3, .ptr 1 0 0), (9, .fn (Fn.func 109) [] [.ptr 2 0 0, .ptr 3 0 0])]) LoopState.ready]) (by kernel_rfl)) ?_
    refine Run.one (StepF.look (o := ((drawOf (cgo 15 [false] [.code B109]))[12]?).getD default) (v := .d (.list 1 (List.drop 0 (List.take (List.map intD V2).length (List.map intD V2))))) [(.tmp 22), (.tmp 23)] (by kernel_rfl) rfl (by kernel_rfl) (by kernel_rfl) (by kernel_rfl) (by kernel_rfl) (by kernel_rfl) (fun tm' σ2 hv hr => slData_ok (t := 46) (x := (.tmp 22)) (lo := (some (.tmp 23))) (hi := none) (sz := 1) (xs := List.map intD V2) (0) ((List.map intD V2).length) (by kernel_rfl) (by rw [hv _ (by simp)]; kernel_rfl) (by kernel_rfl) (bnd_some (k := IntKind.i64) (i := 0) (by rw [hv _ (by simp)]; kernel_rfl) (by omega) (by rfl)) rfl (by omega) (by omega))) ?_
    refine Run.asP (tm' := mk 43 [(0, V.yield 7), (1, .ptr 2 0 0), (4, .d (.int .i64 0)), (12, .ep 2 (D.agg [D.list 1 (List.map strD ks), D.list 1 (List.map intD V2)]) 0), (13, .ep 2 (D.agg [D.list 1 (List.map strD ks), D.list 1 (List.map intD V2)]) 0), (14, .ep 2 (D.agg [D.list 1 (List.map strD ks), D.list 1 (List.map intD V2)]) 0), (15, .d (.list 1 (List.map strD ks))), (16, .d (.int .i64 0)), (17, .d (.list 1 (List.drop 0 (List.take (List.map strD ks).length (List.map strD ks))))), (19, .ep 2 (D.agg [D.list 1 (List.map strD ks), D.list 1 (List.map intD V2)]) 0), (20, .ep 2 (D.agg [D.list 1 (List.map strD ks), D.list 1 (List.map intD V2)]) 0), (21, .ep 2 (D.agg [D.list 1 (List.map strD ks), D.list 1 (List.map intD V2)]) 1), (22, .d (.list 1 (List.map intD V2))), (23, .d (.int .i64 0)), (24, .d (.list 1 (List.drop 0 (List.take (List.map intD V2).length (List.map intD V2)))))]) (σ' := [.cells [.row 4, .row 5], .cells [.ptr 0 0 0], .cells [.ep 2 (D.agg [D.list 1 (List.map strD ks), D.list 1 (List.map intD V2)]) 0], .cells [.fn (Fn.func 98) [] []], .row 1 [] true, .row 1 [] true, .defd, lp (cgo 18 [] [.code B69]) 69 (mk 17 [(2, .d (.raw (Value.pointer none))), (3, .ptr 1 0 0), (9, .fn (Fn.func 109) [] [.ptr 2 0 0, .ptr 3 0 0])]) LoopState.ready]) (by kernel_rfl) (by kernel_rfl) ?_
    refine Run.one (StepF.data (o := ((drawOf (cgo 15 [false] [.code B109]))[6]?).getD default) (v := .d (.list 1 (List.drop 0 (List.take (List.map strD ks).length (List.map strD ks))))) (by kernel_rfl) rfl (by kernel_rfl) (by kernel_rfl) (by kernel_rfl) (fun s => sem_data0 (x := (.func 110)) (args := #[(.tmp 17)]) (ts := #[66]) (first := []) (cap := []) (ds := [.d (.list 1 (List.drop 0 (List.take (List.map strD ks).length (List.map strD ks))))]) (v := .d (.list 1 (List.drop 0 (List.take (List.map strD ks).length (List.map strD ks))))) F110 (@spec_110 (List.drop 0 (List.take (List.map strD ks).length (List.map strD ks))) (by simp <;> omega)) (by kernel_rfl) (by kernel_rfl) (by kernel_rfl) (by kernel_rfl) (by kernel_rfl) (by kernel_rfl) _)) ?_
    refine Run.asP (tm' := mk 43 [(0, V.yield 7), (1, .ptr 2 0 0), (4, .d (.int .i64 0)), (12, .ep 2 (D.agg [D.list 1 (List.map strD ks), D.list 1 (List.map intD V2)]) 0), (13, .ep 2 (D.agg [D.list 1 (List.map strD ks), D.list 1 (List.map intD V2)]) 0), (14, .ep 2 (D.agg [D.list 1 (List.map strD ks), D.list 1 (List.map intD V2)]) 0), (15, .d (.list 1 (List.map strD ks))), (16, .d (.int .i64 0)), (17, .d (.list 1 (List.drop 0 (List.take (List.map strD ks).length (List.map strD ks))))), (18, .d (.list 1 (List.drop 0 (List.take (List.map strD ks).length (List.map strD ks))))), (19, .ep 2 (D.agg [D.list 1 (List.map strD ks), D.list 1 (List.map intD V2)]) 0), (20, .ep 2 (D.agg [D.list 1 (List.map strD ks), D.list 1 (List.map intD V2)]) 0), (21, .ep 2 (D.agg [D.list 1 (List.map strD ks), D.list 1 (List.map intD V2)]) 1), (22, .d (.list 1 (List.map intD V2))), (23, .d (.int .i64 0)), (24, .d (.list 1 (List.drop 0 (List.take (List.map intD V2).length (List.map intD V2)))))]) (σ' := [.cells [.row 4, .row 5], .cells [.ptr 0 0 0], .cells [.ep 2 (D.agg [D.list 1 (List.map strD ks), D.list 1 (List.map intD V2)]) 0], .cells [.fn (Fn.func 98) [] []], .row 1 [] true, .row 1 [] true, .defd, lp (cgo 18 [] [.code B69]) 69 (mk 17 [(2, .d (.raw (Value.pointer none))), (3, .ptr 1 0 0), (9, .fn (Fn.func 109) [] [.ptr 2 0 0, .ptr 3 0 0])]) LoopState.ready]) (by kernel_rfl) (by kernel_rfl) ?_
    refine Run.one (StepF.data (o := ((drawOf (cgo 15 [false] [.code B109]))[13]?).getD default) (v := .d (.list 1 (List.drop 0 (List.take (List.map intD V2).length (List.map intD V2))))) (by kernel_rfl) rfl (by kernel_rfl) (by kernel_rfl) (by kernel_rfl) (fun s => sem_data0 (x := (.func 111)) (args := #[(.tmp 24)]) (ts := #[46]) (first := []) (cap := []) (ds := [.d (.list 1 (List.drop 0 (List.take (List.map intD V2).length (List.map intD V2))))]) (v := .d (.list 1 (List.drop 0 (List.take (List.map intD V2).length (List.map intD V2))))) F111 (@spec_111 (List.drop 0 (List.take (List.map intD V2).length (List.map intD V2))) (by simp <;> omega)) (by kernel_rfl) (by kernel_rfl) (by kernel_rfl) (by kernel_rfl) (by kernel_rfl) (by kernel_rfl) _)) ?_
    refine Run.asP (tm' := mk 43 [(0, V.yield 7), (1, .ptr 2 0 0), (4, .d (.int .i64 0)), (12, .ep 2 (D.agg [D.list 1 (List.map strD ks), D.list 1 (List.map intD V2)]) 0), (13, .ep 2 (D.agg [D.list 1 (List.map strD ks), D.list 1 (List.map intD V2)]) 0), (14, .ep 2 (D.agg [D.list 1 (List.map strD ks), D.list 1 (List.map intD V2)]) 0), (15, .d (.list 1 (List.map strD ks))), (16, .d (.int .i64 0)), (17, .d (.list 1 (List.drop 0 (List.take (List.map strD ks).length (List.map strD ks))))), (18, .d (.list 1 (List.drop 0 (List.take (List.map strD ks).length (List.map strD ks))))), (19, .ep 2 (D.agg [D.list 1 (List.map strD ks), D.list 1 (List.map intD V2)]) 0), (20, .ep 2 (D.agg [D.list 1 (List.map strD ks), D.list 1 (List.map intD V2)]) 0), (21, .ep 2 (D.agg [D.list 1 (List.map strD ks), D.list 1 (List.map intD V2)]) 1), (22, .d (.list 1 (List.map intD V2))), (23, .d (.int .i64 0)), (24, .d (.list 1 (List.drop 0 (List.take (List.map intD V2).length (List.map intD V2))))), (25, .d (.list 1 (List.drop 0 (List.take (List.map intD V2).length (List.map intD V2)))))]) (σ' := [.cells [.row 4, .row 5], .cells [.ptr 0 0 0], .cells [.ep 2 (D.agg [D.list 1 (List.map strD ks), D.list 1 (List.map intD V2)]) 0], .cells [.fn (Fn.func 98) [] []], .row 1 [] true, .row 1 [] true, .defd, lp (cgo 18 [] [.code B69]) 69 (mk 17 [(2, .d (.raw (Value.pointer none))), (3, .ptr 1 0 0), (9, .fn (Fn.func 109) [] [.ptr 2 0 0, .ptr 3 0 0])]) LoopState.ready]) (by kernel_rfl) (by kernel_rfl) ?_
    exact srunF_ok (by kernel_rfl)
  refine .seg 7 [0, 5, 6, 27, 28] (T' := cgo 23 [false] [.code B109]) (tm' := mk 43 [(0, V.yield 7), (5, .d (.list 1 (List.drop 0 (List.take (List.map strD ks).length (List.map strD ks))))), (6, .d (.list 1 (List.drop 0 (List.take (List.map intD V2).length (List.map intD V2))))), (27, .d (.int .i64 (↑(List.drop 0 (List.take (List.map strD ks).length (List.map strD ks))).length : Int))), (28, .d (.int .i64 0))]) (σ' := [.cells [.row 4, .row 5], .cells [.ptr 0 0 0], .cells [.ep 2 (D.agg [D.list 1 (List.map strD ks), D.list 1 (List.map intD V2)]) 0], .cells [.fn (Fn.func 98) [] []], .row 1 [] true, .row 1 [] true, .defd, lp (cgo 18 [] [.code B69]) 69 (mk 17 [(2, .d (.raw (Value.pointer none))), (3, .ptr 1 0 0), (9, .fn (Fn.func 109) [] [.ptr 2 0 0, .ptr 3 0 0])]) LoopState.ready]) (by kernel_rfl) ?_
  simp only [List.length_map]
  -- STOP: code Go.Code.loop at 23
  rw [eachM (ks) strD, eachM (V2) intD, List.length_map]
  exact .seg 1 [0, 5, 6, 27, 28] (by kernel_rfl) (lo69e ks V2 hr hl hv (ks).length 0 (by omega))

theorem spec_69e (ks : List ByteArray) (V2 : List Int) (hr : Rising ks) (hl : ks.length < 60000) (hv : V2.length = ks.length) :
    CallsA Try.prog 69 [.ep 2 (dirD ks V2) 0] [] fun r σ' => r = .ret (.ptr 0 0 0) ∧ σ' = [.cells [.row 1, .row 2], .row 1 (ks.map strD) true, .row 1 (V2.map intD) true] := by
  refine CallsA.start F69 (tm := mk (Try.f69.ntmps) [(0, .ep 2 (dirD ks V2) 0)]) (by kernel_rfl) ?_
  refine .seg 15 [0, 2, 3, 8] (T' := cgo 15 [] [.code B69]) (tm' := mk 17 [(0, .ep 2 (D.agg [D.list 1 (List.map strD ks), D.list 1 (List.map intD V2)]) 0), (2, .d (.raw (Value.pointer none))), (3, .ptr 1 0 0), (8, .ep 2 (D.agg [D.list 1 (List.map strD ks), D.list 1 (List.map intD V2)]) 0)]) (σ' := [.cells [V.ex 1 [], V.ex 1 []], .cells [.ptr 0 0 0]]) (by kernel_rfl) ?_
  refine .callH (o := (opOf (cgo 15 [] [.code B69])).getD default) (x := (.func 72)) (args := #[(.tmp 8)]) (ts := #[102]) (first := []) (cap := []) [] [.ep 2 (D.agg [D.list 1 (List.map strD ks), D.list 1 (List.map intD V2)]) 0] [] F72 (@spec_72e (D.agg [D.list 1 (List.map strD ks), D.list 1 (List.map intD V2)])) (by kernel_rfl) (by kernel_rfl) (T' := cgo 16 [] [.code B69]) (by kernel_rfl) (by kernel_rfl) (by kernel_rfl) (by kernel_rfl) (by kernel_rfl) ⟨rfl, rfl, by kernel_rfl⟩ ?_
  rintro r0 s0 ⟨rfl, rfl⟩
  refine ⟨_, rfl, ?_⟩
  refine .seg 2 [2, 3, 9] (T' := cgo 18 [] [.code B69]) (tm' := mk 17 [(2, .d (.raw (Value.pointer none))), (3, .ptr 1 0 0), (9, .fn (Fn.func 109) [] [.ptr 2 0 0, .ptr 3 0 0])]) (σ' := [.cells [V.ex 1 [], V.ex 1 []], .cells [.ptr 0 0 0], .cells [.ep 2 (D.agg [D.list 1 (List.map strD ks), D.list 1 (List.map intD V2)]) 0], .cells [.fn (Fn.func 98) [] []]]) (by kernel_rfl) ?_
  -- STOP: range over V.fn (Fn.func 109) [] [V.ptr 2 0 0, V.ptr 3 0 0] at cgo 18 [] [Item.code B69]
  -- slots mk 17 [(2, V.d (D.raw (Value.pointer none))), (3, V.ptr 1 0 0), (9, V.fn (Fn.func 109) [] [V.ptr 2 0 0, V.ptr 3 0 0])]
  -- store [O.cells [V.ex 1 [], V.ex 1 []], O.cells [V.ptr 0 0 0], O.cells [V.ep 2 (D.agg [D.list 1 (List.map strD ks), D.list 1 (List.map intD V2)]) 0], O.cells [V.fn (Fn.func 98) [] []]]
  refine .virtX 0 0 1 rfl rfl ?_
  refine .virtX 0 1 1 rfl rfl ?_
  refine .raise 4 rfl rfl ?_
  refine .raise 5 rfl rfl ?_
  refine .rangeH (first := []) (cap := [.ptr 2 0 0, .ptr 3 0 0]) (List.range 8) [.yield 7, .ptr 2 0 0, .ptr 3 0 0] (S69e ks V2 0 .ready) F109 (by kernel_rfl) (T' := cgo 19 [] [Item.code B69]) (by kernel_rfl) (by kernel_rfl) (it69e ks V2 hr hl hv) (by kernel_rfl) (by kernel_rfl) (by refine ⟨rfl, by kernel_rfl, ?_⟩; kernel_rfl) ?_
  rintro r σc' ⟨rfl, rfl⟩
  refine ⟨.tuple [], .ready, (mk 17 [(2, V.d (D.raw (Value.pointer none))), (3, V.ptr 1 0 0), (9, V.fn (Fn.func 109) [] [V.ptr 2 0 0, V.ptr 3 0 0])]), rfPs (cgo 18 [] [Item.code B69]), rfAs (cgo 18 [] [Item.code B69]), rfBd (cgo 18 [] [Item.code B69]), 69, rfl, by simp, by kernel_rfl, ?_⟩
  have e1 : ks.take ks.length = ks := List.take_length
  have e2 : V2.take ks.length = V2 := by rw [← hv]; exact List.take_length
  refine .seg 6 [2] (T' := cgo 25 [] [.code B69]) (tm' := mk 17 [(2, .ptr 0 0 0)]) (σ' := [.cells [.row 4, .row 5], .cells [.ptr 0 0 0], .cells [.ep 2 (D.agg [D.list 1 (List.map strD ks), D.list 1 (List.map intD V2)]) 0], .cells [.fn (Fn.func 98) [] []], .row 1 (List.map strD (List.take ks.length ks)) true, .row 1 (List.map intD (List.take ks.length V2)) true, .defd, lp (cgo 18 [] [.code B69]) 69 (mk 17 [(2, .d (.raw (Value.pointer none))), (3, .ptr 1 0 0), (9, .fn (Fn.func 109) [] [.ptr 2 0 0, .ptr 3 0 0])]) LoopState.exhausted]) (by kernel_rfl) ?_
  refine .retX (v := V.ptr 0 0 0) [0, 4, 5] (V.ptr 0 0 0) F69 (by kernel_rfl) ⟨by kernel_rfl, by kernel_rfl⟩ (σ1 := [O.cells [V.row 4, V.row 5], O.cells [V.ptr 0 0 0], O.cells [V.ep 2 (D.agg [D.list 1 (List.map strD ks), D.list 1 (List.map intD V2)]) 0], O.cells [V.fn (Fn.func 98) [] []], O.row 1 (List.map strD (List.take ks.length ks)) true, O.row 1 (List.map intD (List.take ks.length V2)) true, O.dead, lp (cgo 18 [] [Item.code B69]) 69 (mk 17 [(2, V.d (D.raw (Value.pointer none))), (3, V.ptr 1 0 0), (9, V.fn (Fn.func 109) [] [V.ptr 2 0 0, V.ptr 3 0 0])]) LoopState.exhausted]) (by kernel_rfl) (by kernel_rfl) (σ2 := [O.cells [V.row 1, V.row 2], O.row 1 (List.map strD (List.take ks.length ks)) true, O.row 1 (List.map intD (List.take ks.length V2)) true]) ⟨rfl, rfl, by kernel_rfl⟩ (by kernel_rfl) ⟨Nat.le_of_ble_eq_true (by kernel_rfl), by kernel_rfl⟩ (by kernel_rfl) ?_
  simp_all
end Go.Proofs.Ytoelkgbeefoplaa

namespace Go.Proofs.Ytoelkgbeefoplaa
open Go Go.Br Go.Proofs
set_option linter.unusedSimpArgs false
noncomputable def B33 : Code := (Try.f33.body).getD .skip
theorem F33 : Fnc Try.prog 33 Try.f33 B33 := ⟨Try.func33, by kernel_rfl, by kernel_rfl⟩
noncomputable def B27 : Code := (Try.f27.body).getD .skip
theorem F27 : Fnc Try.prog 27 Try.f27 B27 := ⟨Try.func27, by kernel_rfl, by kernel_rfl⟩
noncomputable def B25 : Code := (Try.f25.body).getD .skip
theorem F25 : Fnc Try.prog 25 Try.f25 B25 := ⟨Try.func25, by kernel_rfl, by kernel_rfl⟩
theorem spec_61 (bs : List UInt8) (hlen : bs.length ≤ 140737488355000) : Br.Pure Try.prog 61 [.d (bsD bs)] (.d (bsD bs)) := clone_pure bs hlen
theorem spec_33 (d : Dk) (N : Nat) (h : d.Ok N) (hN : N + 2 ≤ 50000) :
    CallsA Try.prog 33 [.ptr 0 0 0] (SD d false) fun r σ' => r = .ret (.d (.int .i64 (d.begun.err false []))) ∧ σ' = SD d.begun.syncDirD true := by
  refine CallsA.start F33 (tm := mk (Try.f33.ntmps) [(0, .ptr 0 0 0)]) (by kernel_rfl) ?_
  have hk := Dk.begun_ok h (by omega : N + 1 ≤ 50000)
  have q1 := hk.nr
  have q2 := hk.nl
  have q3 := hk.nkl
  have q4 := hk.nb
  refine .seg 8 [0, 2, 4] (T' := cgo 8 [] [.code B33]) (tm' := mk 20 [(0, .ptr 0 0 0), (2, .d (.int .i64 0)), (4, .ptr 0 0 0)]) (σ' := (SP 1 2 d false [])) (by kernel_rfl) ?_
  refine .callH (o := (opOf (cgo 8 [] [.code B33])).getD default) (x := (.func 64)) (args := #[(.tmp 4), (.const (Value.bool false)), (.const (Value.slice none 0 0))]) (ts := #[40, 4, 66]) (first := []) (cap := []) [0, 1, 2, 3, 4, 5] [.ptr 0 0 0, .d (.bool false), .d (.list 1 [])] (SP 1 2 d false []) F64 (@spec_64 (d) (N) (by assumption) (by assumption)) (by kernel_rfl) (by kernel_rfl) (T' := cgo 9 [] [.code B33]) (by kernel_rfl) (by kernel_rfl) (by kernel_rfl) (by kernel_rfl) (by kernel_rfl) ⟨rfl, rfl, by kernel_rfl⟩ ?_
  rintro r0 s0 ⟨rfl, rfl⟩
  refine ⟨_, rfl, ?_⟩
  refine .seg 7 [0, 2, 3, 7] (T' := cgo 16 [] [.code B33]) (tm' := mk 20 [(0, .ptr 0 0 0), (2, .d (.int .i64 0)), (3, .d (.int .i64 (d.begun.err false []))), (7, .d (.bool (d.begun.err false [] != 0)))]) (σ' := (SP 1 2 d.begun false [])) (by kernel_rfl) ?_
  refine .ifH (b := d.begun.err false [] != 0) (by kernel_rfl) (by kernel_rfl) (T1 := cgo 17 [true] [Item.code B33]) (T2 := cgo 17 [false] [Item.code B33]) (by kernel_rfl) (by kernel_rfl) (fun h2 => ?_) (fun h2 => ?_)
  · simp only [decide_eq_true_eq, decide_eq_false_iff_not, beq_iff_eq, bne_iff_ne, beq_eq_false_iff_ne, bne_eq_false_iff_eq, Bool.not_eq_true', Bool.not_eq_false', ne_eq, Decidable.not_not, Bool.not_eq_true, Bool.not_eq_false] at h2
    refine .seg 5 [0, 2] (T' := cgo 22 [true] [.code B33]) (tm' := mk 20 [(0, .ptr 0 0 0), (2, .d (.int .i64 (d.begun.err false [])))]) (σ' := (SP 1 2 d.begun false [])) (by kernel_rfl) ?_
    refine .raise 1 rfl rfl ?_
    refine .raise 3 rfl rfl ?_
    refine .raise 4 rfl rfl ?_
    refine .raise 5 rfl rfl ?_
    refine .retH F33 (v := V.d (D.int IntKind.i64 (d.begun.err false []))) (by kernel_rfl) (by kernel_rfl) ?_
    have e : d.begun.off = true := by
      cases ho : d.begun.off with
      | true => rfl
      | false => simp_all [Dk.err]
    exact ⟨rfl, by simp [SD, dirD, Dk.syncDirD, e]⟩
  · simp only [decide_eq_true_eq, decide_eq_false_iff_not, beq_iff_eq, bne_iff_ne, beq_eq_false_iff_ne, bne_eq_false_iff_eq, Bool.not_eq_true', Bool.not_eq_false', ne_eq, Decidable.not_not, Bool.not_eq_true, Bool.not_eq_false] at h2
    refine .seg 9 [0, 2, 9, 10, 11, 12, 13, 14] (T' := cgo 26 [false] [.code B33]) (tm' := mk 20 [(0, .ptr 0 0 0), (2, .d (.int .i64 0)), (9, .ptr 0 0 0), (10, .ptr 0 0 0), (11, .ptr 0 0 0), (12, .ptr 0 0 0), (13, .ptr 0 0 1), (14, .ptr 2 0 0)]) (σ' := (SP 1 2 d.begun false [])) (by kernel_rfl) ?_
    refine .callH (o := (opOf (cgo 26 [false] [.code B33])).getD default) (x := (.func 69)) (args := #[(.tmp 14)]) (ts := #[102]) (first := []) (cap := []) [2, 3, 4] [.ptr 0 0 0] [.cells [.row 1, .row 2], .row 1 (List.map strD d.begun.nk) false, .row 1 (List.map intD d.begun.nv) false] F69 (@spec_69 (d.begun.nk) (d.begun.nv) (by assumption) (by omega) (by assumption)) (by kernel_rfl) (by kernel_rfl) (T' := cgo 27 [false] [.code B33]) (by kernel_rfl) (by kernel_rfl) (by kernel_rfl) (by kernel_rfl) (by kernel_rfl) ⟨rfl, rfl, by kernel_rfl⟩ ?_
    rintro r2 s2 ⟨rfl, rfl⟩
    refine ⟨_, rfl, ?_⟩
    refine .seg 11 [2] (T' := cgo 38 [false] [.code B33]) (tm' := mk 20 [(2, .d (.int .i64 0))]) (σ' := [.cells [.row 1, .ptr 2 0 0, .ptr 6 0 0, V.ex 3 [], .d (.int .i64 d.begun.quota), .d (.bool d.begun.full), .d (.bool d.begun.off), .d (.int .i64 d.begun.stop), .d (.int .i64 d.begun.calls)], .row 2 (List.map fileD d.begun.files) false, .cells [.row 3, .row 4], .row 1 (List.map strD d.begun.nk) false, .row 1 (List.map intD d.begun.nv) false, .row 3 (List.map chD d.begun.ch) false, .cells [.row 7, .row 8], .row 1 (List.map strD d.begun.nk) true, .row 1 (List.map intD d.begun.nv) true]) (by kernel_rfl) ?_
    refine .freeze 7 (sz := 1) (xs := List.map strD d.begun.nk) (mv := true) (by kernel_rfl) ?_
    refine .freeze 8 (sz := 1) (xs := List.map intD d.begun.nv) (mv := true) (by kernel_rfl) ?_
    refine .freezeC 6 (cs0 := [.d (.list 1 (List.map strD d.begun.nk)), .d (.list 1 (List.map intD d.begun.nv))]) (ds := [D.list 1 (List.map strD d.begun.nk), D.list 1 (List.map intD d.begun.nv)]) (by kernel_rfl) (by kernel_rfl) ?_
    refine .virtX 0 3 3 rfl rfl ?_
    refine .raise 1 rfl rfl ?_
    refine .raise 3 rfl rfl ?_
    refine .raise 4 rfl rfl ?_
    refine .raise 9 rfl rfl ?_
    refine .subM [0, 1, 2, 3, 4, 9] (mk 20 [(2, .d (.int .i64 0))]) [.cells [.row 1, .ptr 2 0 0, .ep 2 (dirD d.begun.nk d.begun.nv) 0, .row 5, .d (.int .i64 d.begun.quota), .d (.bool d.begun.full), .d (.bool d.begun.off), .d (.int .i64 d.begun.stop), .d (.int .i64 d.begun.calls)], .row 2 (List.map fileD d.begun.files) true, .cells [.row 3, .row 4], .row 1 (List.map strD d.begun.nk) true, .row 1 (List.map intD d.begun.nv) true, .row 3 [] true] none [] ⟨rfl, rfl, by kernel_rfl⟩ (by kernel_rfl) ⟨Nat.le_of_ble_eq_true (by kernel_rfl), by kernel_rfl⟩ (by kernel_rfl) ⟨by kernel_rfl, by kernel_rfl⟩ ⟨rfl, rfl⟩ ?_
    refine .retH F33 (v := V.d (D.int IntKind.i64 0)) (by kernel_rfl) (by kernel_rfl) ?_
    have e : d.begun.off = false := by
      cases ho : d.begun.off with
      | false => rfl
      | true => simp_all [Dk.err]
    have e2 : d.begun.err false [] = 0 := by simp [Dk.err, e]
    exact ⟨by rw [e2], by simp [SD, Dk.syncDirD, e]⟩
theorem spec_27 (d : Dk) (N : Nat) (h : d.Ok N) (x : ByteArray) :
    CallsA Try.prog 27 [.ptr 0 0 0, .d (.str x)] (SD d false) fun r σ' => r = .ret (.tuple [.d (if (look d.nk d.nv x).isSome then bsD (d.file (d.num x)).1 else .list 1 []), .d (.int .i64 (if (look d.nk d.nv x).isSome then 0 else 3))]) ∧ σ' = SD d false := by
  refine CallsA.start F27 (tm := mk (Try.f27.ntmps) [(0, .ptr 0 0 0), (1, .d (.str x))]) (by kernel_rfl) ?_
  have q1 := h.nr
  have q2 := h.nl
  have q3 := h.nkl
  have q4 := h.nb
  have q5 : ∀ k, look d.nk d.nv x = some k → 0 ≤ k ∧ k < d.files.length := fun k hk' => h.nn k (look_mem hk')
  cases hl : look d.nk d.nv x with
  | none =>
    refine .seg 9 [0, 1, 4, 5, 9, 10] (T' := cgo 9 [] [.code B27]) (tm' := mk 21 [(0, .ptr 0 0 0), (1, .d (.str x)), (4, V.nils), (5, .d (.int .i64 0)), (9, .ptr 0 0 0), (10, .d (.str x))]) (σ' := (SP 1 2 d false [])) (by kernel_rfl) ?_
    refine .callH (o := (opOf (cgo 9 [] [.code B27])).getD default) (x := (.func 65)) (args := #[(.tmp 9), (.tmp 10)]) (ts := #[40, 9]) (first := []) (cap := []) [0, 1, 2, 3, 4, 5] [.ptr 0 0 0, .d (.str x)] (SP 1 2 d false []) F65 (@spec_65 (d) (x) (none) (by assumption) (by assumption) (by assumption) (by omega) (by assumption)) (by kernel_rfl) (by kernel_rfl) (T' := cgo 10 [] [.code B27]) (by kernel_rfl) (by kernel_rfl) (by kernel_rfl) (by kernel_rfl) (by kernel_rfl) ⟨rfl, rfl, by kernel_rfl⟩ ?_
    rintro r0 s0 ⟨rfl, rfl⟩
    refine ⟨_, rfl, ?_⟩
    refine .seg 18 [4, 5, 6] (T' := cgo 28 [true] [.code B27]) (tm' := mk 21 [(4, V.nils), (5, .d (.int .i64 3)), (6, .d (.raw (Value.pointer none)))]) (σ' := (SP 1 2 d false [])) (by kernel_rfl) ?_
    refine .coerce [0, 0, 0, 0, 22, 23] ?_
    refine .retH F27 (v := V.tuple [V.d (D.list 1 []), V.d (D.int IntKind.i64 3)]) (by kernel_rfl) (by kernel_rfl) ?_
    exact ⟨rfl, rfl⟩
  | some k =>
    have q6 := q5 k hl
    have q61 := q6.1
    have hlt : k.toNat < d.files.length := by omega
    obtain ⟨f, hf⟩ := get_some (l := d.files) (i := k.toNat) hlt
    have hm := h.fs f (List.mem_of_getElem? hf)
    have hfile : d.file (d.num x) = f := by simp [Dk.file, Dk.num, hl, List.getD_eq_getElem?_getD, hf]
    have hfb : bsD f.1 = D.list 1 (List.map u8 f.1) := rfl
    refine .seg 9 [0, 1, 4, 5, 9, 10] (T' := cgo 9 [] [.code B27]) (tm' := mk 21 [(0, .ptr 0 0 0), (1, .d (.str x)), (4, V.nils), (5, .d (.int .i64 0)), (9, .ptr 0 0 0), (10, .d (.str x))]) (σ' := (SP 1 2 d false [])) (by kernel_rfl) ?_
    refine .callH (o := (opOf (cgo 9 [] [.code B27])).getD default) (x := (.func 65)) (args := #[(.tmp 9), (.tmp 10)]) (ts := #[40, 9]) (first := []) (cap := []) [0, 1, 2, 3, 4, 5] [.ptr 0 0 0, .d (.str x)] (SP 1 2 d false []) F65 (@spec_65 (d) (x) (some k) (by assumption) (by assumption) (by assumption) (by omega) (by assumption)) (by kernel_rfl) (by kernel_rfl) (T' := cgo 10 [] [.code B27]) (by kernel_rfl) (by kernel_rfl) (by kernel_rfl) (by kernel_rfl) (by kernel_rfl) ⟨rfl, rfl, by kernel_rfl⟩ ?_
    rintro r0 s0 ⟨rfl, rfl⟩
    refine ⟨_, rfl, ?_⟩
    refine .seg 19 [4, 5, 6, 16, 17, 18] (T' := cgo 29 [false] [.code B27]) (tm' := mk 21 [(4, V.nils), (5, .d (.int .i64 0)), (6, .ptr 1 k.toNat 0), (16, .ptr 1 k.toNat 0), (17, .ptr 1 k.toNat 0), (18, .ptr 1 k.toNat 0)]) (σ' := (SP 1 2 d false [])) (by kernel_rfl) ?_
    refine .opH (o := (opOf (cgo 29 [false] [.code B27])).getD default) (by kernel_rfl) (by kernel_rfl) (by kernel_rfl) (T' := cgo 30 [false] [.code B27]) (by kernel_rfl) (ldRow_ok (t := 22) (x := (.tmp 18)) (l := 1) (i := k.toNat) (s := 0) (sz := 2) (xs := List.map fileD d.files) (mv := false) (d := fileD f) (v := .d (.list 1 (List.map u8 f.fst))) (by kernel_rfl) (by kernel_rfl) (by kernel_rfl) (map_get hf) (by kernel_rfl)) ?_
    refine .semH (o := (opOf (cgo 30 [false] [Item.code B27])).getD default) (v := V.d (D.list 1 (List.map u8 f.fst))) (σ' := (SP 1 2 d false [])) (by kernel_rfl) (by kernel_rfl) (T' := cgo 31 [false] [Item.code B27]) (by kernel_rfl) (fun kz => sem_data0 (x := (.func 61)) (args := #[(.tmp 19)]) (ts := #[22]) (first := []) (cap := []) (ds := [V.d (D.list 1 (List.map u8 f.fst))]) (v := V.d (D.list 1 (List.map u8 f.fst))) F61 (@spec_61 (f.fst) (by omega)) (by kernel_rfl) (by kernel_rfl) (by kernel_rfl) (by kernel_rfl) (by kernel_rfl) (by kernel_rfl) _) ?_
    refine .seg 3 [4, 5] (T' := cgo 34 [false] [.code B27]) (tm' := mk 21 [(4, .d (.list 1 (List.map u8 f.fst))), (5, .d (.int .i64 0))]) (σ' := (SP 1 2 d false [])) (by kernel_rfl) ?_
    refine .retH F27 (v := V.tuple [V.d (D.list 1 (List.map u8 f.fst)), V.d (D.int IntKind.i64 0)]) (by kernel_rfl) (by kernel_rfl) ?_
    simp_all [SD, dirD]
theorem spec_25 (q : Int) : CallsA Try.prog 25 [.d (.int .i64 q)] [] fun r σ' => r = .ret (.ptr 0 0 0) ∧ σ' = SD (Dk.new q) true := by
  refine CallsA.start F25 (tm := mk (Try.f25.ntmps) [(0, .d (.int .i64 q))]) (by kernel_rfl) ?_
  refine .seg 16 [2] (T' := cgo 16 [] [.code B25]) (tm' := mk 11 [(2, .ptr 2 0 0)]) (σ' := [.cells [V.ex 1 [], V.ex 1 []], .cells [V.ex 1 [], V.ex 1 []], .cells [V.ex 2 [], .ptr 0 0 0, .ptr 1 0 0, V.ex 3 [], .d (.int .i64 (if 0 > q then 0 else q)), .d (.bool false), .d (.bool false), .d (.int .i64 (-1)), .d (.int .i64 0)]]) (by kernel_rfl) ?_
  refine .virtX 2 0 2 rfl rfl ?_
  refine .virtX 2 3 3 rfl rfl ?_
  refine .virtX 0 0 1 rfl rfl ?_
  refine .virtX 0 1 1 rfl rfl ?_
  refine .freezeC 1 (cs0 := [V.ex 1 [], V.ex 1 []]) (ds := [D.list 1 [], D.list 1 []]) (by kernel_rfl) (by kernel_rfl) ?_
  refine .raise 3 rfl rfl ?_
  refine .raise 4 rfl rfl ?_
  refine .raise 5 rfl rfl ?_
  refine .raise 6 rfl rfl ?_
  refine .sub [2, 3, 0, 5, 6, 4] (mk 11 [(2, .ptr 0 0 0)]) (SD (Dk.new q) true) none [] ⟨rfl, rfl, by kernel_rfl⟩ (by kernel_rfl) ⟨Nat.le_of_ble_eq_true (by kernel_rfl), by kernel_rfl⟩ (by kernel_rfl) ⟨by kernel_rfl, by kernel_rfl⟩ ⟨rfl, rfl⟩ ?_
  refine .retH F25 (v := V.ptr 0 0 0) (by kernel_rfl) (by kernel_rfl) ?_
  exact ⟨rfl, rfl⟩
end Go.Proofs.Ytoelkgbeefoplaa

namespace Go.Proofs.Ytoelkgbeefoplaa
open Go Go.Br Go.Proofs
set_option linter.unusedSimpArgs false
theorem wrap_u64 (n : Nat) : IntKind.u64.wrap (n : Int) = ((BitVec.ofNat 64 n).toNat : Int) := by
  simp [IntKind.wrap, IntKind.bits, IntKind.signed]
theorem iand_u64 (x y : BitVec 64) : iand .u64 (x.toNat : Int) (y.toNat : Int) = ((x &&& y).toNat : Int) := by
  show IntKind.u64.wrap (BitVec.ofInt 64 (x.toNat : Int) &&& BitVec.ofInt 64 (y.toNat : Int)).toNat = _
  rw [show BitVec.ofInt 64 (x.toNat : Int) = x by simp, show BitVec.ofInt 64 (y.toNat : Int) = y by simp, wrap_u64]; simp
theorem ior_u64 (x y : BitVec 64) : ior .u64 (x.toNat : Int) (y.toNat : Int) = ((x ||| y).toNat : Int) := by
  show IntKind.u64.wrap (BitVec.ofInt 64 (x.toNat : Int) ||| BitVec.ofInt 64 (y.toNat : Int)).toNat = _
  rw [show BitVec.ofInt 64 (x.toNat : Int) = x by simp, show BitVec.ofInt 64 (y.toNat : Int) = y by simp, wrap_u64]; simp
theorem ishr_u64 (x : BitVec 64) (n : Nat) : ishr .u64 (x.toNat : Int) (n : Int) = ((x >>> n).toNat : Int) := by
  show Int.fdiv (x.toNat : Int) (2 ^ min (n : Int).toNat 64) = _
  have h1 : ((2 : Int) ^ min (n : Int).toNat 64) = ((2 ^ min n 64 : Nat) : Int) := by simp
  rw [h1, Int.fdiv_eq_ediv_of_nonneg _ (Int.natCast_nonneg _), ← Int.natCast_ediv]
  congr 1
  rw [BitVec.toNat_ushiftRight, Nat.shiftRight_eq_div_pow]
  by_cases hn : n ≤ 64
  · rw [Nat.min_eq_left hn]
  · rw [Nat.min_eq_right (by omega)]
    have h2 : x.toNat < 2 ^ 64 := x.isLt
    rw [Nat.div_eq_of_lt h2, Nat.div_eq_of_lt (Nat.lt_of_lt_of_le h2 (Nat.pow_le_pow_right (by omega) (by omega)))]
theorem ishl_u64 (n : Nat) (hn : n < 64) : ishl .u64 1 (n : Int) = ((1#64 <<< n).toNat : Int) := by
  show IntKind.u64.wrap (1 * 2 ^ min (n : Int).toNat 64) = _
  have h1 : (1 * (2 : Int) ^ min (n : Int).toNat 64) = ((2 ^ n : Nat) : Int) := by
    rw [Int.one_mul, Int.toNat_natCast, Nat.min_eq_left (by omega)]; simp
  rw [h1, wrap_u64]
  congr 1
  rw [BitVec.toNat_shiftLeft, BitVec.toNat_ofNat, Nat.shiftLeft_eq]
  simp
/-- A word of a set. -/
def w64 (x : BitVec 64) : D := .int .u64 (x.toNat : Int)
def bitsHas (ws : List (BitVec 64)) (n : Nat) : Bool := (ws.getD (n / 64) 0#64).getLsbD (n % 64)
theorem bit_and (x : BitVec 64) (k : Nat) : (iand .u64 (ishr .u64 (x.toNat : Int) (k : Int)) 1 == 1) = x.getLsbD k := by
  rw [ishr_u64, show (1 : Int) = ((1#64).toNat : Int) by rfl, iand_u64, BitVec.and_one_eq_setWidth_ofBool_getLsbD, BitVec.getLsbD_ushiftRight, Nat.add_zero]
  cases x.getLsbD k <;> decide
noncomputable def B99 : Code := (Try.f99.body).getD .skip
theorem F99 : Fnc Try.prog 99 Try.f99 B99 := ⟨Try.func99, by kernel_rfl, by kernel_rfl⟩
noncomputable def B74 : Code := (Try.f74.body).getD .skip
theorem F74 : Fnc Try.prog 74 Try.f74 B74 := ⟨Try.func74, by kernel_rfl, by kernel_rfl⟩
theorem spec_99 (ws : List D) : CallsA Try.prog 99 [.ptr 0 0 0] [.cells [.row 1], .row 1 ws false] fun r σ' => r = .ret (.row 1) ∧ σ' = [.cells [.row 1], .row 1 ws false] := by
  refine CallsA.start F99 (tm := mk (Try.f99.ntmps) [(0, .ptr 0 0 0)]) (by kernel_rfl) ?_
  refine .seg 20 [2] (T' := cgo 20 [false] [.code B99]) (tm' := mk 9 [(2, .row 1)]) (σ' := [.cells [.row 1], .row 1 ws false]) (by kernel_rfl) ?_
  refine .retH F99 (v := V.row 1) (by kernel_rfl) (by kernel_rfl) ?_
  exact ⟨rfl, rfl⟩
theorem spec_74 (ws : List (BitVec 64)) (n : Nat) (hn : n < 1000000000) (hw : ws.length < 1000000000) : CallsA Try.prog 74 [.ptr 0 0 0, .d (.int .i64 (n : Nat))] [.cells [.row 1], .row 1 (ws.map w64) false] fun r σ' => r = .ret (.d (.bool (bitsHas ws n))) ∧ σ' = [.cells [.row 1], .row 1 (ws.map w64) false] := by
  refine CallsA.start F74 (tm := mk (Try.f74.ntmps) [(0, .ptr 0 0 0), (1, .d (.int .i64 (n : Nat)))]) (by kernel_rfl) ?_
  refine .seg 7 [0, 1, 4, 6] (T' := cgo 7 [] [.code B74]) (tm' := mk 29 [(0, .ptr 0 0 0), (1, .d (.int .i64 (↑n : Int))), (4, .d (.bool false)), (6, .ptr 0 0 0)]) (σ' := [.cells [.row 1], .row 1 (List.map w64 ws) false]) (by kernel_rfl) ?_
  refine .callH (o := (opOf (cgo 7 [] [.code B74])).getD default) (x := (.func 99)) (args := #[(.tmp 6)]) (ts := #[123]) (first := []) (cap := []) [0, 1] [.ptr 0 0 0] [.cells [.row 1], .row 1 (List.map w64 ws) false] F99 (@spec_99 (List.map w64 ws)) (by kernel_rfl) (by kernel_rfl) (T' := cgo 8 [] [.code B74]) (by kernel_rfl) (by kernel_rfl) (by kernel_rfl) (by kernel_rfl) (by kernel_rfl) ⟨rfl, rfl, by kernel_rfl⟩ ?_
  rintro r0 s0 ⟨rfl, rfl⟩
  refine ⟨_, rfl, ?_⟩
  refine .seg 14 [1, 4, 5, 8, 9, 10, 11, 12, 13, 14, 15, 16, 17] (T' := cgo 22 [] [.code B74]) (tm' := mk 29 [(1, .d (.int .i64 (↑n : Int))), (4, .d (.bool false)), (5, .row 1), (8, .d (.int .i64 (↑n : Int))), (9, .d (.bool true)), (10, .d (.bool true)), (11, .d (.int .i64 (↑n : Int))), (12, .d (.int .i64 (IntKind.i64.wrap ((↑n : Int).tdiv 64)))), (13, .row 1), (14, .d (.int .i64 (↑(List.map w64 ws).length : Int))), (15, .d (.bool (decide (IntKind.i64.wrap ((↑n : Int).tdiv 64) < (↑(List.map w64 ws).length : Int))))), (16, .d (.bool (decide (IntKind.i64.wrap ((↑n : Int).tdiv 64) < (↑(List.map w64 ws).length : Int))))), (17, .d (.bool (decide (IntKind.i64.wrap ((↑n : Int).tdiv 64) < (↑(List.map w64 ws).length : Int)))))]) (σ' := [.cells [.row 1], .row 1 (List.map w64 ws) false]) (by kernel_rfl) ?_
  simp only [List.length_map]
  simp (disch := omega) only [wrap_i64, wrap_u64s, wrap_u32s, wrap_u8s, wrap_i32s, iadd_i64, isub_i64, irem_n, iquo_n, tdiv_nn, tmod_nn]
  rcases Bool.eq_false_or_eq_true (decide ((↑n : Int) / 64 < (↑ws.length : Int))) with h2 | h2
  · rw [h2]
    simp only [decide_eq_true_eq, decide_eq_false_iff_not, beq_iff_eq, bne_iff_ne, beq_eq_false_iff_ne, bne_eq_false_iff_eq, Bool.not_eq_true', Bool.not_eq_false', ne_eq, Decidable.not_not, Bool.not_eq_true, Bool.not_eq_false] at h2
    refine .seg 3 [1, 4, 5, 8, 9, 10, 11, 12, 13, 14, 15, 16, 17, 18, 19, 20] (T' := cgo 25 [] [.code B74]) (tm' := mk 29 [(1, .d (.int .i64 (↑n : Int))), (4, .d (.bool false)), (5, .row 1), (8, .d (.int .i64 (↑n : Int))), (9, .d (.bool true)), (10, .d (.bool true)), (11, .d (.int .i64 (↑n : Int))), (12, .d (.int .i64 ((↑n : Int) / 64))), (13, .row 1), (14, .d (.int .i64 (↑ws.length : Int))), (15, .d (.bool true)), (16, .d (.bool true)), (17, .d (.bool true)), (18, .row 1), (19, .d (.int .i64 (↑n : Int))), (20, .d (.int .i64 (IntKind.i64.wrap ((↑n : Int).tdiv 64))))]) (σ' := [.cells [.row 1], .row 1 (List.map w64 ws) false]) (by kernel_rfl) ?_
    simp (disch := omega) only [wrap_i64, wrap_u64s, wrap_u32s, wrap_u8s, wrap_i32s, iadd_i64, isub_i64, irem_n, iquo_n, tdiv_nn, tmod_nn]
    refine .opH (o := (opOf (cgo 25 [] [.code B74])).getD default) (by kernel_rfl) (by kernel_rfl) (by kernel_rfl) (T' := cgo 26 [] [.code B74]) (by kernel_rfl) (ixRow_ok (t := 124) (x := (.tmp 18)) (i := (.tmp 20)) (k := IntKind.i64) (n := (↑n : Int) / 64) (l := 1) (sz := 1) (xs := List.map w64 ws) (mv := false) (by kernel_rfl) (by kernel_rfl) (by kernel_rfl) (by kernel_rfl) (by kernel_rfl) (by omega) (by simp <;> omega)) ?_
    obtain ⟨y3, hy3⟩ := get_some (l := ws) (i := ((↑n : Int) / 64).toNat) (by omega)
    refine .opH (o := (opOf (cgo 26 [] [.code B74])).getD default) (by kernel_rfl) (by kernel_rfl) (by kernel_rfl) (T' := cgo 27 [] [.code B74]) (by kernel_rfl) (ldRow_ok (t := 151) (x := (.tmp 21)) (l := 1) (i := ((↑n : Int) / 64).toNat) (s := 0) (sz := 1) (xs := List.map w64 ws) (mv := false) (d := w64 y3) (v := .d (.int .u64 (↑y3.toNat : Int))) (by kernel_rfl) (by kernel_rfl) (by kernel_rfl) (map_get hy3) (by kernel_rfl)) ?_
    refine .seg 8 [4] (T' := cgo 35 [] [.code B74]) (tm' := mk 29 [(4, .d (.bool (IntKind.u64.wrap (↑(BitVec.ofInt IntKind.u64.bits ((↑y3.toNat : Int).fdiv (2 ^ min ((↑n : Int).tmod 64).toNat IntKind.u64.bits)) &&& BitVec.ofInt IntKind.u64.bits 1).toNat : Int) == 1)))]) (σ' := [.cells [.row 1], .row 1 (List.map w64 ws) false]) (by kernel_rfl) ?_
    simp (disch := omega) only [wrap_i64, wrap_u64s, wrap_u32s, wrap_u8s, wrap_i32s, iadd_i64, isub_i64, irem_n, iquo_n, tdiv_nn, tmod_nn]
    refine .retH F74 (v := V.d (D.bool (IntKind.u64.wrap (↑(BitVec.ofInt IntKind.u64.bits ((↑y3.toNat : Int).fdiv (2 ^ min ((↑n : Int) % 64).toNat IntKind.u64.bits)) &&& BitVec.ofInt IntKind.u64.bits 1).toNat : Int) == 1))) (by kernel_rfl) (by kernel_rfl) ?_
    have e1 : (n : Int) % 64 = ((n % 64 : Nat) : Int) := by omega
    have e2 : ((n : Int) / 64).toNat = n / 64 := by omega
    rw [e2] at hy3
    rw [e1]
    have e3 : bitsHas ws n = y3.getLsbD (n % 64) := by unfold bitsHas; rw [List.getD_eq_getElem?_getD, hy3]; rfl
    rw [e3, ← bit_and]
    exact ⟨rfl, rfl⟩
  · rw [h2]
    simp only [decide_eq_true_eq, decide_eq_false_iff_not, beq_iff_eq, bne_iff_ne, beq_eq_false_iff_ne, bne_eq_false_iff_eq, Bool.not_eq_true', Bool.not_eq_false', ne_eq, Decidable.not_not, Bool.not_eq_true, Bool.not_eq_false] at h2
    refine .seg 13 [4] (T' := cgo 35 [] [.code B74]) (tm' := mk 29 [(4, .d (.bool false))]) (σ' := [.cells [.row 1], .row 1 (List.map w64 ws) false]) (by kernel_rfl) ?_
    refine .retH F74 (v := V.d (D.bool false)) (by kernel_rfl) (by kernel_rfl) ?_
    have e3 : bitsHas ws n = false := by
      unfold bitsHas
      rw [List.getD_eq_getElem?_getD, List.getElem?_eq_none (by omega)]
      simp
    rw [e3]
    exact ⟨rfl, rfl⟩
end Go.Proofs.Ytoelkgbeefoplaa

namespace Go.Proofs.Ytoelkgbeefoplaa
open Go Go.Br Go.Proofs
set_option linter.unusedSimpArgs false
noncomputable def B73 : Code := (Try.f73.body).getD .skip
theorem F73 : Fnc Try.prog 73 Try.f73 B73 := ⟨Try.func73, by kernel_rfl, by kernel_rfl⟩
def bitsSet (ws : List (BitVec 64)) (n : Nat) : List (BitVec 64) := ws.set (n / 64) (ws.getD (n / 64) 0#64 ||| (1#64 <<< (n % 64)))
def bitsPut (ws : List (BitVec 64)) (n : Nat) : List (BitVec 64) := if bitsHas ws n then ws else bitsSet (ws ++ List.replicate (n / 64 + 1 - ws.length) 0#64) n
theorem lo73 (n : Nat) (hn : n < 65536) : ∀ (m : Nat) (ws : List (BitVec 64)) (mv : Bool), (ws.length + m = n / 64 + 1 ∨ (m = 0 ∧ n / 64 < ws.length)) → ws.length < 1000000000 →
    AW Try.prog 73 none 2 (cgo 28 [false] [Item.code B73]) (mk 50 [(0, .ptr 0 0 0), (1, .d (.int .i64 (n : Nat)))]) [.cells [.row 1], .row 1 (ws.map w64) mv] [] fun r σ' => r = .ret (.d (.bool true)) ∧ σ' = [.cells [.row 1], .row 1 ((bitsSet (ws ++ List.replicate m 0#64) n).map w64) true] := by
  have hq : IntKind.i64.wrap ((n : Int).tdiv 64) = ((n / 64 : Nat) : Int) := by
    rw [tdiv_nn (by omega), wrap_i64 (by omega) (by omega)]; omega
  intro m
  induction m with
  | zero =>
    intro ws mv hm hw
    have hlt : n / 64 < ws.length := by omega
    obtain ⟨y, hy⟩ := get_some (l := ws) (i := (IntKind.i64.wrap ((n : Int).tdiv 64)).toNat) (by omega)
    refine .raise 1 rfl rfl ?_
    refine .seg 12 [0, 1, 20, 21, 22, 23, 24, 25, 26, 27] (T' := cgo 40 [false] [.code B73]) (tm' := mk 50 [(0, .ptr 0 0 0), (1, .d (.int .i64 (↑n : Int))), (20, .ptr 0 0 0), (21, .ptr 0 0 0), (22, .ptr 0 0 0), (23, .row 1), (24, .d (.int .i64 (↑(List.map w64 ws).length : Int))), (25, .d (.int .i64 (↑n : Int))), (26, .d (.int .i64 (IntKind.i64.wrap ((↑n : Int).tdiv 64)))), (27, .d (.bool (decide ((↑(List.map w64 ws).length : Int) ≤ IntKind.i64.wrap ((↑n : Int).tdiv 64)))))]) (σ' := [.cells [.row 1], .row 1 (List.map w64 ws) true]) (by kernel_rfl) ?_
    simp only [List.length_map]
    simp (disch := omega) only [wrap_i64, wrap_u64s, wrap_u32s, wrap_u8s, wrap_i32s, iadd_i64, isub_i64, irem_n, iquo_n, tdiv_nn, tmod_nn]
    refine .ifH (b := decide ((↑ws.length : Int) ≤ (↑n : Int) / 64)) (by kernel_rfl) (by kernel_rfl) (T1 := cgo 41 [false, true] [Item.code B73]) (T2 := cgo 41 [false, false] [Item.code B73]) (by kernel_rfl) (by kernel_rfl) (fun h1 => ?_) (fun h1 => ?_)
    · simp only [decide_eq_true_eq, decide_eq_false_iff_not, beq_iff_eq, bne_iff_ne, beq_eq_false_iff_ne, bne_eq_false_iff_eq, Bool.not_eq_true', Bool.not_eq_false', ne_eq, Decidable.not_not, Bool.not_eq_true, Bool.not_eq_false] at h1
      omega
    · simp only [decide_eq_true_eq, decide_eq_false_iff_not, beq_iff_eq, bne_iff_ne, beq_eq_false_iff_ne, bne_eq_false_iff_eq, Bool.not_eq_true', Bool.not_eq_false', ne_eq, Decidable.not_not, Bool.not_eq_true, Bool.not_eq_false] at h1
      refine .seg 2 [0, 1] (T' := cgo 43 [false, false] [.code B73]) (tm' := mk 50 [(0, .ptr 0 0 0), (1, .d (.int .i64 (↑n : Int)))]) (σ' := [.cells [.row 1], .row 1 (List.map w64 ws) true]) (by kernel_rfl) ?_
      refine .drawF (T' := cgo 44 [false, false] [.code B73]) (tm' := mk 50 [(0, .ptr 0 0 0), (1, .d (.int .i64 (↑n : Int))), (37, .ptr 0 0 0), (38, .ptr 0 0 0), (39, .ptr 0 0 0), (40, .row 1), (41, .d (.int .i64 (↑n : Int))), (42, .d (.int .i64 (IntKind.i64.wrap ((↑n : Int).tdiv 64)))), (43, .ptr 1 (IntKind.i64.wrap ((↑n : Int).tdiv 64)).toNat 0), (44, .d (.int .u64 (↑y.toNat : Int))), (45, .d (.int .i64 (↑n : Int))), (46, .d (.int .i64 ((↑n : Int).tmod 64))), (47, .d (.int .u64 (IntKind.u64.wrap (1 * 2 ^ min ((↑n : Int).tmod 64).toNat IntKind.u64.bits)))), (48, .d (.int .u64 (IntKind.u64.wrap (↑(BitVec.ofInt IntKind.u64.bits (↑y.toNat : Int) ||| BitVec.ofInt IntKind.u64.bits (IntKind.u64.wrap (1 * 2 ^ min ((↑n : Int).tmod 64).toNat IntKind.u64.bits))).toNat : Int)))), (49, .ptr 1 (IntKind.i64.wrap ((↑n : Int).tdiv 64)).toNat 0)]) (σ' := [.cells [.row 1], .row 1 ((List.map w64 ws).set (IntKind.i64.wrap ((↑n : Int).tdiv 64)).toNat (D.int IntKind.u64 (IntKind.u64.wrap (↑(BitVec.ofInt IntKind.u64.bits (↑y.toNat : Int) ||| BitVec.ofInt IntKind.u64.bits (IntKind.u64.wrap (1 * 2 ^ min ((↑n : Int).tmod 64).toNat IntKind.u64.bits))).toNat : Int)))) true]) (by kernel_rfl) (by kernel_rfl) (by kernel_rfl) (by kernel_rfl) (fun kz L hL => ?_) ?_
      · refine ⟨[⟨[], [], [], [0], [0], [], true, false⟩, ⟨[], [], [], [0], [0], [0], true, false⟩, ⟨[], [], [], [0], [0], [0], true, false⟩, ⟨[0], [], [], [1], [0, 1], [], true, false⟩, ⟨[], [], [], [], [], [], true, false⟩, ⟨[], [], [], [], [], [], true, false⟩, ⟨[1], [], [], [1], [1], [], true, false⟩, ⟨[1], [], [], [], [1], [], true, false⟩, ⟨[], [], [], [], [], [], true, false⟩, ⟨[], [], [], [], [], [], true, false⟩, ⟨[], [], [], [], [], [], true, false⟩, ⟨[], [], [], [], [], [], true, false⟩, ⟨[1], [], [], [1], [1], [], true, false⟩, ⟨[1], [1], [], [], [1], [], true, false⟩], run_amongF hL _ [] [0, 1, 2, 3, 4, 5, 6, 7, 8, 9, 10, 11, 12, 13] (by intro p hp; cases hp) (by kernel_rfl) ?_⟩
        refine Run.append (A := [0, 1, 2, 3, 4, 5]) (srunF_ok (tm' := mk 50 [(0, .ptr 0 0 0), (1, .d (.int .i64 (↑n : Int))), (37, .ptr 0 0 0), (38, .ptr 0 0 0), (39, .ptr 0 0 0), (40, .row 1), (41, .d (.int .i64 (↑n : Int))), (42, .d (.int .i64 (IntKind.i64.wrap ((↑n : Int).tdiv 64))))]) (σ' := [.cells [.row 1], .row 1 (List.map w64 ws) true]) (by kernel_rfl)) ?_
        refine Run.one (StepF.look (o := ((drawOf (cgo 43 [false, false] [.code B73]))[6]?).getD default) (v := .ptr 1 (IntKind.i64.wrap ((↑n : Int).tdiv 64)).toNat 0) [(.tmp 40), (.tmp 42)] (by kernel_rfl) rfl (by kernel_rfl) (by kernel_rfl) (by kernel_rfl) (by kernel_rfl) (by kernel_rfl) (fun tm' σ2 hv hr => ixRow_ok (t := 124) (x := (.tmp 40)) (i := (.tmp 42)) (k := IntKind.i64) (n := IntKind.i64.wrap ((↑n : Int).tdiv 64)) (l := 1) (sz := 1) (xs := List.map w64 ws) (mv := true) (by kernel_rfl) (by rw [hv _ (by simp)]; kernel_rfl) (by rw [hv _ (by simp)]; kernel_rfl) ((hr _ (inK_iff.1 (by kernel_rfl))).trans (by kernel_rfl)) (by kernel_rfl) (by omega) (by simp at * <;> omega))) ?_
        refine Run.asP (tm' := mk 50 [(0, .ptr 0 0 0), (1, .d (.int .i64 (↑n : Int))), (37, .ptr 0 0 0), (38, .ptr 0 0 0), (39, .ptr 0 0 0), (40, .row 1), (41, .d (.int .i64 (↑n : Int))), (42, .d (.int .i64 (IntKind.i64.wrap ((↑n : Int).tdiv 64)))), (43, .ptr 1 (IntKind.i64.wrap ((↑n : Int).tdiv 64)).toNat 0)]) (σ' := [.cells [.row 1], .row 1 (List.map w64 ws) true]) (by kernel_rfl) (by kernel_rfl) ?_
        refine Run.one (StepF.look (o := ((drawOf (cgo 43 [false, false] [.code B73]))[7]?).getD default) (v := .d (.int .u64 (↑y.toNat : Int))) [(.tmp 43)] (by kernel_rfl) rfl (by kernel_rfl) (by kernel_rfl) (by kernel_rfl) (by kernel_rfl) (by kernel_rfl) (fun tm' σ2 hv hr => ldRow_ok (t := 151) (x := (.tmp 43)) (l := 1) (i := (IntKind.i64.wrap ((↑n : Int).tdiv 64)).toNat) (s := 0) (sz := 1) (xs := List.map w64 ws) (mv := true) (d := w64 y) (v := .d (.int .u64 (↑y.toNat : Int))) (by kernel_rfl) (by rw [hv _ (by simp)]; kernel_rfl) ((hr _ (inK_iff.1 (by kernel_rfl))).trans (by kernel_rfl)) (map_get hy) (by kernel_rfl))) ?_
        refine Run.asP (tm' := mk 50 [(0, .ptr 0 0 0), (1, .d (.int .i64 (↑n : Int))), (37, .ptr 0 0 0), (38, .ptr 0 0 0), (39, .ptr 0 0 0), (40, .row 1), (41, .d (.int .i64 (↑n : Int))), (42, .d (.int .i64 (IntKind.i64.wrap ((↑n : Int).tdiv 64)))), (43, .ptr 1 (IntKind.i64.wrap ((↑n : Int).tdiv 64)).toNat 0), (44, .d (.int .u64 (↑y.toNat : Int)))]) (σ' := [.cells [.row 1], .row 1 (List.map w64 ws) true]) (by kernel_rfl) (by kernel_rfl) ?_
        refine Run.append (A := [8, 9, 10, 11]) (srunF_ok (tm' := mk 50 [(0, .ptr 0 0 0), (1, .d (.int .i64 (↑n : Int))), (37, .ptr 0 0 0), (38, .ptr 0 0 0), (39, .ptr 0 0 0), (40, .row 1), (41, .d (.int .i64 (↑n : Int))), (42, .d (.int .i64 (IntKind.i64.wrap ((↑n : Int).tdiv 64)))), (43, .ptr 1 (IntKind.i64.wrap ((↑n : Int).tdiv 64)).toNat 0), (44, .d (.int .u64 (↑y.toNat : Int))), (45, .d (.int .i64 (↑n : Int))), (46, .d (.int .i64 ((↑n : Int).tmod 64))), (47, .d (.int .u64 (IntKind.u64.wrap (1 * 2 ^ min ((↑n : Int).tmod 64).toNat IntKind.u64.bits)))), (48, .d (.int .u64 (IntKind.u64.wrap (↑(BitVec.ofInt IntKind.u64.bits (↑y.toNat : Int) ||| BitVec.ofInt IntKind.u64.bits (IntKind.u64.wrap (1 * 2 ^ min ((↑n : Int).tmod 64).toNat IntKind.u64.bits))).toNat : Int))))]) (σ' := [.cells [.row 1], .row 1 (List.map w64 ws) true]) (by kernel_rfl)) ?_
        refine Run.one (StepF.look (o := ((drawOf (cgo 43 [false, false] [.code B73]))[12]?).getD default) (v := .ptr 1 (IntKind.i64.wrap ((↑n : Int).tdiv 64)).toNat 0) [(.tmp 40), (.tmp 42)] (by kernel_rfl) rfl (by kernel_rfl) (by kernel_rfl) (by kernel_rfl) (by kernel_rfl) (by kernel_rfl) (fun tm' σ2 hv hr => ixRow_ok (t := 124) (x := (.tmp 40)) (i := (.tmp 42)) (k := IntKind.i64) (n := IntKind.i64.wrap ((↑n : Int).tdiv 64)) (l := 1) (sz := 1) (xs := List.map w64 ws) (mv := true) (by kernel_rfl) (by rw [hv _ (by simp)]; kernel_rfl) (by rw [hv _ (by simp)]; kernel_rfl) ((hr _ (inK_iff.1 (by kernel_rfl))).trans (by kernel_rfl)) (by kernel_rfl) (by omega) (by simp at * <;> omega))) ?_
        refine Run.asP (tm' := mk 50 [(0, .ptr 0 0 0), (1, .d (.int .i64 (↑n : Int))), (37, .ptr 0 0 0), (38, .ptr 0 0 0), (39, .ptr 0 0 0), (40, .row 1), (41, .d (.int .i64 (↑n : Int))), (42, .d (.int .i64 (IntKind.i64.wrap ((↑n : Int).tdiv 64)))), (43, .ptr 1 (IntKind.i64.wrap ((↑n : Int).tdiv 64)).toNat 0), (44, .d (.int .u64 (↑y.toNat : Int))), (45, .d (.int .i64 (↑n : Int))), (46, .d (.int .i64 ((↑n : Int).tmod 64))), (47, .d (.int .u64 (IntKind.u64.wrap (1 * 2 ^ min ((↑n : Int).tmod 64).toNat IntKind.u64.bits)))), (48, .d (.int .u64 (IntKind.u64.wrap (↑(BitVec.ofInt IntKind.u64.bits (↑y.toNat : Int) ||| BitVec.ofInt IntKind.u64.bits (IntKind.u64.wrap (1 * 2 ^ min ((↑n : Int).tmod 64).toNat IntKind.u64.bits))).toNat : Int)))), (49, .ptr 1 (IntKind.i64.wrap ((↑n : Int).tdiv 64)).toNat 0)]) (σ' := [.cells [.row 1], .row 1 (List.map w64 ws) true]) (by kernel_rfl) (by kernel_rfl) ?_
        refine Run.one (StepF.sets (o := ((drawOf (cgo 43 [false, false] [.code B73]))[13]?).getD default) (v := .undef) [(.tmp 49), (.tmp 48)] 1 (.row 1 ((List.map w64 ws).set (IntKind.i64.wrap ((↑n : Int).tdiv 64)).toNat (D.int IntKind.u64 (IntKind.u64.wrap (↑(BitVec.ofInt IntKind.u64.bits (↑y.toNat : Int) ||| BitVec.ofInt IntKind.u64.bits (IntKind.u64.wrap (1 * 2 ^ min ((↑n : Int).tmod 64).toNat IntKind.u64.bits))).toNat : Int)))) true) (by kernel_rfl) rfl (by kernel_rfl) (by kernel_rfl) (by kernel_rfl) (by kernel_rfl) (by kernel_rfl) (fun tm' σ2 hv hr => stRow_ok (t := 151) (x := (.tmp 49)) (y := (.tmp 48)) (l := 1) (i := (IntKind.i64.wrap ((↑n : Int).tdiv 64)).toNat) (s := 0) (sz := 1) (xs := List.map w64 ws) (mv := true) (d := w64 y) (d' := D.int IntKind.u64 (IntKind.u64.wrap (↑(BitVec.ofInt IntKind.u64.bits (↑y.toNat : Int) ||| BitVec.ofInt IntKind.u64.bits (IntKind.u64.wrap (1 * 2 ^ min ((↑n : Int).tmod 64).toNat IntKind.u64.bits))).toNat : Int))) (by kernel_rfl) (by rw [hv _ (by simp)]; kernel_rfl) ((hr _ (inK_iff.1 (by kernel_rfl))).trans (by kernel_rfl)) (map_get hy) (by unfold storeE; rw [hv _ (by simp)]; kernel_rfl))) ?_
        refine Run.asP (tm' := mk 50 [(0, .ptr 0 0 0), (1, .d (.int .i64 (↑n : Int))), (37, .ptr 0 0 0), (38, .ptr 0 0 0), (39, .ptr 0 0 0), (40, .row 1), (41, .d (.int .i64 (↑n : Int))), (42, .d (.int .i64 (IntKind.i64.wrap ((↑n : Int).tdiv 64)))), (43, .ptr 1 (IntKind.i64.wrap ((↑n : Int).tdiv 64)).toNat 0), (44, .d (.int .u64 (↑y.toNat : Int))), (45, .d (.int .i64 (↑n : Int))), (46, .d (.int .i64 ((↑n : Int).tmod 64))), (47, .d (.int .u64 (IntKind.u64.wrap (1 * 2 ^ min ((↑n : Int).tmod 64).toNat IntKind.u64.bits)))), (48, .d (.int .u64 (IntKind.u64.wrap (↑(BitVec.ofInt IntKind.u64.bits (↑y.toNat : Int) ||| BitVec.ofInt IntKind.u64.bits (IntKind.u64.wrap (1 * 2 ^ min ((↑n : Int).tmod 64).toNat IntKind.u64.bits))).toNat : Int)))), (49, .ptr 1 (IntKind.i64.wrap ((↑n : Int).tdiv 64)).toNat 0)]) (σ' := [.cells [.row 1], .row 1 ((List.map w64 ws).set (IntKind.i64.wrap ((↑n : Int).tdiv 64)).toNat (D.int IntKind.u64 (IntKind.u64.wrap (↑(BitVec.ofInt IntKind.u64.bits (↑y.toNat : Int) ||| BitVec.ofInt IntKind.u64.bits (IntKind.u64.wrap (1 * 2 ^ min ((↑n : Int).tmod 64).toNat IntKind.u64.bits))).toNat : Int)))) true]) (by kernel_rfl) (by kernel_rfl) ?_
        exact srunF_ok (by kernel_rfl)
      refine .seg 4 [4] (T' := cgo 48 [false, false] [.code B73]) (tm' := mk 50 [(4, .d (.bool true))]) (σ' := [.cells [.row 1], .row 1 ((List.map w64 ws).set (IntKind.i64.wrap ((↑n : Int).tdiv 64)).toNat (D.int IntKind.u64 (IntKind.u64.wrap (↑(BitVec.ofInt IntKind.u64.bits (↑y.toNat : Int) ||| BitVec.ofInt IntKind.u64.bits (IntKind.u64.wrap (1 * 2 ^ min ((↑n : Int).tmod 64).toNat IntKind.u64.bits))).toNat : Int)))) true]) (by kernel_rfl) ?_
      simp (disch := omega) only [wrap_i64, wrap_u64s, wrap_u32s, wrap_u8s, wrap_i32s, iadd_i64, isub_i64, irem_n, iquo_n, tdiv_nn, tmod_nn]
      refine .retH F73 (v := V.d (D.bool true)) (by kernel_rfl) (by kernel_rfl) ?_
      have e1 : (n : Int) % 64 = ((n % 64 : Nat) : Int) := by omega
      have e2 : ((n : Int) / 64).toNat = n / 64 := by omega
      have e3 : ior .u64 (y.toNat : Int) (ishl .u64 1 ((n % 64 : Nat) : Int)) = ((y ||| (1#64 <<< (n % 64))).toNat : Int) := by rw [ishl_u64 _ (Nat.mod_lt _ (by omega)), ior_u64]
      rw [hq, Int.toNat_natCast] at hy
      rw [e1, e2]
      change _ ∧ [O.cells [V.row 1], O.row 1 ((List.map w64 ws).set (n / 64) (D.int .u64 (ior .u64 (y.toNat : Int) (ishl .u64 1 ((n % 64 : Nat) : Int))))) true] = _
      rw [e3]
      have e4 : ws.getD (n / 64) 0#64 = y := by rw [List.getD_eq_getElem?_getD, hy]; rfl
      refine ⟨rfl, ?_⟩
      rw [List.replicate_zero, List.append_nil]
      unfold bitsSet
      rw [e4, List.map_set]
      rfl
  | succ m ih =>
    intro ws mv hm hw
    refine .seg 12 [0, 1, 20, 21, 22, 23, 24, 25, 26, 27] (T' := cgo 40 [false] [.code B73]) (tm' := mk 50 [(0, .ptr 0 0 0), (1, .d (.int .i64 (↑n : Int))), (20, .ptr 0 0 0), (21, .ptr 0 0 0), (22, .ptr 0 0 0), (23, .row 1), (24, .d (.int .i64 (↑(List.map w64 ws).length : Int))), (25, .d (.int .i64 (↑n : Int))), (26, .d (.int .i64 (IntKind.i64.wrap ((↑n : Int).tdiv 64)))), (27, .d (.bool (decide ((↑(List.map w64 ws).length : Int) ≤ IntKind.i64.wrap ((↑n : Int).tdiv 64)))))]) (σ' := [.cells [.row 1], .row 1 (List.map w64 ws) mv]) (by kernel_rfl) ?_
    simp only [List.length_map]
    simp (disch := omega) only [wrap_i64, wrap_u64s, wrap_u32s, wrap_u8s, wrap_i32s, iadd_i64, isub_i64, irem_n, iquo_n, tdiv_nn, tmod_nn]
    refine .ifH (b := decide ((↑ws.length : Int) ≤ (↑n : Int) / 64)) (by kernel_rfl) (by kernel_rfl) (T1 := cgo 41 [false, true] [Item.code B73]) (T2 := cgo 41 [false, false] [Item.code B73]) (by kernel_rfl) (by kernel_rfl) (fun h1 => ?_) (fun h1 => ?_)
    · simp only [decide_eq_true_eq, decide_eq_false_iff_not, beq_iff_eq, bne_iff_ne, beq_eq_false_iff_ne, bne_eq_false_iff_eq, Bool.not_eq_true', Bool.not_eq_false', ne_eq, Decidable.not_not, Bool.not_eq_true, Bool.not_eq_false] at h1
      refine .seg 9 [0, 1, 20, 21, 22, 23, 24, 25, 26, 27, 28, 29, 30, 31, 32, 33] (T' := cgo 50 [false, true] [.code B73]) (tm' := mk 50 [(0, .ptr 0 0 0), (1, .d (.int .i64 (↑n : Int))), (20, .ptr 0 0 0), (21, .ptr 0 0 0), (22, .ptr 0 0 0), (23, .row 1), (24, .d (.int .i64 (↑ws.length : Int))), (25, .d (.int .i64 (↑n : Int))), (26, .d (.int .i64 ((↑n : Int) / 64))), (27, .d (.bool (decide ((↑ws.length : Int) ≤ (↑n : Int) / 64)))), (28, .ptr 0 0 0), (29, .ptr 0 0 0), (30, .ptr 0 0 0), (31, .ptr 0 0 0), (32, .row 1), (33, .row 2)]) (σ' := [.cells [.row 1], .row 1 (List.map w64 ws) mv, .row 1 [D.int IntKind.u64 0] false]) (by kernel_rfl) ?_
      refine .opH (o := (opOf (cgo 50 [false, true] [.code B73])).getD default) (by kernel_rfl) (by kernel_rfl) (by kernel_rfl) (T' := cgo 51 [false, true] [.code B73]) (by kernel_rfl) (appRow_ok (s := (.tmp 32)) (x := (.tmp 33)) (t := 124) (t2 := 124) (sz := 1) (by' := 8) (ys := [D.int IntKind.u64 0]) (l := 1) (xs := List.map w64 ws) (mv := mv) (by kernel_rfl) (by kernel_rfl) (by kernel_rfl) (by kernel_rfl) (by kernel_rfl) (by kernel_rfl) (by simp <;> omega) (by first | (simp [maxLen] <;> omega) | omega)) ?_
      refine .seg 5 [0, 1, 20, 21, 22, 24, 25, 26, 27, 28, 29, 30, 31, 33, 34, 35, 36] (T' := cgo 56 [false, true] [.code B73]) (tm' := mk 50 [(0, .ptr 0 0 0), (1, .d (.int .i64 (↑n : Int))), (20, .ptr 0 0 0), (21, .ptr 0 0 0), (22, .ptr 0 0 0), (24, .d (.int .i64 (↑ws.length : Int))), (25, .d (.int .i64 (↑n : Int))), (26, .d (.int .i64 ((↑n : Int) / 64))), (27, .d (.bool (decide ((↑ws.length : Int) ≤ (↑n : Int) / 64)))), (28, .ptr 0 0 0), (29, .ptr 0 0 0), (30, .ptr 0 0 0), (31, .ptr 0 0 0), (33, .row 2), (34, .row 1), (35, .ptr 0 0 0), (36, .ptr 0 0 0)]) (σ' := [.cells [.row 1], .row 1 (List.map w64 ws ++ [D.int IntKind.u64 0]) true, .row 1 [D.int IntKind.u64 0] false]) (by kernel_rfl) ?_
      rw [show List.map w64 ws ++ [D.int IntKind.u64 0] = List.map w64 (ws ++ [0#64]) by simp [w64]]
      refine .keeps [0, 1] (tm' := mk 50 [(0, .ptr 0 0 0), (1, .d (.int .i64 (n : Nat)))]) (by kernel_rfl) ?_
      refine .sub [0, 1] (mk 50 [(0, .ptr 0 0 0), (1, .d (.int .i64 (n : Nat)))]) [.cells [.row 1], .row 1 ((ws ++ [0#64]).map w64) true] none [] ⟨rfl, rfl, by kernel_rfl⟩ (by kernel_rfl) ⟨Nat.le_of_ble_eq_true (by kernel_rfl), by kernel_rfl⟩ (by kernel_rfl) ⟨by kernel_rfl, by kernel_rfl⟩ ⟨rfl, rfl⟩ ?_
      refine AW.mono (.seg 1 [0, 1] (by kernel_rfl) (ih (ws ++ [0#64]) true (by simp; omega) (by simp; omega))) ?_
      rintro r σ' ⟨rfl, rfl⟩
      exact ⟨rfl, by rw [List.append_assoc]; rfl⟩
    · simp only [decide_eq_true_eq, decide_eq_false_iff_not, beq_iff_eq, bne_iff_ne, beq_eq_false_iff_ne, bne_eq_false_iff_eq, Bool.not_eq_true', Bool.not_eq_false', ne_eq, Decidable.not_not, Bool.not_eq_true, Bool.not_eq_false] at h1
      omega
theorem spec_73 (ws : List (BitVec 64)) (n : Nat) (hn : n < 65536) (hw : ws.length < 900000000) : CallsA Try.prog 73 [.ptr 0 0 0, .d (.int .i64 (n : Nat))] [.cells [.row 1], .row 1 (ws.map w64) false] fun r σ' => r = .ret (.d (.bool (!bitsHas ws n))) ∧ σ' = [.cells [.row 1], .row 1 ((bitsPut ws n).map w64) true] := by
  refine CallsA.start F73 (tm := mk (Try.f73.ntmps) [(0, .ptr 0 0 0), (1, .d (.int .i64 (n : Nat)))]) (by kernel_rfl) ?_
  refine .seg 18 [0, 1, 4, 5, 6, 7, 8, 9, 10, 11, 12, 13, 14, 15] (T' := cgo 18 [] [.code B73]) (tm' := mk 50 [(0, .ptr 0 0 0), (1, .d (.int .i64 (↑n : Int))), (4, .d (.bool false)), (5, .ptr 0 0 0), (6, .d (.bool false)), (7, .d (.bool false)), (8, .d (.int .i64 (↑n : Int))), (9, .d (.bool false)), (10, .d (.bool false)), (11, .d (.bool false)), (12, .d (.int .i64 (↑n : Int))), (13, .d (.bool (decide ((↑n : Int) ≥ 65536)))), (14, .d (.bool (decide ((↑n : Int) ≥ 65536)))), (15, .d (.bool (decide ((↑n : Int) ≥ 65536))))]) (σ' := [.cells [.row 1], .row 1 (List.map w64 ws) false]) (by kernel_rfl) ?_
  rcases Bool.eq_false_or_eq_true (decide ((↑n : Int) ≥ 65536)) with h1 | h1
  · rw [h1]
    simp only [decide_eq_true_eq, decide_eq_false_iff_not, beq_iff_eq, bne_iff_ne, beq_eq_false_iff_ne, bne_eq_false_iff_eq, Bool.not_eq_true', Bool.not_eq_false', ne_eq, Decidable.not_not, Bool.not_eq_true, Bool.not_eq_false] at h1
    omega
  · rw [h1]
    simp only [decide_eq_true_eq, decide_eq_false_iff_not, beq_iff_eq, bne_iff_ne, beq_eq_false_iff_ne, bne_eq_false_iff_eq, Bool.not_eq_true', Bool.not_eq_false', ne_eq, Decidable.not_not, Bool.not_eq_true, Bool.not_eq_false] at h1
    refine .seg 2 [0, 1, 4, 5, 6, 7, 8, 9, 10, 11, 12, 13, 14, 15, 16, 17] (T' := cgo 20 [] [.code B73]) (tm' := mk 50 [(0, .ptr 0 0 0), (1, .d (.int .i64 (↑n : Int))), (4, .d (.bool false)), (5, .ptr 0 0 0), (6, .d (.bool false)), (7, .d (.bool false)), (8, .d (.int .i64 (↑n : Int))), (9, .d (.bool false)), (10, .d (.bool false)), (11, .d (.bool false)), (12, .d (.int .i64 (↑n : Int))), (13, .d (.bool false)), (14, .d (.bool false)), (15, .d (.bool false)), (16, .ptr 0 0 0), (17, .d (.int .i64 (↑n : Int)))]) (σ' := [.cells [.row 1], .row 1 (List.map w64 ws) false]) (by kernel_rfl) ?_
    refine .callH (o := (opOf (cgo 20 [] [.code B73])).getD default) (x := (.func 74)) (args := #[(.tmp 16), (.tmp 17)]) (ts := #[123, 3]) (first := []) (cap := []) [0, 1] [.ptr 0 0 0, .d (.int .i64 (↑n : Int))] [.cells [.row 1], .row 1 (List.map w64 ws) false] F74 (@spec_74 (ws) (n) (by omega) (by omega)) (by kernel_rfl) (by kernel_rfl) (T' := cgo 21 [] [.code B73]) (by kernel_rfl) (by kernel_rfl) (by kernel_rfl) (by kernel_rfl) (by kernel_rfl) ⟨rfl, rfl, by kernel_rfl⟩ ?_
    rintro r1 s1 ⟨rfl, rfl⟩
    refine ⟨_, rfl, ?_⟩
    refine .seg 2 [0, 1, 4, 19] (T' := cgo 23 [] [.code B73]) (tm' := mk 50 [(0, .ptr 0 0 0), (1, .d (.int .i64 (↑n : Int))), (4, .d (.bool false)), (19, .d (.bool (bitsHas ws n)))]) (σ' := [.cells [.row 1], .row 1 (List.map w64 ws) false]) (by kernel_rfl) ?_
    refine .ifH (b := bitsHas ws n) (by kernel_rfl) (by kernel_rfl) (T1 := cgo 24 [true] [Item.code B73]) (T2 := cgo 24 [false] [Item.code B73]) (by kernel_rfl) (by kernel_rfl) (fun h3 => ?_) (fun h3 => ?_)
    · refine .seg 4 [0, 1, 4] (T' := cgo 28 [true] [.code B73]) (tm' := mk 50 [(0, .ptr 0 0 0), (1, .d (.int .i64 (↑n : Int))), (4, .d (.bool false))]) (σ' := [.cells [.row 1], .row 1 (List.map w64 ws) false]) (by kernel_rfl) ?_
      refine .raise 1 rfl rfl ?_
      refine .retH F73 (v := V.d (D.bool false)) (by kernel_rfl) (by kernel_rfl) ?_
      simp_all [bitsPut]
    · refine .seg 3 [0, 1, 4] (T' := cgo 27 [false] [.code B73]) (tm' := mk 50 [(0, .ptr 0 0 0), (1, .d (.int .i64 (↑n : Int))), (4, .d (.bool false))]) (σ' := [.cells [.row 1], .row 1 (List.map w64 ws) false]) (by kernel_rfl) ?_
      refine AW.mono (.seg 1 [0, 1] (by kernel_rfl) (lo73 n hn (n / 64 + 1 - ws.length) ws false (by omega) (by omega))) ?_
      rintro r σ' ⟨rfl, rfl⟩
      simp_all [bitsPut]
theorem bitsHas_grow (ws : List (BitVec 64)) (k m : Nat) : bitsHas (ws ++ List.replicate k 0#64) m = bitsHas ws m := by
  unfold bitsHas
  congr 1
  rw [List.getD_eq_getElem?_getD, List.getD_eq_getElem?_getD]
  by_cases h : m / 64 < ws.length
  · rw [List.getElem?_append_left h]
  · rw [List.getElem?_append_right (by omega), List.getElem?_eq_none (show ws.length ≤ m / 64 by omega), List.getElem?_replicate]
    split <;> rfl
theorem bitsHas_set (ws : List (BitVec 64)) (n m : Nat) (h : n / 64 < ws.length) : bitsHas (bitsSet ws n) m = (m == n || bitsHas ws m) := by
  unfold bitsHas bitsSet
  rw [List.getD_eq_getElem?_getD, List.getElem?_set]
  by_cases h1 : n / 64 = m / 64
  · rw [if_pos h1, if_pos h, Option.getD_some, BitVec.getLsbD_or, BitVec.getLsbD_shiftLeft, h1]
    by_cases h2 : m = n
    · subst h2
      have : m % 64 < 64 := Nat.mod_lt _ (by omega)
      simp [this]
    · have h3 : m % 64 ≠ n % 64 := by omega
      have h4 : (m == n) = false := by simpa using h2
      rw [h4, Bool.false_or]
      rcases Nat.lt_or_ge (m % 64) (n % 64) with h5 | h5
      · simp [h5]
      · have : m % 64 - n % 64 ≠ 0 := by omega
        rw [BitVec.getLsbD_one]
        simp [this]
  · rw [if_neg h1]
    have h2 : m ≠ n := fun e => h1 (by rw [e])
    have h4 : (m == n) = false := by simpa using h2
    rw [h4, Bool.false_or, List.getD_eq_getElem?_getD]
theorem bitsHas_put (ws : List (BitVec 64)) (n m : Nat) : bitsHas (bitsPut ws n) m = (m == n || bitsHas ws m) := by
  unfold bitsPut
  split
  · rename_i h
    by_cases h2 : m = n
    · subst h2; simp [h]
    · simp [h2]
  · rw [bitsHas_set _ _ _ (by simp; omega), bitsHas_grow]
theorem bitsPut_len (ws : List (BitVec 64)) (n : Nat) (hn : n < 65536) (h : ws.length ≤ 1024) : (bitsPut ws n).length ≤ 1024 := by
  unfold bitsPut
  split
  · exact h
  · unfold bitsSet; simp; omega
end Go.Proofs.Ytoelkgbeefoplaa

namespace Go.Proofs.Ytoelkgbeefoplaa
open Go Go.Br Go.Proofs
set_option linter.unusedSimpArgs false
noncomputable def B75 : Code := (Try.f75.body).getD .skip
theorem F75 : Fnc Try.prog 75 Try.f75 B75 := ⟨Try.func75, by kernel_rfl, by kernel_rfl⟩
theorem spec_75 (bs : List UInt8) (s i : Nat) (keep : List Int) (hf : s ≤ bs.length ∧ bs.length ≤ 1048576) (hi : i < 1000000000) (hk : keep.length < 1000000000) (hkv : ∀ v ∈ keep, -9223372036854775808 ≤ v ∧ v < 9223372036854775808) :
    Br.Pure Try.prog 75 [.d (.agg [.list 1 (bs.map u8), .int .i64 (s : Nat)]), .d (.int .i64 (i : Nat)), .d (.list 1 (keep.map intD))] (.d (.int .i64 (leftOf (bs, s) i keep : Nat))) := by
  refine CallsA.start F75 (tm := mk (Try.f75.ntmps) [(0, .d (.agg [.list 1 (bs.map u8), .int .i64 (s : Nat)])), (1, .d (.int .i64 (i : Nat))), (2, .d (.list 1 (keep.map intD)))]) (by kernel_rfl) ?_
  have hf1 := hf.1
  have hf2 := hf.2
  by_cases hk0 : keep = []
  · subst hk0
    have e : leftOf (bs, s) i [] = s := by simp [leftOf]
    rw [e]
    refine .seg 19 [1, 2, 3, 6] (T' := cgo 19 [true] [.code B75]) (tm' := mk 32 [(1, .d (.int .i64 (↑i : Int))), (2, .d (.list 1 [])), (3, .ptr 0 0 0), (6, .d (.int .i64 (↑s : Int)))]) (σ' := [.cells [.d (.list 1 (List.map u8 bs)), .d (.int .i64 (↑s : Int))]]) (by kernel_rfl) ?_
    refine .keeps [6] (tm' := mk 32 [(6, .d (.int .i64 (↑s : Int)))]) (by kernel_rfl) ?_
    refine .sub [] (mk 32 [(6, .d (.int .i64 (↑s : Int)))]) [] none [] ⟨rfl, rfl, by kernel_rfl⟩ (by kernel_rfl) ⟨Nat.le_of_ble_eq_true (by kernel_rfl), by kernel_rfl⟩ (by kernel_rfl) ⟨by kernel_rfl, by kernel_rfl⟩ ⟨rfl, rfl⟩ ?_
    refine .retH F75 (v := V.d (D.int IntKind.i64 (↑s : Int))) (by kernel_rfl) (by kernel_rfl) ?_
    exact ⟨rfl, rfl⟩
  · have hpos : 0 < keep.length := List.length_pos_iff.2 hk0
    have hlt : i % keep.length < keep.length := Nat.mod_lt _ hpos
    have hq := irem_n i keep.length
    obtain ⟨v, hw⟩ := get_some (l := keep) (i := (irem (i : Int) ((List.map intD keep).length : Int)).toNat) (by rw [List.length_map, hq, Int.toNat_natCast]; exact hlt)
    have hvb := hkv v (List.mem_of_getElem? hw)
    refine .seg 12 [1, 2, 3, 6, 10] (T' := cgo 12 [] [.code B75]) (tm' := mk 32 [(1, .d (.int .i64 (↑i : Int))), (2, .d (.list 1 (List.map intD keep))), (3, .ptr 0 0 0), (6, .d (.int .i64 0)), (10, .d (.bool ((↑(List.map intD keep).length : Int) == 0)))]) (σ' := [.cells [.d (.list 1 (List.map u8 bs)), .d (.int .i64 (↑s : Int))]]) (by kernel_rfl) ?_
    simp only [List.length_map]
    refine .ifH (b := (↑keep.length : Int) == 0) (by kernel_rfl) (by kernel_rfl) (T1 := cgo 13 [true] [Item.code B75]) (T2 := cgo 13 [false] [Item.code B75]) (by kernel_rfl) (by kernel_rfl) (fun h1 => ?_) (fun h1 => ?_)
    · simp only [decide_eq_true_eq, decide_eq_false_iff_not, beq_iff_eq, bne_iff_ne, beq_eq_false_iff_ne, bne_eq_false_iff_eq, Bool.not_eq_true', Bool.not_eq_false', ne_eq, Decidable.not_not, Bool.not_eq_true, Bool.not_eq_false] at h1
      omega
    · simp only [decide_eq_true_eq, decide_eq_false_iff_not, beq_iff_eq, bne_iff_ne, beq_eq_false_iff_ne, bne_eq_false_iff_eq, Bool.not_eq_true', Bool.not_eq_false', ne_eq, Decidable.not_not, Bool.not_eq_true, Bool.not_eq_false] at h1
      refine .seg 12 [1, 2, 3, 6, 7] (T' := cgo 25 [false] [.code B75]) (tm' := mk 32 [(1, .d (.int .i64 (↑i : Int))), (2, .d (.list 1 (List.map intD keep))), (3, .ptr 0 0 0), (6, .d (.int .i64 0)), (7, .d (.int .i64 (IntKind.i64.wrap ((↑(List.map u8 bs).length : Int) - (↑s : Int)))))]) (σ' := [.cells [.d (.list 1 (List.map u8 bs)), .d (.int .i64 (↑s : Int))]]) (by kernel_rfl) ?_
      simp only [List.length_map]
      simp (disch := omega) only [wrap_i64, wrap_u64s, wrap_u32s, wrap_u8s, wrap_i32s, iadd_i64, isub_i64, irem_n, iquo_n, tdiv_nn, tmod_nn]
      refine .drawF (T' := cgo 26 [false] [.code B75]) (tm' := mk 32 [(1, .d (.int .i64 (↑i : Int))), (2, .d (.list 1 (List.map intD keep))), (3, .ptr 0 0 0), (6, .d (.int .i64 (IntKind.i64.wrap ((↑s : Int) + if (if (↑bs.length : Int) - (↑s : Int) < v then (↑bs.length : Int) - (↑s : Int) else v) > 0 then if (↑bs.length : Int) - (↑s : Int) < v then (↑bs.length : Int) - (↑s : Int) else v else 0)))), (7, .d (.int .i64 ((↑bs.length : Int) - (↑s : Int)))), (19, .ptr 0 0 1), (20, .d (.int .i64 (↑s : Int))), (21, .d (.list 1 (List.map intD keep))), (22, .d (.int .i64 (↑i : Int))), (23, .d (.list 1 (List.map intD keep))), (24, .d (.int .i64 (↑(List.map intD keep).length : Int))), (25, .d (.int .i64 (irem (↑i : Int) (↑(List.map intD keep).length : Int)))), (26, .ep 1 (D.int IntKind.i64 v) 0), (27, .d (.int .i64 v)), (28, .d (.int .i64 ((↑bs.length : Int) - (↑s : Int)))), (29, .d (.int .i64 (if (↑bs.length : Int) - (↑s : Int) < v then (↑bs.length : Int) - (↑s : Int) else v))), (30, .d (.int .i64 (if (if (↑bs.length : Int) - (↑s : Int) < v then (↑bs.length : Int) - (↑s : Int) else v) > 0 then if (↑bs.length : Int) - (↑s : Int) < v then (↑bs.length : Int) - (↑s : Int) else v else 0))), (31, .d (.int .i64 (IntKind.i64.wrap ((↑s : Int) + if (if (↑bs.length : Int) - (↑s : Int) < v then (↑bs.length : Int) - (↑s : Int) else v) > 0 then if (↑bs.length : Int) - (↑s : Int) < v then (↑bs.length : Int) - (↑s : Int) else v else 0))))]) (σ' := [.cells [.d (.list 1 (List.map u8 bs)), .d (.int .i64 (↑s : Int))]]) (by kernel_rfl) (by kernel_rfl) (by kernel_rfl) (by kernel_rfl) (fun kz L hL => ?_) ?_
      · refine ⟨[⟨[], [], [], [0], [0], [0], true, false⟩, ⟨[0], [], [], [], [0], [], true, false⟩, ⟨[], [], [], [], [], [], true, false⟩, ⟨[], [], [], [], [], [], true, false⟩, ⟨[], [], [], [], [], [], true, false⟩, ⟨[], [], [], [], [], [], true, false⟩, ⟨[], [], [], [], [], [], true, false⟩, ⟨[], [], [], [], [], [], true, false⟩, ⟨[], [], [], [], [], [], true, false⟩, ⟨[], [], [], [], [], [], true, false⟩, ⟨[], [], [], [], [], [], true, false⟩, ⟨[], [], [], [], [], [], true, false⟩, ⟨[], [], [], [], [], [], true, false⟩, ⟨[], [], [], [], [], [], true, false⟩], run_amongF hL _ [] [0, 1, 2, 3, 4, 9, 5, 6, 7, 8, 10, 11, 12, 13] (by intro p hp; cases hp) (by kernel_rfl) ?_⟩
        refine Run.append (A := [0, 1, 2, 3, 4, 9, 5]) (srunF_ok (tm' := mk 32 [(1, .d (.int .i64 (↑i : Int))), (2, .d (.list 1 (List.map intD keep))), (3, .ptr 0 0 0), (6, .d (.int .i64 0)), (7, .d (.int .i64 ((↑bs.length : Int) - (↑s : Int)))), (19, .ptr 0 0 1), (20, .d (.int .i64 (↑s : Int))), (21, .d (.list 1 (List.map intD keep))), (22, .d (.int .i64 (↑i : Int))), (23, .d (.list 1 (List.map intD keep))), (24, .d (.int .i64 (↑(List.map intD keep).length : Int))), (28, .d (.int .i64 ((↑bs.length : Int) - (↑s : Int))))]) (σ' := [.cells [.d (.list 1 (List.map u8 bs)), .d (.int .i64 (↑s : Int))]]) (by kernel_rfl)) ?_
        refine Run.one (StepF.look (o := ((drawOf (cgo 25 [false] [.code B75]))[6]?).getD default) (v := .d (.int .i64 (irem (↑i : Int) (↑(List.map intD keep).length : Int)))) [(.tmp 22), (.tmp 24)] (by kernel_rfl) rfl (by kernel_rfl) (by kernel_rfl) (by kernel_rfl) (by kernel_rfl) (by kernel_rfl) (fun tm' σ2 hv hr => rem_ok (t := 3) (ty := 3) (x := (.tmp 22)) (y := (.tmp 24)) (k := IntKind.i64) (a := (↑i : Int)) (b := (↑(List.map intD keep).length : Int)) (by kernel_rfl) (by rw [hv _ (by simp)]; kernel_rfl) (by rw [hv _ (by simp)]; kernel_rfl) (by simp <;> omega))) ?_
        refine Run.asP (tm' := mk 32 [(1, .d (.int .i64 (↑i : Int))), (2, .d (.list 1 (List.map intD keep))), (3, .ptr 0 0 0), (6, .d (.int .i64 0)), (7, .d (.int .i64 ((↑bs.length : Int) - (↑s : Int)))), (19, .ptr 0 0 1), (20, .d (.int .i64 (↑s : Int))), (21, .d (.list 1 (List.map intD keep))), (22, .d (.int .i64 (↑i : Int))), (23, .d (.list 1 (List.map intD keep))), (24, .d (.int .i64 (↑(List.map intD keep).length : Int))), (25, .d (.int .i64 (irem (↑i : Int) (↑(List.map intD keep).length : Int)))), (28, .d (.int .i64 ((↑bs.length : Int) - (↑s : Int))))]) (σ' := [.cells [.d (.list 1 (List.map u8 bs)), .d (.int .i64 (↑s : Int))]]) (by kernel_rfl) (by kernel_rfl) ?_
        refine Run.one (StepF.look (o := ((drawOf (cgo 25 [false] [.code B75]))[7]?).getD default) (v := .ep 1 (D.int IntKind.i64 v) 0) [(.tmp 21), (.tmp 25)] (by kernel_rfl) rfl (by kernel_rfl) (by kernel_rfl) (by kernel_rfl) (by kernel_rfl) (by kernel_rfl) (fun tm' σ2 hv hr => ixData_ok (t := 46) (x := (.tmp 21)) (i := (.tmp 25)) (k := IntKind.i64) (n := irem (↑i : Int) (↑(List.map intD keep).length : Int)) (sz := 1) (xs := List.map intD keep) (d := intD v) (by kernel_rfl) (by rw [hv _ (by simp)]; kernel_rfl) (by rw [hv _ (by simp)]; kernel_rfl) (by kernel_rfl) (by simp <;> omega) (map_get hw))) ?_
        refine Run.asP (tm' := mk 32 [(1, .d (.int .i64 (↑i : Int))), (2, .d (.list 1 (List.map intD keep))), (3, .ptr 0 0 0), (6, .d (.int .i64 0)), (7, .d (.int .i64 ((↑bs.length : Int) - (↑s : Int)))), (19, .ptr 0 0 1), (20, .d (.int .i64 (↑s : Int))), (21, .d (.list 1 (List.map intD keep))), (22, .d (.int .i64 (↑i : Int))), (23, .d (.list 1 (List.map intD keep))), (24, .d (.int .i64 (↑(List.map intD keep).length : Int))), (25, .d (.int .i64 (irem (↑i : Int) (↑(List.map intD keep).length : Int)))), (26, .ep 1 (D.int IntKind.i64 v) 0), (28, .d (.int .i64 ((↑bs.length : Int) - (↑s : Int))))]) (σ' := [.cells [.d (.list 1 (List.map u8 bs)), .d (.int .i64 (↑s : Int))]]) (by kernel_rfl) (by kernel_rfl) ?_
        exact srunF_ok (by kernel_rfl)
      refine .keeps [6] (tm' := mk 32 [(6, .d (.int .i64 (IntKind.i64.wrap ((↑s : Int) + if (if (↑bs.length : Int) - (↑s : Int) < v then (↑bs.length : Int) - (↑s : Int) else v) > 0 then if (↑bs.length : Int) - (↑s : Int) < v then (↑bs.length : Int) - (↑s : Int) else v else 0))))]) (by kernel_rfl) ?_
      refine .sub [] (mk 32 [(6, .d (.int .i64 (IntKind.i64.wrap ((↑s : Int) + if (if (↑bs.length : Int) - (↑s : Int) < v then (↑bs.length : Int) - (↑s : Int) else v) > 0 then if (↑bs.length : Int) - (↑s : Int) < v then (↑bs.length : Int) - (↑s : Int) else v else 0))))]) [] none [] ⟨rfl, rfl, by kernel_rfl⟩ (by kernel_rfl) ⟨Nat.le_of_ble_eq_true (by kernel_rfl), by kernel_rfl⟩ (by kernel_rfl) ⟨by kernel_rfl, by kernel_rfl⟩ ⟨rfl, rfl⟩ ?_
      refine .retH F75 (v := V.d (D.int IntKind.i64 (IntKind.i64.wrap ((↑s : Int) + if (if (↑bs.length : Int) - (↑s : Int) < v then (↑bs.length : Int) - (↑s : Int) else v) > 0 then if (↑bs.length : Int) - (↑s : Int) < v then (↑bs.length : Int) - (↑s : Int) else v else 0)))) (by kernel_rfl) (by kernel_rfl) ?_
      rw [List.length_map, hq, Int.toNat_natCast] at hw
      have e : (leftOf (bs, s) i keep : Int) = s + (min v ((bs.length : Int) - s)).toNat := by
        unfold leftOf
        rw [if_neg hk0, List.getD_eq_getElem?_getD, hw]
        simp
      refine ⟨?_, rfl⟩
      rw [e, wrap_i64 (by split <;> split <;> omega) (by split <;> split <;> omega)]
      congr 3
      split <;> split <;> omega
end Go.Proofs.Ytoelkgbeefoplaa

namespace Go.Proofs.Ytoelkgbeefoplaa
open Go Go.Br Go.Proofs
set_option linter.unusedSimpArgs false
noncomputable def B35 : Code := (Try.f35.body).getD .skip
theorem F35 : Fnc Try.prog 35 Try.f35 B35 := ⟨Try.func35, by kernel_rfl, by kernel_rfl⟩
theorem kfold_snoc : ∀ (cs : List (ByteArray × ByteArray × Int)) (c : ByteArray × ByteArray × Int) (p : List ByteArray × List Int), kfold (cs ++ [c]) p = kapply (kfold cs p).1 (kfold cs p).2 c.1 c.2.1 c.2.2
  | [], c, p => rfl
  | c' :: cs, c, p => by simp only [List.cons_append, kfold]; exact kfold_snoc cs c _
def SA (d : Dk) (dir : Int) (keep : List Int) (p : List ByteArray × List Int) : Store :=
  [.cells [.row 1, .ptr 2 0 0, .ep 2 (dirD d.sk d.sv) 0, .row 5, .d (.int .i64 d.quota), .d (.bool d.full), .d (.bool d.off), .d (.int .i64 d.stop), .d (.int .i64 d.calls)], .row 2 (d.files.map fileD) false, .cells [.row 3, .row 4], .row 1 (d.nk.map strD) false, .row 1 (d.nv.map intD) false, .row 3 (d.ch.map chD) false,
    .cells [.ptr 0 0 0], .cells [.d (.int .i64 dir), .d (.list 1 (keep.map intD))], .cells [.row 9, .row 10], .row 1 (p.1.map strD) true, .row 1 (p.2.map intD) true]
theorem loA (d : Dk) (N : Nat) (h : d.Ok N) (dir : Int) (keep : List Int) (K : Nat) (hK : K ≤ d.ch.length) (Q : AE → Store → Prop)
    (hnext : AW Try.prog 35 none 6 (cgo 34 [false, false] [Item.code B35]) (mk 133 [(2, .ptr 6 0 0), (3, .ptr 7 0 0), (4, .ptr 8 0 0)]) (SA d dir keep (kfold (d.ch.take K) (d.sk, d.sv))) [] Q) : ∀ (m i : Nat), i + m = K →
    AW Try.prog 35 none 6 (cgo 27 [false] [Item.code B35]) (mk 133 [(2, .ptr 6 0 0), (3, .ptr 7 0 0), (4, .ptr 8 0 0), (37, .sl 5 0 K none), (38, .d (.int .i64 (K : Nat))), (39, .d (.int .i64 (i : Nat)))]) (SA d dir keep (kfold (d.ch.take i) (d.sk, d.sv))) [] Q := by
  have q0 := h.chl
  have q4 := h.nb
  have q5 := h.skc
  intro m
  induction m with
  | zero =>
    intro i hi
    have hi : i = K := by omega
    subst hi
    refine .seg 5 [2, 3, 4, 37, 38, 39, 40] (T' := cgo 32 [false] [.code B35]) (tm' := mk 133 [(2, .ptr 6 0 0), (3, .ptr 7 0 0), (4, .ptr 8 0 0), (37, V.sl 5 0 i none), (38, .d (.int .i64 (↑i : Int))), (39, .d (.int .i64 (↑i : Int))), (40, .d (.bool (decide ((↑i : Int) < (↑i : Int)))))]) (σ' := (SP 1 2 d false [.cells [.ptr 0 0 0], .cells [.d (.int .i64 dir), .d (.list 1 (List.map intD keep))], .cells [.row 9, .row 10], .row 1 (List.map strD (kfold (List.take i d.ch) (d.sk, d.sv)).fst) true, .row 1 (List.map intD (kfold (List.take i d.ch) (d.sk, d.sv)).snd) true])) (by kernel_rfl) ?_
    refine .ifH (b := decide ((↑i : Int) < (↑i : Int))) (by kernel_rfl) (by kernel_rfl) (T1 := cgo 33 [false, true] [Item.code B35]) (T2 := cgo 33 [false, false] [Item.code B35]) (by kernel_rfl) (by kernel_rfl) (fun h1 => ?_) (fun h1 => ?_)
    · simp only [decide_eq_true_eq, decide_eq_false_iff_not, beq_iff_eq, bne_iff_ne, beq_eq_false_iff_ne, bne_eq_false_iff_eq, Bool.not_eq_true', Bool.not_eq_false', ne_eq, Decidable.not_not, Bool.not_eq_true, Bool.not_eq_false] at h1
      omega
    · simp only [decide_eq_true_eq, decide_eq_false_iff_not, beq_iff_eq, bne_iff_ne, beq_eq_false_iff_ne, bne_eq_false_iff_eq, Bool.not_eq_true', Bool.not_eq_false', ne_eq, Decidable.not_not, Bool.not_eq_true, Bool.not_eq_false] at h1
      refine .seg 1 [2, 3, 4] (T' := cgo 34 [false, false] [.code B35]) (tm' := mk 133 [(2, .ptr 6 0 0), (3, .ptr 7 0 0), (4, .ptr 8 0 0)]) (σ' := (SP 1 2 d false [.cells [.ptr 0 0 0], .cells [.d (.int .i64 dir), .d (.list 1 (List.map intD keep))], .cells [.row 9, .row 10], .row 1 (List.map strD (kfold (List.take i d.ch) (d.sk, d.sv)).fst) true, .row 1 (List.map intD (kfold (List.take i d.ch) (d.sk, d.sv)).snd) true])) (by kernel_rfl) ?_
      exact .goes [2, 3, 4] (by kernel_rfl) (by kernel_rfl) (by kernel_rfl) hnext
  | succ m ih =>
    intro i hi
    obtain ⟨c, hc⟩ := get_some (l := d.ch) (i := i) (by omega)
    obtain ⟨g1, g2, g3, g4⟩ := kfold_ok (n := d.files.length) (d.ch.take i) (d.sk, d.sv) h.sr h.sl h.sn (fun c hc => h.cn c (List.mem_of_mem_take hc))
    simp only [List.length_take] at g4
    have hc2 : kfold (d.ch.take (i + 1)) (d.sk, d.sv) = kapply (kfold (d.ch.take i) (d.sk, d.sv)).1 (kfold (d.ch.take i) (d.sk, d.sv)).2 c.1 c.2.1 c.2.2 := by
      obtain ⟨hlt, rfl⟩ := List.getElem?_eq_some_iff.1 hc
      rw [List.take_succ_eq_append_getElem hlt, kfold_snoc]
    have g5 : (kfold (d.ch.take i) (d.sk, d.sv)).1.length < 999990 := by omega
    have ihn := ih (i + 1) (by omega)
    rw [hc2] at ihn
    generalize kfold (d.ch.take i) (d.sk, d.sv) = p at *
    refine .seg 5 [2, 3, 4, 37, 38, 39, 40] (T' := cgo 32 [false] [.code B35]) (tm' := mk 133 [(2, .ptr 6 0 0), (3, .ptr 7 0 0), (4, .ptr 8 0 0), (37, V.sl 5 0 K none), (38, .d (.int .i64 (↑K : Int))), (39, .d (.int .i64 (↑i : Int))), (40, .d (.bool (decide ((↑i : Int) < (↑K : Int)))))]) (σ' := (SP 1 2 d false [.cells [.ptr 0 0 0], .cells [.d (.int .i64 dir), .d (.list 1 (List.map intD keep))], .cells [.row 9, .row 10], .row 1 (List.map strD p.fst) true, .row 1 (List.map intD p.snd) true])) (by kernel_rfl) ?_
    refine .ifH (b := decide ((↑i : Int) < (↑K : Int))) (by kernel_rfl) (by kernel_rfl) (T1 := cgo 33 [false, true] [Item.code B35]) (T2 := cgo 33 [false, false] [Item.code B35]) (by kernel_rfl) (by kernel_rfl) (fun h1 => ?_) (fun h1 => ?_)
    · simp only [decide_eq_true_eq, decide_eq_false_iff_not, beq_iff_eq, bne_iff_ne, beq_eq_false_iff_ne, bne_eq_false_iff_eq, Bool.not_eq_true', Bool.not_eq_false', ne_eq, Decidable.not_not, Bool.not_eq_true, Bool.not_eq_false] at h1
      refine .seg 5 [2, 3, 4, 37, 38, 39, 40] (T' := cgo 38 [false, true] [.code B35]) (tm' := mk 133 [(2, .ptr 6 0 0), (3, .ptr 7 0 0), (4, .ptr 8 0 0), (37, V.sl 5 0 K none), (38, .d (.int .i64 (↑K : Int))), (39, .d (.int .i64 (↑i : Int))), (40, .d (.bool (decide ((↑i : Int) < (↑K : Int)))))]) (σ' := (SP 1 2 d false [.cells [.ptr 0 0 0], .cells [.d (.int .i64 dir), .d (.list 1 (List.map intD keep))], .cells [.row 9, .row 10], .row 1 (List.map strD p.fst) true, .row 1 (List.map intD p.snd) true])) (by kernel_rfl) ?_
      refine .opH (o := (opOf (cgo 38 [false, true] [.code B35])).getD default) (by kernel_rfl) (by kernel_rfl) (by kernel_rfl) (T' := cgo 39 [false, true] [.code B35]) (by kernel_rfl) (ixSl0_ok (t := 106) (x := (.tmp 37)) (i := (.tmp 39)) (k := IntKind.i64) (n := (↑i : Int)) (l := 5) (len := K) (c := none) (sz := 3) (xs := List.map chD d.ch) (mv := false) (by kernel_rfl) (by kernel_rfl) (by kernel_rfl) (by kernel_rfl) (by kernel_rfl) (by omega) (by omega)) ?_
      refine .opH (o := (opOf (cgo 39 [false, true] [.code B35])).getD default) (by kernel_rfl) (by kernel_rfl) (by kernel_rfl) (T' := cgo 40 [false, true] [.code B35]) (by kernel_rfl) (ldRow_ok (t := 117) (x := (.tmp 41)) (l := 5) (i := (↑i : Int).toNat) (s := 0) (sz := 3) (xs := List.map chD d.ch) (mv := false) (d := chD c) (v := .d (.agg [D.str c.fst, D.str c.snd.fst, D.int IntKind.i64 c.snd.snd])) (by kernel_rfl) (by kernel_rfl) (by kernel_rfl) (map_get hc) (by kernel_rfl)) ?_
      refine .seg 6 [2, 3, 4, 6, 37, 38, 39, 40, 41, 42, 43, 44] (T' := cgo 46 [false, true] [.code B35]) (tm' := mk 133 [(2, .ptr 6 0 0), (3, .ptr 7 0 0), (4, .ptr 8 0 0), (6, .ptr 11 0 0), (37, V.sl 5 0 K none), (38, .d (.int .i64 (↑K : Int))), (39, .d (.int .i64 (↑i : Int))), (40, .d (.bool (decide ((↑i : Int) < (↑K : Int))))), (41, .ptr 5 (↑i : Int).toNat 0), (42, .d (.agg [D.str c.fst, D.str c.snd.fst, D.int IntKind.i64 c.snd.snd])), (43, .ptr 8 0 0), (44, .d (.agg [D.str c.fst, D.str c.snd.fst, D.int IntKind.i64 c.snd.snd]))]) (σ' := (SP 1 2 d false [.cells [.ptr 0 0 0], .cells [.d (.int .i64 dir), .d (.list 1 (List.map intD keep))], .cells [.row 9, .row 10], .row 1 (List.map strD p.fst) true, .row 1 (List.map intD p.snd) true, .cells [.d (.str c.fst), .d (.str c.snd.fst), .d (.int .i64 c.snd.snd)]])) (by kernel_rfl) ?_
      refine .callH (o := (opOf (cgo 46 [false, true] [.code B35])).getD default) (x := (.func 71)) (args := #[(.tmp 43), (.tmp 44)]) (ts := #[102, 117]) (first := []) (cap := []) [8, 9, 10] [.ptr 0 0 0, .d (.agg [D.str c.fst, D.str c.snd.fst, D.int IntKind.i64 c.snd.snd])] [.cells [.row 1, .row 2], .row 1 (List.map strD p.fst) false, .row 1 (List.map intD p.snd) false] F71 (@spec_71 (p.fst) (p.snd) (c.fst) (c.snd.fst) (c.snd.snd) (by assumption) (by assumption) (by assumption)) (by kernel_rfl) (by kernel_rfl) (T' := cgo 47 [false, true] [.code B35]) (by kernel_rfl) (by kernel_rfl) (by kernel_rfl) (by kernel_rfl) (by kernel_rfl) ⟨rfl, rfl, by kernel_rfl⟩ ?_
      rintro r1 s1 ⟨rfl, rfl⟩
      refine ⟨_, rfl, ?_⟩
      refine .seg 6 [2, 3, 4, 6, 37, 38, 39, 40, 41, 42, 43, 44, 46] (T' := cgo 53 [false, true] [.code B35]) (tm' := mk 133 [(2, .ptr 6 0 0), (3, .ptr 7 0 0), (4, .ptr 8 0 0), (6, .ptr 11 0 0), (37, V.sl 5 0 K none), (38, .d (.int .i64 (↑K : Int))), (39, .d (.int .i64 (IntKind.i64.wrap ((↑i : Int) + 1)))), (40, .d (.bool (decide ((↑i : Int) < (↑K : Int))))), (41, .ptr 5 (↑i : Int).toNat 0), (42, .d (.agg [D.str c.fst, D.str c.snd.fst, D.int IntKind.i64 c.snd.snd])), (43, .ptr 8 0 0), (44, .d (.agg [D.str c.fst, D.str c.snd.fst, D.int IntKind.i64 c.snd.snd])), (46, .d (.int .i64 (IntKind.i64.wrap ((↑i : Int) + 1))))]) (σ' := (SP 1 2 d false [.cells [.ptr 0 0 0], .cells [.d (.int .i64 dir), .d (.list 1 (List.map intD keep))], .cells [.row 9, .row 10], .row 1 (List.map strD (kapply p.fst p.snd c.fst c.snd.fst c.snd.snd).fst) true, .row 1 (List.map intD (kapply p.fst p.snd c.fst c.snd.fst c.snd.snd).snd) true, .cells [.d (.str c.fst), .d (.str c.snd.fst), .d (.int .i64 c.snd.snd)]])) (by kernel_rfl) ?_
      simp (disch := omega) only [wrap_i64, wrap_u64s, wrap_u32s, wrap_u8s, wrap_i32s, iadd_i64, isub_i64, irem_n, iquo_n, tdiv_nn, tmod_nn]
      refine .keeps [2, 3, 4, 37, 38, 39] (tm' := mk 133 [(2, .ptr 6 0 0), (3, .ptr 7 0 0), (4, .ptr 8 0 0), (37, .sl 5 0 K none), (38, .d (.int .i64 (K : Nat))), (39, .d (.int .i64 ((i + 1 : Nat) : Int)))]) (by kernel_rfl) ?_
      refine .sub [0, 1, 2, 3, 4, 5, 6, 7, 8, 9, 10] (mk 133 [(2, .ptr 6 0 0), (3, .ptr 7 0 0), (4, .ptr 8 0 0), (37, .sl 5 0 K none), (38, .d (.int .i64 (K : Nat))), (39, .d (.int .i64 ((i + 1 : Nat) : Int)))]) (SA d dir keep (kapply p.1 p.2 c.1 c.2.1 c.2.2)) none [] ⟨rfl, rfl, by kernel_rfl⟩ (by kernel_rfl) ⟨Nat.le_of_ble_eq_true (by kernel_rfl), by kernel_rfl⟩ (by kernel_rfl) ⟨by kernel_rfl, by kernel_rfl⟩ ⟨rfl, rfl⟩ ?_
      exact .seg 1 [2, 3, 4, 37, 38, 39] (by kernel_rfl) ihn
    · simp only [decide_eq_true_eq, decide_eq_false_iff_not, beq_iff_eq, bne_iff_ne, beq_eq_false_iff_ne, bne_eq_false_iff_eq, Bool.not_eq_true', Bool.not_eq_false', ne_eq, Decidable.not_not, Bool.not_eq_true, Bool.not_eq_false] at h1
      omega
end Go.Proofs.Ytoelkgbeefoplaa

