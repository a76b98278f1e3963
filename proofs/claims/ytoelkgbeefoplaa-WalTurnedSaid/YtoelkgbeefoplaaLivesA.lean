/- The document's examples: a walk of lives. -/
import Derived.Test.YtoelkgbeefoplaaPlainA
namespace Go.Proofs.Ytoelkgbeefoplaa
open Go Go.Br Go.Proofs

theorem _root_.Go.Br.AW.keepT {P : Program} {f : FuncId} {ro : Option Nat} {n : Nat} {T : List Item} {tm tm' : List V} {σ : Store} {df : List Nat} {Q : AE → Store → Prop} (l : List Nat) (ht : keep l tm = tm') (h : AW P f ro n T tm' σ df Q) : AW P f ro n T tm σ df Q :=
  .less (fun _ _ _ _ hr => by rw [← ht]; exact keep_rel hr) h
/-- The frame of 'ab'. -/
def fab : List UInt8 := frame [97, 98]
theorem fab_len : fab.length = 10 := by decide +kernel
theorem fab_0 : fab.getD 0 0 = 2 := by decide +kernel
theorem fab_4 : fab.getD 4 0 = 97 := by decide +kernel
theorem fab_parsed : parsed (fab ++ fab.take 5) = [[97, 98]] := by decide +kernel
theorem parsed_ab : Pure Try.prog 17 [.d (bsD (fab ++ fab.take 5))] (.tuple [.d (.list 1 [bsD [97, 98]]), .d (i64 10)]) := by
  have h := parse_pure (fab ++ fab.take 5) (by simp [fab_len])
  rw [fab_parsed] at h
  exact h
theorem rframe_data (bs : List UInt8) (hlen : bs.length ≤ 140737488355000) : Pure Try.prog 19 [.d (bsD bs)] (.d (bsD (frame bs))) := (rframe_pure bs hlen).view rfl

noncomputable def B21 : Code := (Try.f21.body).getD .skip
theorem F21 : Fnc Try.prog 21 Try.f21 B21 := ⟨Try.func21, by kernel_rfl, by kernel_rfl⟩
theorem lives_pure : Pure Try.prog 21 [] (.d (.bool true)) := by
  refine CallsA.pure ?_ rfl
  refine CallsA.start F21 (tm := (mk 59 [])) (by kernel_rfl) ?_
  refine .seg 7 [6] (T' := cgo 7 [] [.code B21]) (tm' := mk 59 [(6, .row 0)]) (σ' := [.row 1 [u8 97, u8 98] false]) (by kernel_rfl) ?_
  refine .convH (o := (opOf (cgo 7 [] [.code B21])).getD default) (t := 22) (e := 5) (x := .tmp 6) (l := 0) (sz := 1) (xs := [u8 97, u8 98]) (mv := false) (by kernel_rfl) (by kernel_rfl) (T' := (cgo 8 [] [.code B21])) (by kernel_rfl) (by kernel_rfl) (by kernel_rfl) (by kernel_rfl) (by kernel_rfl) rfl (by simp) ?_
  refine AW.keepT [7] (tm' := (mk 59 [(7, .d (bsD [97, 98]))])) (by kernel_rfl) ?_
  refine .sub [] ((mk 59 [(7, .d (bsD [97, 98]))])) [] none [] ⟨rfl, rfl, rfl⟩ rfl ⟨by simp, rfl⟩ rfl ⟨rfl, rfl⟩ ⟨rfl, rfl⟩ ?_
  refine .semH (o := (opOf (cgo 8 [] [.code B21])).getD default) (v := .tuple [.row 0, .d (i64 0)]) (σ' := [.row 1 (fab.map u8) false]) (by kernel_rfl) (by kernel_rfl) (T' := cgo 9 [] [.code B21]) (by kernel_rfl) (fun k => sem_data (x := .func 16) (args := #[.tmp 7]) (ts := #[22]) (first := []) (cap := []) F16 (frame_pure [97, 98] (by simp)) (by kernel_rfl) (by kernel_rfl) (by kernel_rfl) (by kernel_rfl) (by kernel_rfl) []) ?_
  refine .seg 7 [1, 2] (T' := cgo 16 [] [.code B21]) (tm' := mk 59 [(1, .row 0), (2, .d (.int .i64 (0)))]) (σ' := [.row 1 (fab.map u8) false]) (by kernel_rfl) ?_
  refine .freeze 0 (sz := 1) (xs := fab.map u8) (mv := false) rfl ?_
  refine .sub [] ((mk 59 [(1, .d (bsD fab)), (2, .d (.int .i64 (0)))])) [] none [] ⟨rfl, rfl, rfl⟩ rfl ⟨by simp, rfl⟩ rfl ⟨rfl, rfl⟩ ⟨rfl, rfl⟩ ?_
  have e5 : iquo .i64 ((fab.map u8).length : Nat) 2 = ((5 : Nat) : Int) := by rw [List.length_map, fab_len]; rfl
  refine .drawH (T' := (cgo 17 [] [.code B21])) (tm' := (mk 59 [(1, .d (bsD fab)), (2, .d (.int .i64 (0))), (3, .d (.list 1 [bsD [97, 98]])), (4, .d (.int .i64 (10))), (11, .tuple [.d (.list 1 [bsD [97, 98]]), .d (i64 10)]), (21, .tuple [.d (.list 1 [bsD [97, 98]]), .d (i64 10)]), (22, .d (.list 1 [bsD [97, 98]])), (23, .d (.int .i64 (10)))])) (σ' := []) [0, 0, 2, 0, 0, 0, 0, 0, 3, 3, 0, 0, 0, 0, 0] [0, 1, 2, 3, 4, 5, 6, 7, 8, 9, 10, 11, 12, 13, 14] (by kernel_rfl) (by kernel_rfl) (by kernel_rfl) (by kernel_rfl) (fun k => ?_) ?_
  · refine Run.one (StepQ.rule (o := ((drawOf (cgo 16 [] [.code B21]))[0]?).getD default) (v := .ex 1 []) [] (by kernel_rfl) (by kernel_rfl) (by kernel_rfl) (by kernel_rfl) (by kernel_rfl) (fun s tm' hv => build0_ok (t := 22) (e := 5) (sz := 1) (sz' := 1) (by kernel_rfl) (by kernel_rfl) (by kernel_rfl))) ?_
    refine Run.append (A := [1]) (srun_ok (tm' := (mk 59 [(1, .d (bsD fab)), (2, .d (.int .i64 (0))), (12, .ex 1 []), (13, .d (bsD fab))])) (σ' := []) (by kernel_rfl)) ?_
    refine Run.one (StepQ.any (o := ((drawOf (cgo 16 [] [.code B21]))[2]?).getD default) (v := .row 0) (σ' := [.row 1 ([] ++ fab.map u8) false]) (by kernel_rfl) (by kernel_rfl) (by kernel_rfl) (by kernel_rfl) (fun tm' hv => by
      have hv' := vals_at (xs := [.tmp 12, .tmp 13]) (by kernel_rfl) hv
      exact appEx_ok (s := .tmp 12) (x := .tmp 13) (t := 22) (t2 := 22) (sz := 1) (by' := 1) (xs := []) (ys := fab.map u8) (by kernel_rfl) ((hv' _ (by simp)).trans (by kernel_rfl)) (by rw [hv' _ (by simp)]; kernel_rfl) (by kernel_rfl) (by kernel_rfl) (by simp [fab_len]) (by simp [fab_len]) (by simp [fab_len, maxLen]))) ?_
    rw [List.nil_append]
    refine Run.append (A := [3, 4, 5, 6]) (srun_ok (tm' := (mk 59 [(1, .d (bsD fab)), (2, .d (.int .i64 (0))), (12, .ex 1 []), (13, .d (bsD fab)), (14, .row 0), (15, .d (bsD fab)), (16, .d (bsD fab)), (17, .d (.int .i64 (((fab.map u8).length : Nat)))), (18, .d (.int .i64 (iquo .i64 ((fab.map u8).length : Nat) 2)))])) (σ' := [.row 1 (fab.map u8) false]) (by kernel_rfl)) ?_
    rw [e5]
    refine Run.one (StepQ.rule (o := ((drawOf (cgo 16 [] [.code B21]))[7]?).getD default) (v := .d (.list 1 (((fab.map u8).take 5).drop 0))) [.tmp 15, .tmp 18] (by kernel_rfl) (by kernel_rfl) (by kernel_rfl) (by kernel_rfl) (by kernel_rfl) (fun s tm' hv => slData_ok (t := 22) (x := .tmp 15) (lo := none) (hi := some (.tmp 18)) (sz := 1) (xs := fab.map u8) 0 5 (by kernel_rfl) (by rw [hv _ (by simp)]; kernel_rfl) (by kernel_rfl) rfl ⟨.i64, ((5 : Nat) : Int), (hv _ (by simp)).trans (by kernel_rfl), Int.natCast_nonneg _, Int.toNat_natCast _⟩ (by omega) (by simp [fab_len]))) ?_
    rw [List.drop_zero, ← List.map_take]
    refine Run.one (s1 := ((mk 59 [(1, .d (bsD fab)), (2, .d (.int .i64 (0))), (20, .row 0)]), [.row 1 ((fab ++ fab.take 5).map u8) true])) (StepQ.all (by kernel_rfl) fun rest hn => .op (o := ((drawOf (cgo 16 [] [.code B21]))[8]?).getD default) (by kernel_rfl) (by kernel_rfl) (by kernel_rfl) (appRow_ok (s := .tmp 14) (x := .tmp 19) (t := 22) (t2 := 22) (l := 0) (sz := 1) (by' := 1) (xs := fab.map u8) (ys := (fab.take 5).map u8) (mv := false) (by kernel_rfl) (by kernel_rfl) (by kernel_rfl) (by kernel_rfl) (by kernel_rfl) (by kernel_rfl) (by simp [fab_len]) (by simp [fab_len, maxLen])) (by
      refine AW.keepT [1, 2, 20] (tm' := (mk 59 [(1, .d (bsD fab)), (2, .d (.int .i64 (0))), (20, .row 0)])) (by kernel_rfl) ?_
      rw [← List.map_append]
      exact hn)) ?_
    refine Run.one (s1 := ((mk 59 [(1, .d (bsD fab)), (2, .d (.int .i64 (0))), (21, .tuple [.d (.list 1 [bsD [97, 98]]), .d (i64 10)])]), [])) (StepQ.all (by kernel_rfl) fun rest hn => by
      refine .freeze 0 (sz := 1) (xs := (fab ++ fab.take 5).map u8) (mv := true) rfl ?_
      refine .sub [] ((mk 59 [(1, .d (bsD fab)), (2, .d (.int .i64 (0))), (20, .d (bsD (fab ++ fab.take 5)))])) [] none [] ⟨rfl, rfl, rfl⟩ rfl ⟨by simp, rfl⟩ rfl ⟨rfl, rfl⟩ ⟨rfl, rfl⟩ ?_
      refine .sem (o := ((drawOf (cgo 16 [] [.code B21]))[9]?).getD default) (v := .tuple [.d (.list 1 [bsD [97, 98]]), .d (i64 10)]) (σ' := []) (sem_data0 (x := .func 17) (args := #[.tmp 20]) (ts := #[22]) (first := []) (cap := []) (ds := [.d (bsD (fab ++ fab.take 5))]) F17 parsed_ab (by kernel_rfl) (by kernel_rfl) (by kernel_rfl) (by kernel_rfl) (by kernel_rfl) (by kernel_rfl) []) (by kernel_rfl) ?_
      refine AW.keepT [1, 2, 21] (tm' := (mk 59 [(1, .d (bsD fab)), (2, .d (.int .i64 (0))), (21, .tuple [.d (.list 1 [bsD [97, 98]]), .d (i64 10)])])) (by kernel_rfl) ?_
      exact hn) ?_
    exact srun_ok (by kernel_rfl)
  refine .seg 7 [1, 26, 28, 3, 4] (T' := cgo 24 [] [.code B21]) (tm' := mk 59 [(1, .d (bsD fab)), (26, .d (.bool (true))), (28, .d (.int .i64 (((fab.map u8).length : Nat)))), (3, .d (.list 1 [bsD [97, 98]])), (4, .d (.int .i64 (10)))]) (σ' := []) (by kernel_rfl) ?_
  rw [List.length_map, fab_len]
  refine .seg 4 [1, 31, 32, 3, 4] (T' := cgo 28 [] [.code B21]) (tm' := mk 59 [(1, .d (bsD fab)), (31, .d (.bool (true))), (32, .d (bsD fab)), (3, .d (.list 1 [bsD [97, 98]])), (4, .d (.int .i64 (10)))]) (σ' := []) (by kernel_rfl) ?_
  refine .opH (o := (opOf (cgo 28 [] [.code B21])).getD default) (by kernel_rfl) (by kernel_rfl) (by kernel_rfl) (T' := cgo 29 [] [.code B21]) (by kernel_rfl) (ixData_ok (t := 22) (x := .tmp 32) (i := .const (.int .i64 0)) (sz := 1) (xs := fab.map u8) (k := .i64) (n := ((0 : Nat) : Int)) (d := u8 (fab.getD 0 0)) (by kernel_rfl) (by kernel_rfl) (by kernel_rfl) (by kernel_rfl) (by omega) (u8s_getD (by rw [fab_len]; omega))) ?_
  rw [fab_0]
  refine .seg 5 [1, 37, 38, 3, 4] (T' := cgo 34 [] [.code B21]) (tm' := mk 59 [(1, .d (bsD fab)), (37, .d (.bool (true))), (38, .d (bsD fab)), (3, .d (.list 1 [bsD [97, 98]])), (4, .d (.int .i64 (10)))]) (σ' := []) (by kernel_rfl) ?_
  refine .opH (o := (opOf (cgo 34 [] [.code B21])).getD default) (by kernel_rfl) (by kernel_rfl) (by kernel_rfl) (T' := cgo 35 [] [.code B21]) (by kernel_rfl) (ixData_ok (t := 22) (x := .tmp 38) (i := .const (.int .i64 4)) (sz := 1) (xs := fab.map u8) (k := .i64) (n := ((4 : Nat) : Int)) (d := u8 (fab.getD 4 0)) (by kernel_rfl) (by kernel_rfl) (by kernel_rfl) (by kernel_rfl) (by omega) (u8s_getD (by rw [fab_len]; omega))) ?_
  rw [fab_4]
  refine .seg 10 [48, 49, 4] (T' := cgo 45 [] [.code B21]) (tm' := mk 59 [(48, .d (.bool (true))), (49, .d (.list 1 [bsD [97, 98]])), (4, .d (.int .i64 (10)))]) (σ' := []) (by kernel_rfl) ?_
  refine .opH (o := (opOf (cgo 45 [] [.code B21])).getD default) (by kernel_rfl) (by kernel_rfl) (by kernel_rfl) (T' := cgo 46 [] [.code B21]) (by kernel_rfl) (ixData_ok (t := 26) (x := .tmp 49) (i := .const (.int .i64 0)) (sz := 1) (xs := [bsD [97, 98]]) (k := .i64) (n := ((0 : Nat) : Int)) (d := bsD [97, 98]) (by kernel_rfl) (by kernel_rfl) (by kernel_rfl) (by kernel_rfl) (by omega) rfl) ?_
  refine .seg 1 [48, 51, 4] (T' := cgo 47 [] [.code B21]) (tm' := mk 59 [(48, .d (.bool (true))), (51, .d (bsD [97, 98])), (4, .d (.int .i64 (10)))]) (σ' := []) (by kernel_rfl) ?_
  refine .opH (o := (opOf (cgo 47 [] [.code B21])).getD default) (by kernel_rfl) (by kernel_rfl) (by kernel_rfl) (T' := cgo 48 [] [.code B21]) (by kernel_rfl) (bts_data (s := 22) (t := 9) (x := .tmp 51) (bs := [97, 98]) (by kernel_rfl) (by kernel_rfl) (by kernel_rfl) (by kernel_rfl)) ?_
  refine .seg 1 [48, 53, 4] (T' := cgo 49 [] [.code B21]) (tm' := mk 59 [(48, .d (.bool (true))), (53, .d (.bool (((strOf [97, 98]).toList == (strOf [97, 98]).toList)))), (4, .d (.int .i64 (10)))]) (σ' := []) (by kernel_rfl) ?_
  rw [strOf_eq, decide_eq_true rfl]
  refine .seg 7 [0] (T' := cgo 56 [] [.code B21]) (tm' := mk 59 [(0, .d (.bool (true)))]) (σ' := []) (by kernel_rfl) ?_
  exact .retH F21 (by kernel_rfl) (by kernel_rfl) rfl
end Go.Proofs.Ytoelkgbeefoplaa

