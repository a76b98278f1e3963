/- Texts of this proof, part 8: PlainA, LivesA, LawA, BackA, GlueC, Lib, SetsA, SetsB, SetsC. -/
import Derived.Ground.Names2Prog
import Derived.Shelf.Slices.Cells
import Derived.Shelf.Slices.Empties
import Derived.Shelf.Spec.SearchS
import Derived.Shelf.Spec.SlicesInsertGrow
import Derived.Test.YtoelkgbeefoplaaProg
import Derived.Test.YtoelkgbeefoplaaM7
set_option linter.unusedSimpArgs false
set_option linter.unusedVariables false
set_option linter.constructorNameAsVariable false
namespace Go.Proofs.Ytoelkgbeefoplaa
open Go Go.Br Go.Proofs
open List (map)
theorem or_shl (x y : BitVec 32) (k : Nat) (hx : x.toNat < 2 ^ k) (hy : y.toNat < 256) (hk : k + 8 ≤ 32) : (x ||| y <<< k).toNat = x.toNat + y.toNat * 2 ^ k := by
  rw [BitVec.toNat_or, BitVec.toNat_shiftLeft]
  have h1 : y.toNat <<< k < 2 ^ 32 := by
    rw [Nat.shiftLeft_eq]
    calc y.toNat * 2 ^ k < 256 * 2 ^ k := Nat.mul_lt_mul_of_pos_right hy (Nat.two_pow_pos k)
      _ = 2 ^ (k + 8) := by rw [Nat.pow_add, Nat.mul_comm]
      _ ≤ 2 ^ 32 := Nat.pow_le_pow_right (by omega) hk
  rw [Nat.mod_eq_of_lt h1, Nat.or_comm, ← Nat.shiftLeft_add_eq_or_of_lt hx, Nat.shiftLeft_eq, Nat.add_comm]
theorem zx_toNat (b : UInt8) : (zx b).toNat = b.toNat := by
  have := UInt8.toNat_lt b
  simp [zx]
theorem get4_toNat {bs : List UInt8} {k : Nat} (h : k + 4 ≤ bs.length) :
    (get4 bs k).toNat = (bs.getD k 0).toNat + (bs.getD (k + 1) 0).toNat * 256 + (bs.getD (k + 2) 0).toNat * 65536 + (bs.getD (k + 3) 0).toNat * 16777216 := by
  have h0 := UInt8.toNat_lt (bs.getD k 0)
  have h1 := UInt8.toNat_lt (bs.getD (k + 1) 0)
  have h2 := UInt8.toNat_lt (bs.getD (k + 2) 0)
  have h3 := UInt8.toNat_lt (bs.getD (k + 3) 0)
  have e0 : (0#32 ||| zx (bs.getD k 0) <<< 0).toNat = (bs.getD k 0).toNat := by simp [zx_toNat]
  have e1 := or_shl (0#32 ||| zx (bs.getD k 0) <<< 0) (zx (bs.getD (k + 1) 0)) 8 (by rw [e0]; omega) (by rw [zx_toNat]; omega) (by omega)
  rw [e0, zx_toNat] at e1
  have e2 := or_shl _ (zx (bs.getD (k + 2) 0)) 16 (by rw [e1]; omega) (by rw [zx_toNat]; omega) (by omega)
  rw [e1, zx_toNat] at e2
  have e3 := or_shl _ (zx (bs.getD (k + 3) 0)) 24 (by rw [e2]; omega) (by rw [zx_toNat]; omega) (by omega)
  rw [e2, zx_toNat] at e3
  rw [get4, if_pos h, e3]
theorem fits_iff (bs : List UInt8) : fits bs = (!(decide (bs.length < 8)) && !(decide ((bs.getD 3 0).toNat > 0)) && !(decide ((bs.getD 2 0).toNat > 1)) && !(decide (rlen bs > 65536)) && !(decide (bs.length < rlen bs + 8))) := by
  by_cases h4 : bs.length < 4
  · have h8 : bs.length < 8 := by omega
    simp [fits, h4, h8]
    omega
  · have hg := get4_toNat (bs := bs) (k := 0) (by omega)
    simp only [Nat.zero_add] at hg
    have h0 := UInt8.toNat_lt (bs.getD 0 0)
    have h1 := UInt8.toNat_lt (bs.getD 1 0)
    have h2 := UInt8.toNat_lt (bs.getD 2 0)
    have h3 := UInt8.toNat_lt (bs.getD 3 0)
    have hi := BitVec.toInt_eq_toNat_cond (get4 bs 0)
    rw [Bool.eq_iff_iff]
    simp only [fits, Bool.and_eq_true, decide_eq_true_eq, Bool.not_eq_true', decide_eq_false_iff_not]
    unfold rlen
    generalize (bs.getD 0 0).toNat = c0 at *
    generalize (bs.getD 1 0).toNat = c1 at *
    generalize (bs.getD 2 0).toNat = c2 at *
    generalize (bs.getD 3 0).toNat = c3 at *
    split at hi <;> omega
end Go.Proofs.Ytoelkgbeefoplaa
namespace Go.Proofs.Ytoelkgbeefoplaa
open Go Go.Br Go.Proofs
open List (map)
theorem _root_.Go.Br.AW.keepT {P : Program} {f : FuncId} {ro : Option Nat} {n : Nat} {T : List Item} {tm tm' : List V} {σ : Store} {df : List Nat} {Q : AE → Store → Prop} (l : List Nat) (ht : keep l tm = tm') (h : AW P f ro n T tm' σ df Q) : AW P f ro n T tm σ df Q :=
  .less (fun _ _ _ _ hr => by rw [← ht]; exact keep_rel hr) h
def fab : List UInt8 := frame [97, 98]
theorem fab_len : fab.length = 10 := by decide +kernel
theorem fab_0 : fab.getD 0 0 = 2 := by decide +kernel
theorem fab_4 : fab.getD 4 0 = 97 := by decide +kernel
theorem fab_parsed : parsed (fab ++ fab.take 5) = [[97, 98]] := by decide +kernel
theorem parsed_ab : Pure Try.prog 17 [.d (bsD (fab ++ fab.take 5))] (.tuple [.d (.list 1 [bsD [97, 98]]), .d (i64 10)]) := by
  have h := parse_pure (fab ++ fab.take 5) (by simp [fab_len])
  rw [fab_parsed] at h
  exact h
noncomputable def B21 : Code := (Try.f21.body).getD .skip
theorem F21 : Fnc Try.prog 21 Try.f21 B21 := ⟨Try.func21, by kernel_rfl, by kernel_rfl⟩
theorem lives_pure : Pure Try.prog 21 [] (.d (.bool true)) := by
  refine CallsA.pure ?_ rfl
  refine CallsA.start F21 (tm := (mk 59 [])) (by kernel_rfl) ?_
  refine .seg 7 [6] (T' := cgo 7 [] [.code B21]) (tm' := mk 59 [(6, .row 0)]) (σ' := [.row 1 [u8 97, u8 98] false]) (by kernel_rfl) ?_
  refine .convH (o := (opOf (cgo 7 [] [.code B21])).getD default) (t := 22) (e := 5) (x := .tmp 6) (l := 0) (sz := 1) (xs := [u8 97, u8 98]) (mv := false) (by kernel_rfl) (by kernel_rfl) (T' := (cgo 8 [] [.code B21])) (by kernel_rfl) (by kernel_rfl) (by kernel_rfl) (by kernel_rfl) (by kernel_rfl) rfl (by simp) ?_
  refine AW.keepT [7] (tm' := (mk 59 [(7, .d (bsD [97, 98]))])) (by kernel_rfl) ?_
  refine .sub [] ((mk 59 [(7, .d (bsD [97, 98]))])) [] none [] ⟨rfl, rfl, rfl⟩ rfl ⟨by simp, rfl⟩ rfl ⟨rfl, rfl⟩ ⟨rfl, rfl⟩ ?_
  refine .semH (o := (opOf (cgo 8 [] [.code B21])).getD default) (v := .tuple [.row 0, .d (i64 0)]) (σ' := [.row 1 (fab.map u8) false]) (by kernel_rfl) (by kernel_rfl) (T' := cgo 9 [] [.code B21]) (by kernel_rfl) (fun k => sem_data (x := .func 16) (args := #[.tmp 7]) (ts := #[22]) (first := []) (cap := []) F16 (frame_pure [97, 98] (by simp)) (by kernel_rfl) (by kernel_rfl) (by kernel_rfl) (by kernel_rfl) (by kernel_rfl) []) ?_
  refine .seg 7 [1, 2] (T' := cgo 16 [] [.code B21]) (tm' := mk 59 [(1, .row 0), (2, .d (.int .i64 (0)))]) (σ' := [.row 1 (fab.map u8) false]) (by kernel_rfl) ?_
  refine .freeze 0 (sz := 1) (xs := fab.map u8) (mv := false) rfl ?_
  refine .sub [] ((mk 59 [(1, .d (bsD fab)), (2, .d (.int .i64 (0)))])) [] none [] ⟨rfl, rfl, rfl⟩ rfl ⟨by simp, rfl⟩ rfl ⟨rfl, rfl⟩ ⟨rfl, rfl⟩ ?_
  have e5 : iquo .i64 ((fab.map u8).length : Nat) 2 = ((5 : Nat) : Int) := by rw [List.length_map, fab_len]; rfl
  refine .drawH (T' := (cgo 17 [] [.code B21])) (tm' := (mk 59 [(1, .d (bsD fab)), (2, .d (.int .i64 (0))), (3, .d (.list 1 [bsD [97, 98]])), (4, .d (.int .i64 (10))), (11, .tuple [.d (.list 1 [bsD [97, 98]]), .d (i64 10)]), (21, .tuple [.d (.list 1 [bsD [97, 98]]), .d (i64 10)]), (22, .d (.list 1 [bsD [97, 98]])), (23, .d (.int .i64 (10)))])) (σ' := []) [0, 0, 2, 0, 0, 0, 0, 0, 3, 3, 0, 0, 0, 0, 0] [0, 1, 2, 3, 4, 5, 6, 7, 8, 9, 10, 11, 12, 13, 14] (by kernel_rfl) (by kernel_rfl) (by kernel_rfl) (by kernel_rfl) (fun k => ?_) ?_
  · refine Run.one (StepQ.rule (o := ((drawOf (cgo 16 [] [.code B21]))[0]?).getD default) (v := .ex 1 []) [] (by kernel_rfl) (by kernel_rfl) (by kernel_rfl) (by kernel_rfl) (by kernel_rfl) (fun s tm' hv => build0_ok (t := 22) (e := 5) (sz := 1) (sz' := 1) (by kernel_rfl) (by kernel_rfl) (by kernel_rfl))) ?_
    refine Run.append (A := [1]) (srun_ok (tm' := (mk 59 [(1, .d (bsD fab)), (2, .d (.int .i64 (0))), (12, .ex 1 []), (13, .d (bsD fab))])) (σ' := []) (by kernel_rfl)) ?_
    refine Run.one (StepQ.any (o := ((drawOf (cgo 16 [] [.code B21]))[2]?).getD default) (v := .row 0) (σ' := [.row 1 ([] ++ fab.map u8) false]) (by kernel_rfl) (by kernel_rfl) (by kernel_rfl) (by kernel_rfl) (fun tm' hv => by
      have hv' := vals_at (xs := [.tmp 12, .tmp 13]) (by kernel_rfl) hv
      exact appEx_ok (s := .tmp 12) (x := .tmp 13) (t := 22) (t2 := 22) (sz := 1) (by' := 1) (xs := []) (ys := fab.map u8) (by kernel_rfl) ((hv' _ (by simp)).trans (by kernel_rfl)) (by rw [hv' _ (by simp)]; kernel_rfl) (by kernel_rfl) (by kernel_rfl) (by simp [fab_len]) (by simp [fab_len]) (by simp [fab_len, maxLen]))) ?_
    rw [List.nil_append]
    refine Run.append (A := [3, 4, 5, 6]) (srun_ok (tm' := (mk 59 [(1, .d (bsD fab)), (2, .d (.int .i64 (0))), (12, .ex 1 []), (13, .d (bsD fab)), (14, .row 0), (15, .d (bsD fab)), (16, .d (bsD fab)), (17, .d (.int .i64 (((fab.map u8).length : Nat)))), (18, .d (.int .i64 (iquo .i64 ((fab.map u8).length : Nat) 2)))])) (σ' := [.row 1 (fab.map u8) false]) (by kernel_rfl)) ?_
    rw [e5]
    refine Run.one (StepQ.rule (o := ((drawOf (cgo 16 [] [.code B21]))[7]?).getD default) (v := .d (.list 1 (((fab.map u8).take 5).drop 0))) [.tmp 15, .tmp 18] (by kernel_rfl) (by kernel_rfl) (by kernel_rfl) (by kernel_rfl) (by kernel_rfl) (fun s tm' hv => slData_ok (t := 22) (x := .tmp 15) (lo := none) (hi := some (.tmp 18)) (sz := 1) (xs := fab.map u8) 0 5 (by kernel_rfl) (by rw [hv _ (by simp)]; kernel_rfl) (by kernel_rfl) rfl ⟨.i64, ((5 : Nat) : Int), (hv _ (by simp)).trans (by kernel_rfl), Int.natCast_nonneg _, Int.toNat_natCast _⟩ (by omega) (by simp [fab_len]))) ?_
    rw [List.drop_zero, ← List.map_take]
    refine Run.one (s1 := ((mk 59 [(1, .d (bsD fab)), (2, .d (.int .i64 (0))), (20, .row 0)]), [.row 1 ((fab ++ fab.take 5).map u8) true])) (StepQ.all (by kernel_rfl) fun rest hn => .op (o := ((drawOf (cgo 16 [] [.code B21]))[8]?).getD default) (by kernel_rfl) (by kernel_rfl) (by kernel_rfl) (appRow_ok (s := .tmp 14) (x := .tmp 19) (t := 22) (t2 := 22) (l := 0) (sz := 1) (by' := 1) (xs := fab.map u8) (ys := (fab.take 5).map u8) (mv := false) (by kernel_rfl) (by kernel_rfl) (by kernel_rfl) (by kernel_rfl) (by kernel_rfl) (by kernel_rfl) (by simp [fab_len]) (by simp [fab_len, maxLen])) (by
      refine AW.keepT [1, 2, 20] (tm' := (mk 59 [(1, .d (bsD fab)), (2, .d (.int .i64 (0))), (20, .row 0)])) (by kernel_rfl) ?_
      rw [← List.map_append]
      exact hn)) ?_
    refine Run.one (s1 := ((mk 59 [(1, .d (bsD fab)), (2, .d (.int .i64 (0))), (21, .tuple [.d (.list 1 [bsD [97, 98]]), .d (i64 10)])]), [])) (StepQ.all (by kernel_rfl) fun rest hn => by
      refine .freeze 0 (sz := 1) (xs := (fab ++ fab.take 5).map u8) (mv := true) rfl ?_
      refine .sub [] ((mk 59 [(1, .d (bsD fab)), (2, .d (.int .i64 (0))), (20, .d (bsD (fab ++ fab.take 5)))])) [] none [] ⟨rfl, rfl, rfl⟩ rfl ⟨by simp, rfl⟩ rfl ⟨rfl, rfl⟩ ⟨rfl, rfl⟩ ?_
      refine .sem (o := ((drawOf (cgo 16 [] [.code B21]))[9]?).getD default) (v := .tuple [.d (.list 1 [bsD [97, 98]]), .d (i64 10)]) (σ' := []) (sem_data0 (x := .func 17) (args := #[.tmp 20]) (ts := #[22]) (first := []) (cap := []) (ds := [.d (bsD (fab ++ fab.take 5))]) F17 parsed_ab (by kernel_rfl) (by kernel_rfl) (by kernel_rfl) (by kernel_rfl) (by kernel_rfl) (by kernel_rfl) []) (by kernel_rfl) ?_
      refine AW.keepT [1, 2, 21] (tm' := (mk 59 [(1, .d (bsD fab)), (2, .d (.int .i64 (0))), (21, .tuple [.d (.list 1 [bsD [97, 98]]), .d (i64 10)])])) (by kernel_rfl) ?_
      exact hn) ?_
    exact srun_ok (by kernel_rfl)
  refine .seg 7 [1, 26, 28, 3, 4] (T' := cgo 24 [] [.code B21]) (tm' := mk 59 [(1, .d (bsD fab)), (26, .d (.bool (true))), (28, .d (.int .i64 (((fab.map u8).length : Nat)))), (3, .d (.list 1 [bsD [97, 98]])), (4, .d (.int .i64 (10)))]) (σ' := []) (by kernel_rfl) ?_
  rw [List.length_map, fab_len]
  refine .seg 4 [1, 31, 32, 3, 4] (T' := cgo 28 [] [.code B21]) (tm' := mk 59 [(1, .d (bsD fab)), (31, .d (.bool (true))), (32, .d (bsD fab)), (3, .d (.list 1 [bsD [97, 98]])), (4, .d (.int .i64 (10)))]) (σ' := []) (by kernel_rfl) ?_
  refine .opH (o := (opOf (cgo 28 [] [.code B21])).getD default) (by kernel_rfl) (by kernel_rfl) (by kernel_rfl) (T' := cgo 29 [] [.code B21]) (by kernel_rfl) (ixData_ok (t := 22) (x := .tmp 32) (i := .const (.int .i64 0)) (sz := 1) (xs := fab.map u8) (k := .i64) (n := ((0 : Nat) : Int)) (d := u8 (fab.getD 0 0)) (by kernel_rfl) (by kernel_rfl) (by kernel_rfl) (by kernel_rfl) (by omega) (u8s_getD (by rw [fab_len]; omega))) ?_
  rw [fab_0]
  refine .seg 5 [1, 37, 38, 3, 4] (T' := cgo 34 [] [.code B21]) (tm' := mk 59 [(1, .d (bsD fab)), (37, .d (.bool (true))), (38, .d (bsD fab)), (3, .d (.list 1 [bsD [97, 98]])), (4, .d (.int .i64 (10)))]) (σ' := []) (by kernel_rfl) ?_
  refine .opH (o := (opOf (cgo 34 [] [.code B21])).getD default) (by kernel_rfl) (by kernel_rfl) (by kernel_rfl) (T' := cgo 35 [] [.code B21]) (by kernel_rfl) (ixData_ok (t := 22) (x := .tmp 38) (i := .const (.int .i64 4)) (sz := 1) (xs := fab.map u8) (k := .i64) (n := ((4 : Nat) : Int)) (d := u8 (fab.getD 4 0)) (by kernel_rfl) (by kernel_rfl) (by kernel_rfl) (by kernel_rfl) (by omega) (u8s_getD (by rw [fab_len]; omega))) ?_
  rw [fab_4]
  refine .seg 10 [48, 49, 4] (T' := cgo 45 [] [.code B21]) (tm' := mk 59 [(48, .d (.bool (true))), (49, .d (.list 1 [bsD [97, 98]])), (4, .d (.int .i64 (10)))]) (σ' := []) (by kernel_rfl) ?_
  refine .opH (o := (opOf (cgo 45 [] [.code B21])).getD default) (by kernel_rfl) (by kernel_rfl) (by kernel_rfl) (T' := cgo 46 [] [.code B21]) (by kernel_rfl) (ixData_ok (t := 26) (x := .tmp 49) (i := .const (.int .i64 0)) (sz := 1) (xs := [bsD [97, 98]]) (k := .i64) (n := ((0 : Nat) : Int)) (d := bsD [97, 98]) (by kernel_rfl) (by kernel_rfl) (by kernel_rfl) (by kernel_rfl) (by omega) rfl) ?_
  refine .seg 1 [48, 51, 4] (T' := cgo 47 [] [.code B21]) (tm' := mk 59 [(48, .d (.bool (true))), (51, .d (bsD [97, 98])), (4, .d (.int .i64 (10)))]) (σ' := []) (by kernel_rfl) ?_
  refine .opH (o := (opOf (cgo 47 [] [.code B21])).getD default) (by kernel_rfl) (by kernel_rfl) (by kernel_rfl) (T' := cgo 48 [] [.code B21]) (by kernel_rfl) (bts_data (s := 22) (t := 9) (x := .tmp 51) (bs := [97, 98]) (by kernel_rfl) (by kernel_rfl) (by kernel_rfl) (by kernel_rfl)) ?_
  refine .seg 1 [48, 53, 4] (T' := cgo 49 [] [.code B21]) (tm' := mk 59 [(48, .d (.bool (true))), (53, .d (.bool (((strOf [97, 98]).toList == (strOf [97, 98]).toList)))), (4, .d (.int .i64 (10)))]) (σ' := []) (by kernel_rfl) ?_
  rw [strOf_eq, decide_eq_true rfl]
  refine .seg 7 [0] (T' := cgo 56 [] [.code B21]) (tm' := mk 59 [(0, .d (.bool (true)))]) (σ' := []) (by kernel_rfl) ?_
  exact .retH F21 (by kernel_rfl) (by kernel_rfl) rfl
end Go.Proofs.Ytoelkgbeefoplaa
namespace Go.Proofs.Ytoelkgbeefoplaa
open Go Go.Br Go.Proofs
open List (map)
end Go.Proofs.Ytoelkgbeefoplaa
namespace Go.Proofs.Ytoelkgbeefoplaa
open Go Go.Br Go.Proofs
open List (map)
def lsD (l : List (List UInt8)) : D := .list 1 (l.map bsD)
def allOf (l : List (List UInt8)) : List UInt8 := (l.map frame).flatten
theorem frame_length (r : List UInt8) : (frame r).length = r.length + 8 := by
  simp [frame, bare, le4]
noncomputable def B23 : Code := (Try.f23.body).getD .skip
theorem F23 : Fnc Try.prog 23 Try.f23 B23 := ⟨Try.func23, by kernel_rfl, by kernel_rfl⟩
theorem begins_pure (a b : List (List UInt8)) (ha : a.length < 9223372036854775807) : Br.Pure Try.prog 23 [.d (lsD a), .d (lsD b)] (.d (.bool (decide (b.length ≤ a.length ∧ a.take b.length = b)))) := by
  refine CallsA.start F23 (tm := (mk 18 [(0, .d (lsD a)), (1, .d (lsD b))])) (by kernel_rfl) ?_
  refine .seg 12 [0, 1, 10] (T' := cgo 12 [] [.code B23]) (tm' := mk 18 [(0, .d (lsD a)), (1, .d (lsD b)), (10, .d (.bool (decide (((b.map bsD).length : Int) ≤ ((a.map bsD).length : Nat)))))]) (σ' := []) (by kernel_rfl) ?_
  rw [List.length_map, List.length_map]
  by_cases h : b.length ≤ a.length
  case neg =>
    rw [decide_eq_false (show ¬ (b.length : Int) ≤ (a.length : Nat) by omega), decide_eq_false (show ¬ (b.length ≤ a.length ∧ a.take b.length = b) from fun x => h x.1)]
    refine .seg 9 [4] (T' := cgo 21 [] [.code B23]) (tm' := mk 18 [(4, .d (.bool (false)))]) (σ' := []) (by kernel_rfl) ?_
    exact .retH F23 (by kernel_rfl) (by kernel_rfl) (⟨rfl, rfl⟩)
  rw [decide_eq_true (show (b.length : Int) ≤ (a.length : Nat) by omega)]
  refine .seg 3 [1, 10, 11, 13] (T' := cgo 15 [] [.code B23]) (tm' := mk 18 [(1, .d (lsD b)), (10, .d (.bool (true))), (11, .d (lsD a)), (13, .d (.int .i64 (((b.map bsD).length : Nat))))]) (σ' := []) (by kernel_rfl) ?_
  refine .opH (o := (opOf (cgo 15 [] [.code B23])).getD default) (by kernel_rfl) (by kernel_rfl) (by kernel_rfl) (T' := cgo 16 [] [.code B23]) (by kernel_rfl) (slData_ok (t := 26) (x := .tmp 11) (lo := none) (hi := some (.tmp 13)) (sz := 1) (xs := a.map bsD) 0 (b.map bsD).length (by kernel_rfl) (by kernel_rfl) (by kernel_rfl) rfl ⟨.i64, ((b.map bsD).length : Nat), by kernel_rfl, Int.natCast_nonneg _, Int.toNat_natCast _⟩ (by omega) (by simp; omega)) ?_
  rw [List.drop_zero, List.length_map, ← List.map_take]
  refine .seg 1 [10, 14, 15] (T' := cgo 17 [] [.code B23]) (tm' := mk 18 [(10, .d (.bool (true))), (14, .d (lsD (a.take b.length))), (15, .d (lsD b))]) (σ' := []) (by kernel_rfl) ?_
  refine .semH (o := (opOf (cgo 17 [] [.code B23])).getD default) (v := .d (.bool (decide (a.take b.length = b)))) (by kernel_rfl) (by kernel_rfl) (T' := cgo 18 [] [.code B23]) (by kernel_rfl) (fun k => sem_data0 (x := .func 20) (args := #[.tmp 14, .tmp 15]) (ts := #[26, 26]) (first := []) (cap := []) F20 (same_pure (a.take b.length) b (by simp; omega)) (by kernel_rfl) (by kernel_rfl) (by kernel_rfl) (by kernel_rfl) (by kernel_rfl) (by kernel_rfl) []) ?_
  refine .seg 3 [4] (T' := cgo 21 [] [.code B23]) (tm' := mk 18 [(4, .d (.bool (decide (a.take b.length = b))))]) (σ' := []) (by kernel_rfl) ?_
  have e : decide (b.length ≤ a.length ∧ a.take b.length = b) = decide (a.take b.length = b) := by simp [h]
  rw [e]
  exact .retH F23 (by kernel_rfl) (by kernel_rfl) (⟨rfl, rfl⟩)
end Go.Proofs.Ytoelkgbeefoplaa
namespace Go.Proofs.Ytoelkgbeefoplaa
open Go Go.Br Go.Proofs Go.ChangeShapes Go.WideShapes Go.ChangeAt Go.RowKit
set_option maxRecDepth 100000
theorem rd_u8 {n : Nat} {y : D} (h : WtE Try.prog n 5 y) : ∃ b : UInt8, y = u8 b ∧ True := by
  obtain ⟨a, rfl, h1, h2⟩ := h.int (show Try.prog.underlying 5 = some (.int .u8) by kernel_rfl)
  simp [IntKind.min, IntKind.max, IntKind.bits, IntKind.signed] at h1 h2
  refine ⟨UInt8.ofNat a.toNat, ?_, trivial⟩
  simp only [u8, D.int.injEq, true_and, UInt8.toNat_ofNat']
  omega
theorem rd_22 {n : Nat} {x : D} (h : WtE Try.prog n 22 x) : ∃ bs : List UInt8, x = bsD bs ∧ bs.length ≤ maxLen := by
  obtain ⟨l, rfl, h1, _⟩ := WtE.slice_map (P := Try.prog) (e := 5) (t := 22) u8 (fun _ => True) h (show Try.prog.underlying 22 = some (.slice 5) by kernel_rfl) fun y hy => rd_u8 hy
  exact ⟨l, by rw [show Try.prog.cellsOf 5 = 1 by kernel_rfl]; rfl, h1⟩
theorem rd_33 {n : Nat} {x : D} (h : WtE Try.prog n 33 x) : ∃ a : Nat, x = .int .u64 a ∧ a < 18446744073709551616 := by
  obtain ⟨a, rfl, h1, h2⟩ := h.int (show Try.prog.underlying 33 = some (.int .u64) by kernel_rfl)
  simp [IntKind.min, IntKind.max, IntKind.bits, IntKind.signed] at h1 h2
  exact ⟨a.toNat, by rw [Int.toNat_of_nonneg h1], by omega⟩
end Go.Proofs.Ytoelkgbeefoplaa
namespace Go.Proofs
open Go.Shelf
def Try.laysNm222_ren : Go.Shelf.Ren := ⟨fun | 22 => 100 | 29 => 112 | 30 => 113 | 36 => 118 | 17 => 121 | n => n, fun | 24 => 66 | 9 => 9 | 3 => 3 | 4 => 4 | 0 => 0 | n => n, fun | n => n⟩
theorem Try.laysNm222 : Go.Proofs.Lays2.n22 Try.prog Try.laysNm222_ren := {
  mixed := by kernel_rfl
  f17 := Try.func121.trans (congrArg some (by kernel_rfl))
  f22 := Try.func100.trans (congrArg some (by kernel_rfl))
  f29 := Try.func112.trans (congrArg some (by kernel_rfl))
  f30 := Try.func113.trans (congrArg some (by kernel_rfl))
  f36 := Try.func118.trans (congrArg some (by kernel_rfl))
  t0 := Try.underlying0
  a0 := Try.isAgg0
  z0 := Try.sizeOf0
  v0 := Try.zeroValue0
  t3 := Try.underlying3
  a3 := Try.isAgg3
  z3 := Try.sizeOf3
  v3 := Try.zeroValue3
  t4 := Try.underlying4
  a4 := Try.isAgg4
  z4 := Try.sizeOf4
  v4 := Try.zeroValue4
  t9 := Try.underlying9
  a9 := Try.isAgg9
  z9 := Try.sizeOf9
  v9 := Try.zeroValue9
  t24 := Try.underlying66
  a24 := Try.isAgg66
  z24 := Try.sizeOf66
  v24 := Try.zeroValue66
  i9 := by kernel_rfl }
def Try.laysNm221_ren : Go.Shelf.Ren := ⟨fun | 21 => 101 | 27 => 114 | 28 => 115 | 35 => 119 | 39 => 122 | n => n, fun | 22 => 46 | 3 => 3 | 4 => 4 | 0 => 0 | n => n, fun | n => n⟩
theorem Try.laysNm221 : Go.Proofs.Lays2.n21 Try.prog Try.laysNm221_ren := {
  mixed := by kernel_rfl
  f21 := Try.func101.trans (congrArg some (by kernel_rfl))
  f27 := Try.func114.trans (congrArg some (by kernel_rfl))
  f28 := Try.func115.trans (congrArg some (by kernel_rfl))
  f35 := Try.func119.trans (congrArg some (by kernel_rfl))
  f39 := Try.func122.trans (congrArg some (by kernel_rfl))
  t0 := Try.underlying0
  a0 := Try.isAgg0
  z0 := Try.sizeOf0
  v0 := Try.zeroValue0
  t3 := Try.underlying3
  a3 := Try.isAgg3
  z3 := Try.sizeOf3
  v3 := Try.zeroValue3
  t4 := Try.underlying4
  a4 := Try.isAgg4
  z4 := Try.sizeOf4
  v4 := Try.zeroValue4
  t22 := Try.underlying46
  a22 := Try.isAgg46
  z22 := Try.sizeOf46
  v22 := Try.zeroValue46
  i3 := by kernel_rfl }
def Try.laysNm223_ren : Go.Shelf.Ren := ⟨fun | 23 => 108 | n => n, fun | 22 => 46 | 3 => 3 | 4 => 4 | 0 => 0 | n => n, fun | n => n⟩
theorem Try.laysNm223 : Go.Proofs.Lays2.n23 Try.prog Try.laysNm223_ren := {
  mixed := by kernel_rfl
  f23 := Try.func108.trans (congrArg some (by kernel_rfl))
  t0 := Try.underlying0
  a0 := Try.isAgg0
  z0 := Try.sizeOf0
  v0 := Try.zeroValue0
  t3 := Try.underlying3
  a3 := Try.isAgg3
  z3 := Try.sizeOf3
  v3 := Try.zeroValue3
  t4 := Try.underlying4
  a4 := Try.isAgg4
  z4 := Try.sizeOf4
  v4 := Try.zeroValue4
  t22 := Try.underlying46
  a22 := Try.isAgg46
  z22 := Try.sizeOf46
  v22 := Try.zeroValue46
  i3 := by kernel_rfl }
def Try.laysNm224_ren : Go.Shelf.Ren := ⟨fun | 24 => 107 | n => n, fun | 24 => 66 | 9 => 9 | 3 => 3 | 4 => 4 | 0 => 0 | n => n, fun | n => n⟩
theorem Try.laysNm224 : Go.Proofs.Lays2.n24 Try.prog Try.laysNm224_ren := {
  mixed := by kernel_rfl
  f24 := Try.func107.trans (congrArg some (by kernel_rfl))
  t0 := Try.underlying0
  a0 := Try.isAgg0
  z0 := Try.sizeOf0
  v0 := Try.zeroValue0
  t3 := Try.underlying3
  a3 := Try.isAgg3
  z3 := Try.sizeOf3
  v3 := Try.zeroValue3
  t4 := Try.underlying4
  a4 := Try.isAgg4
  z4 := Try.sizeOf4
  v4 := Try.zeroValue4
  t9 := Try.underlying9
  a9 := Try.isAgg9
  z9 := Try.sizeOf9
  v9 := Try.zeroValue9
  t24 := Try.underlying66
  a24 := Try.isAgg66
  z24 := Try.sizeOf66
  v24 := Try.zeroValue66
  i9 := by kernel_rfl }
def Try.laysNm226_ren : Go.Shelf.Ren := ⟨fun | 26 => 106 | 33 => 116 | 34 => 117 | 38 => 120 | n => n, fun | 24 => 66 | 9 => 9 | 3 => 3 | 4 => 4 | 40 => 33 | 0 => 0 | n => n, fun | n => n⟩
theorem Try.laysNm226 : Go.Proofs.Lays2.n26 Try.prog Try.laysNm226_ren := {
  mixed := by kernel_rfl
  f26 := Try.func106.trans (congrArg some (by kernel_rfl))
  f33 := Try.func116.trans (congrArg some (by kernel_rfl))
  f34 := Try.func117.trans (congrArg some (by kernel_rfl))
  f38 := Try.func120.trans (congrArg some (by kernel_rfl))
  t0 := Try.underlying0
  a0 := Try.isAgg0
  z0 := Try.sizeOf0
  v0 := Try.zeroValue0
  t3 := Try.underlying3
  a3 := Try.isAgg3
  z3 := Try.sizeOf3
  v3 := Try.zeroValue3
  t4 := Try.underlying4
  a4 := Try.isAgg4
  z4 := Try.sizeOf4
  v4 := Try.zeroValue4
  t9 := Try.underlying9
  a9 := Try.isAgg9
  z9 := Try.sizeOf9
  v9 := Try.zeroValue9
  t24 := Try.underlying66
  a24 := Try.isAgg66
  z24 := Try.sizeOf66
  v24 := Try.zeroValue66
  t40 := Try.underlying33
  a40 := Try.isAgg33
  z40 := Try.sizeOf33
  v40 := Try.zeroValue33 }
end Go.Proofs
namespace Go.Proofs.Ytoelkgbeefoplaa
open Go Go.Br Go.Proofs
open List (map)
theorem alloc_keep {w : World} {o : Obj} {b : Nat} (h : b < w.heap.size) : (w.alloc o).heap[b]? = w.heap[b]? := by first | exact Go.heap_alloc_old _ _ _ h | exact Go.heap_alloc_old _ _ h
theorem row_laid {w : World} {I : Nat → Prop} {ρ : LM} {σ : Store} {l n sz : Nat} {xs : List D} {mv : Bool} {v : Value} (hO : ORel w I ρ σ) (hl : σ[l]? = some (.row sz xs mv)) (h : vr w I ρ σ (.row l) v) (hn : xs.length = n ∧ 0 < n) :
    ∃ L C T fz, ρ l = some L ∧ L.sz = sz ∧ w.heap[L.b]? = some (.cells C T fz) ∧ thawR fz C ∧ C.size = L.o + L.cap * sz ∧ xs.length ≤ L.cap ∧ DrE w I sz L.b L.o xs ∧ v = .slice (some ⟨L.b, L.o, none⟩) xs.length L.cap := by
  simp only [vr] at h
  rcases h.2.2 _ _ _ hl with ⟨hz, _⟩ | ⟨L, hL, hle, he⟩
  · omega
  · have ho := hO.objs l _ hl
    simp only [orel] at ho
    rcases ho with ⟨hx, _⟩ | ⟨L', C, T, fz, hL', hs, hh, hth, hC, hle2, hcap, hE⟩
    · rw [hL] at hx; cases hx
    rw [hL] at hL'; cases hL'
    exact ⟨L, C, T, fz, hL, hs, hh, hth, hC, hle2, hE, by rw [he]; simp⟩
theorem ins_string (xs : List D) (y : D) (i : Nat) (mv mv2 : Bool) (hi : i ≤ xs.length) (hb : (xs.length + 1) * 16 ≤ 140737488355328) : CallsA Try.prog 100 [.row 0, .d (.int .i64 i), .row 1] [.row 1 xs mv, .row 1 [y] mv2] fun r σ' => r = .ret (.row 0) ∧ σ' = [.row 1 (xs.take i ++ y :: xs.drop i) true, .row 1 [y] mv2] := by
  intro w I ρ ags has hO
  simp only [vrL] at has
  obtain ⟨v0, _, rfl, h0, v1, _, rfl, h1, v2, _, rfl, h2, rfl⟩ := has
  simp only [vr, Dr] at h1
  subst h1
  obtain ⟨L1, C1, T1, fz1, hL1, hs1, hh1, hth1, hC1, hle1, hE1, rfl⟩ := row_laid (n := 1) hO (l := 1) rfl h2 (by simp)
  obtain ⟨vs, hN1, hc1⟩ := DrN_of_E hE1
  have hvl : vs.length = 1 := by have := DrN_len hN1; simpa using this
  have hvone := DrN_one hN1
  have hvs : ∀ j v, vs[j]? = some v → w.cell? ⟨L1.b, L1.o + j, none⟩ = some v := fun j v hj => by rw [hc1 j (List.getElem?_eq_some_iff.1 hj).1]; exact hj
  have hone1 : ∀ v ∈ vs, v.oneCell' = true := hvone
  have hmax : xs.length + 1 ≤ maxLen := by simp only [maxLen]; omega
  have hy : ∀ (ys zs : List D) (a b : List Value) {w' : World}, (∀ b, I b → I b ∧ w'.heap[b]? = w.heap[b]?) → DrN w I 1 ys a → DrN w I 1 zs b → DrN w' I 1 (ys ++ y :: zs) (a ++ vs ++ b) := fun ys zs a b w' hI ha hb => by
    have := DrN_append (DrN_append ha hN1) hb
    rw [List.append_assoc, List.singleton_append] at this
    exact DrN_mono hI this
  have hdst : ∀ l : List D, l.length = xs.length + 1 → ((([O.row 1 xs mv, O.row 1 [y] mv2].map (O.kill (Nat.beq 0))).set 0 (O.row 1 l true))) = [.row 1 l true, .row 1 [y] mv2] := fun l _ => rfl
  have hz1 : ∀ x ∈ (.string ⟨#[]⟩ : Value).cells.toList, one x := by intro x hx; simp [Value.cells] at hx; subst hx; rfl
  have hzs : ∀ n, (Builtin.zeroCells (.string ⟨#[]⟩ : Value).cells n).size = n := fun n => by rw [size_zeroCells]; simp [Value.cells]
  have hlen : (xs.take i ++ y :: xs.drop i).length = xs.length + 1 := by simp; omega
  -- a new row
  have fresh : ∀ (cap : Nat) (C' : Array Value) (w' : World) (T' : TypeId), xs.length + 1 ≤ cap → cap ≤ maxLen → w'.heap[w.heap.size]? = some (.cells C' T' (0, 0)) → C'.size = cap → (∀ x ∈ C'.toList, one x) → (∀ b, b < w.heap.size → w'.heap[b]? = w.heap[b]?) → w.heap.size ≤ w'.heap.size → w'.os = w.os → w'.tape = w.tape → w'.output = w.output →
      ∀ cs, DrN w I 1 xs cs → (∀ j, j < xs.length + 1 → C'[j]? = (cs.take i ++ vs ++ cs.drop i)[j]?) →
      Fin 2 w I ρ [.row 1 xs mv, .row 1 [y] mv2] (fun r σ' => r = .ret (.row 0) ∧ σ' = [.row 1 (xs.take i ++ y :: xs.drop i) true, .row 1 [y] mv2]) (.returned (.slice (some ⟨w.heap.size, 0, none⟩) (xs.length + 1) cap)) w' := by
    intro cap C' w' T' k1 k2 k3 k4 k5 k6 k7 k8 k9 k10 cs hN k11
    have hI : ∀ b, I b → I b ∧ w'.heap[b]? = w.heap[b]? := fun b hb => ⟨hb, k6 b (hO.imm b hb).1⟩
    have hcl : cs.length = xs.length := by have := DrN_len hN; simpa using this
    have := row_moved (w' := w') (n := 2) (xs' := xs.take i ++ y :: xs.drop i) hO (l := 0) (sz := 1) (xs := xs) (mv := mv) rfl ⟨w.heap.size, 0, 1, cap⟩ rfl k3 ⟨thaw_zero _, k5⟩ (by simpa using k4) (by rw [hlen]; exact k1) k2 (by
      refine DrE_of_N (hy _ _ _ _ hI (by simpa using DrN_take i hN) (by simpa using DrN_drop i hN)) fun j hj => ?_
      simp only [List.length_append, List.length_take, List.length_drop, hcl, hvl] at hj
      rw [← k11 j (by omega)]
      simp only [World.cell?, k3, Nat.zero_add]
      rfl) (fun b hb _ => k6 b hb) k7 (.inl (Nat.le_refl _)) k8 k9 k10 (Nat.le_refl _)
    rw [hlen] at this
    exact this
  have h0' := h0
  simp only [vr] at h0
  rcases h0.2.2 _ _ _ rfl with ⟨hz, a, rfl⟩ | ⟨L, hL, hle, rfl⟩
  · -- nothing there
    have hxs : xs = [] := List.eq_nil_of_length_eq_zero hz
    subst hxs
    obtain rfl : i = 0 := by simpa using hi
    have hc := Any2.slices_Insert_string_end_grow Try.laysNm222 a 0 0 L1.b L1.o 1 L1.cap [] vs w (by omega) (by omega) (by omega) (by omega) rfl hvl (fun _ => rfl) (fun _ _ j v hj => by simp at hj) hvs hone1
    refine hc.mono ?_
    rintro e w' ⟨rfl, rfl⟩
    have hg := grownCap_ge w 1 0 (Try.laysNm222_ren.t 9)
    refine fresh _ _ _ _ (by simpa using hg) (grownCap_le_maxLen w 1 0 (Try.laysNm222_ren.t 9) (by simp [maxLen])) (heap_alloc_new _ _) ?_ ?_ (fun b hb => alloc_keep hb) (by simp) rfl rfl rfl [] (by simp [DrN]) (fun j hj => ?_)
    · rw [Array.size_append, hzs]; simp [hvl]; omega
    · exact one_app (fun x hx => hvone x (by simpa using hx)) (one_zeros hz1 _)
    · rw [Array.getElem?_append_left (by simp [hvl]; simpa using hj)]
      simp
  · have ho := hO.objs 0 _ rfl
    simp only [orel] at ho
    rcases ho with ⟨hx, _⟩ | ⟨L', C, T, fz, hL', hs, hh, hth, hC, hle2, hcap, hE⟩
    · rw [hL] at hx; cases hx
    rw [hL] at hL'; cases hL'
    obtain ⟨cs, hN, hcc⟩ := DrN_of_E hE
    have hcl : cs.length = xs.length := by have := DrN_len hN; simpa using this
    have hcone := DrN_one hN
    have hone : ∀ v ∈ cs, v.oneCell' = true := hcone
    have hcs : ∀ j v, cs[j]? = some v → w.cell? ⟨L.b, L.o + j, none⟩ = some v := fun j v hj => by rw [hcc j (List.getElem?_eq_some_iff.1 hj).1]; exact hj
    have hne : L1.b ≠ L.b := fun e => by have := hO.inj 1 0 L1 L ⟨_, rfl, by simp⟩ ⟨_, rfl, by simp⟩ hL1 hL e; omega
    have hCs : C.size = L.o + L.cap := by rw [hC]; simp
    have hsome : ∀ j, j < L.cap → (w.cell? ⟨L.b, L.o + j, none⟩).isSome = true := fun j hj => by simp [World.cell?, hh]; omega
    have hfro : ∀ j, j < L.cap → w.frozen? ⟨L.b, L.o + j, none⟩ = false := fun j hj => by
      have := hth.1.2 (L.o + j) (by omega)
      simp only [World.frozen?, hh, Bool.and_eq_false_iff, decide_eq_false_iff_not]
      omega
    have hv0 : (Value.slice (some ⟨L.b, L.o + 0 * L.sz, none⟩) xs.length (L.cap - 0)) = .slice (some ⟨L.b, L.o, none⟩) xs.length L.cap := by simp
    have hm63 : L.cap ≤ 9223372036854775807 := by simp only [maxLen] at hcap; exact hcap
    rw [hv0]
    -- in its place
    have inpl : ∀ (C' : Array Value) (w' : World), xs.length + 1 ≤ L.cap → w'.heap[L.b]? = some (.cells C' T fz) → C'.size = C.size → (∀ x ∈ C'.toList, one x) → (∀ b, b ≠ L.b → w'.heap[b]? = w.heap[b]?) → w'.heap.size = w.heap.size → w'.os = w.os → w'.tape = w.tape → w'.output = w.output →
        (∀ j, j < xs.length + 1 → w'.cell? ⟨L.b, L.o + j, none⟩ = (cs.take i ++ vs ++ cs.drop i)[j]?) →
        Fin 2 w I ρ [.row 1 xs mv, .row 1 [y] mv2] (fun r σ' => r = .ret (.row 0) ∧ σ' = [.row 1 (xs.take i ++ y :: xs.drop i) true, .row 1 [y] mv2]) (.returned (.slice (some ⟨L.b, L.o, none⟩) (xs.length + 1) L.cap)) w' := by
      intro C' w' k1 k3 k4 k5 k6 k7 k8 k9 k10 k11
      have hI : ∀ b, I b → I b ∧ w'.heap[b]? = w.heap[b]? := fun b hb => ⟨hb, k6 b fun e => (hO.imm b hb).2 ⟨0, _, L, rfl, by simp, hL, e.symm⟩⟩
      have := row_moved (w' := w') (n := 2) (xs' := xs.take i ++ y :: xs.drop i) hO (l := 0) (sz := 1) (xs := xs) (mv := mv) rfl L hs k3 ⟨by rw [k4]; exact hth.1, k5⟩ (by rw [k4, hC]) (by rw [hlen]; exact k1) hcap (by
        refine DrE_of_N (hy _ _ _ _ hI (by simpa using DrN_take i hN) (by simpa using DrN_drop i hN)) fun j hj => ?_
        simp only [List.length_append, List.length_take, List.length_drop, hcl, hvl] at hj
        exact k11 j (by omega)) (fun b _ hb => k6 b fun e => hb L hL e.symm) (by omega) (.inr ⟨L, hL, rfl⟩) k8 k9 k10 (Nat.le_refl _)
      rw [hlen] at this
      exact this
    by_cases hin : i < xs.length
    · by_cases hroom : xs.length + 1 ≤ L.cap
      · have hc := Any2.slices_Insert_string_shift Try.laysNm222 L.b L.o xs.length L.cap i L1.b L1.o 1 L1.cap cs vs w hin (by omega) hroom hm63 hne hcl hvl hcs (fun j hj => hsome j (by omega)) (fun j hj => hfro j (by omega)) hvs hone hone1
          T1 T C1.size C.size (by simp [World.shape?, hh1]) (by simp [World.shape?, hh]) (by omega) (by
            have := hth1.1.2 L1.o (by omega)
            simp only [World.frozen?, hh1, Bool.and_eq_false_iff, decide_eq_false_iff_not]
            omega) (by
            have := hth1.1.2 C1.size (Nat.le_refl _)
            simp only [World.frozen?, hh1, Bool.and_eq_false_iff, decide_eq_false_iff_not]
            omega)
        refine hc.mono ?_
        rintro e w' ⟨rfl, rfl⟩
        have hdl : (cs.drop i).length = xs.length - i := by simp [hcl]
        have e1 := setCells_setRow (cs.drop i) (L.o + (i + 1)) C w.drew (show w.drew.heap[L.b]? = _ from hh) (by omega)
        have hh2 := setRow_heap w.drew L.b C (C.toList.take (L.o + (i + 1)) ++ cs.drop i ++ C.toList.drop (L.o + (i + 1) + (cs.drop i).length)).toArray T fz hh
        have e2 := setCells_setRow vs (L.o + i) _ _ hh2 (by simp; omega)
        rw [← e1] at hh2 e2
        refine inpl _ _ hroom (by rw [e2]; exact setRow_heap _ _ _ _ _ _ hh2) (by simp; omega) (one_splice (one_splice hth.2 (fun x hx => hcone x (List.mem_of_mem_drop hx))) hvone) (fun b hb => by rw [e2, setRow_other _ _ _ _ hb, e1, setRow_other _ _ _ _ hb]; rfl) (by rw [e2, e1]; simp) (by rw [e2, e1]; rfl) (by rw [e2, e1]; rfl) (by rw [e2, e1]; rfl) fun j hj => ?_
        by_cases hj1 : j < i
        · rw [World.cell?_setCells_out _ _ _ _ _ (fun _ _ => by left; show L.o + j < L.o + i; omega), World.cell?_setCells_out _ _ _ _ _ (fun _ _ => by left; show L.o + j < L.o + (i + 1); omega)]
          rw [List.getElem?_append_left (by simp [hcl, hvl]; omega), List.getElem?_append_left (by simp [hcl]; omega), List.getElem?_take, if_pos hj1, ← hcc j (by omega)]
          rfl
        · by_cases hj2 : j = i
          · subst hj2
            rw [List.getElem?_append_left (by simp [hcl, hvl]; omega), List.getElem?_append_right (by simp [hcl]; omega), show j - (cs.take j).length = 0 by simp [hcl]; omega]
            have := World.cell?_setCells_in L.b vs (L.o + j) (w.drew.setCells L.b (L.o + (j + 1)) (cs.drop j)) (fun q hq => by
              rw [e1, cell_setRow_same (w := w.drew) (hg := hh)]
              simp; omega) 0 (by omega)
            rw [List.getElem?_eq_getElem (by omega)]
            simpa using this
          · rw [World.cell?_setCells_out _ _ _ _ _ (fun _ _ => by right; show L.o + i + vs.length ≤ L.o + j; omega)]
            have := World.cell?_setCells_in L.b (cs.drop i) (L.o + (i + 1)) w.drew (fun q hq => by
              show (w.cell? ⟨L.b, L.o + (i + 1) + q, none⟩).isSome = true
              rw [show L.o + (i + 1) + q = L.o + (i + 1 + q) by omega]
              exact hsome _ (by omega)) (j - (i + 1)) (by omega)
            rw [show L.o + (i + 1) + (j - (i + 1)) = L.o + j by omega] at this
            rw [this, List.getElem?_append_right (by simp [hcl, hvl]; omega), show j - (cs.take i ++ vs).length = j - (i + 1) by simp [hcl, hvl]; omega, List.getElem?_eq_getElem]
      · have hc := Any2.slices_Insert_string_grow Try.laysNm222 L.b L.o xs.length L.cap i L1.b L1.o 1 L1.cap cs vs w hin (by omega) (by omega) (by omega) hb hcl hvl hcs hvs hone hone1
        refine hc.mono ?_
        rintro e w' ⟨rfl, rfl⟩
        have hg := grownCap_ge w (xs.length + 1) L.cap (Try.laysNm222_ren.t 9)
        generalize hcap' : grownCap w (xs.length + 1) L.cap (Try.laysNm222_ren.t 9) = cap' at hg
        have hmx : cap' ≤ maxLen := hcap' ▸ grownCap_le_maxLen w _ _ _ hmax
        generalize hA : (cs.take i).toArray ++ Builtin.zeroCells (.string ⟨#[]⟩ : Value).cells (xs.length + 1 - i) ++ Builtin.zeroCells (.string ⟨#[]⟩ : Value).cells (cap' - (xs.length + 1)) = A
        have hAs : A.size = cap' := by rw [← hA, Array.size_append, Array.size_append, hzs, hzs]; simp [hcl]; omega
        have hA1 : A.toList.take i = cs.take i := by
          rw [← hA, Array.toList_append, Array.toList_append, List.append_assoc]
          rw [List.take_append_of_le_length (by simp [hcl]; omega), List.take_of_length_le (by simp; omega)]
        have hAo : ∀ x ∈ A.toList, one x := by
          rw [← hA]
          intro x hx
          rw [Array.toList_append] at hx
          rcases List.mem_append.1 hx with hx | hx
          · exact one_app (fun x hx => hcone x (List.mem_of_mem_take hx)) (one_zeros hz1 _) x hx
          · exact one_zeros hz1 _ x hx
        have ha1 : (w.alloc (.cells A (Try.laysNm222_ren.t 9))).drew.heap[w.heap.size]? = some (.cells A (Try.laysNm222_ren.t 9) (0, 0)) := heap_alloc_new _ _
        have e1 := setCells_setRow vs i A _ ha1 (by omega)
        have ha2 := setRow_heap _ w.heap.size A (A.toList.take i ++ vs ++ A.toList.drop (i + vs.length)).toArray _ _ ha1
        rw [← e1] at ha2
        have ha3 : ((w.alloc (.cells A (Try.laysNm222_ren.t 9))).drew.setCells w.heap.size i vs).drew.heap[w.heap.size]? = some (.cells (A.toList.take i ++ vs ++ A.toList.drop (i + vs.length)).toArray (Try.laysNm222_ren.t 9) (0, 0)) := ha2
        have hdl : (cs.drop i).length = xs.length - i := by simp [hcl]
        have e2 := setCells_setRow (cs.drop i) (i + 1) _ _ ha3 (by simp; omega)
        have ha4 := setRow_heap _ w.heap.size _ ((A.toList.take i ++ vs ++ A.toList.drop (i + vs.length)).toArray.toList.take (i + 1) ++ cs.drop i ++ (A.toList.take i ++ vs ++ A.toList.drop (i + vs.length)).toArray.toList.drop (i + 1 + (cs.drop i).length)).toArray _ _ ha3
        rw [← e2] at ha4
        refine fresh cap' _ _ _ hg hmx ha4 (by simp; omega) (one_splice (one_splice hAo hvone) (fun x hx => hcone x (List.mem_of_mem_drop hx))) (fun b hb => ?_) (by rw [e2]; simp only [setRow_size]; rw [show ∀ w : World, w.drew.heap.size = w.heap.size from fun _ => rfl, e1]; simp) (by rw [e2]; show (World.setCells _ _ _ _).os = _; rw [e1]; rfl) (by rw [e2]; show (World.setCells _ _ _ _).tape = _; rw [e1]; rfl) (by rw [e2]; show (World.setCells _ _ _ _).output = _; rw [e1]; rfl) cs hN (fun j hj => ?_)
        · rw [e2, setRow_other _ _ _ _ (by omega)]
          show (World.setCells _ _ _ _).heap[b]? = _
          rw [e1, setRow_other _ _ _ _ (by omega)]
          exact alloc_keep hb
        · have ht : (A.toList.take i ++ vs ++ A.toList.drop (i + vs.length)).take (i + 1) = cs.take i ++ vs := by
            rw [hA1, List.take_append_of_le_length (by simp [hcl, hvl]; omega), List.take_of_length_le (by simp [hcl, hvl]; omega)]
          simp only [List.getElem?_toArray]
          rw [ht, List.getElem?_append_left (by simp [hcl, hvl]; omega)]
    · obtain rfl : i = xs.length := by omega
      by_cases hroom : xs.length + 1 ≤ L.cap
      · have hc := Any2.slices_Insert_string_end_room Try.laysNm222 L.b L.o xs.length L.cap L1.b L1.o 1 L1.cap vs w (by omega) hroom hm63 hvl (fun j hj => by rw [Nat.add_assoc]; exact hsome _ (by omega)) (fun j hj => by rw [Nat.add_assoc]; exact hfro _ (by omega)) hvs hone1
        refine hc.mono ?_
        rintro e w' ⟨rfl, rfl⟩
        have e1 := setCells_setRow vs (L.o + xs.length) C w hh (by omega)
        refine inpl _ _ hroom (by rw [e1]; exact setRow_heap _ _ _ _ _ _ hh) (by simp; omega) (one_splice hth.2 hvone) (fun b hb => by rw [e1, setRow_other _ _ _ _ hb]) (by rw [e1]; simp) (by rw [e1]; rfl) (by rw [e1]; rfl) (by rw [e1]; rfl) fun j hj => ?_
        by_cases hj1 : j < xs.length
        · rw [World.cell?_setCells_out _ _ _ _ _ (fun _ _ => by left; show L.o + j < L.o + xs.length; omega)]
          rw [List.getElem?_append_left (by simp [hcl, hvl]; omega), List.getElem?_append_left (by simp [hcl]; omega), List.getElem?_take, if_pos hj1, ← hcc j (by omega)]
        · obtain rfl : j = xs.length := by omega
          rw [List.getElem?_append_left (by simp [hcl, hvl]), List.getElem?_append_right (by simp [hcl]), show xs.length - (cs.take xs.length).length = 0 by simp [hcl]]
          have := World.cell?_setCells_in L.b vs (L.o + xs.length) w (fun q hq => by rw [Nat.add_assoc]; exact hsome _ (by omega)) 0 (by omega)
          rw [List.getElem?_eq_getElem (by omega)]
          simpa using this
      · have hc := Any2.slices_Insert_string_end_grow Try.laysNm222 (some ⟨L.b, L.o, none⟩) xs.length L.cap L1.b L1.o 1 L1.cap cs vs w (by omega) (by omega) (by omega) hb hcl hvl (fun h => by cases h) (fun a ha j v hj => by cases ha; rw [addr_add]; exact hcs j v hj) hvs hone1
        refine hc.mono ?_
        rintro e w' ⟨rfl, rfl⟩
        have hg := grownCap_ge w (xs.length + 1) L.cap (Try.laysNm222_ren.t 9)
        refine fresh _ _ _ _ hg (grownCap_le_maxLen w _ _ (Try.laysNm222_ren.t 9) hmax) (heap_alloc_new _ _) ?_ ?_ (fun b hb => alloc_keep hb) (by simp) rfl rfl rfl cs hN (fun j hj => ?_)
        · rw [Array.size_append, hzs]; simp [hvl, hcl]; omega
        · exact one_app (fun x hx => (List.mem_append.1 hx).elim (hcone x) (hvone x)) (one_zeros hz1 _)
        · rw [Array.getElem?_append_left (by simp [hvl, hcl]; omega), List.getElem?_toArray, List.take_of_length_le (by omega), List.drop_eq_nil_of_le (by omega), List.append_nil]
theorem ins_int (xs : List D) (y : D) (i : Nat) (mv mv2 : Bool) (hi : i ≤ xs.length) (hb : (xs.length + 1) * 8 ≤ 140737488355328) : CallsA Try.prog 101 [.row 0, .d (.int .i64 i), .row 1] [.row 1 xs mv, .row 1 [y] mv2] fun r σ' => r = .ret (.row 0) ∧ σ' = [.row 1 (xs.take i ++ y :: xs.drop i) true, .row 1 [y] mv2] := by
  intro w I ρ ags has hO
  simp only [vrL] at has
  obtain ⟨v0, _, rfl, h0, v1, _, rfl, h1, v2, _, rfl, h2, rfl⟩ := has
  simp only [vr, Dr] at h1
  subst h1
  obtain ⟨L1, C1, T1, fz1, hL1, hs1, hh1, hth1, hC1, hle1, hE1, rfl⟩ := row_laid (n := 1) hO (l := 1) rfl h2 (by simp)
  obtain ⟨vs, hN1, hc1⟩ := DrN_of_E hE1
  have hvl : vs.length = 1 := by have := DrN_len hN1; simpa using this
  have hvone := DrN_one hN1
  have hvs : ∀ j v, vs[j]? = some v → w.cell? ⟨L1.b, L1.o + j, none⟩ = some v := fun j v hj => by rw [hc1 j (List.getElem?_eq_some_iff.1 hj).1]; exact hj
  have hone1 : ∀ v ∈ vs, v.oneCell' = true := hvone
  have hmax : xs.length + 1 ≤ maxLen := by simp only [maxLen]; omega
  have hy : ∀ (ys zs : List D) (a b : List Value) {w' : World}, (∀ b, I b → I b ∧ w'.heap[b]? = w.heap[b]?) → DrN w I 1 ys a → DrN w I 1 zs b → DrN w' I 1 (ys ++ y :: zs) (a ++ vs ++ b) := fun ys zs a b w' hI ha hb => by
    have := DrN_append (DrN_append ha hN1) hb
    rw [List.append_assoc, List.singleton_append] at this
    exact DrN_mono hI this
  have hdst : ∀ l : List D, l.length = xs.length + 1 → ((([O.row 1 xs mv, O.row 1 [y] mv2].map (O.kill (Nat.beq 0))).set 0 (O.row 1 l true))) = [.row 1 l true, .row 1 [y] mv2] := fun l _ => rfl
  have hz1 : ∀ x ∈ (.int .i64 0 : Value).cells.toList, one x := by intro x hx; simp [Value.cells] at hx; subst hx; rfl
  have hzs : ∀ n, (Builtin.zeroCells (.int .i64 0 : Value).cells n).size = n := fun n => by rw [size_zeroCells]; simp [Value.cells]
  have hlen : (xs.take i ++ y :: xs.drop i).length = xs.length + 1 := by simp; omega
  -- a new row
  have fresh : ∀ (cap : Nat) (C' : Array Value) (w' : World) (T' : TypeId), xs.length + 1 ≤ cap → cap ≤ maxLen → w'.heap[w.heap.size]? = some (.cells C' T' (0, 0)) → C'.size = cap → (∀ x ∈ C'.toList, one x) → (∀ b, b < w.heap.size → w'.heap[b]? = w.heap[b]?) → w.heap.size ≤ w'.heap.size → w'.os = w.os → w'.tape = w.tape → w'.output = w.output →
      ∀ cs, DrN w I 1 xs cs → (∀ j, j < xs.length + 1 → C'[j]? = (cs.take i ++ vs ++ cs.drop i)[j]?) →
      Fin 2 w I ρ [.row 1 xs mv, .row 1 [y] mv2] (fun r σ' => r = .ret (.row 0) ∧ σ' = [.row 1 (xs.take i ++ y :: xs.drop i) true, .row 1 [y] mv2]) (.returned (.slice (some ⟨w.heap.size, 0, none⟩) (xs.length + 1) cap)) w' := by
    intro cap C' w' T' k1 k2 k3 k4 k5 k6 k7 k8 k9 k10 cs hN k11
    have hI : ∀ b, I b → I b ∧ w'.heap[b]? = w.heap[b]? := fun b hb => ⟨hb, k6 b (hO.imm b hb).1⟩
    have hcl : cs.length = xs.length := by have := DrN_len hN; simpa using this
    have := row_moved (w' := w') (n := 2) (xs' := xs.take i ++ y :: xs.drop i) hO (l := 0) (sz := 1) (xs := xs) (mv := mv) rfl ⟨w.heap.size, 0, 1, cap⟩ rfl k3 ⟨thaw_zero _, k5⟩ (by simpa using k4) (by rw [hlen]; exact k1) k2 (by
      refine DrE_of_N (hy _ _ _ _ hI (by simpa using DrN_take i hN) (by simpa using DrN_drop i hN)) fun j hj => ?_
      simp only [List.length_append, List.length_take, List.length_drop, hcl, hvl] at hj
      rw [← k11 j (by omega)]
      simp only [World.cell?, k3, Nat.zero_add]
      rfl) (fun b hb _ => k6 b hb) k7 (.inl (Nat.le_refl _)) k8 k9 k10 (Nat.le_refl _)
    rw [hlen] at this
    exact this
  have h0' := h0
  simp only [vr] at h0
  rcases h0.2.2 _ _ _ rfl with ⟨hz, a, rfl⟩ | ⟨L, hL, hle, rfl⟩
  · -- nothing there
    have hxs : xs = [] := List.eq_nil_of_length_eq_zero hz
    subst hxs
    obtain rfl : i = 0 := by simpa using hi
    have hc := Any2.slices_Insert_int_end_grow Try.laysNm221 a 0 0 L1.b L1.o 1 L1.cap [] vs w (by omega) (by omega) (by omega) (by omega) rfl hvl (fun _ => rfl) (fun _ _ j v hj => by simp at hj) hvs hone1
    refine hc.mono ?_
    rintro e w' ⟨rfl, rfl⟩
    have hg := grownCap_ge w 1 0 (Try.laysNm221_ren.t 3)
    refine fresh _ _ _ _ (by simpa using hg) (grownCap_le_maxLen w 1 0 (Try.laysNm221_ren.t 3) (by simp [maxLen])) (heap_alloc_new _ _) ?_ ?_ (fun b hb => alloc_keep hb) (by simp) rfl rfl rfl [] (by simp [DrN]) (fun j hj => ?_)
    · rw [Array.size_append, hzs]; simp [hvl]; omega
    · exact one_app (fun x hx => hvone x (by simpa using hx)) (one_zeros hz1 _)
    · rw [Array.getElem?_append_left (by simp [hvl]; simpa using hj)]
      simp
  · have ho := hO.objs 0 _ rfl
    simp only [orel] at ho
    rcases ho with ⟨hx, _⟩ | ⟨L', C, T, fz, hL', hs, hh, hth, hC, hle2, hcap, hE⟩
    · rw [hL] at hx; cases hx
    rw [hL] at hL'; cases hL'
    obtain ⟨cs, hN, hcc⟩ := DrN_of_E hE
    have hcl : cs.length = xs.length := by have := DrN_len hN; simpa using this
    have hcone := DrN_one hN
    have hone : ∀ v ∈ cs, v.oneCell' = true := hcone
    have hcs : ∀ j v, cs[j]? = some v → w.cell? ⟨L.b, L.o + j, none⟩ = some v := fun j v hj => by rw [hcc j (List.getElem?_eq_some_iff.1 hj).1]; exact hj
    have hne : L1.b ≠ L.b := fun e => by have := hO.inj 1 0 L1 L ⟨_, rfl, by simp⟩ ⟨_, rfl, by simp⟩ hL1 hL e; omega
    have hCs : C.size = L.o + L.cap := by rw [hC]; simp
    have hsome : ∀ j, j < L.cap → (w.cell? ⟨L.b, L.o + j, none⟩).isSome = true := fun j hj => by simp [World.cell?, hh]; omega
    have hfro : ∀ j, j < L.cap → w.frozen? ⟨L.b, L.o + j, none⟩ = false := fun j hj => by
      have := hth.1.2 (L.o + j) (by omega)
      simp only [World.frozen?, hh, Bool.and_eq_false_iff, decide_eq_false_iff_not]
      omega
    have hv0 : (Value.slice (some ⟨L.b, L.o + 0 * L.sz, none⟩) xs.length (L.cap - 0)) = .slice (some ⟨L.b, L.o, none⟩) xs.length L.cap := by simp
    have hm63 : L.cap ≤ 9223372036854775807 := by simp only [maxLen] at hcap; exact hcap
    rw [hv0]
    -- in its place
    have inpl : ∀ (C' : Array Value) (w' : World), xs.length + 1 ≤ L.cap → w'.heap[L.b]? = some (.cells C' T fz) → C'.size = C.size → (∀ x ∈ C'.toList, one x) → (∀ b, b ≠ L.b → w'.heap[b]? = w.heap[b]?) → w'.heap.size = w.heap.size → w'.os = w.os → w'.tape = w.tape → w'.output = w.output →
        (∀ j, j < xs.length + 1 → w'.cell? ⟨L.b, L.o + j, none⟩ = (cs.take i ++ vs ++ cs.drop i)[j]?) →
        Fin 2 w I ρ [.row 1 xs mv, .row 1 [y] mv2] (fun r σ' => r = .ret (.row 0) ∧ σ' = [.row 1 (xs.take i ++ y :: xs.drop i) true, .row 1 [y] mv2]) (.returned (.slice (some ⟨L.b, L.o, none⟩) (xs.length + 1) L.cap)) w' := by
      intro C' w' k1 k3 k4 k5 k6 k7 k8 k9 k10 k11
      have hI : ∀ b, I b → I b ∧ w'.heap[b]? = w.heap[b]? := fun b hb => ⟨hb, k6 b fun e => (hO.imm b hb).2 ⟨0, _, L, rfl, by simp, hL, e.symm⟩⟩
      have := row_moved (w' := w') (n := 2) (xs' := xs.take i ++ y :: xs.drop i) hO (l := 0) (sz := 1) (xs := xs) (mv := mv) rfl L hs k3 ⟨by rw [k4]; exact hth.1, k5⟩ (by rw [k4, hC]) (by rw [hlen]; exact k1) hcap (by
        refine DrE_of_N (hy _ _ _ _ hI (by simpa using DrN_take i hN) (by simpa using DrN_drop i hN)) fun j hj => ?_
        simp only [List.length_append, List.length_take, List.length_drop, hcl, hvl] at hj
        exact k11 j (by omega)) (fun b _ hb => k6 b fun e => hb L hL e.symm) (by omega) (.inr ⟨L, hL, rfl⟩) k8 k9 k10 (Nat.le_refl _)
      rw [hlen] at this
      exact this
    by_cases hin : i < xs.length
    · by_cases hroom : xs.length + 1 ≤ L.cap
      · have hc := Any2.slices_Insert_int_shift Try.laysNm221 L.b L.o xs.length L.cap i L1.b L1.o 1 L1.cap cs vs w hin (by omega) hroom hm63 hne hcl hvl hcs (fun j hj => hsome j (by omega)) (fun j hj => hfro j (by omega)) hvs hone hone1
          T1 T C1.size C.size (by simp [World.shape?, hh1]) (by simp [World.shape?, hh]) (by omega) (by
            have := hth1.1.2 L1.o (by omega)
            simp only [World.frozen?, hh1, Bool.and_eq_false_iff, decide_eq_false_iff_not]
            omega) (by
            have := hth1.1.2 C1.size (Nat.le_refl _)
            simp only [World.frozen?, hh1, Bool.and_eq_false_iff, decide_eq_false_iff_not]
            omega)
        refine hc.mono ?_
        rintro e w' ⟨rfl, rfl⟩
        have hdl : (cs.drop i).length = xs.length - i := by simp [hcl]
        have e1 := setCells_setRow (cs.drop i) (L.o + (i + 1)) C w.drew (show w.drew.heap[L.b]? = _ from hh) (by omega)
        have hh2 := setRow_heap w.drew L.b C (C.toList.take (L.o + (i + 1)) ++ cs.drop i ++ C.toList.drop (L.o + (i + 1) + (cs.drop i).length)).toArray T fz hh
        have e2 := setCells_setRow vs (L.o + i) _ _ hh2 (by simp; omega)
        rw [← e1] at hh2 e2
        refine inpl _ _ hroom (by rw [e2]; exact setRow_heap _ _ _ _ _ _ hh2) (by simp; omega) (one_splice (one_splice hth.2 (fun x hx => hcone x (List.mem_of_mem_drop hx))) hvone) (fun b hb => by rw [e2, setRow_other _ _ _ _ hb, e1, setRow_other _ _ _ _ hb]; rfl) (by rw [e2, e1]; simp) (by rw [e2, e1]; rfl) (by rw [e2, e1]; rfl) (by rw [e2, e1]; rfl) fun j hj => ?_
        by_cases hj1 : j < i
        · rw [World.cell?_setCells_out _ _ _ _ _ (fun _ _ => by left; show L.o + j < L.o + i; omega), World.cell?_setCells_out _ _ _ _ _ (fun _ _ => by left; show L.o + j < L.o + (i + 1); omega)]
          rw [List.getElem?_append_left (by simp [hcl, hvl]; omega), List.getElem?_append_left (by simp [hcl]; omega), List.getElem?_take, if_pos hj1, ← hcc j (by omega)]
          rfl
        · by_cases hj2 : j = i
          · subst hj2
            rw [List.getElem?_append_left (by simp [hcl, hvl]; omega), List.getElem?_append_right (by simp [hcl]; omega), show j - (cs.take j).length = 0 by simp [hcl]; omega]
            have := World.cell?_setCells_in L.b vs (L.o + j) (w.drew.setCells L.b (L.o + (j + 1)) (cs.drop j)) (fun q hq => by
              rw [e1, cell_setRow_same (w := w.drew) (hg := hh)]
              simp; omega) 0 (by omega)
            rw [List.getElem?_eq_getElem (by omega)]
            simpa using this
          · rw [World.cell?_setCells_out _ _ _ _ _ (fun _ _ => by right; show L.o + i + vs.length ≤ L.o + j; omega)]
            have := World.cell?_setCells_in L.b (cs.drop i) (L.o + (i + 1)) w.drew (fun q hq => by
              show (w.cell? ⟨L.b, L.o + (i + 1) + q, none⟩).isSome = true
              rw [show L.o + (i + 1) + q = L.o + (i + 1 + q) by omega]
              exact hsome _ (by omega)) (j - (i + 1)) (by omega)
            rw [show L.o + (i + 1) + (j - (i + 1)) = L.o + j by omega] at this
            rw [this, List.getElem?_append_right (by simp [hcl, hvl]; omega), show j - (cs.take i ++ vs).length = j - (i + 1) by simp [hcl, hvl]; omega, List.getElem?_eq_getElem]
      · have hc := Any2.slices_Insert_int_grow Try.laysNm221 L.b L.o xs.length L.cap i L1.b L1.o 1 L1.cap cs vs w hin (by omega) (by omega) (by omega) hb hcl hvl hcs hvs hone hone1
        refine hc.mono ?_
        rintro e w' ⟨rfl, rfl⟩
        have hg := grownCap_ge w (xs.length + 1) L.cap (Try.laysNm221_ren.t 3)
        generalize hcap' : grownCap w (xs.length + 1) L.cap (Try.laysNm221_ren.t 3) = cap' at hg
        have hmx : cap' ≤ maxLen := hcap' ▸ grownCap_le_maxLen w _ _ _ hmax
        generalize hA : (cs.take i).toArray ++ Builtin.zeroCells (.int .i64 0 : Value).cells (xs.length + 1 - i) ++ Builtin.zeroCells (.int .i64 0 : Value).cells (cap' - (xs.length + 1)) = A
        have hAs : A.size = cap' := by rw [← hA, Array.size_append, Array.size_append, hzs, hzs]; simp [hcl]; omega
        have hA1 : A.toList.take i = cs.take i := by
          rw [← hA, Array.toList_append, Array.toList_append, List.append_assoc]
          rw [List.take_append_of_le_length (by simp [hcl]; omega), List.take_of_length_le (by simp; omega)]
        have hAo : ∀ x ∈ A.toList, one x := by
          rw [← hA]
          intro x hx
          rw [Array.toList_append] at hx
          rcases List.mem_append.1 hx with hx | hx
          · exact one_app (fun x hx => hcone x (List.mem_of_mem_take hx)) (one_zeros hz1 _) x hx
          · exact one_zeros hz1 _ x hx
        have ha1 : (w.alloc (.cells A (Try.laysNm221_ren.t 3))).drew.heap[w.heap.size]? = some (.cells A (Try.laysNm221_ren.t 3) (0, 0)) := heap_alloc_new _ _
        have e1 := setCells_setRow vs i A _ ha1 (by omega)
        have ha2 := setRow_heap _ w.heap.size A (A.toList.take i ++ vs ++ A.toList.drop (i + vs.length)).toArray _ _ ha1
        rw [← e1] at ha2
        have ha3 : ((w.alloc (.cells A (Try.laysNm221_ren.t 3))).drew.setCells w.heap.size i vs).drew.heap[w.heap.size]? = some (.cells (A.toList.take i ++ vs ++ A.toList.drop (i + vs.length)).toArray (Try.laysNm221_ren.t 3) (0, 0)) := ha2
        have hdl : (cs.drop i).length = xs.length - i := by simp [hcl]
        have e2 := setCells_setRow (cs.drop i) (i + 1) _ _ ha3 (by simp; omega)
        have ha4 := setRow_heap _ w.heap.size _ ((A.toList.take i ++ vs ++ A.toList.drop (i + vs.length)).toArray.toList.take (i + 1) ++ cs.drop i ++ (A.toList.take i ++ vs ++ A.toList.drop (i + vs.length)).toArray.toList.drop (i + 1 + (cs.drop i).length)).toArray _ _ ha3
        rw [← e2] at ha4
        refine fresh cap' _ _ _ hg hmx ha4 (by simp; omega) (one_splice (one_splice hAo hvone) (fun x hx => hcone x (List.mem_of_mem_drop hx))) (fun b hb => ?_) (by rw [e2]; simp only [setRow_size]; rw [show ∀ w : World, w.drew.heap.size = w.heap.size from fun _ => rfl, e1]; simp) (by rw [e2]; show (World.setCells _ _ _ _).os = _; rw [e1]; rfl) (by rw [e2]; show (World.setCells _ _ _ _).tape = _; rw [e1]; rfl) (by rw [e2]; show (World.setCells _ _ _ _).output = _; rw [e1]; rfl) cs hN (fun j hj => ?_)
        · rw [e2, setRow_other _ _ _ _ (by omega)]
          show (World.setCells _ _ _ _).heap[b]? = _
          rw [e1, setRow_other _ _ _ _ (by omega)]
          exact alloc_keep hb
        · have ht : (A.toList.take i ++ vs ++ A.toList.drop (i + vs.length)).take (i + 1) = cs.take i ++ vs := by
            rw [hA1, List.take_append_of_le_length (by simp [hcl, hvl]; omega), List.take_of_length_le (by simp [hcl, hvl]; omega)]
          simp only [List.getElem?_toArray]
          rw [ht, List.getElem?_append_left (by simp [hcl, hvl]; omega)]
    · obtain rfl : i = xs.length := by omega
      by_cases hroom : xs.length + 1 ≤ L.cap
      · have hc := Any2.slices_Insert_int_end_room Try.laysNm221 L.b L.o xs.length L.cap L1.b L1.o 1 L1.cap vs w (by omega) hroom hm63 hvl (fun j hj => by rw [Nat.add_assoc]; exact hsome _ (by omega)) (fun j hj => by rw [Nat.add_assoc]; exact hfro _ (by omega)) hvs hone1
        refine hc.mono ?_
        rintro e w' ⟨rfl, rfl⟩
        have e1 := setCells_setRow vs (L.o + xs.length) C w hh (by omega)
        refine inpl _ _ hroom (by rw [e1]; exact setRow_heap _ _ _ _ _ _ hh) (by simp; omega) (one_splice hth.2 hvone) (fun b hb => by rw [e1, setRow_other _ _ _ _ hb]) (by rw [e1]; simp) (by rw [e1]; rfl) (by rw [e1]; rfl) (by rw [e1]; rfl) fun j hj => ?_
        by_cases hj1 : j < xs.length
        · rw [World.cell?_setCells_out _ _ _ _ _ (fun _ _ => by left; show L.o + j < L.o + xs.length; omega)]
          rw [List.getElem?_append_left (by simp [hcl, hvl]; omega), List.getElem?_append_left (by simp [hcl]; omega), List.getElem?_take, if_pos hj1, ← hcc j (by omega)]
        · obtain rfl : j = xs.length := by omega
          rw [List.getElem?_append_left (by simp [hcl, hvl]), List.getElem?_append_right (by simp [hcl]), show xs.length - (cs.take xs.length).length = 0 by simp [hcl]]
          have := World.cell?_setCells_in L.b vs (L.o + xs.length) w (fun q hq => by rw [Nat.add_assoc]; exact hsome _ (by omega)) 0 (by omega)
          rw [List.getElem?_eq_getElem (by omega)]
          simpa using this
      · have hc := Any2.slices_Insert_int_end_grow Try.laysNm221 (some ⟨L.b, L.o, none⟩) xs.length L.cap L1.b L1.o 1 L1.cap cs vs w (by omega) (by omega) (by omega) hb hcl hvl (fun h => by cases h) (fun a ha j v hj => by cases ha; rw [addr_add]; exact hcs j v hj) hvs hone1
        refine hc.mono ?_
        rintro e w' ⟨rfl, rfl⟩
        have hg := grownCap_ge w (xs.length + 1) L.cap (Try.laysNm221_ren.t 3)
        refine fresh _ _ _ _ hg (grownCap_le_maxLen w _ _ (Try.laysNm221_ren.t 3) hmax) (heap_alloc_new _ _) ?_ ?_ (fun b hb => alloc_keep hb) (by simp) rfl rfl rfl cs hN (fun j hj => ?_)
        · rw [Array.size_append, hzs]; simp [hvl, hcl]; omega
        · exact one_app (fun x hx => (List.mem_append.1 hx).elim (hcone x) (hvone x)) (one_zeros hz1 _)
        · rw [Array.getElem?_append_left (by simp [hvl, hcl]; omega), List.getElem?_toArray, List.take_of_length_le (by omega), List.drop_eq_nil_of_le (by omega), List.append_nil]
end Go.Proofs.Ytoelkgbeefoplaa
namespace Go.Proofs.Ytoelkgbeefoplaa
open Go Go.Br Go.Proofs
open List (map)
def strD (s : ByteArray) : D := .str s
def intD (n : Int) : D := .int .i64 n
theorem cells_scal {α : Type} {w : World} {I : Nat → Prop} {b : Nat} (g : α → D) (e : α → Value) (hg : ∀ a v, Dr w I (g a) v → v = e a) (h1 : ∀ a, (e a).cells = #[e a]) : ∀ {l : List α} {o : Nat}, DrE w I 1 b o (l.map g) → ∀ j (h : j < l.length), w.cell? ⟨b, o + j, none⟩ = some (e l[j]) := by
  intro l o hE j h
  obtain ⟨v, k1, k2, k3⟩ := DrE_get hE (i := j) (d := g l[j]) (by simp [h])
  obtain rfl := hg _ _ k1
  have := k3 0 (by omega)
  simp only [Nat.mul_one, Nat.add_zero, h1] at this
  simpa using this
theorem cells_str {w : World} {I : Nat → Prop} {b o : Nat} {l : List ByteArray} (h : DrE w I 1 b o (l.map strD)) (j : Nat) (hj : j < l.length) : w.cell? ⟨b, o + j, none⟩ = some (.string l[j]) :=
  cells_scal strD Value.string (fun a v h => by simpa [strD, Dr] using h) (fun _ => rfl) h j hj
theorem cells_int {w : World} {I : Nat → Prop} {b o : Nat} {l : List Int} (h : DrE w I 1 b o (l.map intD)) (j : Nat) (hj : j < l.length) : w.cell? ⟨b, o + j, none⟩ = some (.int .i64 l[j]) :=
  cells_scal intD (Value.int .i64) (fun a v h => by simpa [intD, Dr] using h) (fun _ => rfl) h j hj
theorem drewN_rest (w : World) (q : Nat) : (w.drewN q).heap = w.heap ∧ (w.drewN q).os = w.os ∧ (w.drewN q).tape = w.tape ∧ (w.drewN q).output = w.output := ⟨rfl, rfl, rfl, rfl⟩
theorem fin_drew {n : Nat} {w w' : World} {I : Nat → Prop} {ρ : LM} {σ : Store} {v : V} {x : Value} (hO : ORel w I ρ σ) (hh : w'.heap = w.heap) (ho : w'.os = w.os) (ht : w'.tape = w.tape) (hp : w'.output = w.output) (hn : n ≤ σ.length) (hv : vr w I ρ σ v x) :
    Fin n w I ρ σ (fun r σ' => r = .ret v ∧ σ' = σ) (.returned x) w' := by
  have hI : ∀ b, I b → I b ∧ w'.heap[b]? = w.heap[b]? := fun b hb => ⟨hb, by rw [hh]⟩
  have hS : ∀ l, l < σ.length → Same ρ σ ρ σ l := fun l hl => ⟨hl, fun o' h1 h2 => ⟨rfl, o', h1, h2, rfl⟩⟩
  have hx := (Ext.refl w I ρ σ).less hn
  refine ⟨I, ρ, σ, .ret v, ⟨rfl, rfl⟩, ⟨x, rfl, vr_all hI hS hv⟩, ⟨fun l o hl => orel_all hI hS rfl (fun L _ => by rw [hh]) (hO.objs l o hl), hO.inj, fun b hb => by rw [hh]; exact hO.flt b hb, fun b hb => by rw [hh]; exact hO.imm b hb⟩, ⟨by rw [hh]; exact Nat.le_refl _, ho, ht, hp, fun b _ _ => by rw [hh], hx.immI, hx.immN, hx.footN, hx.len, hx.alive, hx.fixed, hx.stay⟩⟩
theorem row_cut {n l : Nat} {w w' : World} {I : Nat → Prop} {ρ : LM} {σ : Store} {xs xs' : List D} {mv : Bool} {L : Br.Loc} {C : Array Value} {T : TypeId} {fz : Nat × Nat} {vs : List Value} {q : Nat} (hO : ORel w I ρ σ) (hl : σ[l]? = some (.row 1 xs mv)) (hL : ρ l = some L) (hs : L.sz = 1)
    (hh : w.heap[L.b]? = some (.cells C T fz)) (hth : thawR fz C) (hC : C.size = L.o + L.cap * 1) (hle : xs.length ≤ L.cap) (hvl : vs.length = xs.length) (hv1 : ∀ x ∈ vs, one x) (hw : w' = (w.drewN q).setCells L.b L.o vs) (hx : xs'.length ≤ xs.length) (hcap : L.cap ≤ maxLen) (hn : n ≤ σ.length)
    (hE : ∀ w2 : World, (∀ b, I b → I b ∧ w2.heap[b]? = w.heap[b]?) → (∀ j, j < vs.length → w2.cell? ⟨L.b, L.o + j, none⟩ = vs[j]?) → DrE w2 I 1 L.b L.o xs') :
    Fin n w I ρ σ (fun r σ' => r = .ret (.row l) ∧ σ' = (σ.map (O.kill (Nat.beq l))).set l (.row 1 xs' true)) (.returned (.slice (some ⟨L.b, L.o, none⟩) xs'.length L.cap)) w' := by
  have e1 := setCells_setRow vs L.o C (w.drewN q) hh (by omega)
  have hh2 := setRow_heap (w.drewN q) L.b C (C.toList.take L.o ++ vs ++ C.toList.drop (L.o + vs.length)).toArray T fz hh
  rw [← e1, ← hw] at hh2
  have hoth : ∀ b, b ≠ L.b → w'.heap[b]? = w.heap[b]? := fun b hb => by rw [hw, e1, setRow_other _ _ _ _ hb]; rfl
  have hI : ∀ b, I b → I b ∧ w'.heap[b]? = w.heap[b]? := fun b hb => ⟨hb, hoth b fun e => (hO.imm b hb).2 ⟨l, _, L, hl, by simp, hL, e.symm⟩⟩
  refine row_moved hO hl L hs hh2 ⟨?_, one_splice hth.2 hv1⟩ (by simp; omega) (by omega) hcap (hE w' hI fun j hj => ?_) (fun b _ hb => hoth b fun e => hb L hL e.symm) (by rw [hw, e1]; simp [(drewN_rest w q).1]) (.inr ⟨L, hL, rfl⟩) (by rw [hw, e1]; rfl) (by rw [hw, e1]; rfl) (by rw [hw, e1]; rfl) hn
  · have : ∀ m, m = C.size → thaw fz m := fun m e => e ▸ hth.1
    exact this _ (by simp; omega)
  · rw [hw]
    rw [World.cell?_setCells_in L.b vs L.o (w.drewN q) (fun k hk => by
      show (w.cell? ⟨L.b, L.o + k, none⟩).isSome = true
      simp [World.cell?, hh]; omega) j hj, List.getElem?_eq_getElem hj]
theorem strs_eq (ks : List ByteArray) (x : ByteArray) : Lib.strsOf (fun i => ks.getD i x) ks.length = ks.map fun s => s.data.toList := by
  apply List.ext_getElem
  · simp [Lib.strsOf]
  · intro i h1 h2
    simp only [Lib.strsOf, List.length_map, List.length_range] at h1
    simp [Lib.strsOf, h1]
theorem enc_str (s : ByteArray) : encStr s.data.toList = .string s := by simp [encStr]
theorem drN_scal {w : World} {I : Nat → Prop} : ∀ (l : List ByteArray), DrN w I 1 (l.map strD) (l.map Value.string)
  | [] => by simp [DrN]
  | s :: l => by
    simp only [List.map_cons, DrN]
    exact ⟨.string s, l.map Value.string, by simp [strD, Dr], rfl, rfl, drN_scal l⟩
theorem drN_ints {w : World} {I : Nat → Prop} : ∀ (l : List Int), DrN w I 1 (l.map intD) (l.map (Value.int .i64))
  | [] => by simp [DrN]
  | s :: l => by
    simp only [List.map_cons, DrN]
    exact ⟨.int .i64 s, l.map (Value.int .i64), by simp [intD, Dr], rfl, rfl, drN_ints l⟩
theorem del_string (ks : List ByteArray) (i : Nat) (mv : Bool) (hi : i < ks.length) : CallsA Try.prog 107 [.row 0, .d (.int .i64 (i : Nat)), .d (.int .i64 ((i + 1 : Nat) : Int))] [.row 1 (ks.map strD) mv] fun r σ' => r = .ret (.row 0) ∧ σ' = [.row 1 ((ks.eraseIdx i).map strD) true] := by
  intro w I ρ ags has hO
  simp only [vrL] at has
  obtain ⟨v0, _, rfl, h0, v1, _, rfl, h1, v2, _, rfl, h2, rfl⟩ := has
  simp only [vr, Dr] at h1 h2
  subst h1 h2
  obtain ⟨L, C, T, fz, hL, hs, hh, hth, hC, hle, hE, rfl⟩ := row_laid (n := ks.length) hO (l := 0) rfl h0 (by simp; omega)
  have hcap : L.cap ≤ maxLen := by
    have ho := hO.objs 0 _ rfl
    simp only [orel] at ho
    rcases ho with ⟨hx, _⟩ | ⟨L', C', T', fz', hL', _, _, _, _, _, hc, _⟩
    · rw [hL] at hx; cases hx
    · rw [hL] at hL'; cases hL'; exact hc
  have hc := Any.slices_Delete_string_cells Try.laysNm224 L.b L.o ks.length L.cap i (i + 1) (fun j => ks.getD j .empty) w (by simpa using hle) (by simpa [maxLen] using hcap) (by omega) (by omega)
    (fun j hj => by rw [cells_str hE j hj]; simp [hj]) (fun j hj => by
      have := hth.1.2 (L.o + j) (by simp at hle; omega)
      simp only [World.frozen?, hh, Bool.and_eq_false_iff, decide_eq_false_iff_not]
      omega)
  rw [List.length_map]
  refine hc.mono ?_
  rintro e w' ⟨rfl, q, hw⟩
  rw [strs_eq] at hw
  have hlen : ((ks.eraseIdx i).map strD).length = ks.length - (i + 1 - i) := by simp [List.length_eraseIdx, hi]
  rw [← hlen]
  have hvs : ∀ j, j < ks.length - 1 → (((ks.map fun s => s.data.toList).take i ++ (ks.map fun s => s.data.toList).drop (i + 1) ++ List.replicate (i + 1 - i) ([] : List UInt8)).map encStr)[j]? = ((ks.eraseIdx i).map Value.string)[j]? := by
    intro j hj
    rw [← List.map_take, ← List.map_drop, ← List.map_append, ← List.eraseIdx_eq_take_drop_succ, List.map_append, List.map_map, List.getElem?_append_left (by simp [List.length_eraseIdx, hi]; omega)]
    simp only [List.getElem?_map, Function.comp_def, enc_str]
  exact row_cut (n := 1) (xs' := (ks.eraseIdx i).map strD) (q := q) hO (l := 0) rfl hL hs hh hth hC hle (by simp; omega) (fun x hx => by
    obtain ⟨l, _, rfl⟩ := List.mem_map.1 hx
    rfl) hw (by simp [List.length_eraseIdx, hi]) hcap (by simp) (fun w2 hI hcell => by
    refine DrE_of_N (vs := (ks.eraseIdx i).map Value.string) (drN_scal _) fun j hj => ?_
    simp only [List.length_map, List.length_eraseIdx, hi, if_true] at hj
    rw [hcell j (by simp; omega), hvs j hj])
theorem del_int (zs : List Int) (i : Nat) (mv : Bool) (hi : i < zs.length) : CallsA Try.prog 108 [.row 0, .d (.int .i64 (i : Nat)), .d (.int .i64 ((i + 1 : Nat) : Int))] [.row 1 (zs.map intD) mv] fun r σ' => r = .ret (.row 0) ∧ σ' = [.row 1 ((zs.eraseIdx i).map intD) true] := by
  intro w I ρ ags has hO
  simp only [vrL] at has
  obtain ⟨v0, _, rfl, h0, v1, _, rfl, h1, v2, _, rfl, h2, rfl⟩ := has
  simp only [vr, Dr] at h1 h2
  subst h1 h2
  obtain ⟨L, C, T, fz, hL, hs, hh, hth, hC, hle, hE, rfl⟩ := row_laid (n := zs.length) hO (l := 0) rfl h0 (by simp; omega)
  have hcap : L.cap ≤ maxLen := by
    have ho := hO.objs 0 _ rfl
    simp only [orel] at ho
    rcases ho with ⟨hx, _⟩ | ⟨L', C', T', fz', hL', _, _, _, _, _, hc, _⟩
    · rw [hL] at hx; cases hx
    · rw [hL] at hL'; cases hL'; exact hc
  have hc := Any.slices_Delete_int_cells Try.laysNm223 L.b L.o zs.length L.cap i (i + 1) zs w (Nat.le_refl _) (by simpa using hle) (by simpa [maxLen] using hcap) (by omega) (by omega)
    (fun j hj => by rw [cells_int hE j hj]; simp [hj]) (fun j hj => by
      have := hth.1.2 (L.o + j) (by simp at hle; omega)
      simp only [World.frozen?, hh, Bool.and_eq_false_iff, decide_eq_false_iff_not]
      omega)
  rw [List.length_map]
  refine hc.mono ?_
  rintro e w' ⟨rfl, q, hw⟩
  rw [List.take_length] at hw
  have hlen : ((zs.eraseIdx i).map intD).length = zs.length - (i + 1 - i) := by simp [List.length_eraseIdx, hi]
  rw [← hlen]
  have hvs : ∀ j, j < zs.length - 1 → ((zs.take i ++ zs.drop (i + 1) ++ List.replicate (i + 1 - i) (0 : Int)).map (Value.int .i64))[j]? = ((zs.eraseIdx i).map (Value.int .i64))[j]? := by
    intro j hj
    rw [← List.eraseIdx_eq_take_drop_succ, List.map_append, List.getElem?_append_left (by simp [List.length_eraseIdx, hi]; omega)]
  exact row_cut (n := 1) (xs' := (zs.eraseIdx i).map intD) (q := q) hO (l := 0) rfl hL hs hh hth hC hle (by simp; omega) (fun x hx => by
    obtain ⟨l, _, rfl⟩ := List.mem_map.1 hx
    rfl) hw (by simp [List.length_eraseIdx, hi]) hcap (by simp) (fun w2 hI hcell => by
    refine DrE_of_N (vs := (zs.eraseIdx i).map (Value.int .i64)) (drN_ints _) fun j hj => ?_
    simp only [List.length_map, List.length_eraseIdx, hi, if_true] at hj
    rw [hcell j (by simp; omega), hvs j hj])
def lt (a b : ByteArray) : Bool := Op.bytesLess a.toList b.toList
def pos (ks : List ByteArray) (x : ByteArray) : Nat := (ks.takeWhile fun k => lt k x).length
theorem pos_le (ks : List ByteArray) (x : ByteArray) : pos ks x ≤ ks.length := by
  unfold pos
  exact (List.takeWhile_sublist _).length_le
def Rising (ks : List ByteArray) : Prop := ks.Pairwise fun a b => lt a b = true
theorem bytesLess_irrefl : ∀ l : List UInt8, Op.bytesLess l l = false
  | [] => rfl
  | a :: l => by simp [Op.bytesLess, bytesLess_irrefl l]
theorem lt_irrefl (a : ByteArray) : lt a a = false := bytesLess_irrefl _
theorem bytesLess_trans : ∀ {a b c : List UInt8}, Op.bytesLess a b = true → Op.bytesLess b c = true → Op.bytesLess a c = true
  | _, [], _, h, _ => by simp [Op.bytesLess] at h
  | _, _ :: _, [], _, h => by simp [Op.bytesLess] at h
  | [], _ :: _, _ :: _, _, _ => by simp [Op.bytesLess]
  | x :: a, y :: b, z :: c, h, h' => by
    have ih := @bytesLess_trans a b c
    simp only [Op.bytesLess, Bool.or_eq_true, decide_eq_true_eq, Bool.and_eq_true, beq_iff_eq, UInt8.lt_iff_toNat_lt, ← UInt8.toNat_inj] at h h' ⊢
    rcases h with h | ⟨h, h2⟩ <;> rcases h' with h' | ⟨h', h3⟩
    · left; omega
    · left; omega
    · left; omega
    · right; exact ⟨by omega, ih h2 h3⟩
theorem bytesLess_total : ∀ {a b : List UInt8}, Op.bytesLess a b = false → Op.bytesLess b a = false → a = b
  | [], [], _, _ => rfl
  | [], _ :: _, h, _ => by simp [Op.bytesLess] at h
  | _ :: _, [], _, h => by simp [Op.bytesLess] at h
  | x :: a, y :: b, h, h' => by
    simp only [Op.bytesLess, Bool.or_eq_false_iff, decide_eq_false_iff_not, Bool.and_eq_false_iff, beq_eq_false_iff_ne, UInt8.lt_iff_toNat_lt, ne_eq, ← UInt8.toNat_inj] at h h'
    have hxy : x = y := UInt8.toNat_inj.1 (by omega)
    subst hxy
    rw [bytesLess_total (h.2.resolve_left (by simp)) (h'.2.resolve_left (by simp))]
theorem lt_trans {a b c : ByteArray} (h : lt a b = true) (h' : lt b c = true) : lt a c = true := bytesLess_trans h h'
theorem toList_inj {a b : ByteArray} (h : a.toList = b.toList) : a = b := by
  rw [Go.ByteArray.toList_eq, Go.ByteArray.toList_eq] at h
  cases a; cases b
  simp only [ByteArray.mk.injEq]
  exact Array.ext' h
theorem lt_total {a b : ByteArray} (h : lt a b = false) (h' : lt b a = false) : a = b := toList_inj (bytesLess_total h h')
theorem lt_asymm {a b : ByteArray} (h : lt a b = true) : lt b a = false := by
  cases h' : lt b a with
  | false => rfl
  | true => have := lt_trans h h'; rw [lt_irrefl] at this; cases this
theorem pos_cons (k : ByteArray) (ks : List ByteArray) (x : ByteArray) : pos (k :: ks) x = if lt k x = true then pos ks x + 1 else 0 := by
  unfold pos
  rw [List.takeWhile_cons]
  split <;> simp
theorem pos_low : ∀ {ks : List ByteArray} {x : ByteArray} {t : Nat} (h : t < pos ks x) (h' : t < ks.length), lt ks[t] x = true
  | [], x, t, h, h' => by simp at h'
  | k :: ks, x, t, h, h' => by
    rw [pos_cons] at h
    split at h
    · cases t with
      | zero => assumption
      | succ t => exact pos_low (ks := ks) (by omega) (by simpa using h')
    · omega
theorem pos_high : ∀ {ks : List ByteArray} {x : ByteArray} {t : Nat} (_ : Rising ks) (h : pos ks x ≤ t) (h' : t < ks.length), lt ks[t] x = false
  | [], x, t, _, h, h' => by simp at h'
  | k :: ks, x, t, hr, h, h' => by
    rw [pos_cons] at h
    have hr' := List.pairwise_cons.1 hr
    split at h
    · cases t with
      | zero => omega
      | succ t => exact pos_high (ks := ks) hr'.2 (by omega) (by simpa using h')
    · rename_i hk
      have hk : lt k x = false := by simpa using hk
      cases t with
      | zero => exact hk
      | succ t =>
        have ht : t < ks.length := by simpa using h'
        have h1 := hr'.1 ks[t] (List.getElem_mem _)
        cases h2 : lt ks[t] x with
        | false => simpa using h2
        | true => have := lt_trans h1 h2; rw [hk] at this; cases this
theorem spec_106 (ks : List ByteArray) (x : ByteArray) (hr : Rising ks) (hl : ks.length < 4611686018427387904) : Br.Pure Try.prog 106 [.d (.list 1 (ks.map strD)), .d (.str x)] (.tuple [.d (i64 (pos ks x)), .d (.bool (decide (ks[pos ks x]? = some x)))]) := by
  intro w I ρ ags has hO
  simp only [vrL] at has
  obtain ⟨v0, _, rfl, h0, v1, _, rfl, h1, rfl⟩ := has
  simp only [vr, Dr] at h0 h1
  subst h1
  obtain ⟨a, cap, rfl, hle, hcap, hE⟩ := h0
  rw [List.length_map] at *
  have hp := pos_le ks x
  by_cases hz : ks.length = 0
  · have hks : ks = [] := List.eq_nil_of_length_eq_zero hz
    subst hks
    have hc := Any2.slices_BinarySearch_string_empty Try.laysNm226 a cap x w
    refine hc.mono ?_
    rintro e w' ⟨rfl, rfl⟩
    refine fin_drew hO rfl rfl rfl rfl (Nat.le_refl _) ?_
    simp only [vr, vrL, pos]
    exact ⟨[.int .i64 0, .bool false], rfl, _, _, rfl, by simp [Dr, i64], _, _, rfl, by simp [Dr], rfl⟩
  · rcases hE with hE | ⟨b, o, rfl, hI, hE⟩
    · exact absurd (by simpa using hE) (show ¬ ks = [] by rintro rfl; exact hz rfl)
    have hc := Any2.slices_BinarySearch_string Try.laysNm226 b o ks.length cap (fun t => ks.getD t x) x w hl (fun j hj => by rw [cells_str hE j hj]; simp [hj])
    have hbs : Lib.bsGo (fun t => Op.bytesLess (ks.getD t x).toList x.toList) ks.length 0 ks.length = pos ks x := by
      refine Lib.bsGo_spec _ _ (fun t ht => ?_) (fun t ht => ?_) _ _ _ (by omega) (by omega) hp
      · have hlt : t < ks.length := by omega
        rw [List.getD_eq_getElem?_getD, List.getElem?_eq_getElem hlt]
        exact pos_low ht hlt
      · by_cases hlt : t < ks.length
        · rw [List.getD_eq_getElem?_getD, List.getElem?_eq_getElem hlt]
          exact pos_high hr ht hlt
        · rw [List.getD_eq_getElem?_getD, List.getElem?_eq_none (by omega)]
          exact lt_irrefl x
    rw [hbs] at hc
    refine hc.mono ?_
    rintro e w' ⟨rfl, q, rfl⟩
    refine fin_drew hO rfl rfl rfl rfl (Nat.le_refl _) ?_
    simp only [vr, vrL]
    refine ⟨_, rfl, _, _, rfl, by simp [Dr, i64], _, _, rfl, ?_, rfl⟩
    simp only [Dr, Value.bool.injEq, decide_eq_decide]
    by_cases hlt : pos ks x < ks.length
    · simp [hlt]
    · simp [List.getElem?_eq_none (show ks.length ≤ pos ks x by omega), hlt]
end Go.Proofs.Ytoelkgbeefoplaa
namespace Go.Proofs.Ytoelkgbeefoplaa
open Go Go.Br Go.Proofs
open List (map)
noncomputable def B106 : Code := (Try.f106.body).getD .skip
theorem F106 : Fnc Try.prog 106 Try.f106 B106 := ⟨Try.func106, by kernel_rfl, by kernel_rfl⟩
noncomputable def B95 : Code := (Try.f95.body).getD .skip
theorem F95 : Fnc Try.prog 95 Try.f95 B95 := ⟨Try.func95, by kernel_rfl, by kernel_rfl⟩
noncomputable def B70 : Code := (Try.f70.body).getD .skip
theorem F70 : Fnc Try.prog 70 Try.f70 B70 := ⟨Try.func70, by kernel_rfl, by kernel_rfl⟩
noncomputable def B66 : Code := (Try.f66.body).getD .skip
theorem F66 : Fnc Try.prog 66 Try.f66 B66 := ⟨Try.func66, by kernel_rfl, by kernel_rfl⟩
theorem spec_95 (ks : List ByteArray) (x : ByteArray) (V2 : List Int) (hr : Rising ks) (hl : ks.length < 4611686018427387904) :
    CallsA Try.prog 95 [.ptr 0 0 0, .d (.str x)] [.cells [.row 1, .row 2], .row 1 (ks.map strD) false, .row 1 (V2.map intD) false] fun r σ' => r = .ret (.tuple [.d (i64 (pos ks x)), .d (.bool (decide (ks[pos ks x]? = some x)))]) ∧ σ' = [.cells [.row 1, .row 2], .row 1 (ks.map strD) false, .row 1 (V2.map intD) false] := by
  refine CallsA.start F95 (tm := mk 16 [(0, .ptr 0 0 0), (1, .d (.str x))]) (by kernel_rfl) ?_
  refine .sg0 20 [0, 1, 4, 5, 8, 9, 10, 11, 12] (cgo 20 [false] [.code B95]) [(4, .d (.int .i64 0)), (5, .d (.bool false)), (8, .ptr 0 0 0), (9, .ptr 0 0 0), (10, .ptr 0 0 0), (11, .row 1), (12, .d (.str x))] ?_
  refine .semH (o := (opOf (cgo 20 [false] [Item.code B95])).getD default) (v := .tuple [.d (.int .i64 (↑(pos ks x) : Int)), .d (.bool (decide (ks[pos ks x]? = some x)))]) (by kernel_rfl) (by kernel_rfl) (T' := cgo 21 [false] [Item.code B95]) (by kernel_rfl) (fun k => sem_look (x := (.func 106)) (args := #[(.tmp 11), (.tmp 12)]) (ts := #[66, 9]) (first := []) (cap := []) (ds := [.d (.list 1 (map strD ks)), .d (.str x)]) (v := .tuple [.d (.int .i64 (↑(pos ks x) : Int)), .d (.bool (decide (ks[pos ks x]? = some x)))]) (σ0 := []) F106 (@spec_106 (ks) (x) (by assumption) (by assumption)) (by kernel_rfl) (by kernel_rfl) (by kernel_rfl) (by kernel_rfl) (by kernel_rfl)) ?_
  refine .seg 5 [4, 5] (T' := cgo 26 [false] [.code B95]) (tm' := mk 16 [(4, .d (.int .i64 (↑(pos ks x) : Int))), (5, .d (.bool (decide (ks[pos ks x]? = some x))))]) (σ' := [.cells [.row 1, .row 2], .row 1 (map strD ks) false, .row 1 (map intD V2) false]) (by kernel_rfl) ?_
  refine .retH F95 (v := V.tuple [V.d (D.int IntKind.i64 (↑(pos ks x) : Int)), V.d (D.bool (decide (ks[pos ks x]? = some x)))]) (by kernel_rfl) (by kernel_rfl) ?_
  exact ⟨rfl, rfl⟩
theorem spec_66 (ks : List ByteArray) (V2 : List Int) :
    CallsA Try.prog 66 [.ptr 0 0 0] [.cells [.row 1, .row 2], .row 1 (ks.map strD) false, .row 1 (V2.map intD) false] fun r σ' => r = .ret (.d (i64 ks.length)) ∧ σ' = [.cells [.row 1, .row 2], .row 1 (ks.map strD) false, .row 1 (V2.map intD) false] := by
  refine CallsA.start F66 (tm := mk ((Try.f66.ntmps)) [(0, .ptr 0 0 0)]) (by kernel_rfl) ?_
  refine .seg 21 [2] (T' := cgo 21 [false] [.code B66]) (tm' := mk 10 [(2, .d (.int .i64 (↑(map strD ks).length : Int)))]) (σ' := [.cells [.row 1, .row 2], .row 1 (map strD ks) false, .row 1 (map intD V2) false]) (by kernel_rfl) ?_
  simp only [List.length_map]
  refine .retH F66 (v := V.d (D.int IntKind.i64 (↑ks.length : Int))) (by kernel_rfl) (by kernel_rfl) ?_
  exact ⟨rfl, rfl⟩
def look (ks : List ByteArray) (V2 : List Int) (x : ByteArray) : Option Int := if ks[pos ks x]? = some x then V2[pos ks x]? else none
theorem spec_70 (ks : List ByteArray) (x : ByteArray) (V2 : List Int) (hr : Rising ks) (hl : ks.length < 4611686018427387904) (hv : V2.length = ks.length) :
    CallsA Try.prog 70 [.ptr 0 0 0, .d (.str x)] [.cells [.row 1, .row 2], .row 1 (ks.map strD) false, .row 1 (V2.map intD) false] fun r σ' => r = .ret (.tuple [.d (i64 ((look ks V2 x).getD 0)), .d (.bool (look ks V2 x).isSome)]) ∧ σ' = [.cells [.row 1, .row 2], .row 1 (ks.map strD) false, .row 1 (V2.map intD) false] := by
  refine CallsA.start F70 (tm := mk 23 [(0, .ptr 0 0 0), (1, .d (.str x))]) (by kernel_rfl) ?_
  refine .sg0 9 [0, 1, 4, 5, 8, 9] (cgo 9 [] [.code B70]) [(4, .d (.int .i64 0)), (5, .d (.bool false)), (8, .ptr 0 0 0), (9, .d (.str x))] ?_
  refine .ca [0, 1, 2] (cgo 10 [] [.code B70]) F95 (@spec_95 (ks) (x) (V2) (by assumption) (by assumption)) ?_
  rintro r0 s0 ⟨rfl, rfl⟩
  refine ⟨_, rfl, ?_⟩
  refine .sg0 11 [0, 4, 5, 6, 13] (cgo 21 [] [.code B70]) [(5, .d (.bool (decide (ks[pos ks x]? = some x)))), (6, .d (.int .i64 (↑(pos ks x) : Int))), (13, .d (.bool (decide (ks[pos ks x]? = some x))))] ?_
  refine .if' (decide (ks[pos ks x]? = some x)) (cgo 22 [true] [.code B70]) (cgo 22 [false] [.code B70]) (fun h2 => ?_) (fun h2 => ?_)
  · simp only [bsX] at h2
    refine .sg0 6 [0, 4, 5, 6, 14, 15, 16, 17, 18] (cgo 28 [true] [.code B70]) [(14, .ptr 0 0 0), (15, .ptr 0 0 0), (16, .ptr 0 0 1), (17, .row 2), (18, .d (.int .i64 (↑(pos ks x) : Int)))] ?_
    refine .op' (cgo 29 [true] [.code B70]) (ixRow_ok (t := 46) (x := (.tmp 17)) (i := (.tmp 18)) (k := IntKind.i64) (n := (↑(pos ks x) : Int)) (l := 2) (sz := 1) (xs := map intD V2) (mv := false) (by kernel_rfl) (by kernel_rfl) (by kernel_rfl) (by kernel_rfl) (by kernel_rfl) (by omega) (by grind)) ?_
    obtain ⟨y3, hy3⟩ := get_some (l := V2) (i := (↑(pos ks x) : Int).toNat) (by grind)
    refine .op' (cgo 30 [true] [.code B70]) (ldRow_ok (t := 3) (x := (.tmp 19)) (l := 2) (i := (↑(pos ks x) : Int).toNat) (s := 0) (sz := 1) (xs := map intD V2) (mv := false) (d := intD y3) (v := .d (.int .i64 y3)) (by kernel_rfl) (by kernel_rfl) (by kernel_rfl) (map_get hy3) (by kernel_rfl)) ?_
    refine .seg 9 [4, 5] (T' := cgo 39 [true] [.code B70]) (tm' := mk 23 [(4, .d (.int .i64 y3)), (5, .d (.bool (decide (ks[pos ks x]? = some x))))]) (σ' := [.cells [.row 1, .row 2], .row 1 (map strD ks) false, .row 1 (map intD V2) false]) (by kernel_rfl) ?_
    refine .retH F70 (v := V.tuple [V.d (D.int IntKind.i64 y3), V.d (D.bool (decide (ks[pos ks x]? = some x)))]) (by kernel_rfl) (by kernel_rfl) ?_
    simp_all [look, i64, intD]
  · simp only [bsX] at h2
    refine .seg 8 [4, 5] (T' := cgo 30 [false] [.code B70]) (tm' := mk 23 [(4, .d (.int .i64 0)), (5, .d (.bool (decide (ks[pos ks x]? = some x))))]) (σ' := [.cells [.row 1, .row 2], .row 1 (map strD ks) false, .row 1 (map intD V2) false]) (by kernel_rfl) ?_
    refine .retH F70 (v := V.tuple [V.d (D.int IntKind.i64 0), V.d (D.bool (decide (ks[pos ks x]? = some x)))]) (by kernel_rfl) (by kernel_rfl) ?_
    simp_all [look, i64, intD]
end Go.Proofs.Ytoelkgbeefoplaa
