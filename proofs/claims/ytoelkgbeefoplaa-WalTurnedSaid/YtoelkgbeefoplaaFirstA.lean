/- The record of the frame at the front: a walk of wal.first. -/
import Derived.Test.YtoelkgbeefoplaaWordB
namespace Go.Proofs.Ytoelkgbeefoplaa
open Go Go.Br Go.Proofs

/-- How long the front frame's record says that it is. -/
def nOf (bs : List UInt8) : Nat := (get4 bs 0).toInt.toNat
def fits (bs : List UInt8) : Bool := decide (4 ≤ bs.length) && decide (0 ≤ (get4 bs 0).toInt) && decide ((get4 bs 0).toInt ≤ 65536) && decide ((get4 bs 0).toInt + 8 ≤ bs.length)
def piece (bs : List UInt8) : List UInt8 := (bs.take (4 + nOf bs)).drop 4
def sumOk (bs : List UInt8) : Bool := get4 bs (4 + nOf bs) == crc (bs.take (4 + nOf bs))
def fstV (bs : List UInt8) : V := if fits bs then .tuple [.ex 1 ((piece bs).map u8), .d (.bool (sumOk bs))] else .tuple [.nils, .d (.bool false)]
theorem toNat_beq (x y : BitVec 32) : (((x.toNat : Int)) == (y.toNat : Int)) = (x == y) := by
  rw [Bool.eq_iff_iff]
  simp only [beq_iff_eq]
  exact ⟨fun h => BitVec.eq_of_toNat_eq (by omega), fun h => by rw [h]⟩

noncomputable def B92 : Code := (Try.f92.body).getD .skip
theorem F92 : Fnc Try.prog 92 Try.f92 B92 := ⟨Try.func92, by kernel_rfl, by kernel_rfl⟩
theorem first_pure (bs : List UInt8) (hlen : bs.length < 9223372036854770000) : Pure Try.prog 92 [.d (.list 1 (bs.map u8))] (fstV bs) := by
  refine CallsA.start F92 (tm := (mk 52 [(0, .d (.list 1 (bs.map u8)))])) (by kernel_rfl) ?_
  refine .seg 8 [0, 10] (T' := cgo 8 [] [.code B92]) (tm' := mk 52 [(0, .d (.list 1 (bs.map u8))), (10, .d (.list 1 (bs.map u8)))]) (σ' := []) (by kernel_rfl) ?_
  refine .semH (o := (opOf (cgo 8 [] [.code B92])).getD default) (v := .tuple [.d (i32 (get4 bs 0)), .d (.bool (decide (0 + 4 ≤ bs.length)))]) (σ' := []) (by kernel_rfl) (by kernel_rfl) (T' := cgo 9 [] [.code B92]) (by kernel_rfl) (fun k => sem_data (x := .func 105) (args := #[.tmp 10, .const (.int .i64 0)]) (ts := #[22, 3]) (first := []) (cap := []) F105 (get_pure bs 0 (by omega) (by omega)) (by kernel_rfl) (by kernel_rfl) (by kernel_rfl) (by kernel_rfl) (by kernel_rfl) []) ?_
  refine .seg 12 [0, 4, 16] (T' := cgo 21 [] [.code B92]) (tm' := mk 52 [(0, .d (.list 1 (bs.map u8))), (4, .d (i32 (get4 bs 0))), (16, .d (.bool (!(decide (0 + 4 ≤ bs.length)))))]) (σ' := []) (by kernel_rfl) ?_
  by_cases h4 : 0 + 4 ≤ bs.length
  case neg =>
    have hf : fits bs = false := by
      have : ¬ 4 ≤ bs.length := by omega
      simp [fits, this]
    rw [decide_eq_false h4, Bool.not_false, fstV, hf]
    refine .seg 22 [2, 3] (T' := cgo 43 [true] [.code B92]) (tm' := mk 52 [(2, .nils), (3, .d (.bool (false)))]) (σ' := []) (by kernel_rfl) ?_
    exact .retH F92 (by kernel_rfl) (by kernel_rfl) (⟨rfl, rfl⟩)
  rw [decide_eq_true h4, Bool.not_true]
  refine .seg 4 [0, 4, 20] (T' := cgo 25 [] [.code B92]) (tm' := mk 52 [(0, .d (.list 1 (bs.map u8))), (4, .d (i32 (get4 bs 0))), (20, .d (.bool (decide ((get4 bs 0).toInt < 0))))]) (σ' := []) (by kernel_rfl) ?_
  by_cases h0 : (get4 bs 0).toInt < 0
  case pos =>
    have hf : fits bs = false := by
      have : ¬ 0 ≤ (get4 bs 0).toInt := by omega
      simp [fits, this]
    rw [decide_eq_true h0, fstV, hf]
    refine .seg 18 [2, 3] (T' := cgo 43 [true] [.code B92]) (tm' := mk 52 [(2, .nils), (3, .d (.bool (false)))]) (σ' := []) (by kernel_rfl) ?_
    exact .retH F92 (by kernel_rfl) (by kernel_rfl) (⟨rfl, rfl⟩)
  rw [decide_eq_false h0]
  refine .seg 4 [0, 4, 24] (T' := cgo 29 [] [.code B92]) (tm' := mk 52 [(0, .d (.list 1 (bs.map u8))), (4, .d (i32 (get4 bs 0))), (24, .d (.bool (decide ((get4 bs 0).toInt > 65536))))]) (σ' := []) (by kernel_rfl) ?_
  by_cases h6 : (get4 bs 0).toInt > 65536
  case pos =>
    have hf : fits bs = false := by
      have : ¬ (get4 bs 0).toInt ≤ 65536 := by omega
      simp [fits, this]
    rw [decide_eq_true h6, fstV, hf]
    refine .seg 14 [2, 3] (T' := cgo 43 [true] [.code B92]) (tm' := mk 52 [(2, .nils), (3, .d (.bool (false)))]) (σ' := []) (by kernel_rfl) ?_
    exact .retH F92 (by kernel_rfl) (by kernel_rfl) (⟨rfl, rfl⟩)
  rw [decide_eq_false h6]
  have hn : (get4 bs 0).toInt = (nOf bs : Int) := by simp [nOf]; omega
  have hi : iconv .i64 (get4 bs 0).toInt = (nOf bs : Int) := by rw [hn]; exact wrap_i64 (by omega) (by omega)
  refine .seg 8 [0, 4, 31] (T' := cgo 37 [] [.code B92]) (tm' := mk 52 [(0, .d (.list 1 (bs.map u8))), (4, .d (i32 (get4 bs 0))), (31, .d (.bool (decide (isub .i64 ((bs.map u8).length : Nat) 8 < iconv .i64 (get4 bs 0).toInt))))]) (σ' := []) (by kernel_rfl) ?_
  rw [List.length_map, isub_i64 (by omega) (by omega), hi]
  by_cases h8 : (bs.length : Int) - 8 < (nOf bs : Int)
  case pos =>
    have hf : fits bs = false := by
      have : ¬ (get4 bs 0).toInt + 8 ≤ bs.length := by omega
      simp [fits, this]
    rw [decide_eq_true h8, fstV, hf]
    refine .seg 6 [2, 3] (T' := cgo 43 [true] [.code B92]) (tm' := mk 52 [(2, .nils), (3, .d (.bool (false)))]) (σ' := []) (by kernel_rfl) ?_
    exact .retH F92 (by kernel_rfl) (by kernel_rfl) (⟨rfl, rfl⟩)
  rw [decide_eq_false h8]
  have hf : fits bs = true := by
    simp only [fits, Bool.and_eq_true, decide_eq_true_eq]
    omega
  rw [fstV, hf]
  refine .seg 13 [0, 6, 36, 37] (T' := cgo 50 [false] [.code B92]) (tm' := mk 52 [(0, .d (.list 1 (bs.map u8))), (6, .d (.int .i64 (iadd .i64 4 (iconv .i64 (get4 bs 0).toInt)))), (36, .d (.list 1 (bs.map u8))), (37, .d (.int .i64 (iadd .i64 4 (iconv .i64 (get4 bs 0).toInt))))]) (σ' := []) (by kernel_rfl) ?_
  have e4 : iadd .i64 4 (nOf bs : Int) = ((4 + nOf bs : Nat) : Int) := by rw [iadd_i64 (by omega) (by omega)]; simp
  rw [hi, e4]
  refine .semH (o := (opOf (cgo 50 [false] [.code B92])).getD default) (v := .tuple [.d (i32 (get4 bs (4 + nOf bs))), .d (.bool (decide (4 + nOf bs + 4 ≤ bs.length)))]) (σ' := []) (by kernel_rfl) (by kernel_rfl) (T' := cgo 51 [false] [.code B92]) (by kernel_rfl) (fun k => sem_data (x := .func 105) (args := #[.tmp 36, .tmp 37]) (ts := #[22, 3]) (first := []) (cap := []) F105 (get_pure bs (4 + nOf bs) (by omega) (by omega)) (by kernel_rfl) (by kernel_rfl) (by kernel_rfl) (by kernel_rfl) (by kernel_rfl) []) ?_
  refine .seg 7 [0, 6, 7] (T' := cgo 58 [false] [.code B92]) (tm' := mk 52 [(0, .d (.list 1 (bs.map u8))), (6, .d (.int .i64 (((4 + nOf bs : Nat) : Int)))), (7, .d (i32 (get4 bs (4 + nOf bs))))]) (σ' := []) (by kernel_rfl) ?_
  refine .drawH (T' := (cgo 59 [false] [.code B92])) (tm' := (mk 52 [(0, .d (.list 1 (bs.map u8))), (6, .d (.int .i64 (((4 + nOf bs : Nat) : Int)))), (7, .d (i32 (get4 bs (4 + nOf bs)))), (41, .d (.list 1 (bs.map u8))), (42, .d (.int .i64 (((4 + nOf bs : Nat) : Int)))), (43, .d (.int .i64 (((4 + nOf bs : Nat) : Int)))), (44, .ex 1 (((bs.map u8).take (4 + nOf bs)).drop 4)), (45, .d (i32 (get4 bs (4 + nOf bs)))), (46, .d (.int .u32 (iconv .u32 (get4 bs (4 + nOf bs)).toInt))), (47, .d (.list 1 (bs.map u8))), (48, .d (.int .i64 (((4 + nOf bs : Nat) : Int)))), (49, .d (.list 1 (((bs.map u8).take (4 + nOf bs)).drop 0))), (50, .d (u32 (crc (bs.take (4 + nOf bs))))), (51, .d (.bool (iconv .u32 (get4 bs (4 + nOf bs)).toInt == ((crc (bs.take (4 + nOf bs))).toNat : Int)))), (2, .ex 1 (((bs.map u8).take (4 + nOf bs)).drop 4)), (3, .d (.bool (iconv .u32 (get4 bs (4 + nOf bs)).toInt == ((crc (bs.take (4 + nOf bs))).toNat : Int))))])) (σ' := []) (List.replicate 13 0) [0, 1, 2, 3, 4, 5, 6, 7, 8, 9, 10, 11, 12] (by kernel_rfl) (by kernel_rfl) (by kernel_rfl) (by kernel_rfl) (fun k => ?_) ?_
  · refine Run.append (A := [0, 1, 2]) (srun_ok (tm' := (mk 52 [(0, .d (.list 1 (bs.map u8))), (6, .d (.int .i64 (((4 + nOf bs : Nat) : Int)))), (7, .d (i32 (get4 bs (4 + nOf bs)))), (41, .d (.list 1 (bs.map u8))), (42, .d (.int .i64 (((4 + nOf bs : Nat) : Int)))), (43, .d (.int .i64 (((4 + nOf bs : Nat) : Int))))])) (σ' := []) (by kernel_rfl)) ?_
    refine Run.one (StepQ.rule (o := ((drawOf (cgo 58 [false] [.code B92]))[3]?).getD default) (v := .ex 1 (((bs.map u8).take (4 + nOf bs)).drop 4)) [.tmp 41, .const (.int .i64 4), .tmp 42, .tmp 43] (by kernel_rfl) (by kernel_rfl) (by kernel_rfl) (by kernel_rfl) (by kernel_rfl) (fun s tm' hv => sl3Data_ok (t := 22) (x := .tmp 41) (y := .tmp 42) (z := .tmp 43) (lo := some (.const (.int .i64 4))) (sz := 1) (xs := bs.map u8) 4 (4 + nOf bs) (by kernel_rfl) (by rw [hv _ (by simp)]; kernel_rfl) (by kernel_rfl) ⟨.i64, 4, by kernel_rfl, by omega, by omega⟩ ⟨.i64, ((4 + nOf bs : Nat) : Int), (hv _ (by simp)).trans (by kernel_rfl), Int.natCast_nonneg _, Int.toNat_natCast _⟩ ⟨.i64, ((4 + nOf bs : Nat) : Int), (hv _ (by simp)).trans (by kernel_rfl), Int.natCast_nonneg _, Int.toNat_natCast _⟩ (by omega) (by simp; omega))) ?_
    refine Run.append (A := [4, 5, 6, 7]) (srun_ok (tm' := (mk 52 [(0, .d (.list 1 (bs.map u8))), (6, .d (.int .i64 (((4 + nOf bs : Nat) : Int)))), (7, .d (i32 (get4 bs (4 + nOf bs)))), (41, .d (.list 1 (bs.map u8))), (42, .d (.int .i64 (((4 + nOf bs : Nat) : Int)))), (43, .d (.int .i64 (((4 + nOf bs : Nat) : Int)))), (44, .ex 1 (((bs.map u8).take (4 + nOf bs)).drop 4)), (45, .d (i32 (get4 bs (4 + nOf bs)))), (46, .d (.int .u32 (iconv .u32 (get4 bs (4 + nOf bs)).toInt))), (47, .d (.list 1 (bs.map u8))), (48, .d (.int .i64 (((4 + nOf bs : Nat) : Int))))])) (σ' := []) (by kernel_rfl)) ?_
    refine Run.one (StepQ.rule (o := ((drawOf (cgo 58 [false] [.code B92]))[8]?).getD default) (v := .d (.list 1 (((bs.map u8).take (4 + nOf bs)).drop 0))) [.tmp 47, .tmp 48] (by kernel_rfl) (by kernel_rfl) (by kernel_rfl) (by kernel_rfl) (by kernel_rfl) (fun s tm' hv => slData_ok (t := 22) (x := .tmp 47) (lo := none) (hi := some (.tmp 48)) (sz := 1) (xs := bs.map u8) 0 (4 + nOf bs) (by kernel_rfl) (by rw [hv _ (by simp)]; kernel_rfl) (by kernel_rfl) rfl ⟨.i64, ((4 + nOf bs : Nat) : Int), (hv _ (by simp)).trans (by kernel_rfl), Int.natCast_nonneg _, Int.toNat_natCast _⟩ (by omega) (by simp; omega))) ?_
    refine Run.one (StepQ.data (o := ((drawOf (cgo 58 [false] [.code B92]))[9]?).getD default) (v := .d (u32 (crc (bs.take (4 + nOf bs))))) (by kernel_rfl) (by kernel_rfl) (by kernel_rfl) (sem_data0 (x := .func 59) (args := #[.tmp 49]) (ts := #[22]) (first := []) (cap := []) (ds := [.d (.list 1 ((bs.take (4 + nOf bs)).map u8))]) F59 (crc_pure (bs.take (4 + nOf bs)) (by simp; omega)) (by kernel_rfl) (by kernel_rfl) (by kernel_rfl) (by rw [List.map_take]; kernel_rfl) (by kernel_rfl) (by kernel_rfl))) ?_
    exact srun_ok (by kernel_rfl)
  rw [iconv_u32_i32, toNat_beq, ← List.map_take, ← List.map_drop]
  exact .retH F92 (by kernel_rfl) (by kernel_rfl) (⟨rfl, rfl⟩)
end Go.Proofs.Ytoelkgbeefoplaa

