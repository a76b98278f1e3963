/- Four bytes of a number: walks of word.Put and of the document's Put. -/
import Derived.Test.YtoelkgbeefoplaaCrcA
namespace Go.Proofs.Ytoelkgbeefoplaa
open Go Go.Br Go.Proofs

def i32 (x : BitVec 32) : D := .int .i32 x.toInt
def i64 (n : Int) : D := .int .i64 n
/-- A byte of a number. -/
def byt (x : BitVec 32) (k : Nat) : UInt8 := UInt8.ofNat (x.toNat / 2 ^ (8 * k))
def le4 (x : BitVec 32) : List UInt8 := [byt x 0, byt x 1, byt x 2, byt x 3]
theorem iconv_u32_i32 (x : BitVec 32) : iconv .u32 x.toInt = (x.toNat : Int) := by
  show IntKind.u32.wrap _ = _
  rw [wrap_u32', BitVec.ofInt_toInt]
theorem wrap_u8 (n : Nat) : IntKind.u8.wrap (n : Int) = ((n % 256 : Nat) : Int) := by
  simp [IntKind.wrap, IntKind.bits, IntKind.signed]
theorem byt_toNat (x : BitVec 32) (k : Nat) : (byt x k).toNat = x.toNat / 2 ^ (8 * k) % 256 := by simp [byt]
theorem iconv_byt0 (x : BitVec 32) : iconv .u8 (x.toNat : Int) = ((byt x 0).toNat : Int) := by
  show IntKind.u8.wrap _ = _
  rw [wrap_u8, byt_toNat]; simp
theorem iconv_byt (x : BitVec 32) (k : Nat) : iconv .u8 (ishr .u32 (x.toNat : Int) ((8 * k : Nat) : Int)) = ((byt x k).toNat : Int) := by
  rw [ishr_u32]
  show IntKind.u8.wrap _ = _
  rw [wrap_u8, byt_toNat, BitVec.toNat_ushiftRight, Nat.shiftRight_eq_div_pow]

noncomputable def B93 : Code := (Try.f93.body).getD .skip
theorem F93 : Fnc Try.prog 93 Try.f93 B93 := ⟨Try.func93, by kernel_rfl, by kernel_rfl⟩
theorem bits_pure (x : BitVec 32) : Pure Try.prog 93 [.d (i32 x)] (.d (i64 x.toNat)) := by
  refine CallsA.start F93 (tm := (mk 10 [(0, .d (i32 x))])) (by kernel_rfl) ?_
  refine .seg 10 [0, 4] (T' := cgo 10 [] [.code B93]) (tm' := mk 10 [(0, .d (i32 x)), (4, .d (.bool (decide (x.toInt < 0))))]) (σ' := []) (by kernel_rfl) ?_
  refine .ifH (b := decide (x.toInt < 0)) (by kernel_rfl) (by kernel_rfl) (T1 := cgo 11 [true] [.code B93]) (T2 := cgo 11 [false] [.code B93]) (by kernel_rfl) (by kernel_rfl) (fun h => ?_) (fun h => ?_)
  · have hx : x.toInt < 0 := by simpa using h
    refine .seg 7 [2] (T' := cgo 18 [true] [.code B93]) (tm' := mk 10 [(2, .d (.int .i64 (iadd .i64 (iconv .i64 x.toInt) 4294967296)))]) (σ' := []) (by kernel_rfl) ?_
    have h1 := x.isLt
    have h2 : x.toInt = (x.toNat : Int) - 4294967296 := by
      rw [BitVec.toInt_eq_toNat_cond] at hx ⊢
      split at hx <;> split <;> omega
    have e1 : iconv .i64 x.toInt = x.toInt := wrap_i64 (by omega) (by omega)
    rw [e1, iadd_i64 (by omega) (by omega), h2, Int.sub_add_cancel]
    exact .retH F93 (by kernel_rfl) (by kernel_rfl) (⟨rfl, rfl⟩)
  · have hx : ¬ x.toInt < 0 := by simpa using h
    refine .seg 7 [2] (T' := cgo 18 [false] [.code B93]) (tm' := mk 10 [(2, .d (.int .i64 (iconv .i64 x.toInt)))]) (σ' := []) (by kernel_rfl) ?_
    have h1 := x.isLt
    have h2 : x.toInt = (x.toNat : Int) := by
      rw [BitVec.toInt_eq_toNat_cond] at hx ⊢
      split at hx <;> split <;> omega
    have e1 : iconv .i64 x.toInt = x.toNat := by rw [h2]; exact wrap_i64 (by omega) (by omega)
    rw [e1]
    exact .retH F93 (by kernel_rfl) (by kernel_rfl) (⟨rfl, rfl⟩)

noncomputable def B62 : Code := (Try.f62.body).getD .skip
theorem F62 : Fnc Try.prog 62 Try.f62 B62 := ⟨Try.func62, by kernel_rfl, by kernel_rfl⟩
theorem iquo_nat {a b : Nat} (h : a < 4294967296) : iquo .i64 (a : Int) (b : Int) = ((a / b : Nat) : Int) := by
  show IntKind.i64.wrap _ = _
  have : a / b ≤ a := Nat.div_le_self a b
  rw [← Int.ofNat_tdiv]
  generalize a / b = q at *
  exact wrap_i64 (by omega) (by omega)
theorem irem_nat (a b : Nat) : irem (a : Int) (b : Int) = ((a % b : Nat) : Int) := by
  show Int.tmod _ _ = _
  rw [Int.ofNat_tmod]
theorem rput_pure (x : BitVec 32) : CallsA Try.prog 62 [.d (i32 x)] [] fun r σ' => r = .ret (.row 0) ∧ σ' = [.row 1 ((le4 x).map u8) false] := by
  refine CallsA.start F62 (tm := (mk 21 [(0, .d (i32 x))])) (by kernel_rfl) ?_
  refine .seg 7 [4] (T' := cgo 7 [] [.code B62]) (tm' := mk 21 [(4, .d (i32 x))]) (σ' := []) (by kernel_rfl) ?_
  refine .semH (o := (opOf (cgo 7 [] [.code B62])).getD default) (v := .d (i64 x.toNat)) (σ' := []) (by kernel_rfl) (by kernel_rfl) (T' := cgo 8 [] [.code B62]) (by kernel_rfl) (fun k => sem_data (x := .func 93) (args := #[.tmp 4]) (ts := #[21]) (first := []) (cap := []) F93 (bits_pure x) (by kernel_rfl) (by kernel_rfl) (by kernel_rfl) (by kernel_rfl) (by kernel_rfl) []) ?_
  refine .seg 21 [2] (T' := cgo 29 [] [.code B62]) (tm' := mk 21 [(2, .row 0)]) (σ' := [.row 1 [.int .u8 (iconv .u8 (irem x.toNat ((256 : Nat) : Int))), .int .u8 (iconv .u8 (irem (iquo .i64 x.toNat ((256 : Nat) : Int)) ((256 : Nat) : Int))), .int .u8 (iconv .u8 (irem (iquo .i64 x.toNat ((65536 : Nat) : Int)) ((256 : Nat) : Int))), .int .u8 (iconv .u8 (iquo .i64 x.toNat ((16777216 : Nat) : Int)))] false]) (by kernel_rfl) ?_
  have hx := x.isLt
  have e (n : Nat) (h : n < 256) : iconv .u8 (n : Int) = (n : Int) := by
    show IntKind.u8.wrap _ = _
    rw [wrap_u8, Nat.mod_eq_of_lt h]
  have b0 : x.toNat % 256 = (byt x 0).toNat := by rw [byt_toNat]; simp
  have b1 : x.toNat / 256 % 256 = (byt x 1).toNat := by rw [byt_toNat]
  have b2 : x.toNat / 65536 % 256 = (byt x 2).toNat := by rw [byt_toNat]
  have b3 : x.toNat / 16777216 = (byt x 3).toNat := by rw [byt_toNat]; simp; omega
  rw [iquo_nat hx, iquo_nat hx, iquo_nat hx, irem_nat, irem_nat, irem_nat, b0, b1, b2, b3, e _ (UInt8.toNat_lt _), e _ (UInt8.toNat_lt _), e _ (UInt8.toNat_lt _), e _ (UInt8.toNat_lt _)]
  exact .retH F62 (by kernel_rfl) (by kernel_rfl) (⟨rfl, rfl⟩)

noncomputable def B58 : Code := (Try.f58.body).getD .skip
theorem F58 : Fnc Try.prog 58 Try.f58 B58 := ⟨Try.func58, by kernel_rfl, by kernel_rfl⟩
theorem put_pure (bs : List UInt8) (x : BitVec 32) (hlen : bs.length ≤ 140737488355320) : CallsA Try.prog 58 [.d (.list 1 (bs.map u8)), .d (i32 x)] [] fun r σ' => r = .ret (.row 0) ∧ σ' = [.row 1 ((bs ++ le4 x).map u8) false] := by
  refine CallsA.start F58 (tm := (mk 27 [(0, .d (.list 1 (bs.map u8))), (1, .d (i32 x))])) (by kernel_rfl) ?_
  refine .seg 17 [5, 8, 10, 12] (T' := cgo 17 [] [.code B58]) (tm' := mk 27 [(5, .d (.int .u32 (iconv .u32 x.toInt))), (8, .d (.list 1 (bs.map u8))), (10, .d (.int .i64 ((bs.map u8).length))), (12, .d (.int .i64 ((bs.map u8).length)))]) (σ' := []) (by kernel_rfl) ?_
  rw [iconv_u32_i32]
  refine .opH (o := (opOf (cgo 17 [] [.code B58])).getD default) (by kernel_rfl) (by kernel_rfl) (by kernel_rfl) (T' := cgo 18 [] [.code B58]) (by kernel_rfl) (sl3Data_ok (t := 22) (x := .tmp 8) (y := .tmp 10) (z := .tmp 12) (lo := none) (sz := 1) (xs := bs.map u8) 0 (bs.map u8).length (by kernel_rfl) (by kernel_rfl) (by kernel_rfl) rfl ⟨.i64, ((bs.map u8).length : Nat), by kernel_rfl, Int.natCast_nonneg _, Int.toNat_natCast _⟩ ⟨.i64, ((bs.map u8).length : Nat), by kernel_rfl, Int.natCast_nonneg _, Int.toNat_natCast _⟩ (by omega) (by omega)) ?_
  rw [List.drop_zero, List.take_length]
  refine .seg 12 [13, 25] (T' := cgo 30 [] [.code B58]) (tm' := mk 27 [(13, .ex 1 (bs.map u8)), (25, .row 0)]) (σ' := [.row 1 [.int .u8 (iconv .u8 x.toNat), .int .u8 (iconv .u8 (ishr .u32 x.toNat ((8 * 1 : Nat) : Int))), .int .u8 (iconv .u8 (ishr .u32 x.toNat ((8 * 2 : Nat) : Int))), .int .u8 (iconv .u8 (ishr .u32 x.toNat ((8 * 3 : Nat) : Int)))] false]) (by kernel_rfl) ?_
  rw [iconv_byt0, iconv_byt, iconv_byt, iconv_byt]
  refine .opH (o := (opOf (cgo 30 [] [.code B58])).getD default) (by kernel_rfl) (by kernel_rfl) (by kernel_rfl) (T' := cgo 31 [] [.code B58]) (by kernel_rfl) (appEx_ok (s := .tmp 13) (x := .tmp 25) (t := 22) (t2 := 22) (sz := 1) (by' := 1) (xs := bs.map u8) (ys := (le4 x).map u8) (by kernel_rfl) (by kernel_rfl) (by kernel_rfl) (by kernel_rfl) (by kernel_rfl) (by simp [le4]) (by simp [le4]; omega) (by simp [le4, maxLen]; omega)) ?_
  refine .seg 2 [4] (T' := cgo 33 [] [.code B58]) (tm' := mk 27 [(4, .row 1)]) (σ' := [.row 1 ((le4 x).map u8) false, .row 1 (bs.map u8 ++ (le4 x).map u8) false]) (by kernel_rfl) ?_
  refine .sub [1] ((mk 27 [(4, .row 0)])) [.row 1 (bs.map u8 ++ (le4 x).map u8) false] none [] ⟨rfl, rfl, rfl⟩ rfl ⟨by simp, rfl⟩ rfl ⟨rfl, rfl⟩ ⟨rfl, rfl⟩ ?_
  rw [← List.map_append]
  exact .retH F58 (by kernel_rfl) (by kernel_rfl) (⟨rfl, rfl⟩)
end Go.Proofs.Ytoelkgbeefoplaa

