/- The number of four bytes: a walk of word.Get; the front frame: a walk of wal.first. -/
import Derived.Test.YtoelkgbeefoplaaFrameA
import Derived.Test.YtoelkgbeefoplaaBrX
namespace Go.Proofs.Ytoelkgbeefoplaa
open Go Go.Br Go.Proofs

theorem ishl_u32 (x : BitVec 32) (n : Nat) (hn : n ≤ 32) : ishl .u32 (x.toNat : Int) (n : Int) = ((x <<< n).toNat : Int) := by
  show IntKind.u32.wrap ((x.toNat : Int) * 2 ^ min (n : Int).toNat 32) = _
  have h1 : ((2 : Int) ^ min (n : Int).toNat 32) = ((2 ^ n : Nat) : Int) := by
    have : min (n : Int).toNat 32 = n := by simp; omega
    rw [this]; simp
  rw [h1, ← Int.natCast_mul, wrap_u32]
  congr 1
  simp [Nat.shiftLeft_eq]
def zx (b : UInt8) : BitVec 32 := b.toBitVec.zeroExtend 32
/-- The number whose bytes stand at a place. -/
def get4 (bs : List UInt8) (at' : Nat) : BitVec 32 :=
  if at' + 4 ≤ bs.length then (((0#32 ||| zx (bs.getD at' 0) <<< 0) ||| zx (bs.getD (at' + 1) 0) <<< 8) ||| zx (bs.getD (at' + 2) 0) <<< 16) ||| zx (bs.getD (at' + 3) 0) <<< 24 else 0#32
theorem u8s_getD {bs : List UInt8} {i : Nat} (h : i < bs.length) : (bs.map u8)[((i : Nat) : Int).toNat]? = some (u8 (bs.getD i 0)) := by
  rw [u8s_get h, List.getD_eq_getElem?_getD, List.getElem?_eq_getElem h]; rfl

noncomputable def B105 : Code := (Try.f105.body).getD .skip
theorem F105 : Fnc Try.prog 105 Try.f105 B105 := ⟨Try.func105, by kernel_rfl, by kernel_rfl⟩
theorem get_pure (bs : List UInt8) (a : Nat) (hlen : bs.length < 9223372036854775807) (ha : a < 9223372036854775000) : Pure Try.prog 105 [.d (.list 1 (bs.map u8)), .d (i64 a)] (.tuple [.d (i32 (get4 bs a)), .d (.bool (decide (a + 4 ≤ bs.length)))]) := by
  refine CallsA.start F105 (tm := (mk 35 [(0, .d (.list 1 (bs.map u8))), (1, .d (i64 a))])) (by kernel_rfl) ?_
  refine .seg 11 [0, 1, 10] (T' := cgo 11 [] [.code B105]) (tm' := mk 35 [(0, .d (.list 1 (bs.map u8))), (1, .d (i64 a)), (10, .d (.bool (decide ((a : Int) < 0))))]) (σ' := []) (by kernel_rfl) ?_
  rw [decide_eq_false (show ¬ (a : Int) < 0 by omega)]
  refine .seg 7 [0, 1, 16] (T' := cgo 18 [] [.code B105]) (tm' := mk 35 [(0, .d (.list 1 (bs.map u8))), (1, .d (i64 a)), (16, .d (.bool (decide ((a : Int) > isub .i64 ((bs.map u8).length : Nat) 4))))]) (σ' := []) (by kernel_rfl) ?_
  rw [List.length_map, isub_i64 (by omega) (by omega)]
  refine .ifH (b := decide ((a : Int) > (bs.length : Int) - 4)) (by kernel_rfl) (by kernel_rfl) (T1 := cgo 19 [true] [.code B105]) (T2 := cgo 19 [false] [.code B105]) (by kernel_rfl) (by kernel_rfl) (fun h => ?_) (fun h => ?_)
  · have h' : ¬ (a + 4 ≤ bs.length) := by have := of_decide_eq_true h; omega
    refine .seg 5 [4, 5] (T' := cgo 24 [true] [.code B105]) (tm' := mk 35 [(4, .d (.int .i32 0)), (5, .d (.bool (false)))]) (σ' := []) (by kernel_rfl) ?_
    rw [decide_eq_false h', get4, if_neg h']
    exact .retH F105 (by kernel_rfl) (by kernel_rfl) (⟨rfl, rfl⟩)
  · have h' : a + 4 ≤ bs.length := by have := of_decide_eq_false h; omega
    refine .seg 32 [0, 1, 7, 17, 20, 21, 24] (T' := cgo 51 [false, true] [.code B105]) (tm' := mk 35 [(0, .d (.list 1 (bs.map u8))), (1, .d (i64 a)), (7, .d (.int .i64 (0))), (17, .d (.int .i64 (0))), (20, .d (u32 0#32)), (21, .d (.list 1 (bs.map u8))), (24, .d (.int .i64 (iadd .i64 a 0)))]) (σ' := []) (by kernel_rfl) ?_
    rw [iadd_i64 (by omega) (by omega), Int.add_zero]
    refine .opH (o := (opOf (cgo 51 [false, true] [.code B105])).getD default) (by kernel_rfl) (by kernel_rfl) (by kernel_rfl) (T' := cgo 52 [false, true] [.code B105]) (by kernel_rfl) (ixData_ok (t := 22) (x := .tmp 21) (i := .tmp 24) (sz := 1) (xs := bs.map u8) (k := .i64) (n := (a : Nat)) (d := u8 (bs.getD a 0)) (by kernel_rfl) (by kernel_rfl) (by kernel_rfl) (by kernel_rfl) (by omega) (u8s_getD (by omega))) ?_
    refine .seg 34 [0, 1, 7, 17, 20, 21, 24] (T' := cgo 86 [false, true, true] [.code B105]) (tm' := mk 35 [(0, .d (.list 1 (bs.map u8))), (1, .d (i64 a)), (7, .d (.int .i64 (1))), (17, .d (.int .i64 (1))), (20, .d (.int .u32 (ior .u32 (0#32).toNat (ishl .u32 (iconv .u32 (bs.getD a 0).toNat) ((0 : Nat) : Int))))), (21, .d (.list 1 (bs.map u8))), (24, .d (.int .i64 (iadd .i64 a ((1 : Nat) : Int))))]) (σ' := []) (by kernel_rfl) ?_
    rw [iadd_i64 (by omega) (by omega), ← Int.natCast_add, iconv_u8_u32, ishl_u32 _ _ (by omega), ior_u32]
    refine .opH (o := (opOf (cgo 86 [false, true, true] [.code B105])).getD default) (by kernel_rfl) (by kernel_rfl) (by kernel_rfl) (T' := cgo 87 [false, true, true] [.code B105]) (by kernel_rfl) (ixData_ok (t := 22) (x := .tmp 21) (i := .tmp 24) (sz := 1) (xs := bs.map u8) (k := .i64) (n := ((a + 1 : Nat) : Int)) (d := u8 (bs.getD (a + 1) 0)) (by kernel_rfl) (by kernel_rfl) (by kernel_rfl) (by kernel_rfl) (by omega) (u8s_getD (by omega))) ?_
    refine .seg 34 [0, 1, 7, 17, 20, 21, 24] (T' := cgo 121 [false, true, true, true] [.code B105]) (tm' := mk 35 [(0, .d (.list 1 (bs.map u8))), (1, .d (i64 a)), (7, .d (.int .i64 (2))), (17, .d (.int .i64 (2))), (20, .d (.int .u32 (ior .u32 (0#32 ||| zx (bs.getD a 0) <<< 0).toNat (ishl .u32 (iconv .u32 (bs.getD (a + 1) 0).toNat) ((8 : Nat) : Int))))), (21, .d (.list 1 (bs.map u8))), (24, .d (.int .i64 (iadd .i64 a ((2 : Nat) : Int))))]) (σ' := []) (by kernel_rfl) ?_
    rw [iadd_i64 (by omega) (by omega), ← Int.natCast_add, iconv_u8_u32, ishl_u32 _ _ (by omega), ior_u32]
    refine .opH (o := (opOf (cgo 121 [false, true, true, true] [.code B105])).getD default) (by kernel_rfl) (by kernel_rfl) (by kernel_rfl) (T' := cgo 122 [false, true, true, true] [.code B105]) (by kernel_rfl) (ixData_ok (t := 22) (x := .tmp 21) (i := .tmp 24) (sz := 1) (xs := bs.map u8) (k := .i64) (n := ((a + 2 : Nat) : Int)) (d := u8 (bs.getD (a + 2) 0)) (by kernel_rfl) (by kernel_rfl) (by kernel_rfl) (by kernel_rfl) (by omega) (u8s_getD (by omega))) ?_
    refine .seg 34 [0, 1, 7, 17, 20, 21, 24] (T' := cgo 156 [false, true, true, true, true] [.code B105]) (tm' := mk 35 [(0, .d (.list 1 (bs.map u8))), (1, .d (i64 a)), (7, .d (.int .i64 (3))), (17, .d (.int .i64 (3))), (20, .d (.int .u32 (ior .u32 ((0#32 ||| zx (bs.getD a 0) <<< 0) ||| zx (bs.getD (a + 1) 0) <<< 8).toNat (ishl .u32 (iconv .u32 (bs.getD (a + 2) 0).toNat) ((16 : Nat) : Int))))), (21, .d (.list 1 (bs.map u8))), (24, .d (.int .i64 (iadd .i64 a ((3 : Nat) : Int))))]) (σ' := []) (by kernel_rfl) ?_
    rw [iadd_i64 (by omega) (by omega), ← Int.natCast_add, iconv_u8_u32, ishl_u32 _ _ (by omega), ior_u32]
    refine .opH (o := (opOf (cgo 156 [false, true, true, true, true] [.code B105])).getD default) (by kernel_rfl) (by kernel_rfl) (by kernel_rfl) (T' := cgo 157 [false, true, true, true, true] [.code B105]) (by kernel_rfl) (ixData_ok (t := 22) (x := .tmp 21) (i := .tmp 24) (sz := 1) (xs := bs.map u8) (k := .i64) (n := ((a + 3 : Nat) : Int)) (d := u8 (bs.getD (a + 3) 0)) (by kernel_rfl) (by kernel_rfl) (by kernel_rfl) (by kernel_rfl) (by omega) (u8s_getD (by omega))) ?_
    refine .seg 28 [4, 5] (T' := cgo 185 [false, true, true, true, true, false] [.code B105]) (tm' := mk 35 [(4, .d (.int .i32 (iconv .i32 (ior .u32 (((0#32 ||| zx (bs.getD a 0) <<< 0) ||| zx (bs.getD (a + 1) 0) <<< 8) ||| zx (bs.getD (a + 2) 0) <<< 16).toNat (ishl .u32 (iconv .u32 (bs.getD (a + 3) 0).toNat) ((24 : Nat) : Int)))))), (5, .d (.bool (true)))]) (σ' := []) (by kernel_rfl) ?_
    rw [iconv_u8_u32, ishl_u32 _ _ (by omega), ior_u32, iconv_i32_u32]
    have e : get4 bs a = (((0#32 ||| zx (bs.getD a 0) <<< 0) ||| zx (bs.getD (a + 1) 0) <<< 8) ||| zx (bs.getD (a + 2) 0) <<< 16) ||| zx (bs.getD (a + 3) 0) <<< 24 := by rw [get4, if_pos h']
    rw [decide_eq_true h', e]
    exact .retH F105 (by kernel_rfl) (by kernel_rfl) (⟨rfl, rfl⟩)
end Go.Proofs.Ytoelkgbeefoplaa

