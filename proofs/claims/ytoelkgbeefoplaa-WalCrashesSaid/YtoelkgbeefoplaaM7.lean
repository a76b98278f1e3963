/- Texts of this proof, part 7: CrcA, WordA, CrcB, FrameA, WordB, FirstA, ParseA, SameA, RefParseA, GlueA, BrRd. -/
import Derived.Below
import Derived.Carry
import Derived.ChangeArms
import Derived.ChangeOld
import Derived.Laws.Strings
import Derived.OpenShut
import Derived.ProofKit
import Derived.ShutString
import Derived.SizedLaws
import Derived.Test.YtoelkgbeefoplaaProg
import Derived.Test.YtoelkgbeefoplaaRows
import Derived.WalkKit
import Derived.WideShapes
import Derived.Test.YtoelkgbeefoplaaM6
set_option linter.unusedSimpArgs false
set_option linter.unusedVariables false
set_option linter.constructorNameAsVariable false
namespace Go.Proofs.Ytoelkgbeefoplaa
open Go Go.Br Go.Proofs
open List (map)
def u32 (b : BitVec 32) : D := .int .u32 b.toNat
noncomputable def B90 : Code := (Try.f90.body).getD .skip
theorem F90 : Fnc Try.prog 90 Try.f90 B90 := ⟨Try.func90, by kernel_rfl, by kernel_rfl⟩
def crc1 (r : BitVec 32) : BitVec 32 := (r >>> 1) ^^^ (0xEDB88320#32 &&& -(r &&& 1#32))
def crc8 : Nat → BitVec 32 → BitVec 32
  | 0, r => r
  | n + 1, r => crc8 n (crc1 r)
def crcB (r : BitVec 32) (c : UInt8) : BitVec 32 := crc8 8 (r ^^^ c.toBitVec.zeroExtend 32)
section
variable {n : Nat} {σ : Store} {df : List Nat} {Q : AE → Store → Prop} {s : BitVec 32}
theorem in90 (L : V) (len i : Int) : ∀ (m j : Nat) (r : BitVec 32), j + m = 8 → 
    AW Try.prog 90 none n (cgo 81 [true, true, false] [.code B90]) (mk 33 [(5, .d (u32 (crc8 m r))), (10, L), (11, .d (.int .i64 len)), (12, .d (.int .i64 i))]) σ df Q →
    AW Try.prog 90 none n (cgo 48 [true] [.code B90]) (mk 33 [(5, .d (u32 r)), (10, L), (11, .d (.int .i64 len)), (12, .d (.int .i64 i)), (20, .d (.int .i64 j))]) σ df Q := by
  intro m
  induction m with
  | zero =>
    intro j r hj hk
    obtain rfl : j = 8 := by omega
    refine .seg 8 [5, 10, 11, 12] (T' := cgo 81 [true, true, false] [.code B90]) (tm' := mk 33 [(5, .d (u32 r)), (10, L), (11, .d (.int .i64 len)), (12, .d (.int .i64 i))]) (σ' := σ) (by kernel_rfl) hk
  | succ m ih =>
    intro j r hj hk
    refine .seg 5 [5, 10, 11, 12, 20, 21] (T' := cgo 53 [true] [.code B90]) (tm' := mk 33 [(5, .d (u32 r)), (10, L), (11, .d (.int .i64 len)), (12, .d (.int .i64 i)), (20, .d (.int .i64 j)), (21, .d (.bool (decide ((j : Int) < 8))))]) (σ' := σ) (by kernel_rfl) ?_
    refine .ifH (b := decide ((j : Int) < 8)) (by kernel_rfl) (by kernel_rfl) (T1 := cgo 54 [true, true] [.code B90]) (T2 := cgo 54 [true, false] [.code B90]) (by kernel_rfl) (by kernel_rfl) (fun _ => ?_) (fun h => absurd h (by simp; omega))
    refine .seg 19 [5, 10, 11, 12, 20] (T' := cgo 48 [true] [.code B90]) (tm' := mk 33 [(5, .d (.int .u32 (ixor .u32 (ishr .u32 r.toNat (1 : Nat)) (iand .u32 (0xEDB88320#32).toNat (ineg .u32 (iand .u32 r.toNat (1#32).toNat)))))), (10, L), (11, .d (.int .i64 len)), (12, .d (.int .i64 i)), (20, .d (.int .i64 (iadd .i64 j 1)))]) (σ' := σ) (by kernel_rfl) ?_
    rw [iand_u32, ineg_u32, iand_u32, ishr_u32, ixor_u32, iadd_i64 (by omega) (by omega)]
    have := ih (j + 1) (crc1 r) (by omega) hk
    exact this
theorem ou90 (bs : List UInt8) (hlen : bs.length < 9223372036854775807) (hq : Q (.ret (.d (u32 (~~~(bs.foldl crcB (~~~s)))))) σ) : ∀ (m i : Nat) (r : BitVec 32), i + m = bs.length → (bs.drop i).foldl crcB r = bs.foldl crcB (~~~s) →
    AW Try.prog 90 none n (cgo 19 [] [.code B90]) (mk 33 [(5, .d (u32 r)), (10, .d (.list 1 (bs.map u8))), (11, .d (.int .i64 bs.length)), (12, .d (.int .i64 i))]) σ [] Q := by
  intro m
  induction m with
  | zero =>
    intro i r hi hr
    obtain rfl : i = bs.length := by omega
    rw [List.drop_length] at hr
    subst hr
    refine .seg 5 [5, 13] (T' := cgo 24 [] [.code B90]) (tm' := mk 33 [(5, .d (u32 (bs.foldl crcB (~~~s)))), (13, .d (.bool (decide ((bs.length : Int) < bs.length))))]) (σ' := σ) (by kernel_rfl) ?_
    refine .ifH (b := decide ((bs.length : Int) < bs.length)) (by kernel_rfl) (by kernel_rfl) (T1 := cgo 25 [true] [.code B90]) (T2 := cgo 25 [false] [.code B90]) (by kernel_rfl) (by kernel_rfl) (fun h => absurd h (by simp)) (fun _ => ?_)
    refine .seg 7 [4] (T' := cgo 32 [false] [.code B90]) (tm' := mk 33 [(4, .d (.int .u32 (inot .u32 (bs.foldl crcB (~~~s)).toNat)))]) (σ' := σ) (by kernel_rfl) ?_
    rw [inot_u32]
    exact .retH F90 (by kernel_rfl) (by kernel_rfl) hq
  | succ m ih =>
    intro i r hi hr
    have hlt : i < bs.length := by omega
    refine .seg 5 [5, 10, 11, 12, 13] (T' := cgo 24 [] [.code B90]) (tm' := mk 33 [(5, .d (u32 r)), (10, .d (.list 1 (bs.map u8))), (11, .d (.int .i64 bs.length)), (12, .d (.int .i64 i)), (13, .d (.bool (decide ((i : Int) < bs.length))))]) (σ' := σ) (by kernel_rfl) ?_
    refine .ifH (b := decide ((i : Int) < bs.length)) (by kernel_rfl) (by kernel_rfl) (T1 := cgo 25 [true] [.code B90]) (T2 := cgo 25 [false] [.code B90]) (by kernel_rfl) (by kernel_rfl) (fun _ => ?_) (fun h => absurd h (by simp; omega))
    refine .seg 5 [5, 10, 11, 12] (T' := cgo 30 [true] [.code B90]) (tm' := mk 33 [(5, .d (u32 r)), (10, .d (.list 1 (bs.map u8))), (11, .d (.int .i64 bs.length)), (12, .d (.int .i64 i))]) (σ' := σ) (by kernel_rfl) ?_
    refine .opH (o := (opOf (cgo 30 [true] [.code B90])).getD default) (by kernel_rfl) (by kernel_rfl) (by kernel_rfl) (T' := cgo 31 [true] [.code B90]) (by kernel_rfl)
      (ixData_ok (t := 22) (x := .tmp 10) (i := .tmp 12) (sz := 1) (xs := bs.map u8) (k := .i64) (n := i) (d := u8 bs[i]) (by kernel_rfl) (by kernel_rfl) (by kernel_rfl) (by kernel_rfl) (by omega) (u8s_get hlt)) ?_
    refine .seg 17 [5, 10, 11, 12, 20] (T' := cgo 48 [true] [.code B90]) (tm' := mk 33 [(5, .d (.int .u32 (ixor .u32 r.toNat (iconv .u32 bs[i].toNat)))), (10, .d (.list 1 (bs.map u8))), (11, .d (.int .i64 bs.length)), (12, .d (.int .i64 i)), (20, .d (.int .i64 0))]) (σ' := σ) (by kernel_rfl) ?_
    rw [iconv_u8_u32, ixor_u32]
    refine in90 _ _ _ 8 0 _ rfl ?_
    refine .seg 5 [5, 10, 11, 12] (T' := cgo 19 [] [.code B90]) (tm' := mk 33 [(5, .d (u32 (crcB r bs[i]))), (10, .d (.list 1 (bs.map u8))), (11, .d (.int .i64 bs.length)), (12, .d (.int .i64 (iadd .i64 i 1)))]) (σ' := σ) (by kernel_rfl) ?_
    rw [iadd_i64 (by omega) (by omega)]
    refine ih (i + 1) (crcB r bs[i]) (by omega) ?_
    rw [← hr, List.drop_eq_getElem_cons hlt, List.foldl_cons]
end
theorem more_pure (s : BitVec 32) (bs : List UInt8) (hlen : bs.length < 9223372036854775807) : Pure Try.prog 90 [.d (u32 s), .d (.list 1 (bs.map u8))] (.d (u32 (~~~(bs.foldl crcB (~~~s))))) := by
  refine CallsA.start F90 (tm := mk 33 [(0, .d (u32 s)), (1, .d (.list 1 (bs.map u8)))]) (by kernel_rfl) ?_
  refine .seg 19 [5, 10, 11, 12] (T' := cgo 19 [] [.code B90]) (tm' := mk 33 [(5, .d (.int .u32 (inot .u32 s.toNat))), (10, .d (.list 1 (bs.map u8))), (11, .d (.int .i64 (bs.map u8).length)), (12, .d (.int .i64 0))]) (σ' := []) (by kernel_rfl) ?_
  rw [inot_u32, List.length_map]
  exact ou90 (s := s) bs hlen ⟨rfl, rfl⟩ bs.length 0 _ (by simp) rfl
noncomputable def B59 : Code := (Try.f59.body).getD .skip
theorem F59 : Fnc Try.prog 59 Try.f59 B59 := ⟨Try.func59, by kernel_rfl, by kernel_rfl⟩
def crc (bs : List UInt8) : BitVec 32 := ~~~(bs.foldl crcB (~~~0#32))
theorem crc_pure (bs : List UInt8) (hlen : bs.length < 9223372036854775807) : Pure Try.prog 59 [.d (.list 1 (bs.map u8))] (.d (u32 (crc bs))) := by
  refine CallsA.start F59 (tm := mk 5 [(0, .d (.list 1 (bs.map u8)))]) (by kernel_rfl) ?_
  refine .seg 7 [3] (T' := cgo 7 [] [.code B59]) (tm' := mk 5 [(3, .d (.list 1 (bs.map u8)))]) (σ' := []) (by kernel_rfl) ?_
  refine .semH (o := (opOf (cgo 7 [] [.code B59])).getD default) (v := .d (u32 (crc bs))) (σ' := []) (by kernel_rfl) (by kernel_rfl) (T' := cgo 8 [] [.code B59]) (by kernel_rfl)
    (fun k => sem_data (x := .func 90) (args := #[.const (.int .u32 0), .tmp 3]) (ts := #[38, 22]) (first := []) (cap := []) F90 (more_pure 0#32 bs hlen) (by kernel_rfl) (by kernel_rfl) (by kernel_rfl) (by kernel_rfl) (by kernel_rfl) []) ?_
  refine .seg 2 [2] (T' := cgo 10 [] [.code B59]) (tm' := mk 5 [(2, .d (u32 (crc bs)))]) (σ' := []) (by kernel_rfl) ?_
  exact .retH F59 (by kernel_rfl) (by kernel_rfl) ⟨rfl, rfl⟩
end Go.Proofs.Ytoelkgbeefoplaa
namespace Go.Proofs.Ytoelkgbeefoplaa
open Go Go.Br Go.Proofs
open List (map)
def i32 (x : BitVec 32) : D := .int .i32 x.toInt
def i64 (n : Int) : D := .int .i64 n
def byt (x : BitVec 32) (k : Nat) : UInt8 := UInt8.ofNat (x.toNat / 2 ^ (8 * k))
def le4 (x : BitVec 32) : List UInt8 := [byt x 0, byt x 1, byt x 2, byt x 3]
theorem iconv_u32_i32 (x : BitVec 32) : iconv .u32 x.toInt = (x.toNat : Int) := by
  show IntKind.u32.wrap _ = _
  rw [wrap_u32', BitVec.ofInt_toInt]
theorem wrap_u8 (n : Nat) : IntKind.u8.wrap (n : Int) = ((n % 256 : Nat) : Int) := by
  simp [IntKind.wrap, IntKind.bits, IntKind.signed]
theorem byt_toNat (x : BitVec 32) (k : Nat) : (byt x k).toNat = x.toNat / 2 ^ (8 * k) % 256 := by simp [byt]
theorem iconv_byt0 (x : BitVec 32) : iconv .u8 (x.toNat : Int) = ((byt x 0).toNat : Int) := by
  show IntKind.u8.wrap _ = _
  rw [wrap_u8, byt_toNat]; simp
theorem iconv_byt (x : BitVec 32) (k : Nat) : iconv .u8 (ishr .u32 (x.toNat : Int) ((8 * k : Nat) : Int)) = ((byt x k).toNat : Int) := by
  rw [ishr_u32]
  show IntKind.u8.wrap _ = _
  rw [wrap_u8, byt_toNat, BitVec.toNat_ushiftRight, Nat.shiftRight_eq_div_pow]
noncomputable def B58 : Code := (Try.f58.body).getD .skip
theorem F58 : Fnc Try.prog 58 Try.f58 B58 := ⟨Try.func58, by kernel_rfl, by kernel_rfl⟩
theorem put_pure (bs : List UInt8) (x : BitVec 32) (hlen : bs.length ≤ 140737488355320) : CallsA Try.prog 58 [.d (.list 1 (bs.map u8)), .d (i32 x)] [] fun r σ' => r = .ret (.row 0) ∧ σ' = [.row 1 ((bs ++ le4 x).map u8) false] := by
  refine CallsA.start F58 (tm := (mk 27 [(0, .d (.list 1 (bs.map u8))), (1, .d (i32 x))])) (by kernel_rfl) ?_
  refine .seg 17 [5, 8, 10, 12] (T' := cgo 17 [] [.code B58]) (tm' := mk 27 [(5, .d (.int .u32 (iconv .u32 x.toInt))), (8, .d (.list 1 (bs.map u8))), (10, .d (.int .i64 ((bs.map u8).length))), (12, .d (.int .i64 ((bs.map u8).length)))]) (σ' := []) (by kernel_rfl) ?_
  rw [iconv_u32_i32]
  refine .opH (o := (opOf (cgo 17 [] [.code B58])).getD default) (by kernel_rfl) (by kernel_rfl) (by kernel_rfl) (T' := cgo 18 [] [.code B58]) (by kernel_rfl) (sl3Data_ok (t := 22) (x := .tmp 8) (y := .tmp 10) (z := .tmp 12) (lo := none) (sz := 1) (xs := bs.map u8) 0 (bs.map u8).length (by kernel_rfl) (by kernel_rfl) (by kernel_rfl) rfl ⟨.i64, ((bs.map u8).length : Nat), by kernel_rfl, Int.natCast_nonneg _, Int.toNat_natCast _⟩ ⟨.i64, ((bs.map u8).length : Nat), by kernel_rfl, Int.natCast_nonneg _, Int.toNat_natCast _⟩ (by omega) (by omega)) ?_
  rw [List.drop_zero, List.take_length]
  refine .seg 12 [13, 25] (T' := cgo 30 [] [.code B58]) (tm' := mk 27 [(13, .ex 1 (bs.map u8)), (25, .row 0)]) (σ' := [.row 1 [.int .u8 (iconv .u8 x.toNat), .int .u8 (iconv .u8 (ishr .u32 x.toNat ((8 * 1 : Nat) : Int))), .int .u8 (iconv .u8 (ishr .u32 x.toNat ((8 * 2 : Nat) : Int))), .int .u8 (iconv .u8 (ishr .u32 x.toNat ((8 * 3 : Nat) : Int)))] false]) (by kernel_rfl) ?_
  rw [iconv_byt0, iconv_byt, iconv_byt, iconv_byt]
  refine .opH (o := (opOf (cgo 30 [] [.code B58])).getD default) (by kernel_rfl) (by kernel_rfl) (by kernel_rfl) (T' := cgo 31 [] [.code B58]) (by kernel_rfl) (appEx_ok (s := .tmp 13) (x := .tmp 25) (t := 22) (t2 := 22) (sz := 1) (by' := 1) (xs := bs.map u8) (ys := (le4 x).map u8) (by kernel_rfl) (by kernel_rfl) (by kernel_rfl) (by kernel_rfl) (by kernel_rfl) (by simp [le4]) (by simp [le4]; omega) (by simp [le4, maxLen]; omega)) ?_
  refine .seg 2 [4] (T' := cgo 33 [] [.code B58]) (tm' := mk 27 [(4, .row 1)]) (σ' := [.row 1 ((le4 x).map u8) false, .row 1 (bs.map u8 ++ (le4 x).map u8) false]) (by kernel_rfl) ?_
  refine .sub [1] ((mk 27 [(4, .row 0)])) [.row 1 (bs.map u8 ++ (le4 x).map u8) false] none [] ⟨rfl, rfl, rfl⟩ rfl ⟨by simp, rfl⟩ rfl ⟨rfl, rfl⟩ ⟨rfl, rfl⟩ ?_
  rw [← List.map_append]
  exact .retH F58 (by kernel_rfl) (by kernel_rfl) (⟨rfl, rfl⟩)
end Go.Proofs.Ytoelkgbeefoplaa
namespace Go.Proofs.Ytoelkgbeefoplaa
open Go Go.Br Go.Proofs
open List (map)
section
variable {n : Nat} {σ : Store} {df : List Nat} {Q : AE → Store → Prop}
end
end Go.Proofs.Ytoelkgbeefoplaa
namespace Go.Proofs.Ytoelkgbeefoplaa
open Go Go.Br Go.Proofs
open List (map)
theorem scal_u8s (bs : List UInt8) : D.scalL (bs.map u8) = true := by
  induction bs with
  | nil => rfl
  | cons b bs ih => simp [D.scalL, ih, D.scal, u8]
theorem sc_row (bs : List UInt8) (mv : Bool) : ((V.row 0).scal && ((([.row 1 (bs.map u8) mv] : Store).all O.scal) && belB 1 [.row 1 (bs.map u8) mv])) = true := by
  simp [V.scal, O.scal, scal_u8s, belB, O.locs]
theorem iconv_i32 (n : Int) : iconv .i32 n = (BitVec.ofInt 32 n).toInt := by
  show IntKind.i32.wrap n = _
  rw [BitVec.toInt_ofInt]
  simp only [IntKind.wrap, IntKind.bits, IntKind.signed, Bool.true_and, Int.bmod]
  simp
  omega
theorem iconv_i32_nat (n : Nat) : iconv .i32 (n : Int) = (BitVec.ofNat 32 n).toInt := by rw [iconv_i32]; simp
theorem iconv_i32_u32 (x : BitVec 32) : iconv .i32 (x.toNat : Int) = x.toInt := by rw [iconv_i32_nat]; simp
def bare (bs : List UInt8) : List UInt8 := le4 (BitVec.ofNat 32 bs.length) ++ bs
def frame (bs : List UInt8) : List UInt8 := bare bs ++ le4 (crc (bare bs))
noncomputable def B16 : Code := (Try.f16.body).getD .skip
theorem F16 : Fnc Try.prog 16 Try.f16 B16 := ⟨Try.func16, by kernel_rfl, by kernel_rfl⟩
theorem frame_pure (bs : List UInt8) (hlen : bs.length ≤ 65536) : CallsA Try.prog 16 [.d (.list 1 (bs.map u8))] [] fun r σ' => r = .ret (.tuple [.row 0, .d (i64 0)]) ∧ σ' = [.row 1 ((frame bs).map u8) false] := by
  refine CallsA.start F16 (tm := (mk 19 [(0, .d (.list 1 (bs.map u8)))])) (by kernel_rfl) ?_
  refine .seg 12 [0, 7] (T' := cgo 12 [] [.code B16]) (tm' := mk 19 [(0, .d (.list 1 (bs.map u8))), (7, .d (.bool (decide (((bs.map u8).length : Int) > 65536))))]) (σ' := []) (by kernel_rfl) ?_
  refine .ifH (b := decide (((bs.map u8).length : Int) > 65536)) (by kernel_rfl) (by kernel_rfl) (T1 := cgo 13 [true] [.code B16]) (T2 := cgo 13 [false] [.code B16]) (by kernel_rfl) (by kernel_rfl) (fun h => absurd h (by simp; omega)) (fun _ => ?_)
  refine .seg 6 [0, 10] (T' := cgo 19 [false] [.code B16]) (tm' := mk 19 [(0, .d (.list 1 (bs.map u8))), (10, .d (.int .i32 (iconv .i32 ((bs.map u8).length : Nat))))]) (σ' := []) (by kernel_rfl) ?_
  rw [List.length_map, iconv_i32_nat]
  refine .semH (o := (opOf (cgo 19 [false] [.code B16])).getD default) (v := .row 0) (σ' := [.row 1 ((le4 (BitVec.ofNat 32 bs.length)).map u8) false]) (by kernel_rfl) (by kernel_rfl) (T' := cgo 20 [false] [.code B16]) (by kernel_rfl) (fun k => sem_data (x := .func 58) (args := #[.const (.slice none 0 0), .tmp 10]) (ts := #[22, 21]) (first := []) (cap := []) F58 (put_pure [] (BitVec.ofNat 32 bs.length) (by simp)) (by kernel_rfl) (by kernel_rfl) (by kernel_rfl) (by kernel_rfl) (by kernel_rfl) []) ?_
  refine .seg 1 [11, 12] (T' := cgo 21 [false] [.code B16]) (tm' := mk 19 [(11, .row 0), (12, .d (.list 1 (bs.map u8)))]) (σ' := [.row 1 ((le4 (BitVec.ofNat 32 bs.length)).map u8) false]) (by kernel_rfl) ?_
  refine .opH (o := (opOf (cgo 21 [false] [.code B16])).getD default) (by kernel_rfl) (by kernel_rfl) (by kernel_rfl) (T' := cgo 22 [false] [.code B16]) (by kernel_rfl) (appRow_ok (s := .tmp 11) (x := .tmp 12) (t := 22) (t2 := 22) (l := 0) (sz := 1) (by' := 1) (xs := (le4 (BitVec.ofNat 32 bs.length)).map u8) (ys := bs.map u8) (mv := false) (by kernel_rfl) (by kernel_rfl) (by kernel_rfl) (by kernel_rfl) (by kernel_rfl) (by kernel_rfl) (by simp [le4]; omega) (by simp [le4, maxLen]; omega)) ?_
  refine .seg 6 [14, 15] (T' := cgo 28 [false] [.code B16]) (tm' := mk 19 [(14, .row 0), (15, .row 0)]) (σ' := [.row 1 ((le4 (BitVec.ofNat 32 bs.length)).map u8 ++ bs.map u8) true]) (by kernel_rfl) ?_
  rw [← List.map_append]
  refine .semH (o := (opOf (cgo 28 [false] [.code B16])).getD default) (v := .d (u32 (crc (bare bs)))) (σ' := [.row 1 ((bare bs).map u8) true]) (by kernel_rfl) (by kernel_rfl) (T' := cgo 29 [false] [.code B16]) (by kernel_rfl) (fun k => sem_look (x := .func 59) (args := #[.tmp 15]) (ts := #[22]) (first := []) (cap := []) (σ0 := []) F59 (crc_pure (bare bs) (by simp [bare, le4]; omega)) (by kernel_rfl) (by kernel_rfl) (by kernel_rfl) (by kernel_rfl) (by kernel_rfl)) ?_
  refine .seg 1 [14, 17] (T' := cgo 30 [false] [.code B16]) (tm' := mk 19 [(14, .row 0), (17, .d (.int .i32 (iconv .i32 (crc (bare bs)).toNat)))]) (σ' := [.row 1 ((bare bs).map u8) true]) (by kernel_rfl) ?_
  rw [iconv_i32_u32]
  refine .semH (o := (opOf (cgo 30 [false] [.code B16])).getD default) (v := .row 1) (σ' := [.row 1 ((bare bs).map u8) true, .row 1 ((frame bs).map u8) false]) (by kernel_rfl) (by kernel_rfl) (T' := cgo 31 [false] [.code B16]) (by kernel_rfl) (fun k => sem_look (x := .func 58) (args := #[.tmp 14, .tmp 17]) (ts := #[22, 21]) (first := []) (cap := []) F58 (put_pure (bare bs) (crc (bare bs)) (by simp [bare, le4]; omega)) (by kernel_rfl) (by kernel_rfl) (by kernel_rfl) (by kernel_rfl) (sc_row _ _)) ?_
  refine .seg 3 [2, 3] (T' := cgo 34 [false] [.code B16]) (tm' := mk 19 [(2, .row 1), (3, .d (.int .i64 (0)))]) (σ' := [.row 1 ((bare bs).map u8) true, .row 1 ((frame bs).map u8) false]) (by kernel_rfl) ?_
  refine .sub [1] ((mk 19 [(2, .row 0), (3, .d (.int .i64 (0)))])) [.row 1 ((frame bs).map u8) false] none [] ⟨rfl, rfl, rfl⟩ rfl ⟨by simp, rfl⟩ rfl ⟨rfl, rfl⟩ ⟨rfl, rfl⟩ ?_
  exact .retH F16 (by kernel_rfl) (by kernel_rfl) (⟨rfl, rfl⟩)
end Go.Proofs.Ytoelkgbeefoplaa
namespace Go.Proofs.Ytoelkgbeefoplaa
open Go Go.Br Go.Proofs
open List (map)
theorem ishl_u32 (x : BitVec 32) (n : Nat) (hn : n ≤ 32) : ishl .u32 (x.toNat : Int) (n : Int) = ((x <<< n).toNat : Int) := by
  show IntKind.u32.wrap ((x.toNat : Int) * 2 ^ min (n : Int).toNat 32) = _
  have h1 : ((2 : Int) ^ min (n : Int).toNat 32) = ((2 ^ n : Nat) : Int) := by
    have : min (n : Int).toNat 32 = n := by simp; omega
    rw [this]; simp
  rw [h1, ← Int.natCast_mul, wrap_u32]
  congr 1
  simp [Nat.shiftLeft_eq]
def zx (b : UInt8) : BitVec 32 := b.toBitVec.zeroExtend 32
def get4 (bs : List UInt8) (at' : Nat) : BitVec 32 :=
  if at' + 4 ≤ bs.length then (((0#32 ||| zx (bs.getD at' 0) <<< 0) ||| zx (bs.getD (at' + 1) 0) <<< 8) ||| zx (bs.getD (at' + 2) 0) <<< 16) ||| zx (bs.getD (at' + 3) 0) <<< 24 else 0#32
theorem u8s_getD {bs : List UInt8} {i : Nat} (h : i < bs.length) : (bs.map u8)[((i : Nat) : Int).toNat]? = some (u8 (bs.getD i 0)) := by
  rw [u8s_get h, List.getD_eq_getElem?_getD, List.getElem?_eq_getElem h]; rfl
noncomputable def B105 : Code := (Try.f105.body).getD .skip
theorem F105 : Fnc Try.prog 105 Try.f105 B105 := ⟨Try.func105, by kernel_rfl, by kernel_rfl⟩
theorem get_pure (bs : List UInt8) (a : Nat) (hlen : bs.length < 9223372036854775807) (ha : a < 9223372036854775000) : Pure Try.prog 105 [.d (.list 1 (bs.map u8)), .d (i64 a)] (.tuple [.d (i32 (get4 bs a)), .d (.bool (decide (a + 4 ≤ bs.length)))]) := by
  refine CallsA.start F105 (tm := (mk 35 [(0, .d (.list 1 (bs.map u8))), (1, .d (i64 a))])) (by kernel_rfl) ?_
  refine .seg 11 [0, 1, 10] (T' := cgo 11 [] [.code B105]) (tm' := mk 35 [(0, .d (.list 1 (bs.map u8))), (1, .d (i64 a)), (10, .d (.bool (decide ((a : Int) < 0))))]) (σ' := []) (by kernel_rfl) ?_
  rw [decide_eq_false (show ¬ (a : Int) < 0 by omega)]
  refine .seg 7 [0, 1, 16] (T' := cgo 18 [] [.code B105]) (tm' := mk 35 [(0, .d (.list 1 (bs.map u8))), (1, .d (i64 a)), (16, .d (.bool (decide ((a : Int) > isub .i64 ((bs.map u8).length : Nat) 4))))]) (σ' := []) (by kernel_rfl) ?_
  rw [List.length_map, isub_i64 (by omega) (by omega)]
  refine .ifH (b := decide ((a : Int) > (bs.length : Int) - 4)) (by kernel_rfl) (by kernel_rfl) (T1 := cgo 19 [true] [.code B105]) (T2 := cgo 19 [false] [.code B105]) (by kernel_rfl) (by kernel_rfl) (fun h => ?_) (fun h => ?_)
  · have h' : ¬ (a + 4 ≤ bs.length) := by have := of_decide_eq_true h; omega
    refine .seg 5 [4, 5] (T' := cgo 24 [true] [.code B105]) (tm' := mk 35 [(4, .d (.int .i32 0)), (5, .d (.bool (false)))]) (σ' := []) (by kernel_rfl) ?_
    rw [decide_eq_false h', get4, if_neg h']
    exact .retH F105 (by kernel_rfl) (by kernel_rfl) (⟨rfl, rfl⟩)
  · have h' : a + 4 ≤ bs.length := by have := of_decide_eq_false h; omega
    refine .seg 32 [0, 1, 7, 17, 20, 21, 24] (T' := cgo 51 [false, true] [.code B105]) (tm' := mk 35 [(0, .d (.list 1 (bs.map u8))), (1, .d (i64 a)), (7, .d (.int .i64 (0))), (17, .d (.int .i64 (0))), (20, .d (u32 0#32)), (21, .d (.list 1 (bs.map u8))), (24, .d (.int .i64 (iadd .i64 a 0)))]) (σ' := []) (by kernel_rfl) ?_
    rw [iadd_i64 (by omega) (by omega), Int.add_zero]
    refine .opH (o := (opOf (cgo 51 [false, true] [.code B105])).getD default) (by kernel_rfl) (by kernel_rfl) (by kernel_rfl) (T' := cgo 52 [false, true] [.code B105]) (by kernel_rfl) (ixData_ok (t := 22) (x := .tmp 21) (i := .tmp 24) (sz := 1) (xs := bs.map u8) (k := .i64) (n := (a : Nat)) (d := u8 (bs.getD a 0)) (by kernel_rfl) (by kernel_rfl) (by kernel_rfl) (by kernel_rfl) (by omega) (u8s_getD (by omega))) ?_
    refine .seg 34 [0, 1, 7, 17, 20, 21, 24] (T' := cgo 86 [false, true, true] [.code B105]) (tm' := mk 35 [(0, .d (.list 1 (bs.map u8))), (1, .d (i64 a)), (7, .d (.int .i64 (1))), (17, .d (.int .i64 (1))), (20, .d (.int .u32 (ior .u32 (0#32).toNat (ishl .u32 (iconv .u32 (bs.getD a 0).toNat) ((0 : Nat) : Int))))), (21, .d (.list 1 (bs.map u8))), (24, .d (.int .i64 (iadd .i64 a ((1 : Nat) : Int))))]) (σ' := []) (by kernel_rfl) ?_
    rw [iadd_i64 (by omega) (by omega), ← Int.natCast_add, iconv_u8_u32, ishl_u32 _ _ (by omega), ior_u32]
    refine .opH (o := (opOf (cgo 86 [false, true, true] [.code B105])).getD default) (by kernel_rfl) (by kernel_rfl) (by kernel_rfl) (T' := cgo 87 [false, true, true] [.code B105]) (by kernel_rfl) (ixData_ok (t := 22) (x := .tmp 21) (i := .tmp 24) (sz := 1) (xs := bs.map u8) (k := .i64) (n := ((a + 1 : Nat) : Int)) (d := u8 (bs.getD (a + 1) 0)) (by kernel_rfl) (by kernel_rfl) (by kernel_rfl) (by kernel_rfl) (by omega) (u8s_getD (by omega))) ?_
    refine .seg 34 [0, 1, 7, 17, 20, 21, 24] (T' := cgo 121 [false, true, true, true] [.code B105]) (tm' := mk 35 [(0, .d (.list 1 (bs.map u8))), (1, .d (i64 a)), (7, .d (.int .i64 (2))), (17, .d (.int .i64 (2))), (20, .d (.int .u32 (ior .u32 (0#32 ||| zx (bs.getD a 0) <<< 0).toNat (ishl .u32 (iconv .u32 (bs.getD (a + 1) 0).toNat) ((8 : Nat) : Int))))), (21, .d (.list 1 (bs.map u8))), (24, .d (.int .i64 (iadd .i64 a ((2 : Nat) : Int))))]) (σ' := []) (by kernel_rfl) ?_
    rw [iadd_i64 (by omega) (by omega), ← Int.natCast_add, iconv_u8_u32, ishl_u32 _ _ (by omega), ior_u32]
    refine .opH (o := (opOf (cgo 121 [false, true, true, true] [.code B105])).getD default) (by kernel_rfl) (by kernel_rfl) (by kernel_rfl) (T' := cgo 122 [false, true, true, true] [.code B105]) (by kernel_rfl) (ixData_ok (t := 22) (x := .tmp 21) (i := .tmp 24) (sz := 1) (xs := bs.map u8) (k := .i64) (n := ((a + 2 : Nat) : Int)) (d := u8 (bs.getD (a + 2) 0)) (by kernel_rfl) (by kernel_rfl) (by kernel_rfl) (by kernel_rfl) (by omega) (u8s_getD (by omega))) ?_
    refine .seg 34 [0, 1, 7, 17, 20, 21, 24] (T' := cgo 156 [false, true, true, true, true] [.code B105]) (tm' := mk 35 [(0, .d (.list 1 (bs.map u8))), (1, .d (i64 a)), (7, .d (.int .i64 (3))), (17, .d (.int .i64 (3))), (20, .d (.int .u32 (ior .u32 ((0#32 ||| zx (bs.getD a 0) <<< 0) ||| zx (bs.getD (a + 1) 0) <<< 8).toNat (ishl .u32 (iconv .u32 (bs.getD (a + 2) 0).toNat) ((16 : Nat) : Int))))), (21, .d (.list 1 (bs.map u8))), (24, .d (.int .i64 (iadd .i64 a ((3 : Nat) : Int))))]) (σ' := []) (by kernel_rfl) ?_
    rw [iadd_i64 (by omega) (by omega), ← Int.natCast_add, iconv_u8_u32, ishl_u32 _ _ (by omega), ior_u32]
    refine .opH (o := (opOf (cgo 156 [false, true, true, true, true] [.code B105])).getD default) (by kernel_rfl) (by kernel_rfl) (by kernel_rfl) (T' := cgo 157 [false, true, true, true, true] [.code B105]) (by kernel_rfl) (ixData_ok (t := 22) (x := .tmp 21) (i := .tmp 24) (sz := 1) (xs := bs.map u8) (k := .i64) (n := ((a + 3 : Nat) : Int)) (d := u8 (bs.getD (a + 3) 0)) (by kernel_rfl) (by kernel_rfl) (by kernel_rfl) (by kernel_rfl) (by omega) (u8s_getD (by omega))) ?_
    refine .seg 28 [4, 5] (T' := cgo 185 [false, true, true, true, true, false] [.code B105]) (tm' := mk 35 [(4, .d (.int .i32 (iconv .i32 (ior .u32 (((0#32 ||| zx (bs.getD a 0) <<< 0) ||| zx (bs.getD (a + 1) 0) <<< 8) ||| zx (bs.getD (a + 2) 0) <<< 16).toNat (ishl .u32 (iconv .u32 (bs.getD (a + 3) 0).toNat) ((24 : Nat) : Int)))))), (5, .d (.bool (true)))]) (σ' := []) (by kernel_rfl) ?_
    rw [iconv_u8_u32, ishl_u32 _ _ (by omega), ior_u32, iconv_i32_u32]
    have e : get4 bs a = (((0#32 ||| zx (bs.getD a 0) <<< 0) ||| zx (bs.getD (a + 1) 0) <<< 8) ||| zx (bs.getD (a + 2) 0) <<< 16) ||| zx (bs.getD (a + 3) 0) <<< 24 := by rw [get4, if_pos h']
    rw [decide_eq_true h', e]
    exact .retH F105 (by kernel_rfl) (by kernel_rfl) (⟨rfl, rfl⟩)
end Go.Proofs.Ytoelkgbeefoplaa
namespace Go.Proofs.Ytoelkgbeefoplaa
open Go Go.Br Go.Proofs
open List (map)
def nOf (bs : List UInt8) : Nat := (get4 bs 0).toInt.toNat
def fits (bs : List UInt8) : Bool := decide (4 ≤ bs.length) && decide (0 ≤ (get4 bs 0).toInt) && decide ((get4 bs 0).toInt ≤ 65536) && decide ((get4 bs 0).toInt + 8 ≤ bs.length)
def piece (bs : List UInt8) : List UInt8 := (bs.take (4 + nOf bs)).drop 4
def sumOk (bs : List UInt8) : Bool := get4 bs (4 + nOf bs) == crc (bs.take (4 + nOf bs))
def fstV (bs : List UInt8) : V := if fits bs then .tuple [.ex 1 ((piece bs).map u8), .d (.bool (sumOk bs))] else .tuple [.nils, .d (.bool false)]
theorem toNat_beq (x y : BitVec 32) : (((x.toNat : Int)) == (y.toNat : Int)) = (x == y) := by
  rw [Bool.eq_iff_iff]
  simp only [beq_iff_eq]
  exact ⟨fun h => BitVec.eq_of_toNat_eq (by omega), fun h => by rw [h]⟩
noncomputable def B92 : Code := (Try.f92.body).getD .skip
theorem F92 : Fnc Try.prog 92 Try.f92 B92 := ⟨Try.func92, by kernel_rfl, by kernel_rfl⟩
theorem first_pure (bs : List UInt8) (hlen : bs.length < 9223372036854770000) : Pure Try.prog 92 [.d (.list 1 (bs.map u8))] (fstV bs) := by
  refine CallsA.start F92 (tm := (mk 52 [(0, .d (.list 1 (bs.map u8)))])) (by kernel_rfl) ?_
  refine .seg 8 [0, 10] (T' := cgo 8 [] [.code B92]) (tm' := mk 52 [(0, .d (.list 1 (bs.map u8))), (10, .d (.list 1 (bs.map u8)))]) (σ' := []) (by kernel_rfl) ?_
  refine .semH (o := (opOf (cgo 8 [] [.code B92])).getD default) (v := .tuple [.d (i32 (get4 bs 0)), .d (.bool (decide (0 + 4 ≤ bs.length)))]) (σ' := []) (by kernel_rfl) (by kernel_rfl) (T' := cgo 9 [] [.code B92]) (by kernel_rfl) (fun k => sem_data (x := .func 105) (args := #[.tmp 10, .const (.int .i64 0)]) (ts := #[22, 3]) (first := []) (cap := []) F105 (get_pure bs 0 (by omega) (by omega)) (by kernel_rfl) (by kernel_rfl) (by kernel_rfl) (by kernel_rfl) (by kernel_rfl) []) ?_
  refine .seg 12 [0, 4, 16] (T' := cgo 21 [] [.code B92]) (tm' := mk 52 [(0, .d (.list 1 (bs.map u8))), (4, .d (i32 (get4 bs 0))), (16, .d (.bool (!(decide (0 + 4 ≤ bs.length)))))]) (σ' := []) (by kernel_rfl) ?_
  by_cases h4 : 0 + 4 ≤ bs.length
  case neg =>
    have hf : fits bs = false := by
      have : ¬ 4 ≤ bs.length := by omega
      simp [fits, this]
    rw [decide_eq_false h4, Bool.not_false, fstV, hf]
    refine .seg 22 [2, 3] (T' := cgo 43 [true] [.code B92]) (tm' := mk 52 [(2, .nils), (3, .d (.bool (false)))]) (σ' := []) (by kernel_rfl) ?_
    exact .retH F92 (by kernel_rfl) (by kernel_rfl) (⟨rfl, rfl⟩)
  rw [decide_eq_true h4, Bool.not_true]
  refine .seg 4 [0, 4, 20] (T' := cgo 25 [] [.code B92]) (tm' := mk 52 [(0, .d (.list 1 (bs.map u8))), (4, .d (i32 (get4 bs 0))), (20, .d (.bool (decide ((get4 bs 0).toInt < 0))))]) (σ' := []) (by kernel_rfl) ?_
  by_cases h0 : (get4 bs 0).toInt < 0
  case pos =>
    have hf : fits bs = false := by
      have : ¬ 0 ≤ (get4 bs 0).toInt := by omega
      simp [fits, this]
    rw [decide_eq_true h0, fstV, hf]
    refine .seg 18 [2, 3] (T' := cgo 43 [true] [.code B92]) (tm' := mk 52 [(2, .nils), (3, .d (.bool (false)))]) (σ' := []) (by kernel_rfl) ?_
    exact .retH F92 (by kernel_rfl) (by kernel_rfl) (⟨rfl, rfl⟩)
  rw [decide_eq_false h0]
  refine .seg 4 [0, 4, 24] (T' := cgo 29 [] [.code B92]) (tm' := mk 52 [(0, .d (.list 1 (bs.map u8))), (4, .d (i32 (get4 bs 0))), (24, .d (.bool (decide ((get4 bs 0).toInt > 65536))))]) (σ' := []) (by kernel_rfl) ?_
  by_cases h6 : (get4 bs 0).toInt > 65536
  case pos =>
    have hf : fits bs = false := by
      have : ¬ (get4 bs 0).toInt ≤ 65536 := by omega
      simp [fits, this]
    rw [decide_eq_true h6, fstV, hf]
    refine .seg 14 [2, 3] (T' := cgo 43 [true] [.code B92]) (tm' := mk 52 [(2, .nils), (3, .d (.bool (false)))]) (σ' := []) (by kernel_rfl) ?_
    exact .retH F92 (by kernel_rfl) (by kernel_rfl) (⟨rfl, rfl⟩)
  rw [decide_eq_false h6]
  have hn : (get4 bs 0).toInt = (nOf bs : Int) := by simp [nOf]; omega
  have hi : iconv .i64 (get4 bs 0).toInt = (nOf bs : Int) := by rw [hn]; exact wrap_i64 (by omega) (by omega)
  refine .seg 8 [0, 4, 31] (T' := cgo 37 [] [.code B92]) (tm' := mk 52 [(0, .d (.list 1 (bs.map u8))), (4, .d (i32 (get4 bs 0))), (31, .d (.bool (decide (isub .i64 ((bs.map u8).length : Nat) 8 < iconv .i64 (get4 bs 0).toInt))))]) (σ' := []) (by kernel_rfl) ?_
  rw [List.length_map, isub_i64 (by omega) (by omega), hi]
  by_cases h8 : (bs.length : Int) - 8 < (nOf bs : Int)
  case pos =>
    have hf : fits bs = false := by
      have : ¬ (get4 bs 0).toInt + 8 ≤ bs.length := by omega
      simp [fits, this]
    rw [decide_eq_true h8, fstV, hf]
    refine .seg 6 [2, 3] (T' := cgo 43 [true] [.code B92]) (tm' := mk 52 [(2, .nils), (3, .d (.bool (false)))]) (σ' := []) (by kernel_rfl) ?_
    exact .retH F92 (by kernel_rfl) (by kernel_rfl) (⟨rfl, rfl⟩)
  rw [decide_eq_false h8]
  have hf : fits bs = true := by
    simp only [fits, Bool.and_eq_true, decide_eq_true_eq]
    omega
  rw [fstV, hf]
  refine .seg 13 [0, 6, 36, 37] (T' := cgo 50 [false] [.code B92]) (tm' := mk 52 [(0, .d (.list 1 (bs.map u8))), (6, .d (.int .i64 (iadd .i64 4 (iconv .i64 (get4 bs 0).toInt)))), (36, .d (.list 1 (bs.map u8))), (37, .d (.int .i64 (iadd .i64 4 (iconv .i64 (get4 bs 0).toInt))))]) (σ' := []) (by kernel_rfl) ?_
  have e4 : iadd .i64 4 (nOf bs : Int) = ((4 + nOf bs : Nat) : Int) := by rw [iadd_i64 (by omega) (by omega)]; simp
  rw [hi, e4]
  refine .semH (o := (opOf (cgo 50 [false] [.code B92])).getD default) (v := .tuple [.d (i32 (get4 bs (4 + nOf bs))), .d (.bool (decide (4 + nOf bs + 4 ≤ bs.length)))]) (σ' := []) (by kernel_rfl) (by kernel_rfl) (T' := cgo 51 [false] [.code B92]) (by kernel_rfl) (fun k => sem_data (x := .func 105) (args := #[.tmp 36, .tmp 37]) (ts := #[22, 3]) (first := []) (cap := []) F105 (get_pure bs (4 + nOf bs) (by omega) (by omega)) (by kernel_rfl) (by kernel_rfl) (by kernel_rfl) (by kernel_rfl) (by kernel_rfl) []) ?_
  refine .seg 7 [0, 6, 7] (T' := cgo 58 [false] [.code B92]) (tm' := mk 52 [(0, .d (.list 1 (bs.map u8))), (6, .d (.int .i64 (((4 + nOf bs : Nat) : Int)))), (7, .d (i32 (get4 bs (4 + nOf bs))))]) (σ' := []) (by kernel_rfl) ?_
  refine .drawH (T' := (cgo 59 [false] [.code B92])) (tm' := (mk 52 [(0, .d (.list 1 (bs.map u8))), (6, .d (.int .i64 (((4 + nOf bs : Nat) : Int)))), (7, .d (i32 (get4 bs (4 + nOf bs)))), (41, .d (.list 1 (bs.map u8))), (42, .d (.int .i64 (((4 + nOf bs : Nat) : Int)))), (43, .d (.int .i64 (((4 + nOf bs : Nat) : Int)))), (44, .ex 1 (((bs.map u8).take (4 + nOf bs)).drop 4)), (45, .d (i32 (get4 bs (4 + nOf bs)))), (46, .d (.int .u32 (iconv .u32 (get4 bs (4 + nOf bs)).toInt))), (47, .d (.list 1 (bs.map u8))), (48, .d (.int .i64 (((4 + nOf bs : Nat) : Int)))), (49, .d (.list 1 (((bs.map u8).take (4 + nOf bs)).drop 0))), (50, .d (u32 (crc (bs.take (4 + nOf bs))))), (51, .d (.bool (iconv .u32 (get4 bs (4 + nOf bs)).toInt == ((crc (bs.take (4 + nOf bs))).toNat : Int)))), (2, .ex 1 (((bs.map u8).take (4 + nOf bs)).drop 4)), (3, .d (.bool (iconv .u32 (get4 bs (4 + nOf bs)).toInt == ((crc (bs.take (4 + nOf bs))).toNat : Int))))])) (σ' := []) (List.replicate 13 0) [0, 1, 2, 3, 4, 5, 6, 7, 8, 9, 10, 11, 12] (by kernel_rfl) (by kernel_rfl) (by kernel_rfl) (by kernel_rfl) (fun k => ?_) ?_
  · refine Run.append (A := [0, 1, 2]) (srun_ok (tm' := (mk 52 [(0, .d (.list 1 (bs.map u8))), (6, .d (.int .i64 (((4 + nOf bs : Nat) : Int)))), (7, .d (i32 (get4 bs (4 + nOf bs)))), (41, .d (.list 1 (bs.map u8))), (42, .d (.int .i64 (((4 + nOf bs : Nat) : Int)))), (43, .d (.int .i64 (((4 + nOf bs : Nat) : Int))))])) (σ' := []) (by kernel_rfl)) ?_
    refine Run.one (StepQ.rule (o := ((drawOf (cgo 58 [false] [.code B92]))[3]?).getD default) (v := .ex 1 (((bs.map u8).take (4 + nOf bs)).drop 4)) [.tmp 41, .const (.int .i64 4), .tmp 42, .tmp 43] (by kernel_rfl) (by kernel_rfl) (by kernel_rfl) (by kernel_rfl) (by kernel_rfl) (fun s tm' hv => sl3Data_ok (t := 22) (x := .tmp 41) (y := .tmp 42) (z := .tmp 43) (lo := some (.const (.int .i64 4))) (sz := 1) (xs := bs.map u8) 4 (4 + nOf bs) (by kernel_rfl) (by rw [hv _ (by simp)]; kernel_rfl) (by kernel_rfl) ⟨.i64, 4, by kernel_rfl, by omega, by omega⟩ ⟨.i64, ((4 + nOf bs : Nat) : Int), (hv _ (by simp)).trans (by kernel_rfl), Int.natCast_nonneg _, Int.toNat_natCast _⟩ ⟨.i64, ((4 + nOf bs : Nat) : Int), (hv _ (by simp)).trans (by kernel_rfl), Int.natCast_nonneg _, Int.toNat_natCast _⟩ (by omega) (by simp; omega))) ?_
    refine Run.append (A := [4, 5, 6, 7]) (srun_ok (tm' := (mk 52 [(0, .d (.list 1 (bs.map u8))), (6, .d (.int .i64 (((4 + nOf bs : Nat) : Int)))), (7, .d (i32 (get4 bs (4 + nOf bs)))), (41, .d (.list 1 (bs.map u8))), (42, .d (.int .i64 (((4 + nOf bs : Nat) : Int)))), (43, .d (.int .i64 (((4 + nOf bs : Nat) : Int)))), (44, .ex 1 (((bs.map u8).take (4 + nOf bs)).drop 4)), (45, .d (i32 (get4 bs (4 + nOf bs)))), (46, .d (.int .u32 (iconv .u32 (get4 bs (4 + nOf bs)).toInt))), (47, .d (.list 1 (bs.map u8))), (48, .d (.int .i64 (((4 + nOf bs : Nat) : Int))))])) (σ' := []) (by kernel_rfl)) ?_
    refine Run.one (StepQ.rule (o := ((drawOf (cgo 58 [false] [.code B92]))[8]?).getD default) (v := .d (.list 1 (((bs.map u8).take (4 + nOf bs)).drop 0))) [.tmp 47, .tmp 48] (by kernel_rfl) (by kernel_rfl) (by kernel_rfl) (by kernel_rfl) (by kernel_rfl) (fun s tm' hv => slData_ok (t := 22) (x := .tmp 47) (lo := none) (hi := some (.tmp 48)) (sz := 1) (xs := bs.map u8) 0 (4 + nOf bs) (by kernel_rfl) (by rw [hv _ (by simp)]; kernel_rfl) (by kernel_rfl) rfl ⟨.i64, ((4 + nOf bs : Nat) : Int), (hv _ (by simp)).trans (by kernel_rfl), Int.natCast_nonneg _, Int.toNat_natCast _⟩ (by omega) (by simp; omega))) ?_
    refine Run.one (StepQ.data (o := ((drawOf (cgo 58 [false] [.code B92]))[9]?).getD default) (v := .d (u32 (crc (bs.take (4 + nOf bs))))) (by kernel_rfl) (by kernel_rfl) (by kernel_rfl) (sem_data0 (x := .func 59) (args := #[.tmp 49]) (ts := #[22]) (first := []) (cap := []) (ds := [.d (.list 1 ((bs.take (4 + nOf bs)).map u8))]) F59 (crc_pure (bs.take (4 + nOf bs)) (by simp; omega)) (by kernel_rfl) (by kernel_rfl) (by kernel_rfl) (by rw [List.map_take]; kernel_rfl) (by kernel_rfl) (by kernel_rfl))) ?_
    exact srun_ok (by kernel_rfl)
  rw [iconv_u32_i32, toNat_beq, ← List.map_take, ← List.map_drop]
  exact .retH F92 (by kernel_rfl) (by kernel_rfl) (⟨rfl, rfl⟩)
end Go.Proofs.Ytoelkgbeefoplaa
namespace Go.Proofs.Ytoelkgbeefoplaa
open Go Go.Br Go.Proofs
open List (map)
def bsD (bs : List UInt8) : D := .list 1 (bs.map u8)
noncomputable def B61 : Code := (Try.f61.body).getD .skip
theorem F61 : Fnc Try.prog 61 Try.f61 B61 := ⟨Try.func61, by kernel_rfl, by kernel_rfl⟩
theorem clone_pure (bs : List UInt8) (hlen : bs.length ≤ 140737488355000) : Pure Try.prog 61 [.d (bsD bs)] (.d (bsD bs)) := by
  refine CallsA.start F61 (tm := (mk 8 [(0, .d (bsD bs))])) (by kernel_rfl) ?_
  refine .seg 8 [0, 3] (T' := cgo 8 [] [.code B61]) (tm' := mk 8 [(0, .d (bsD bs)), (3, .d (bsD bs))]) (σ' := []) (by kernel_rfl) ?_
  refine .anyH (o := (opOf (cgo 8 [] [.code B61])).getD default) (by kernel_rfl) (by kernel_rfl) (by kernel_rfl) (T' := (cgo 9 [] [.code B61])) (by kernel_rfl) (nilEq_ok (x := .tmp 3) (y := .const (.slice none 0 0)) (t := 22) (ty := 22) (sz := 1) (xs := bs.map u8) (neg := false) (by kernel_rfl) (by kernel_rfl) (by kernel_rfl) (by kernel_rfl)) ?_
  rintro v ⟨b, rfl, hb⟩
  cases b with
  | true =>
    have h0 : bs = [] := by simpa using hb rfl
    subst h0
    refine .seg 6 [2] (T' := cgo 15 [true] [.code B61]) (tm' := mk 8 [(2, .nils)]) (σ' := []) (by kernel_rfl) ?_
    refine .coerce [22, 22, 22] ?_
    exact .retH (v := .d (bsD [])) F61 (by kernel_rfl) (by kernel_rfl) ⟨rfl, rfl⟩
  | false =>
    refine .seg 5 [0] (T' := cgo 14 [false] [.code B61]) (tm' := mk 8 [(0, .d (bsD bs))]) (σ' := []) (by kernel_rfl) ?_
    refine .opH (o := (opOf (cgo 14 [false] [.code B61])).getD default) (by kernel_rfl) (by kernel_rfl) (by kernel_rfl) (T' := cgo 15 [false] [.code B61]) (by kernel_rfl) (build0_ok (t := 22) (e := 5) (sz := 1) (sz' := 1) (by kernel_rfl) (by kernel_rfl) (by kernel_rfl)) ?_
    refine .seg 1 [5, 6] (T' := cgo 16 [false] [.code B61]) (tm' := mk 8 [(5, .ex 1 []), (6, .d (bsD bs))]) (σ' := []) (by kernel_rfl) ?_
    cases bs with
    | nil =>
      refine .opH (o := (opOf (cgo 16 [false] [.code B61])).getD default) (by kernel_rfl) (by kernel_rfl) (by kernel_rfl) (T' := cgo 17 [false] [.code B61]) (by kernel_rfl) (appNone_ok (s := .tmp 5) (x := .tmp 6) (t := 22) (t2 := 22) (sz := 1) (by' := 1) (xs := []) (by kernel_rfl) (by kernel_rfl) (by kernel_rfl) (by kernel_rfl) (by kernel_rfl)) ?_
      refine .seg 2 [2] (T' := cgo 19 [false] [.code B61]) (tm' := mk 8 [(2, .ex 1 [])]) (σ' := []) (by kernel_rfl) ?_
      refine .coerce [22, 22, 22] ?_
      exact .retH (v := .d (bsD [])) F61 (by kernel_rfl) (by kernel_rfl) ⟨rfl, rfl⟩
    | cons b bs =>
      refine .opH (o := (opOf (cgo 16 [false] [.code B61])).getD default) (by kernel_rfl) (by kernel_rfl) (by kernel_rfl) (T' := cgo 17 [false] [.code B61]) (by kernel_rfl) (appEx_ok (s := .tmp 5) (x := .tmp 6) (t := 22) (t2 := 22) (sz := 1) (by' := 1) (xs := []) (ys := (b :: bs).map u8) (by kernel_rfl) (by kernel_rfl) (by kernel_rfl) (by kernel_rfl) (by kernel_rfl) (by simp) (by simp at hlen ⊢; omega) (by simp [maxLen] at hlen ⊢; omega)) ?_
      refine .seg 2 [2] (T' := cgo 19 [false] [.code B61]) (tm' := mk 8 [(2, .row 0)]) (σ' := [.row 1 ((b :: bs).map u8) false]) (by kernel_rfl) ?_
      refine .freeze 0 (sz := 1) (xs := (b :: bs).map u8) (mv := false) rfl ?_
      refine .sub [] ((mk 8 [(2, .d (bsD (b :: bs)))])) [] none [] ⟨rfl, rfl, rfl⟩ rfl ⟨by simp, rfl⟩ rfl ⟨rfl, rfl⟩ ⟨rfl, rfl⟩ ?_
      exact .retH F61 (by kernel_rfl) (by kernel_rfl) (⟨rfl, rfl⟩)
noncomputable def B60 : Code := (Try.f60.body).getD .skip
theorem F60 : Fnc Try.prog 60 Try.f60 B60 := ⟨Try.func60, by kernel_rfl, by kernel_rfl⟩
theorem frames_pure (bs : List UInt8) : CallsA Try.prog 60 [.d (bsD bs)] [] fun r σ' => r = .ret (.fn (.func 91) [] [.ptr 0 0 0]) ∧ σ' = [.cells [.d (bsD bs)]] := by
  refine CallsA.start F60 (tm := (mk 4 [(0, .d (bsD bs))])) (by kernel_rfl) ?_
  refine .seg 10 [2] (T' := cgo 10 [] [.code B60]) (tm' := mk 4 [(2, .fn (.func 91) [] [.ptr 0 0 0])]) (σ' := [.cells [.d (bsD bs)]]) (by kernel_rfl) ?_
  exact .retH F60 (by kernel_rfl) (by kernel_rfl) (⟨rfl, rfl⟩)
def recs : Nat → List UInt8 → List (List UInt8)
  | 0, _ => []
  | n + 1, bs => if fits bs && sumOk bs then piece bs :: recs n (bs.drop (nOf bs + 8)) else []
def good (rs : List (List UInt8)) : Nat := (rs.map fun r => r.length + 8).sum
theorem fits_le {bs : List UInt8} (h : fits bs = true) : nOf bs + 8 ≤ bs.length ∧ nOf bs ≤ 65536 := by
  simp only [fits, Bool.and_eq_true, decide_eq_true_eq] at h
  unfold nOf
  omega
theorem piece_length {bs : List UInt8} (h : fits bs = true) : (piece bs).length = nOf bs := by
  have := (fits_le h).1
  simp [piece]
  omega
noncomputable def B17 : Code := (Try.f17.body).getD .skip
theorem F17 : Fnc Try.prog 17 Try.f17 B17 := ⟨Try.func17, by kernel_rfl, by kernel_rfl⟩
noncomputable def R17 : List Item := [.code (rfAs (cgo 12 [] [.code B17])), .beginRound, .code (rfBd (cgo 12 [] [.code B17]))]
def tm17 : List V := (mk 20 [(2, .ptr 0 0 0), (3, .ptr 1 0 0), (6, .fn (.func 91) [] [.ptr 2 0 0])])
noncomputable def S17 (rs : List (List UInt8)) (g : Nat) (bs : List UInt8) (mv : Bool) (st : LoopState) : Store :=
  [.cells [.row 3], .cells [.d (i64 g)], .cells [.d (bsD bs)], .row 1 (rs.map bsD) mv, .defd, lp (cgo 12 [] [.code B17]) 17 tm17 st]
theorem body17 (rs : List (List UInt8)) (g : Nat) (bs : List UInt8) (mv : Bool) (r : List UInt8) (hr : r.length ≤ 65536) (hg : g ≤ 1125899906842624) (hrs : rs.length ≤ 1099511627776) :
    AW Try.prog 17 (some 5) 6 R17 ((mk 20 [(2, .ptr 0 0 0), (3, .ptr 1 0 0), (6, .fn (.func 91) [] [.ptr 2 0 0]), (7, .ex 1 (r.map u8))])) (S17 rs g bs mv .ready) [] fun a σ' => a = .ret (.d (.bool true)) ∧ σ' = S17 (rs ++ [r]) (g + (r.length + 8)) bs true .ready := by
  refine .seg 3 [2, 3, 4] (T' := cgo 3 [] R17) (tm' := mk 20 [(2, .ptr 0 0 0), (3, .ptr 1 0 0), (4, .ex 1 (r.map u8))]) (σ' := S17 rs g bs mv .ready) (by kernel_rfl) ?_
  refine .beginL (T0 := (cgo 12 [] [.code B17])) (fn := 17) (tml := tm17) (by kernel_rfl) (T' := (cgo 4 [] R17)) (by kernel_rfl) (σ' := S17 rs g bs mv .busy) (by kernel_rfl) (by kernel_rfl) ?_
  refine .seg 2 [2, 3, 4] (T' := cgo 6 [] R17) (tm' := mk 20 [(2, .ptr 0 0 0), (3, .ptr 1 0 0), (4, .ex 1 (r.map u8))]) (σ' := S17 rs g bs mv .busy) (by kernel_rfl) ?_
  have happ (tm : List V) (h8 : ev tm (.tmp 8) = V.row 3) (h11 : ev tm (.tmp 11) = V.row 6) : OpOk Try.prog (((drawOf (cgo 6 [] R17))[4]?).getD default) tm (S17 rs g bs mv .busy ++ [O.row 1 [bsD r] false]) (.row 3) (V.killL (Nat.beq 3) tm) (((S17 rs g bs mv .busy ++ [O.row 1 [bsD r] false]).map (O.kill (Nat.beq 3))).set 3 (O.row 1 (rs.map bsD ++ [bsD r]) true)) :=
    appRow_ok (s := .tmp 8) (x := .tmp 11) (t := 26) (t2 := 26) (l := 3) (sz := 1) (by' := 24) (xs := rs.map bsD) (ys := [bsD r]) (mv := mv) (by kernel_rfl) h8 (by kernel_rfl) (by rw [h11]; kernel_rfl) (by kernel_rfl) (by kernel_rfl) (by simp; omega) (by simp [maxLen]; omega)
  refine .draw2H (T' := (cgo 7 [] R17)) (tm' := (mk 20 [(2, .ptr 0 0 0), (3, .ptr 1 0 0), (4, .ex 1 (r.map u8)), (9, .ex 1 (r.map u8)), (10, .d (bsD r)), (11, .row 6), (12, .row 3)])) (σ' := S17 (rs ++ [r]) g bs true .busy ++ [.row 1 [bsD r] false]) [1, 0, 0, 2, 3, 2] 0 3 [0, 1, 2, 3, 4, 5] [1, 2, 3, 0, 4, 5] (by kernel_rfl) (by kernel_rfl) (by kernel_rfl) (by kernel_rfl) (fun k => ?_) (fun k => ?_) ?_
  · refine Run.append (A := [0, 1]) (srun_ok (tm' := (mk 20 [(2, .ptr 0 0 0), (3, .ptr 1 0 0), (4, .ex 1 (r.map u8)), (8, .row 3), (9, .ex 1 (r.map u8))])) (σ' := S17 rs g bs mv .busy) (by kernel_rfl)) ?_
    refine Run.one (StepQ.data (o := ((drawOf (cgo 6 [] R17))[2]?).getD default) (v := .d (bsD r)) (by kernel_rfl) (by kernel_rfl) (by kernel_rfl) (sem_data0 (x := .func 61) (args := #[.tmp 9]) (ts := #[22]) (first := []) (cap := []) (ds := [.d (bsD r)]) F61 (clone_pure r (by omega)) (by kernel_rfl) (by kernel_rfl) (by kernel_rfl) (by kernel_rfl) (by kernel_rfl) (by kernel_rfl))) ?_
    refine Run.append (A := [3]) (srun_ok (tm' := (mk 20 [(2, .ptr 0 0 0), (3, .ptr 1 0 0), (4, .ex 1 (r.map u8)), (8, .row 3), (9, .ex 1 (r.map u8)), (10, .d (bsD r)), (11, .row 6)])) (σ' := S17 rs g bs mv .busy ++ [.row 1 [bsD r] false]) (by kernel_rfl)) ?_
    refine Run.one (s1 := ((mk 20 [(2, .ptr 0 0 0), (3, .ptr 1 0 0), (4, .ex 1 (r.map u8)), (9, .ex 1 (r.map u8)), (10, .d (bsD r)), (11, .row 6), (12, .row 3)]), ((S17 rs g bs mv .busy ++ [O.row 1 [bsD r] false]).map (O.kill (Nat.beq 3))).set 3 (O.row 1 (rs.map bsD ++ [bsD r]) true))) (StepQ.all (by kernel_rfl) fun rest hn => .op (o := ((drawOf (cgo 6 [] R17))[4]?).getD default) (by kernel_rfl) (by kernel_rfl) (by kernel_rfl) (happ _ (by kernel_rfl) (by kernel_rfl)) hn) ?_
    rw [show rs.map bsD ++ [bsD r] = (rs ++ [r]).map bsD by simp]
    exact srun_ok (by kernel_rfl)
  · refine Run.append (A := [1]) (srun_ok (tm' := (mk 20 [(2, .ptr 0 0 0), (3, .ptr 1 0 0), (4, .ex 1 (r.map u8)), (9, .ex 1 (r.map u8))])) (σ' := S17 rs g bs mv .busy) (by kernel_rfl)) ?_
    refine Run.one (StepQ.data (o := ((drawOf (cgo 6 [] R17))[2]?).getD default) (v := .d (bsD r)) (by kernel_rfl) (by kernel_rfl) (by kernel_rfl) (sem_data0 (x := .func 61) (args := #[.tmp 9]) (ts := #[22]) (first := []) (cap := []) (ds := [.d (bsD r)]) F61 (clone_pure r (by omega)) (by kernel_rfl) (by kernel_rfl) (by kernel_rfl) (by kernel_rfl) (by kernel_rfl) (by kernel_rfl))) ?_
    refine Run.append (A := [3, 0]) (srun_ok (tm' := (mk 20 [(2, .ptr 0 0 0), (3, .ptr 1 0 0), (4, .ex 1 (r.map u8)), (8, .row 3), (9, .ex 1 (r.map u8)), (10, .d (bsD r)), (11, .row 6)])) (σ' := S17 rs g bs mv .busy ++ [.row 1 [bsD r] false]) (by kernel_rfl)) ?_
    refine Run.one (s1 := ((mk 20 [(2, .ptr 0 0 0), (3, .ptr 1 0 0), (4, .ex 1 (r.map u8)), (9, .ex 1 (r.map u8)), (10, .d (bsD r)), (11, .row 6), (12, .row 3)]), ((S17 rs g bs mv .busy ++ [O.row 1 [bsD r] false]).map (O.kill (Nat.beq 3))).set 3 (O.row 1 (rs.map bsD ++ [bsD r]) true))) (StepQ.all (by kernel_rfl) fun rest hn => .op (o := ((drawOf (cgo 6 [] R17))[4]?).getD default) (by kernel_rfl) (by kernel_rfl) (by kernel_rfl) (happ _ (by kernel_rfl) (by kernel_rfl)) hn) ?_
    rw [show rs.map bsD ++ [bsD r] = (rs ++ [r]).map bsD by simp]
    exact srun_ok (by kernel_rfl)
  refine .seg 9 [] (T' := cgo 16 [] R17) (tm' := mk 20 []) (σ' := [.cells [.row 3], .cells [.d (.int .i64 (iadd .i64 g (iadd .i64 ((r.map u8).length : Nat) 8)))], .cells [.d (bsD bs)], .row 1 ((rs ++ [r]).map bsD) true, .defd, lp (cgo 12 [] [.code B17]) 17 tm17 .busy, .row 1 [bsD r] false]) (by kernel_rfl) ?_
  rw [List.length_map, iadd_i64 (a := (r.length : Int)) (b := 8) (by omega) (by omega), iadd_i64 (a := (g : Int)) (b := (r.length : Int) + 8) (by omega) (by omega), show (g : Int) + ((r.length : Int) + 8) = ((g + (r.length + 8) : Nat) : Int) by omega]
  refine .sub [0, 1, 2, 3, 4, 5] ((mk 20 [])) (S17 (rs ++ [r]) (g + (r.length + 8)) bs true .busy) (some 5) [] (by refine ⟨rfl, rfl, ?_⟩; kernel_rfl) rfl ⟨by simp [S17], rfl⟩ (by kernel_rfl) ⟨rfl, rfl⟩ ⟨rfl, rfl⟩ ?_
  exact .roundEndL (T0 := (cgo 12 [] [.code B17])) (fn := 17) (tml := tm17) (st := .busy) (by kernel_rfl) (by kernel_rfl) rfl ⟨rfl, by kernel_rfl⟩
theorem fst_no {bs : List UInt8} (h : (fits bs && sumOk bs) = false) : ∃ X : V, X.locs = [] ∧ fstV bs = .tuple [X, .d (.bool false)] := by
  unfold fstV
  cases hf : fits bs with
  | false => exact ⟨.nils, rfl, by simp⟩
  | true =>
    rw [hf, Bool.true_and] at h
    exact ⟨.ex 1 ((piece bs).map u8), rfl, by rw [h]; simp⟩
theorem fst_yes {bs : List UInt8} (h : (fits bs && sumOk bs) = true) : fstV bs = .tuple [.ex 1 ((piece bs).map u8), .d (.bool true)] := by
  simp only [Bool.and_eq_true] at h
  unfold fstV
  rw [h.1, h.2]; rfl
noncomputable def B91 : Code := (Try.f91.body).getD .skip
theorem F91 : Fnc Try.prog 91 Try.f91 B91 := ⟨Try.func91, by kernel_rfl, by kernel_rfl⟩
theorem it91 : ∀ (m : Nat) (rs : List (List UInt8)) (g : Nat) (bs : List UInt8) (mv : Bool), bs.length < m → g + bs.length ≤ 1125899906842624 → rs.length + bs.length ≤ 1099511627776 →
    AW Try.prog 91 none 6 ((cgo 2 [] [.code B91])) ((mk 23 [(0, .yield 5), (1, .ptr 2 0 0)])) (S17 rs g bs mv .ready) [] fun r σ' => ∃ rest mv', r = .ret (.tuple []) ∧ σ' = S17 (rs ++ recs m bs) (g + good (recs m bs)) rest mv' .ready := by
  intro m
  induction m with
  | zero => intro rs g bs mv h; omega
  | succ m ih =>
    intro rs g bs mv hm hg hrs
    refine .seg 4 [0, 1, 6] (T' := cgo 6 [] [.code B91]) (tm' := mk 23 [(0, .yield 5), (1, .ptr 2 0 0), (6, .d (bsD bs))]) (σ' := S17 rs g bs mv .ready) (by kernel_rfl) ?_
    cases hf : (fits bs && sumOk bs) with
    | false =>
      obtain ⟨X, hX, hv⟩ := fst_no hf
      have hp := first_pure bs (by omega)
      rw [hv] at hp
      refine .semH (o := (opOf (cgo 6 [] [.code B91])).getD default) (v := .tuple [X, .d (.bool false)]) (by kernel_rfl) (by kernel_rfl) (T' := cgo 7 [] [.code B91]) (by kernel_rfl) (fun k => sem_data0 (x := .func 92) (args := #[.tmp 6]) (ts := #[22]) (first := []) (cap := []) F92 hp (by kernel_rfl) (by kernel_rfl) (by kernel_rfl) (by kernel_rfl) (by kernel_rfl) (by simp [V.locs, V.locsL, hX]) _) ?_
      refine .seg 19 [] (T' := cgo 26 [true] [.code B91]) (tm' := mk 23 []) (σ' := S17 rs g bs mv .ready) (by kernel_rfl) ?_
      refine .retH F91 (v := .tuple []) (by kernel_rfl) (by kernel_rfl) ⟨bs, mv, rfl, ?_⟩
      simp [recs, hf, good]
    | true =>
      have hv := fst_yes hf
      have hp := first_pure bs (by omega)
      rw [hv] at hp
      have hf1 : fits bs = true := by simp only [Bool.and_eq_true] at hf; exact hf.1
      have hle := fits_le hf1
      refine .semH (o := (opOf (cgo 6 [] [.code B91])).getD default) (v := .tuple [.ex 1 ((piece bs).map u8), .d (.bool true)]) (by kernel_rfl) (by kernel_rfl) (T' := cgo 7 [] [.code B91]) (by kernel_rfl) (fun k => sem_data0 (x := .func 92) (args := #[.tmp 6]) (ts := #[22]) (first := []) (cap := []) F92 hp (by kernel_rfl) (by kernel_rfl) (by kernel_rfl) (by kernel_rfl) (by kernel_rfl) (by kernel_rfl) _) ?_
      refine .seg 14 [0, 1, 3, 12, 13, 14] (T' := cgo 21 [] [.code B91]) (tm' := mk 23 [(0, .yield 5), (1, .ptr 2 0 0), (3, .ex 1 ((piece bs).map u8)), (12, .d (.bool (false))), (13, .yield 5), (14, .ex 1 ((piece bs).map u8))]) (σ' := S17 rs g bs mv .ready) (by kernel_rfl) ?_
      refine .yieldL (T0 := (cgo 12 [] [.code B17])) (o := (opOf (cgo 21 [] [.code B91])).getD default) (x := .tmp 13) (args := #[.tmp 14]) (ts := #[22]) (l := 5) (st := .ready) (fn := 17) (tml := tm17) (R := R17) (N := 6) (by kernel_rfl) (by kernel_rfl) (by kernel_rfl) (T' := (cgo 22 [] [.code B91])) (by kernel_rfl) (by kernel_rfl) (by kernel_rfl) (by kernel_rfl) (by kernel_rfl) (by kernel_rfl) (by kernel_rfl) (body17 rs g bs mv (piece bs) (by rw [piece_length hf1]; omega) (by omega) (by omega)) ?_
      rintro r σ' ⟨rfl, rfl⟩
      refine ⟨_, rfl, ?_⟩
      refine .seg 10 [0, 1, 18, 21] (T' := cgo 32 [false] [.code B91]) (tm' := mk 23 [(0, .yield 5), (1, .ptr 2 0 0), (18, .d (bsD bs)), (21, .d (.int .i64 (iadd .i64 (((piece bs).map u8).length : Nat) 8)))]) (σ' := S17 (rs ++ [piece bs]) (g + ((piece bs).length + 8)) bs true .ready) (by kernel_rfl) ?_
      rw [List.length_map, piece_length hf1, iadd_i64 (by omega) (by omega), show (nOf bs : Int) + 8 = ((nOf bs + 8 : Nat) : Int) by omega]
      refine .opH (o := (opOf (cgo 32 [false] [.code B91])).getD default) (by kernel_rfl) (by kernel_rfl) (by kernel_rfl) (T' := cgo 33 [false] [.code B91]) (by kernel_rfl) (slData_ok (t := 22) (x := .tmp 18) (lo := some (.tmp 21)) (hi := none) (sz := 1) (xs := bs.map u8) (nOf bs + 8) (bs.map u8).length (by kernel_rfl) (by kernel_rfl) (by kernel_rfl) ⟨.i64, ((nOf bs + 8 : Nat) : Int), by kernel_rfl, Int.natCast_nonneg _, Int.toNat_natCast _⟩ rfl (by simp; omega) (by omega)) ?_
      rw [List.take_length, ← List.map_drop]
      refine .seg 4 [0, 1] (T' := cgo 2 [] [.code B91]) (tm' := mk 23 [(0, .yield 5), (1, .ptr 2 0 0)]) (σ' := S17 (rs ++ [piece bs]) (g + (nOf bs + 8)) (bs.drop (nOf bs + 8)) true .ready) (by kernel_rfl) ?_
      have := ih (rs ++ [piece bs]) (g + (nOf bs + 8)) (bs.drop (nOf bs + 8)) true (by simp; omega) (by simp; omega) (by simp; omega)
      refine this.mono ?_
      rintro r σ' ⟨rest, mv', rfl, rfl⟩
      refine ⟨rest, mv', rfl, ?_⟩
      have e : recs (m + 1) bs = piece bs :: recs m (bs.drop (nOf bs + 8)) := by rw [recs, if_pos hf]
      rw [e]
      simp [good, piece_length hf1, Nat.add_assoc]
def parsed (bs : List UInt8) : List (List UInt8) := recs (bs.length + 1) bs
theorem it91_calls (bs : List UInt8) (hlen : bs.length ≤ 1099511627776) : CallsA Try.prog 91 [.yield 5, .ptr 2 0 0] (S17 [] 0 bs false .ready) fun r σ' => ∃ rest mv', r = .ret (.tuple []) ∧ σ' = S17 (parsed bs) (good (parsed bs)) rest mv' .ready := by
  refine CallsA.start F91 (tm := mk 23 [(0, .yield 5), (1, .ptr 2 0 0)]) (by kernel_rfl) ?_
  refine .seg 2 [0, 1] (T' := (cgo 2 [] [.code B91])) (tm' := mk 23 [(0, .yield 5), (1, .ptr 2 0 0)]) (σ' := S17 [] 0 bs false .ready) (by kernel_rfl) ?_
  have := it91 (bs.length + 1) [] 0 bs false (by omega) (by omega) (by simp; omega)
  simp only [List.nil_append, Nat.zero_add] at this
  exact this
theorem parse_pure (bs : List UInt8) (hlen : bs.length ≤ 1099511627776) : Pure Try.prog 17 [.d (bsD bs)] (.tuple [.d (.list 1 ((parsed bs).map bsD)), .d (i64 (good (parsed bs)))]) := by
  refine CallsA.pure ?_ rfl
  refine CallsA.start F17 (tm := (mk 20 [(0, .d (bsD bs))])) (by kernel_rfl) ?_
  refine .seg 2 [0] (T' := cgo 2 [] [.code B17]) (tm' := mk 20 [(0, .d (bsD bs))]) (σ' := []) (by kernel_rfl) ?_
  refine .opH (o := (opOf (cgo 2 [] [.code B17])).getD default) (by kernel_rfl) (by kernel_rfl) (by kernel_rfl) (T' := cgo 3 [] [.code B17]) (by kernel_rfl) (allocNil_ok (t := 26) (by kernel_rfl) (by kernel_rfl)) ?_
  refine .seg 6 [2, 3, 5] (T' := cgo 9 [] [.code B17]) (tm' := mk 20 [(2, .ptr 0 0 0), (3, .ptr 1 0 0), (5, .d (bsD bs))]) (σ' := [.cells [.nils], .cells [.d (i64 0)]]) (by kernel_rfl) ?_
  refine .semH (o := (opOf (cgo 9 [] [.code B17])).getD default) (v := .fn (.func 91) [] [.ptr 2 0 0]) (σ' := [.cells [.nils], .cells [.d (i64 0)], .cells [.d (bsD bs)]]) (by kernel_rfl) (by kernel_rfl) (T' := cgo 10 [] [.code B17]) (by kernel_rfl) (fun k => sem_data (x := .func 60) (args := #[.tmp 5]) (ts := #[22]) (first := []) (cap := []) F60 (frames_pure bs) (by kernel_rfl) (by kernel_rfl) (by kernel_rfl) (by kernel_rfl) (by kernel_rfl) [.cells [.nils], .cells [.d (i64 0)]]) ?_
  refine .seg 2 [2, 3, 6] (T' := cgo 12 [] [.code B17]) (tm' := mk 20 [(2, .ptr 0 0 0), (3, .ptr 1 0 0), (6, .fn (.func 91) [] [.ptr 2 0 0])]) (σ' := [.cells [.nils], .cells [.d (i64 0)], .cells [.d (bsD bs)]]) (by kernel_rfl) ?_
  refine .virt 0 0 1 rfl rfl ?_
  refine .rangeH (first := []) (cap := [.ptr 2 0 0]) [0, 1, 2, 3, 4, 5] [.yield 5, .ptr 2 0 0] (S17 [] 0 bs false .ready) F91 (by kernel_rfl) (T' := (cgo 13 [] [.code B17])) (by kernel_rfl) (by kernel_rfl) (it91_calls bs hlen) (by kernel_rfl) (by kernel_rfl) (by refine ⟨rfl, rfl, ?_⟩; kernel_rfl) ?_
  rintro r σc' ⟨rest, mv', rfl, rfl⟩
  refine ⟨.tuple [], .ready, tm17, rfPs (cgo 12 [] [.code B17]), rfAs (cgo 12 [] [.code B17]), rfBd (cgo 12 [] [.code B17]), 17, rfl, by simp, by kernel_rfl, ?_⟩
  refine .seg 2 [2, 3] (T' := cgo 15 [] [.code B17]) (tm' := mk 20 [(2, .ptr 0 0 0), (3, .ptr 1 0 0)]) (σ' := S17 (parsed bs) (good (parsed bs)) rest mv' .exhausted) (by kernel_rfl) ?_
  refine .draw2H (T' := (cgo 16 [] [.code B17])) (tm' := (mk 20 [(2, .ptr 0 0 0), (3, .ptr 1 0 0), (18, .row 3), (19, .d (.int .i64 (good (parsed bs))))])) (σ' := S17 (parsed bs) (good (parsed bs)) rest mv' .exhausted) [1, 1, 2, 2] 1 2 [0, 1, 2, 3] [0, 2, 1, 3] (by kernel_rfl) (by kernel_rfl) (by kernel_rfl) (by kernel_rfl) (fun k => srun_ok (by kernel_rfl)) (fun k => srun_ok (by kernel_rfl)) ?_
  refine .freeze 3 (sz := 1) (xs := (parsed bs).map bsD) (mv := mv') rfl ?_
  refine .retD F17 (by kernel_rfl) ⟨rfl, by simp⟩ rfl (by kernel_rfl) rfl
end Go.Proofs.Ytoelkgbeefoplaa
namespace Go.Proofs.Ytoelkgbeefoplaa
open Go Go.Br Go.Proofs
open List (map)
def strOf (bs : List UInt8) : ByteArray := ⟨bs.toArray⟩
theorem strOf_eq (a b : List UInt8) : ((strOf a).toList == (strOf b).toList) = decide (a = b) := by
  rw [ByteArray.toList_eq, ByteArray.toList_eq]
  rw [Bool.eq_iff_iff]
  simp [strOf]
theorem bsD_get {a : List (List UInt8)} {i : Nat} (h : i < a.length) : (a.map bsD)[((i : Nat) : Int).toNat]? = some (bsD (a.getD i [])) := by
  simp [h]
theorem bts_data {P : Program} {tm : List V} {σ : Store} {o : Oper} {s t : TypeId} {x : Operand} {bs : List UInt8} (ho : o.op = .convert s t x) (hs : isU8s P s = true) (ht : isStrT P t = true) (hx : ev tm x = .d (bsD bs)) : OpOk P o tm σ (.d (.str (strOf bs))) tm σ :=
  bts_ok ho hs ht (.inl ⟨by rw [hx]; rfl, fun z hz => by rw [hx] at hz; cases hz⟩)
noncomputable def B20 : Code := (Try.f20.body).getD .skip
theorem F20 : Fnc Try.prog 20 Try.f20 B20 := ⟨Try.func20, by kernel_rfl, by kernel_rfl⟩
section
variable {n : Nat} {Q : AE → Store → Prop}
theorem lp20 (a b : List (List UInt8)) (hab : a.length = b.length) (hlen : a.length < 9223372036854775807) (hq : Q (.ret (.d (.bool (decide (a = b))))) []) : ∀ (m i : Nat), i + m = a.length → a.take i = b.take i →
    AW Try.prog 20 none n ((cgo 24 [false] [.code B20])) ((mk 28 [(0, .d (.list 1 (a.map bsD))), (1, .d (.list 1 (b.map bsD))), (12, .d (.int .i64 (a.length))), (13, .d (.int .i64 (i)))])) [] [] Q := by
  intro m
  induction m with
  | zero =>
    intro i hi hp
    obtain rfl : i = a.length := by omega
    have he : a = b := by
      rw [List.take_length, hab, List.take_length] at hp
      exact hp
    refine .seg 5 [14] (T' := cgo 29 [false] [.code B20]) (tm' := mk 28 [(14, .d (.bool (decide ((a.length : Int) < a.length))))]) (σ' := []) (by kernel_rfl) ?_
    refine .ifH (b := decide ((a.length : Int) < a.length)) (by kernel_rfl) (by kernel_rfl) (T1 := cgo 30 [false, true] [.code B20]) (T2 := cgo 30 [false, false] [.code B20]) (by kernel_rfl) (by kernel_rfl) (fun h => absurd h (by simp)) (fun _ => ?_)
    refine .seg 5 [4] (T' := cgo 35 [false, false] [.code B20]) (tm' := mk 28 [(4, .d (.bool (true)))]) (σ' := []) (by kernel_rfl) ?_
    rw [decide_eq_true he] at hq
    exact .retH F20 (by kernel_rfl) (by kernel_rfl) (hq)
  | succ m ih =>
    intro i hi hp
    have h1 : i < a.length := by omega
    have h2 : i < b.length := by omega
    refine .seg 5 [0, 1, 12, 13, 14] (T' := cgo 29 [false] [.code B20]) (tm' := mk 28 [(0, .d (.list 1 (a.map bsD))), (1, .d (.list 1 (b.map bsD))), (12, .d (.int .i64 (a.length))), (13, .d (.int .i64 (i))), (14, .d (.bool (decide ((i : Int) < a.length))))]) (σ' := []) (by kernel_rfl) ?_
    refine .ifH (b := decide ((i : Int) < a.length)) (by kernel_rfl) (by kernel_rfl) (T1 := cgo 30 [false, true] [.code B20]) (T2 := cgo 30 [false, false] [.code B20]) (by kernel_rfl) (by kernel_rfl) (fun _ => ?_) (fun h => absurd h (by simp; omega))
    refine .seg 9 [0, 1, 5, 12, 13] (T' := cgo 39 [false, true] [.code B20]) (tm' := mk 28 [(0, .d (.list 1 (a.map bsD))), (1, .d (.list 1 (b.map bsD))), (5, .d (.int .i64 (i))), (12, .d (.int .i64 (a.length))), (13, .d (.int .i64 (i)))]) (σ' := []) (by kernel_rfl) ?_
    refine .drawH (T' := (cgo 40 [false, true] [.code B20])) (tm' := (mk 28 [(0, .d (.list 1 (a.map bsD))), (1, .d (.list 1 (b.map bsD))), (5, .d (.int .i64 (i))), (12, .d (.int .i64 (a.length))), (13, .d (.int .i64 (i))), (16, .d (.list 1 (a.map bsD))), (17, .d (.int .i64 (i))), (18, .ep 1 (bsD (a.getD i [])) 0), (19, .d (bsD (a.getD i []))), (20, .d (.str (strOf (a.getD i [])))), (21, .d (.list 1 (b.map bsD))), (22, .d (.int .i64 (i))), (23, .ep 1 (bsD (b.getD i [])) 0), (24, .d (bsD (b.getD i []))), (25, .d (.str (strOf (b.getD i [])))), (26, .d (.bool (!((strOf (a.getD i [])).toList == (strOf (b.getD i [])).toList))))])) (σ' := []) (List.replicate 11 0) [0, 1, 2, 3, 4, 5, 6, 7, 8, 9, 10] (by kernel_rfl) (by kernel_rfl) (by kernel_rfl) (by kernel_rfl) (fun k => ?_) ?_
    · refine Run.append (A := [0, 1]) (srun_ok (tm' := (mk 28 [(0, .d (.list 1 (a.map bsD))), (1, .d (.list 1 (b.map bsD))), (5, .d (.int .i64 (i))), (12, .d (.int .i64 (a.length))), (13, .d (.int .i64 (i))), (16, .d (.list 1 (a.map bsD))), (17, .d (.int .i64 (i)))])) (σ' := []) (by kernel_rfl)) ?_
      refine Run.one (StepQ.rule (o := ((drawOf (cgo 39 [false, true] [.code B20]))[2]?).getD default) (v := .ep 1 (bsD (a.getD i [])) 0) [.tmp 16, .tmp 17] (by kernel_rfl) (by kernel_rfl) (by kernel_rfl) (by kernel_rfl) (by kernel_rfl) (fun s tm' hv => ixData_ok (t := 26) (x := .tmp 16) (i := .tmp 17) (sz := 1) (xs := a.map bsD) (k := .i64) (n := i) (by kernel_rfl) (by rw [hv _ (by simp)]; kernel_rfl) ((hv _ (by simp)).trans (by kernel_rfl)) (by kernel_rfl) (by omega) (bsD_get h1))) ?_
      refine Run.append (A := [3]) (srun_ok (tm' := (mk 28 [(0, .d (.list 1 (a.map bsD))), (1, .d (.list 1 (b.map bsD))), (5, .d (.int .i64 (i))), (12, .d (.int .i64 (a.length))), (13, .d (.int .i64 (i))), (16, .d (.list 1 (a.map bsD))), (17, .d (.int .i64 (i))), (18, .ep 1 (bsD (a.getD i [])) 0), (19, .d (bsD (a.getD i [])))])) (σ' := []) (by kernel_rfl)) ?_
      refine Run.one (StepQ.rule (o := ((drawOf (cgo 39 [false, true] [.code B20]))[4]?).getD default) (v := .d (.str (strOf (a.getD i [])))) [.tmp 19] (by kernel_rfl) (by kernel_rfl) (by kernel_rfl) (by kernel_rfl) (by kernel_rfl) (fun s tm' hv => bts_data (s := 22) (t := 9) (x := .tmp 19) (by kernel_rfl) (by kernel_rfl) (by kernel_rfl) ((hv _ (by simp)).trans (by kernel_rfl)))) ?_
      refine Run.append (A := [5, 6]) (srun_ok (tm' := (mk 28 [(0, .d (.list 1 (a.map bsD))), (1, .d (.list 1 (b.map bsD))), (5, .d (.int .i64 (i))), (12, .d (.int .i64 (a.length))), (13, .d (.int .i64 (i))), (16, .d (.list 1 (a.map bsD))), (17, .d (.int .i64 (i))), (18, .ep 1 (bsD (a.getD i [])) 0), (19, .d (bsD (a.getD i []))), (20, .d (.str (strOf (a.getD i [])))), (21, .d (.list 1 (b.map bsD))), (22, .d (.int .i64 (i)))])) (σ' := []) (by kernel_rfl)) ?_
      refine Run.one (StepQ.rule (o := ((drawOf (cgo 39 [false, true] [.code B20]))[7]?).getD default) (v := .ep 1 (bsD (b.getD i [])) 0) [.tmp 21, .tmp 22] (by kernel_rfl) (by kernel_rfl) (by kernel_rfl) (by kernel_rfl) (by kernel_rfl) (fun s tm' hv => ixData_ok (t := 26) (x := .tmp 21) (i := .tmp 22) (sz := 1) (xs := b.map bsD) (k := .i64) (n := i) (by kernel_rfl) (by rw [hv _ (by simp)]; kernel_rfl) ((hv _ (by simp)).trans (by kernel_rfl)) (by kernel_rfl) (by omega) (bsD_get h2))) ?_
      refine Run.append (A := [8]) (srun_ok (tm' := (mk 28 [(0, .d (.list 1 (a.map bsD))), (1, .d (.list 1 (b.map bsD))), (5, .d (.int .i64 (i))), (12, .d (.int .i64 (a.length))), (13, .d (.int .i64 (i))), (16, .d (.list 1 (a.map bsD))), (17, .d (.int .i64 (i))), (18, .ep 1 (bsD (a.getD i [])) 0), (19, .d (bsD (a.getD i []))), (20, .d (.str (strOf (a.getD i [])))), (21, .d (.list 1 (b.map bsD))), (22, .d (.int .i64 (i))), (23, .ep 1 (bsD (b.getD i [])) 0), (24, .d (bsD (b.getD i [])))])) (σ' := []) (by kernel_rfl)) ?_
      refine Run.one (StepQ.rule (o := ((drawOf (cgo 39 [false, true] [.code B20]))[9]?).getD default) (v := .d (.str (strOf (b.getD i [])))) [.tmp 24] (by kernel_rfl) (by kernel_rfl) (by kernel_rfl) (by kernel_rfl) (by kernel_rfl) (fun s tm' hv => bts_data (s := 22) (t := 9) (x := .tmp 24) (by kernel_rfl) (by kernel_rfl) (by kernel_rfl) ((hv _ (by simp)).trans (by kernel_rfl)))) ?_
      exact srun_ok (by kernel_rfl)
    rw [strOf_eq]
    refine .ifH (b := !(decide (a.getD i [] = b.getD i []))) (by kernel_rfl) (by kernel_rfl) (T1 := cgo 41 [false, true, true] [.code B20]) (T2 := cgo 41 [false, true, false] [.code B20]) (by kernel_rfl) (by kernel_rfl) (fun h => ?_) (fun h => ?_)
    · have hne : a ≠ b := by
        intro e; subst e; simp at h
      refine .seg 4 [4] (T' := cgo 45 [false, true, true] [.code B20]) (tm' := mk 28 [(4, .d (.bool (false)))]) (σ' := []) (by kernel_rfl) ?_
      rw [decide_eq_false hne] at hq
      exact .retH F20 (by kernel_rfl) (by kernel_rfl) (hq)
    · have heq : a.getD i [] = b.getD i [] := by simpa using h
      refine .seg 7 [0, 1, 12, 13] (T' := cgo 24 [false] [.code B20]) (tm' := mk 28 [(0, .d (.list 1 (a.map bsD))), (1, .d (.list 1 (b.map bsD))), (12, .d (.int .i64 (a.length))), (13, .d (.int .i64 (iadd .i64 i 1)))]) (σ' := []) (by kernel_rfl) ?_
      rw [iadd_i64 (by omega) (by omega)]
      refine ih (i + 1) (by omega) ?_
      rw [List.take_succ_eq_append_getElem h1, List.take_succ_eq_append_getElem h2, hp]
      simp only [List.getD_eq_getElem?_getD, List.getElem?_eq_getElem h1, List.getElem?_eq_getElem h2, Option.getD_some] at heq
      rw [heq]
end
theorem same_pure (a b : List (List UInt8)) (ha : a.length < 9223372036854775807) : Pure Try.prog 20 [.d (.list 1 (a.map bsD)), .d (.list 1 (b.map bsD))] (.d (.bool (decide (a = b)))) := by
  refine CallsA.start F20 (tm := (mk 28 [(0, .d (.list 1 (a.map bsD))), (1, .d (.list 1 (b.map bsD)))])) (by kernel_rfl) ?_
  refine .seg 13 [0, 1, 10] (T' := cgo 13 [] [.code B20]) (tm' := mk 28 [(0, .d (.list 1 (a.map bsD))), (1, .d (.list 1 (b.map bsD))), (10, .d (.bool (((a.map bsD).length : Int) != ((b.map bsD).length : Int))))]) (σ' := []) (by kernel_rfl) ?_
  rw [List.length_map, List.length_map]
  by_cases hab : a.length = b.length
  · rw [show ((a.length : Int) != (b.length : Int)) = false by simp [hab]]
    refine .seg 11 [0, 1, 12, 13] (T' := cgo 24 [false] [.code B20]) (tm' := mk 28 [(0, .d (.list 1 (a.map bsD))), (1, .d (.list 1 (b.map bsD))), (12, .d (.int .i64 (((a.map bsD).length : Nat)))), (13, .d (.int .i64 (0)))]) (σ' := []) (by kernel_rfl) ?_
    rw [List.length_map]
    refine lp20 a b hab ha ?_ a.length 0 (by omega) rfl
    exact ⟨rfl, rfl⟩
  · have hne : a ≠ b := fun e => hab (by rw [e])
    rw [show ((a.length : Int) != (b.length : Int)) = true by simp; omega, decide_eq_false hne]
    refine .seg 5 [4] (T' := cgo 18 [true] [.code B20]) (tm' := mk 28 [(4, .d (.bool (false)))]) (σ' := []) (by kernel_rfl) ?_
    exact .retH F20 (by kernel_rfl) (by kernel_rfl) (⟨rfl, rfl⟩)
end Go.Proofs.Ytoelkgbeefoplaa
namespace Go.Proofs.Ytoelkgbeefoplaa
open Go Go.Br Go.Proofs
open List (map)
def rlen (bs : List UInt8) : Nat := (bs.getD 0 0).toNat + (bs.getD 1 0).toNat * 256 + (bs.getD 2 0).toNat * 65536
end Go.Proofs.Ytoelkgbeefoplaa
namespace Go.Proofs.Ytoelkgbeefoplaa
open Go Go.Br Go.Proofs Go.ChangeShapes Go.WideShapes Go.ChangeAt Go.RowKit
theorem own : ownKnob Try.prog.godebug = none := by kernel_rfl
theorem laidOut : laidOutB Try.prog = true := by kernel_rfl
def I0 (W : World) (b : Nat) : Prop := b < W.heap.size
theorem orel0 (W : World) : ORel W (I0 W) (fun _ => none) [] :=
  ⟨fun l o h => by simp at h, fun l l' L L' h => by obtain ⟨o, h, _⟩ := h; simp at h, fun b h => by obtain ⟨l, o, L, h, _⟩ := h; simp at h, fun b hb => ⟨hb, fun h => by obtain ⟨l, o, L, h, _⟩ := h; simp at h⟩⟩
theorem below0 {W W' : World} {I' : Nat → Prop} {ρ' : LM} {σ' : Store} (h : Ext 0 W (I0 W) (fun _ => none) [] W' I' ρ' σ') : Below W.heap.size W W' :=
  ⟨h.os, h.tape, h.output, h.size, fun k hk => h.old k hk fun hf => by obtain ⟨l, o, L, h, _⟩ := hf; simp at h⟩
theorem law_calls {P : Program} {g : FuncId} {args : List V} (h : Br.Pure P g args (.d (.bool true))) {W : World} {xs : List Value} (hx : vrL W (I0 W) (fun _ => none) [] args xs) :
    Calls P g xs.toArray W fun e W' => e = .returned (.bool true) ∧ Below W.heap.size W W' := by
  refine (h W (I0 W) (fun _ => none) xs hx (orel0 W)).mono ?_
  rintro e W' ⟨I', ρ', σ', r, ⟨rfl, rfl⟩, ⟨x, rfl, hx⟩, _, hE⟩
  simp only [vr, Dr] at hx
  subst hx
  exact ⟨rfl, below0 hE⟩
section
variable {H : Type} {enc : TypeId × Value → H} {W : World}
end
end Go.Proofs.Ytoelkgbeefoplaa
namespace Go.Br
open Go
def isAggB (P : Program) (t : TypeId) : Bool := match P.underlying t with | some (.struct _) | some (.array _ _) => true | _ => false
def layB (P : Program) : List Field → Nat → Option Nat
  | [], o => some o
  | f :: fs, o => if f.offset = o then layB P fs (o + P.cellsOf f.type) else none
def plainB (P : Program) : Nat → TypeId → Bool
  | 0, _ => false
  | n + 1, t => match P.underlying t with
    | some .bool | some (.int _) | some .string => Nat.beq (P.cellsOf t) 1
    | some (.slice e) => Nat.beq (P.cellsOf t) 1 && (Nat.blt 0 (P.cellsOf e) && plainB P n e)
    | some (.struct fs) => (layB P fs.toList 0 == some (P.cellsOf t)) && fs.toList.all fun f => plainB P n f.type
    | some (.array m e) => Nat.beq (m * P.cellsOf e) (P.cellsOf t) && plainB P n e
    | _ => false
def WtC (P : Program) : Nat → TypeId → List D → Prop
  | 0, _, _ => False
  | n + 1, t, ds => match P.underlying t with
    | some .bool => ∃ b, ds = [.bool b]
    | some (.int k) => ∃ x, ds = [.int k x] ∧ k.min ≤ x ∧ x ≤ k.max
    | some .string => ∃ s, ds = [.str s] ∧ s.size ≤ maxLen
    | some (.slice e) => ∃ xs, ds = [.list (P.cellsOf e) xs] ∧ xs.length ≤ maxLen ∧ ∀ x ∈ xs, if isAggB P e = true then ∃ cs, x = .agg cs ∧ cs.length = P.cellsOf e ∧ WtC P n e cs else WtC P n e [x]
    | some (.struct fs) => ∀ f ∈ fs.toList, WtC P n f.type ((ds.drop f.offset).take (P.cellsOf f.type))
    | some (.array m e) => ∀ i, i < m → WtC P n e ((ds.drop (i * P.cellsOf e)).take (P.cellsOf e))
    | _ => False
def WtE (P : Program) (n : Nat) (e : TypeId) (x : D) : Prop := if isAggB P e = true then ∃ cs, x = .agg cs ∧ cs.length = P.cellsOf e ∧ WtC P n e cs else WtC P n e [x]
theorem choose_list {α : Type} {R : Nat → α → Prop} : ∀ (n : Nat), (∀ i, i < n → ∃ d, R i d) → ∃ xs : List α, xs.length = n ∧ ∀ i d, xs[i]? = some d → R i d
  | 0, _ => ⟨[], rfl, fun i d h => by simp at h⟩
  | n + 1, h => by
    obtain ⟨xs, h1, h2⟩ := choose_list n fun i hi => h i (by omega)
    obtain ⟨d, hd⟩ := h n (by omega)
    refine ⟨xs ++ [d], by simp [h1], fun i e he => ?_⟩
    by_cases hi : i < xs.length
    · rw [List.getElem?_append_left hi] at he; exact h2 i e he
    · rw [List.getElem?_append_right (by omega)] at he
      have : i - xs.length = 0 := by
        rcases Nat.eq_zero_or_pos (i - xs.length) with h | h
        · exact h
        · simp [List.getElem?_eq_none (show [d].length ≤ i - xs.length by simp; omega)] at he
      rw [this] at he
      simp at he
      subst he
      obtain rfl : i = n := by omega
      exact hd
section
variable {W : World} {I : Nat → Prop}
theorem DrE_of_get {sz b : Nat} : ∀ {xs : List D} {o : Nat}, (∀ i d, xs[i]? = some d → ∃ v, Dr W I d v ∧ v.cells.size = sz ∧ ∀ j, j < sz → W.cell? ⟨b, o + i * sz + j, none⟩ = v.cells[j]?) → DrE W I sz b o xs
  | [], _, _ => by simp [DrE]
  | x :: xs, o, h => by
    simp only [DrE]
    refine ⟨?_, DrE_of_get fun i d hd => ?_⟩
    · have := h 0 x (by simp)
      simpa using this
    · have := h (i + 1) d (by simpa using hd)
      rw [show o + (i + 1) * sz = o + sz + i * sz by rw [Nat.add_mul]; omega] at this
      exact this
end
theorem drop_take_cat {α : Type} (cs : List α) (o a : Nat) : (cs.drop o).take a ++ cs.drop (o + a) = cs.drop o := by
  have := List.take_append_drop a (cs.drop o)
  rwa [List.drop_drop] at this
section
variable {H : Type} {enc : TypeId × Value → H} {P : Program} {W : World} {base : Nat} {spare : Nat → Bool} {held : Bool}
theorem fields_read {cs : List Value} {R : TypeId → List D → Prop} : ∀ (fs : List Field) (o tot : Nat), layB P fs o = some tot → tot = cs.length → o ≤ cs.length →
    (∀ f ∈ fs, f.offset + P.cellsOf f.type ≤ cs.length → ∃ ds, DrL W (fun b => b < W.heap.size) ds ((cs.drop f.offset).take (P.cellsOf f.type)) ∧ R f.type ds) →
    ∃ ds, DrL W (fun b => b < W.heap.size) ds (cs.drop o) ∧ ∀ f ∈ fs, o ≤ f.offset ∧ R f.type ((ds.drop (f.offset - o)).take (P.cellsOf f.type))
  | [], o, tot, hl, ht, ho, _ => by
    simp only [layB, Option.some.injEq] at hl
    subst hl ht
    refine ⟨[], ?_, fun f hf => by cases hf⟩
    rw [List.drop_length]; simp [DrL]
  | f :: fs, o, tot, hl, ht, ho, h => by
    simp only [layB] at hl
    split at hl
    · rename_i hfo
      have hmono : ∀ (fs : List Field) (o tot : Nat), layB P fs o = some tot → o ≤ tot := by
        intro fs
        induction fs with
        | nil => intro o tot h; simp only [layB, Option.some.injEq] at h; omega
        | cons g gs ih =>
          intro o tot h
          simp only [layB] at h
          split at h
          · have := ih _ _ h; omega
          · cases h
      have hle := hmono fs _ _ hl
      obtain ⟨ds1, h1, h2⟩ := h f (by simp) (by omega)
      rw [hfo] at h1
      obtain ⟨ds2, h3, h4⟩ := fields_read fs (o + P.cellsOf f.type) tot hl ht (by omega) fun g hg => h g (by simp [hg])
      have hlen : ds1.length = P.cellsOf f.type := by
        have := DrL_len h1
        simp at this; omega
      refine ⟨ds1 ++ ds2, ?_, fun g hg => ?_⟩
      · rw [← drop_take_cat cs o (P.cellsOf f.type)]
        exact DrL_append h1 h3
      · rcases List.mem_cons.1 hg with rfl | hg
        · refine ⟨by omega, ?_⟩
          rw [hfo, Nat.sub_self, List.drop_zero, ← hlen, List.take_left]
          exact h2
        · obtain ⟨k1, k2⟩ := h4 g hg
          refine ⟨by omega, ?_⟩
          rw [List.drop_append, List.drop_eq_nil_of_le (by omega), List.nil_append, show g.offset - o - ds1.length = g.offset - (o + P.cellsOf f.type) by omega]
          exact k2
    · cases hl
theorem elems_read {cs : List Value} {R : List D → Prop} {c : Nat} : ∀ (m o : Nat), o + m * c = cs.length →
    (∀ i, i < m → ∃ ds, DrL W (fun b => b < W.heap.size) ds ((cs.drop (o + i * c)).take c) ∧ R ds) →
    ∃ ds, DrL W (fun b => b < W.heap.size) ds (cs.drop o) ∧ ∀ i, i < m → R ((ds.drop (i * c)).take c)
  | 0, o, ho, _ => by
    refine ⟨[], ?_, fun i hi => by omega⟩
    rw [List.drop_eq_nil_of_le (by omega)]; simp [DrL]
  | m + 1, o, ho, h => by
    have hm : (m + 1) * c = m * c + c := Nat.succ_mul m c
    obtain ⟨ds1, h1, h2⟩ := h 0 (by omega)
    rw [Nat.zero_mul, Nat.add_zero] at h1
    obtain ⟨ds2, h3, h4⟩ := elems_read (cs := cs) (R := R) (c := c) m (o + c) (by omega) fun i hi => by
      have := h (i + 1) (by omega)
      rwa [show o + (i + 1) * c = o + c + i * c by rw [Nat.succ_mul]; omega] at this
    have hlen : ds1.length = c := by
      have := DrL_len h1
      simp at this; omega
    refine ⟨ds1 ++ ds2, ?_, fun i hi => ?_⟩
    · rw [← drop_take_cat cs o c]
      exact DrL_append h1 h3
    · cases i with
      | zero => rw [Nat.zero_mul, List.drop_zero, ← hlen, List.take_left]; exact h2
      | succ i =>
        have e : (i + 1) * c = i * c + c := Nat.succ_mul i c
        rw [List.drop_append, List.drop_eq_nil_of_le (by omega), List.nil_append, show (i + 1) * c - ds1.length = i * c by omega]
        exact h4 i (by omega)
theorem cells_spot {a : Addr} {c : Nat} {vs : List Value} (h : W.cells? base a c = some vs) (hc : 0 < c) : a.spot = none ∧ a.block < W.heap.size ∧ vs.length = c ∧ ∀ j, j < c → W.cell? ⟨a.block, a.off + j, none⟩ = vs[j]? := by
  unfold World.cells? at h
  split at h
  · have hl := mapM_some_length h
    have hg := fun j (hj : j < c) => mapM_some_get h j j (by simp [hj])
    have h0 := hg 0 hc
    have hv : ∃ v, W.cell? a = some v := by
      have h1 : vs[0]? = some (vs[0]'(by simp at hl; omega)) := List.getElem?_eq_getElem (by simp at hl; omega)
      rw [h1] at h0
      exact ⟨_, by simpa [Addr.add] using h0⟩
    obtain ⟨v, hv⟩ := hv
    have hs : a.spot = none ∧ a.block < W.heap.size := by
      unfold World.cell? at hv
      split at hv
      · rename_i hh
        split at hv
        · cases hv
        · rename_i hs
          exact ⟨by simpa using hs, (Array.getElem?_eq_some_iff.1 hh).1⟩
      · cases hv
    refine ⟨hs.1, hs.2, by simpa using hl, fun j hj => ?_⟩
    rw [← hg j hj]
    have : a.add j = ⟨a.block, a.off + j, none⟩ := by
      obtain ⟨b, o, sp⟩ := a
      simp only at hs
      unfold Addr.add
      split
      · rename_i hj0; subst hj0; simp [hs.1]
      · rfl
    rw [this]
  · cases h
theorem cells_one {n : Nat} {e : TypeId} (h : plainB P n e = true) (ha : isAggB P e = false) : P.cellsOf e = 1 := by
  cases n with
  | zero => simp [plainB] at h
  | succ n =>
    unfold plainB at h
    unfold isAggB at ha
    split at h
    · simpa using h
    · simpa using h
    · simpa using h
    · simp only [Bool.and_eq_true] at h; simpa using h.1
    · rename_i hu; simp [hu] at ha
    · rename_i hu; simp [hu] at ha
    · cases h
theorem spot_of {a : Addr} {e : TypeId} {len fuel : Nat} {elems : List (DataW H × List MemPlace)} (hE : ∀ i, i < len → (W.cells? base (a.add (i * P.cellsOf e)) (P.cellsOf e)).bind (DataW.trod enc P W base spare held fuel e) = elems[i]?) (hl : elems.length = len) (hc : 0 < P.cellsOf e) (h0 : 0 < len) : a.spot = none := by
  have h1 := hE 0 h0
  rw [List.getElem?_eq_getElem (by omega)] at h1
  simp only [Option.bind_eq_some_iff] at h1
  obtain ⟨vs, h2, _⟩ := h1
  have := (cells_spot h2 hc).1
  simpa [Addr.add] using this
theorem plain_read : ∀ (n : Nat) {fuel : Nat} {t : TypeId} {cs : List Value} {x : DataW H × List MemPlace}, plainB P n t = true → DataW.trod enc P W base spare held fuel t cs = some x →
    ∃ ds, DrL W (fun b => b < W.heap.size) ds cs ∧ WtC P n t ds
  | 0, _, _, _, _, hp, _ => by simp [plainB] at hp
  | n + 1, 0, _, _, _, _, h => by simp [DataW.trod] at h
  | n + 1, fuel + 1, t, cs, x, hp, h => by
    unfold plainB at hp
    unfold WtC
    split at hp
    · rename_i hu
      unfold DataW.trod at h
      rw [hu] at h
      try simp only [hu]
      split at h <;> simp_all
      rename_i b
      refine ⟨[.bool b], ?_, ?_⟩
      · simp only [DrL, Dr]; exact ⟨_, [], rfl, rfl, rfl, rfl⟩
      · cases b <;> simp
    · rename_i k hu
      unfold DataW.trod at h
      rw [hu] at h
      try simp only [hu]
      split at h <;> (try cases h) <;> simp_all only [Option.some.injEq, TypeDesc.int.injEq, reduceCtorEq, Option.ite_none_right_eq_some]
      rename_i k' m _
      obtain ⟨⟨h1, hw⟩, _⟩ := h
      subst h1
      simp only [Lit.wf, Bool.and_eq_true, decide_eq_true_eq] at hw
      refine ⟨[.int _ m], ?_, m, rfl, hw.1, hw.2⟩
      simp only [DrL, Dr]; exact ⟨_, [], rfl, rfl, rfl, rfl⟩
    · rename_i hu
      unfold DataW.trod at h
      rw [hu] at h
      try simp only [hu]
      split at h <;> simp_all
      rename_i s
      refine ⟨[.str s], ?_, s, rfl, h.1⟩
      simp only [DrL, Dr]; exact ⟨_, [], rfl, rfl, rfl, rfl⟩
    · rename_i e hu
      try simp only [hu]
      simp only [Bool.and_eq_true, Nat.blt_eq] at hp
      obtain ⟨_, hc, hpe⟩ := hp
      rcases DataW.trod_slice hu h with ⟨rfl, _⟩ | ⟨a, len, cap, elems, rest, m, hm, rfl, _, hb, hlc, hcm, hel, hE, _⟩
      · refine ⟨[.list (P.cellsOf e) []], ?_, [], rfl, by simp [maxLen], fun x hx => by cases hx⟩
        simp only [DrL, Dr]
        exact ⟨_, [], rfl, by simp [one, Value.oneCell'], ⟨none, 0, rfl, by simp, by simp [maxLen], .inl trivial⟩, rfl⟩
      · obtain rfl : fuel = m := by omega
        have hi : ∀ i, i < len → ∃ d, (∃ v, Dr W (fun b => b < W.heap.size) d v ∧ v.cells.size = P.cellsOf e ∧ ∀ j, j < P.cellsOf e → W.cell? ⟨a.block, a.off + i * P.cellsOf e + j, none⟩ = v.cells[j]?) ∧ WtE P n e d ∧ a.spot = none ∧ a.block < W.heap.size := by
          intro i hi
          have h1 := hE i hi
          rw [List.getElem?_eq_getElem (by omega)] at h1
          simp only [Option.bind_eq_some_iff] at h1
          obtain ⟨vs, h2, h3⟩ := h1
          obtain ⟨g1, g2, g3, g4⟩ := cells_spot h2 hc
          obtain ⟨ds, k1, k2⟩ := plain_read n hpe h3
          have hadd : a.add (i * P.cellsOf e) = ⟨a.block, a.off + i * P.cellsOf e, a.spot⟩ ∨ (a.add (i * P.cellsOf e) = ⟨a.block, a.off + i * P.cellsOf e, none⟩) := by
            obtain ⟨b, o, sp⟩ := a
            unfold Addr.add
            split
            · rename_i hz; left; simp [hz]
            · right; rfl
          have hlenv := DrL_len k1
          by_cases hag : isAggB P e = true
          · refine ⟨.agg ds, ⟨.agg vs.toArray, by simp only [Dr]; exact ⟨vs, rfl, k1⟩, by simp [Value.cells, g3], fun j hj => ?_⟩, by unfold WtE; rw [if_pos hag]; exact ⟨ds, rfl, by omega, k2⟩, ?_, ?_⟩
            · have := g4 j hj
              rcases hadd with e' | e' <;> rw [e'] at this <;> simpa [Value.cells] using this
            · rcases hadd with e' | e'
              · rw [e'] at g1; exact g1
              · rw [e'] at g1
                exact spot_of hE hel hc (by omega)
            · rcases hadd with e' | e' <;> rw [e'] at g2 <;> exact g2
          · have hone : P.cellsOf e = 1 := cells_one hpe (by simpa using hag)
            obtain ⟨d, rfl⟩ : ∃ d, ds = [d] := List.length_eq_one_iff.1 (by omega)
            obtain ⟨v, rfl⟩ : ∃ v, vs = [v] := List.length_eq_one_iff.1 (by omega)
            simp only [DrL] at k1
            obtain ⟨v', vs', e1, hov, hdv, rfl⟩ := k1
            cases e1
            have hcells : v.cells = #[v] := by
              have := hov
              unfold one at this
              cases v <;> simp_all [Value.cells, Value.oneCell']
            refine ⟨d, ⟨v, hdv, by simp [hcells, hone], fun j hj => ?_⟩, by unfold WtE; rw [if_neg hag]; exact k2, ?_, ?_⟩
            · have := g4 j hj
              rw [hcells]
              rcases hadd with e' | e' <;> rw [e'] at this <;> simpa using this
            · rcases hadd with e' | e'
              · rw [e'] at g1; exact g1
              · exact spot_of hE hel hc (by omega)
            · rcases hadd with e' | e' <;> rw [e'] at g2 <;> exact g2
        obtain ⟨xs, hx1, hx2⟩ := choose_list len hi
        refine ⟨[.list (P.cellsOf e) xs], ?_, xs, rfl, by omega, fun x hx => ?_⟩
        · simp only [DrL, Dr]
          refine ⟨_, [], rfl, by simp [one, Value.oneCell'], ⟨some a, cap, by rw [hx1], by omega, hcm, ?_⟩, rfl⟩
          by_cases h0 : len = 0
          · left; exact List.eq_nil_of_length_eq_zero (by omega)
          · right
            obtain ⟨d, hd⟩ : ∃ d, xs[0]? = some d := ⟨xs[0]'(by omega), List.getElem?_eq_getElem (by omega)⟩
            obtain ⟨_, _, h5, h6⟩ := hx2 0 d hd
            refine ⟨a.block, a.off, by obtain ⟨b, o, sp⟩ := a; simp only at h5; rw [h5], h6, DrE_of_get fun i d hd => (hx2 i d hd).1⟩
        · obtain ⟨i, hi2, rfl⟩ := List.getElem_of_mem hx
          exact (hx2 i _ (List.getElem?_eq_getElem hi2)).2.1
    · rename_i fs hu
      try simp only [hu]
      simp only [Bool.and_eq_true, beq_iff_eq, List.all_eq_true] at hp
      obtain ⟨ys, m, hm, _, hcs, hlen, hf⟩ := DataW.trod_struct hu h
      obtain rfl : fuel = m := by omega
      obtain ⟨ds, k1, k2⟩ := fields_read (cs := cs) (R := WtC P n) fs.toList 0 (P.cellsOf t) hp.1 hcs.symm (by omega) fun f hfm _ => by
        obtain ⟨i, hi, rfl⟩ := List.getElem_of_mem hfm
        have h1 := hf i (fs.toList[i]) (by simp at hi; simp [hi])
        rw [List.getElem?_eq_getElem (by simp at hi; omega)] at h1
        exact plain_read n (hp.2 _ hfm) h1
      rw [List.drop_zero] at k1
      exact ⟨ds, k1, fun f hf => by have := (k2 f hf).2; rwa [Nat.sub_zero] at this⟩
    · rename_i m e hu
      try simp only [hu]
      simp only [Bool.and_eq_true, Nat.beq_eq] at hp
      obtain ⟨ys, m', hm', _, hcs, hlen, hf⟩ := DataW.trod_array hu h
      obtain rfl : fuel = m' := by omega
      obtain ⟨ds, k1, k2⟩ := elems_read (cs := cs) (R := WtC P n e) (c := P.cellsOf e) m 0 (by omega) fun i hi => by
        have h1 := hf i hi
        rw [List.getElem?_eq_getElem (by omega)] at h1
        rw [Nat.zero_add]
        exact plain_read n hp.2 h1
      rw [List.drop_zero] at k1
      exact ⟨ds, k1, k2⟩
    · cases hp
end
end Go.Br
namespace Go.Br
open Go Go.WideShapes
theorem arg_read {H : Type} {enc : TypeId × Value → H} {P : Program} {W : World} {base b2 : Nat} {spare : Nat → Bool} {held : Bool} {r : Reach} {t : TypeId} {v : Value} {d : DataW H} {ps : List MemPlace} (n : Nat) (hp : plainB P n t = true)
    (hval : Value.okWide P W r b2 t v) (h : DataW.Trod enc P W base spare held t v d ps) : ∃ x : D, Dr W (fun b => b < W.heap.size) x v ∧ WtE P n t x := by
  obtain ⟨fuel, hf⟩ := h
  obtain ⟨ds, h1, h2⟩ := plain_read n hp hf
  by_cases hag : isAggB P t = true
  · have : ∃ cs, v = .agg cs ∧ cs.size = P.cellsOf t := by
      unfold isAggB at hag
      unfold Value.okWide at hval
      split at hag
      · rename_i hu; rw [hu] at hval; obtain ⟨cs, e1, e2, _⟩ := hval; exact ⟨cs, e1, e2⟩
      · rename_i hu; rw [hu] at hval; obtain ⟨cs, e1, e2, _⟩ := hval; exact ⟨cs, e1, e2⟩
      · cases hag
    obtain ⟨cs, rfl, hcs⟩ := this
    have hl := DrL_len h1
    refine ⟨.agg ds, by simp only [Dr]; exact ⟨cs.toList, rfl, h1⟩, ?_⟩
    unfold WtE
    rw [if_pos hag]
    refine ⟨ds, rfl, ?_, h2⟩
    simp [Value.cells] at hl
    omega
  · have hone : v.cells = #[v] := by
      unfold plainB at hp
      cases n with
      | zero => simp at hp
      | succ n =>
        simp only at hp
        unfold isAggB at hag
        split at hp
        · rename_i hu; obtain ⟨b, rfl⟩ := okWide_bool hu hval; rfl
        · rename_i hu; obtain ⟨b, rfl⟩ := okWide_int hu hval; rfl
        · rename_i hu; obtain ⟨b, rfl⟩ := okWide_string hu hval; rfl
        · rename_i hu; obtain ⟨a, b, c, rfl⟩ := okWide_slice hu hval; rfl
        · rename_i hu; simp [hu] at hag
        · rename_i hu; simp [hu] at hag
        · cases hp
    rw [hone] at h1
    have hl := DrL_len h1
    obtain ⟨x, rfl⟩ : ∃ x, ds = [x] := List.length_eq_one_iff.1 (by simpa using hl.symm)
    simp only [DrL] at h1
    obtain ⟨v', vs', e1, _, hd, _⟩ := h1
    cases e1
    exact ⟨x, hd, by unfold WtE; rw [if_neg hag]; exact h2⟩
section
variable {P : Program} {n : Nat}
theorem WtE.bool {t : TypeId} {x : D} (h : WtE P n t x) (hu : P.underlying t = some .bool) : ∃ b, x = .bool b := by
  unfold WtE isAggB at h
  simp only [hu] at h
  cases n with
  | zero => simp [WtC] at h
  | succ n => simpa [WtC, hu] using h
theorem WtE.int {t : TypeId} {x : D} {k : IntKind} (h : WtE P n t x) (hu : P.underlying t = some (.int k)) : ∃ a, x = .int k a ∧ k.min ≤ a ∧ a ≤ k.max := by
  unfold WtE isAggB at h
  simp only [hu] at h
  cases n with
  | zero => simp [WtC] at h
  | succ n => simpa [WtC, hu] using h
theorem WtE.str {t : TypeId} {x : D} (h : WtE P n t x) (hu : P.underlying t = some .string) : ∃ s, x = .str s ∧ s.size ≤ maxLen := by
  unfold WtE isAggB at h
  simp only [hu] at h
  cases n with
  | zero => simp [WtC] at h
  | succ n => simpa [WtC, hu] using h
theorem WtE.slice {t e : TypeId} {x : D} (h : WtE P n t x) (hu : P.underlying t = some (.slice e)) : ∃ xs, x = .list (P.cellsOf e) xs ∧ xs.length ≤ maxLen ∧ ∀ y ∈ xs, WtE P (n - 1) e y := by
  unfold WtE at h
  have hag : isAggB P t = false := by simp [isAggB, hu]
  rw [hag] at h
  cases n with
  | zero => simp [WtC] at h
  | succ n =>
    simp only [WtC, hu, Bool.false_eq_true, if_false] at h
    obtain ⟨xs, h1, h2, h3⟩ := h
    simp only [List.cons.injEq, and_true] at h1
    exact ⟨xs, h1, h2, fun y hy => h3 y hy⟩
theorem WtE.slice_map {α : Type} {t e : TypeId} {x : D} (g : α → D) (ok : α → Prop) (h : WtE P n t x) (hu : P.underlying t = some (.slice e)) (hg : ∀ y, WtE P (n - 1) e y → ∃ a, y = g a ∧ ok a) :
    ∃ l : List α, x = .list (P.cellsOf e) (l.map g) ∧ l.length ≤ maxLen ∧ ∀ a ∈ l, ok a := by
  obtain ⟨xs, rfl, h2, h3⟩ := h.slice hu
  have : ∀ xs : List D, (∀ y ∈ xs, WtE P (n - 1) e y) → ∃ l : List α, xs = l.map g ∧ ∀ a ∈ l, ok a := by
    intro xs
    induction xs with
    | nil => intro _; exact ⟨[], rfl, fun a ha => by cases ha⟩
    | cons y ys ih =>
      intro h
      obtain ⟨l, h1, h2⟩ := ih fun z hz => h z (by simp [hz])
      obtain ⟨a, h3, h4⟩ := hg y (h y (by simp))
      exact ⟨a :: l, by simp [h3, h1], fun b hb => by rcases List.mem_cons.1 hb with rfl | hb; exact h4; exact h2 b hb⟩
  obtain ⟨l, rfl, h4⟩ := this xs h3
  exact ⟨l, rfl, by simpa using h2, h4⟩
theorem WtE.struct {t : TypeId} {x : D} {fs : Array Field} (h : WtE P n t x) (hu : P.underlying t = some (.struct fs)) : ∃ cs, x = .agg cs ∧ cs.length = P.cellsOf t ∧ ∀ f ∈ fs.toList, WtC P (n - 1) f.type ((cs.drop f.offset).take (P.cellsOf f.type)) := by
  unfold WtE at h
  have hag : isAggB P t = true := by simp [isAggB, hu]
  rw [if_pos hag] at h
  cases n with
  | zero => obtain ⟨_, _, _, h⟩ := h; simp [WtC] at h
  | succ n => simpa [WtC, hu] using h
theorem WtE.array {t : TypeId} {x : D} {m : Nat} {e : TypeId} (h : WtE P n t x) (hu : P.underlying t = some (.array m e)) : ∃ cs, x = .agg cs ∧ cs.length = P.cellsOf t ∧ ∀ i, i < m → WtC P (n - 1) e ((cs.drop (i * P.cellsOf e)).take (P.cellsOf e)) := by
  unfold WtE at h
  have hag : isAggB P t = true := by simp [isAggB, hu]
  rw [if_pos hag] at h
  cases n with
  | zero => obtain ⟨_, _, _, h⟩ := h; simp [WtC] at h
  | succ n => simpa [WtC, hu] using h
theorem WtC.one {t : TypeId} {ds : List D} (h : WtC P n t ds) (ha : isAggB P t = false) : ∃ x, ds = [x] ∧ WtE P n t x := by
  cases n with
  | zero => simp [WtC] at h
  | succ n =>
    have h' := h
    unfold WtC at h
    unfold WtE
    rw [ha]
    simp only [Bool.false_eq_true, if_false]
    unfold isAggB at ha
    split at h
    · obtain ⟨b, rfl⟩ := h; exact ⟨_, rfl, h'⟩
    · obtain ⟨b, rfl, _⟩ := h; exact ⟨_, rfl, h'⟩
    · obtain ⟨b, rfl, _⟩ := h; exact ⟨_, rfl, h'⟩
    · obtain ⟨b, rfl, _⟩ := h; exact ⟨_, rfl, h'⟩
    · rename_i hu; simp [hu] at ha
    · rename_i hu; simp [hu] at ha
    · cases h
theorem WtC.agg {t : TypeId} {ds : List D} (h : WtC P n t ds) (ha : isAggB P t = true) (hl : ds.length = P.cellsOf t) : WtE P n t (.agg ds) := by
  unfold WtE
  rw [if_pos ha]
  exact ⟨ds, rfl, hl, h⟩
end
end Go.Br
