/- Texts of this proof, part 3: CrcA, WordA, CrcB, FrameA, WordB, FirstA, ParseA, SameA, RefParseA, GlueA, BrRd, PlainA, LivesA, LawA, BackA, GlueC, Lib, SetsA, SetsB, GlueE, SetsC, SetsD. -/
import Derived.Below
import Derived.Carry
import Derived.ChangeArms
import Derived.ChangeOld
import Derived.Ground.Names2Prog
import Derived.Laws.Strings
import Derived.OpenShut
import Derived.ProofKit
import Derived.Shelf.Slices.Cells
import Derived.Shelf.Slices.Empties
import Derived.Shelf.Spec.SearchS
import Derived.Shelf.Spec.SlicesInsertGrow
import Derived.ShutString
import Derived.SizedLaws
import Derived.Test.YtoelkgbeefoplaaProg
import Derived.Test.YtoelkgbeefoplaaRows
import Derived.WalkKit
import Derived.WideShapes
import Derived.Test.YtoelkgbeefoplaaM2
set_option linter.unusedSimpArgs false
set_option linter.unusedVariables false
set_option linter.constructorNameAsVariable false
namespace Go.Proofs.Ytoelkgbeefoplaa
open Go Go.Br Go.Proofs
def u32 (b : BitVec 32) : D := .int .u32 b.toNat
noncomputable def B90 : Code := (Try.f90.body).getD .skip
theorem F90 : Fnc Try.prog 90 Try.f90 B90 := ⟨Try.func90, by kernel_rfl, by kernel_rfl⟩
def crc1 (r : BitVec 32) : BitVec 32 := (r >>> 1) ^^^ (0xEDB88320#32 &&& -(r &&& 1#32))
def crc8 : Nat → BitVec 32 → BitVec 32
  | 0, r => r
  | n + 1, r => crc8 n (crc1 r)
def crcB (r : BitVec 32) (c : UInt8) : BitVec 32 := crc8 8 (r ^^^ c.toBitVec.zeroExtend 32)
section
variable {n : Nat} {σ : Store} {df : List Nat} {Q : AE → Store → Prop} {s : BitVec 32}
theorem in90 (L : V) (len i : Int) : ∀ (m j : Nat) (r : BitVec 32), j + m = 8 → 
    AW Try.prog 90 none n (cgo 81 [true, true, false] [.code B90]) (mk 33 [(5, .d (u32 (crc8 m r))), (10, L), (11, .d (.int .i64 len)), (12, .d (.int .i64 i))]) σ df Q →
    AW Try.prog 90 none n (cgo 48 [true] [.code B90]) (mk 33 [(5, .d (u32 r)), (10, L), (11, .d (.int .i64 len)), (12, .d (.int .i64 i)), (20, .d (.int .i64 j))]) σ df Q := by
  intro m
  induction m with
  | zero =>
    intro j r hj hk
    obtain rfl : j = 8 := by omega
    refine .seg 8 [5, 10, 11, 12] (T' := cgo 81 [true, true, false] [.code B90]) (tm' := mk 33 [(5, .d (u32 r)), (10, L), (11, .d (.int .i64 len)), (12, .d (.int .i64 i))]) (σ' := σ) (by kernel_rfl) hk
  | succ m ih =>
    intro j r hj hk
    refine .seg 5 [5, 10, 11, 12, 20, 21] (T' := cgo 53 [true] [.code B90]) (tm' := mk 33 [(5, .d (u32 r)), (10, L), (11, .d (.int .i64 len)), (12, .d (.int .i64 i)), (20, .d (.int .i64 j)), (21, .d (.bool (decide ((j : Int) < 8))))]) (σ' := σ) (by kernel_rfl) ?_
    refine .ifH (b := decide ((j : Int) < 8)) (by kernel_rfl) (by kernel_rfl) (T1 := cgo 54 [true, true] [.code B90]) (T2 := cgo 54 [true, false] [.code B90]) (by kernel_rfl) (by kernel_rfl) (fun _ => ?_) (fun h => absurd h (by simp; omega))
    refine .seg 19 [5, 10, 11, 12, 20] (T' := cgo 48 [true] [.code B90]) (tm' := mk 33 [(5, .d (.int .u32 (ixor .u32 (ishr .u32 r.toNat (1 : Nat)) (iand .u32 (0xEDB88320#32).toNat (ineg .u32 (iand .u32 r.toNat (1#32).toNat)))))), (10, L), (11, .d (.int .i64 len)), (12, .d (.int .i64 i)), (20, .d (.int .i64 (iadd .i64 j 1)))]) (σ' := σ) (by kernel_rfl) ?_
    rw [iand_u32, ineg_u32, iand_u32, ishr_u32, ixor_u32, iadd_i64 (by omega) (by omega)]
    have := ih (j + 1) (crc1 r) (by omega) hk
    exact this
theorem ou90 (bs : List UInt8) (hlen : bs.length < 9223372036854775807) (hq : Q (.ret (.d (u32 (~~~(bs.foldl crcB (~~~s)))))) σ) : ∀ (m i : Nat) (r : BitVec 32), i + m = bs.length → (bs.drop i).foldl crcB r = bs.foldl crcB (~~~s) →
    AW Try.prog 90 none n (cgo 19 [] [.code B90]) (mk 33 [(5, .d (u32 r)), (10, .d (.list 1 (bs.map u8))), (11, .d (.int .i64 bs.length)), (12, .d (.int .i64 i))]) σ [] Q := by
  intro m
  induction m with
  | zero =>
    intro i r hi hr
    obtain rfl : i = bs.length := by omega
    rw [List.drop_length] at hr
    subst hr
    refine .seg 5 [5, 13] (T' := cgo 24 [] [.code B90]) (tm' := mk 33 [(5, .d (u32 (bs.foldl crcB (~~~s)))), (13, .d (.bool (decide ((bs.length : Int) < bs.length))))]) (σ' := σ) (by kernel_rfl) ?_
    refine .ifH (b := decide ((bs.length : Int) < bs.length)) (by kernel_rfl) (by kernel_rfl) (T1 := cgo 25 [true] [.code B90]) (T2 := cgo 25 [false] [.code B90]) (by kernel_rfl) (by kernel_rfl) (fun h => absurd h (by simp)) (fun _ => ?_)
    refine .seg 7 [4] (T' := cgo 32 [false] [.code B90]) (tm' := mk 33 [(4, .d (.int .u32 (inot .u32 (bs.foldl crcB (~~~s)).toNat)))]) (σ' := σ) (by kernel_rfl) ?_
    rw [inot_u32]
    exact .retH F90 (by kernel_rfl) (by kernel_rfl) hq
  | succ m ih =>
    intro i r hi hr
    have hlt : i < bs.length := by omega
    refine .seg 5 [5, 10, 11, 12, 13] (T' := cgo 24 [] [.code B90]) (tm' := mk 33 [(5, .d (u32 r)), (10, .d (.list 1 (bs.map u8))), (11, .d (.int .i64 bs.length)), (12, .d (.int .i64 i)), (13, .d (.bool (decide ((i : Int) < bs.length))))]) (σ' := σ) (by kernel_rfl) ?_
    refine .ifH (b := decide ((i : Int) < bs.length)) (by kernel_rfl) (by kernel_rfl) (T1 := cgo 25 [true] [.code B90]) (T2 := cgo 25 [false] [.code B90]) (by kernel_rfl) (by kernel_rfl) (fun _ => ?_) (fun h => absurd h (by simp; omega))
    refine .seg 5 [5, 10, 11, 12] (T' := cgo 30 [true] [.code B90]) (tm' := mk 33 [(5, .d (u32 r)), (10, .d (.list 1 (bs.map u8))), (11, .d (.int .i64 bs.length)), (12, .d (.int .i64 i))]) (σ' := σ) (by kernel_rfl) ?_
    refine .opH (o := (opOf (cgo 30 [true] [.code B90])).getD default) (by kernel_rfl) (by kernel_rfl) (by kernel_rfl) (T' := cgo 31 [true] [.code B90]) (by kernel_rfl)
      (ixData_ok (t := 22) (x := .tmp 10) (i := .tmp 12) (sz := 1) (xs := bs.map u8) (k := .i64) (n := i) (d := u8 bs[i]) (by kernel_rfl) (by kernel_rfl) (by kernel_rfl) (by kernel_rfl) (by omega) (u8s_get hlt)) ?_
    refine .seg 17 [5, 10, 11, 12, 20] (T' := cgo 48 [true] [.code B90]) (tm' := mk 33 [(5, .d (.int .u32 (ixor .u32 r.toNat (iconv .u32 bs[i].toNat)))), (10, .d (.list 1 (bs.map u8))), (11, .d (.int .i64 bs.length)), (12, .d (.int .i64 i)), (20, .d (.int .i64 0))]) (σ' := σ) (by kernel_rfl) ?_
    rw [iconv_u8_u32, ixor_u32]
    refine in90 _ _ _ 8 0 _ rfl ?_
    refine .seg 5 [5, 10, 11, 12] (T' := cgo 19 [] [.code B90]) (tm' := mk 33 [(5, .d (u32 (crcB r bs[i]))), (10, .d (.list 1 (bs.map u8))), (11, .d (.int .i64 bs.length)), (12, .d (.int .i64 (iadd .i64 i 1)))]) (σ' := σ) (by kernel_rfl) ?_
    rw [iadd_i64 (by omega) (by omega)]
    refine ih (i + 1) (crcB r bs[i]) (by omega) ?_
    rw [← hr, List.drop_eq_getElem_cons hlt, List.foldl_cons]
end
theorem more_pure (s : BitVec 32) (bs : List UInt8) (hlen : bs.length < 9223372036854775807) : Pure Try.prog 90 [.d (u32 s), .d (.list 1 (bs.map u8))] (.d (u32 (~~~(bs.foldl crcB (~~~s))))) := by
  refine CallsA.start F90 (tm := mk 33 [(0, .d (u32 s)), (1, .d (.list 1 (bs.map u8)))]) (by kernel_rfl) ?_
  refine .seg 19 [5, 10, 11, 12] (T' := cgo 19 [] [.code B90]) (tm' := mk 33 [(5, .d (.int .u32 (inot .u32 s.toNat))), (10, .d (.list 1 (bs.map u8))), (11, .d (.int .i64 (bs.map u8).length)), (12, .d (.int .i64 0))]) (σ' := []) (by kernel_rfl) ?_
  rw [inot_u32, List.length_map]
  exact ou90 (s := s) bs hlen ⟨rfl, rfl⟩ bs.length 0 _ (by simp) rfl
noncomputable def B59 : Code := (Try.f59.body).getD .skip
theorem F59 : Fnc Try.prog 59 Try.f59 B59 := ⟨Try.func59, by kernel_rfl, by kernel_rfl⟩
def crc (bs : List UInt8) : BitVec 32 := ~~~(bs.foldl crcB (~~~0#32))
theorem crc_pure (bs : List UInt8) (hlen : bs.length < 9223372036854775807) : Pure Try.prog 59 [.d (.list 1 (bs.map u8))] (.d (u32 (crc bs))) := by
  refine CallsA.start F59 (tm := mk 5 [(0, .d (.list 1 (bs.map u8)))]) (by kernel_rfl) ?_
  refine .seg 7 [3] (T' := cgo 7 [] [.code B59]) (tm' := mk 5 [(3, .d (.list 1 (bs.map u8)))]) (σ' := []) (by kernel_rfl) ?_
  refine .semH (o := (opOf (cgo 7 [] [.code B59])).getD default) (v := .d (u32 (crc bs))) (σ' := []) (by kernel_rfl) (by kernel_rfl) (T' := cgo 8 [] [.code B59]) (by kernel_rfl)
    (fun k => sem_data (x := .func 90) (args := #[.const (.int .u32 0), .tmp 3]) (ts := #[38, 22]) (first := []) (cap := []) F90 (more_pure 0#32 bs hlen) (by kernel_rfl) (by kernel_rfl) (by kernel_rfl) (by kernel_rfl) (by kernel_rfl) []) ?_
  refine .seg 2 [2] (T' := cgo 10 [] [.code B59]) (tm' := mk 5 [(2, .d (u32 (crc bs)))]) (σ' := []) (by kernel_rfl) ?_
  exact .retH F59 (by kernel_rfl) (by kernel_rfl) ⟨rfl, rfl⟩
end Go.Proofs.Ytoelkgbeefoplaa
namespace Go.Proofs.Ytoelkgbeefoplaa
open Go Go.Br Go.Proofs
def i32 (x : BitVec 32) : D := .int .i32 x.toInt
def i64 (n : Int) : D := .int .i64 n
def byt (x : BitVec 32) (k : Nat) : UInt8 := UInt8.ofNat (x.toNat / 2 ^ (8 * k))
def le4 (x : BitVec 32) : List UInt8 := [byt x 0, byt x 1, byt x 2, byt x 3]
theorem iconv_u32_i32 (x : BitVec 32) : iconv .u32 x.toInt = (x.toNat : Int) := by
  show IntKind.u32.wrap _ = _
  rw [wrap_u32', BitVec.ofInt_toInt]
theorem wrap_u8 (n : Nat) : IntKind.u8.wrap (n : Int) = ((n % 256 : Nat) : Int) := by
  simp [IntKind.wrap, IntKind.bits, IntKind.signed]
theorem byt_toNat (x : BitVec 32) (k : Nat) : (byt x k).toNat = x.toNat / 2 ^ (8 * k) % 256 := by simp [byt]
theorem iconv_byt0 (x : BitVec 32) : iconv .u8 (x.toNat : Int) = ((byt x 0).toNat : Int) := by
  show IntKind.u8.wrap _ = _
  rw [wrap_u8, byt_toNat]; simp
theorem iconv_byt (x : BitVec 32) (k : Nat) : iconv .u8 (ishr .u32 (x.toNat : Int) ((8 * k : Nat) : Int)) = ((byt x k).toNat : Int) := by
  rw [ishr_u32]
  show IntKind.u8.wrap _ = _
  rw [wrap_u8, byt_toNat, BitVec.toNat_ushiftRight, Nat.shiftRight_eq_div_pow]
noncomputable def B93 : Code := (Try.f93.body).getD .skip
theorem F93 : Fnc Try.prog 93 Try.f93 B93 := ⟨Try.func93, by kernel_rfl, by kernel_rfl⟩
theorem bits_pure (x : BitVec 32) : Pure Try.prog 93 [.d (i32 x)] (.d (i64 x.toNat)) := by
  refine CallsA.start F93 (tm := (mk 10 [(0, .d (i32 x))])) (by kernel_rfl) ?_
  refine .seg 10 [0, 4] (T' := cgo 10 [] [.code B93]) (tm' := mk 10 [(0, .d (i32 x)), (4, .d (.bool (decide (x.toInt < 0))))]) (σ' := []) (by kernel_rfl) ?_
  refine .ifH (b := decide (x.toInt < 0)) (by kernel_rfl) (by kernel_rfl) (T1 := cgo 11 [true] [.code B93]) (T2 := cgo 11 [false] [.code B93]) (by kernel_rfl) (by kernel_rfl) (fun h => ?_) (fun h => ?_)
  · have hx : x.toInt < 0 := by simpa using h
    refine .seg 7 [2] (T' := cgo 18 [true] [.code B93]) (tm' := mk 10 [(2, .d (.int .i64 (iadd .i64 (iconv .i64 x.toInt) 4294967296)))]) (σ' := []) (by kernel_rfl) ?_
    have h1 := x.isLt
    have h2 : x.toInt = (x.toNat : Int) - 4294967296 := by
      rw [BitVec.toInt_eq_toNat_cond] at hx ⊢
      split at hx <;> split <;> omega
    have e1 : iconv .i64 x.toInt = x.toInt := wrap_i64 (by omega) (by omega)
    rw [e1, iadd_i64 (by omega) (by omega), h2, Int.sub_add_cancel]
    exact .retH F93 (by kernel_rfl) (by kernel_rfl) (⟨rfl, rfl⟩)
  · have hx : ¬ x.toInt < 0 := by simpa using h
    refine .seg 7 [2] (T' := cgo 18 [false] [.code B93]) (tm' := mk 10 [(2, .d (.int .i64 (iconv .i64 x.toInt)))]) (σ' := []) (by kernel_rfl) ?_
    have h1 := x.isLt
    have h2 : x.toInt = (x.toNat : Int) := by
      rw [BitVec.toInt_eq_toNat_cond] at hx ⊢
      split at hx <;> split <;> omega
    have e1 : iconv .i64 x.toInt = x.toNat := by rw [h2]; exact wrap_i64 (by omega) (by omega)
    rw [e1]
    exact .retH F93 (by kernel_rfl) (by kernel_rfl) (⟨rfl, rfl⟩)
noncomputable def B62 : Code := (Try.f62.body).getD .skip
theorem F62 : Fnc Try.prog 62 Try.f62 B62 := ⟨Try.func62, by kernel_rfl, by kernel_rfl⟩
theorem iquo_nat {a b : Nat} (h : a < 4294967296) : iquo .i64 (a : Int) (b : Int) = ((a / b : Nat) : Int) := by
  show IntKind.i64.wrap _ = _
  have : a / b ≤ a := Nat.div_le_self a b
  rw [← Int.ofNat_tdiv]
  generalize a / b = q at *
  exact wrap_i64 (by omega) (by omega)
theorem irem_nat (a b : Nat) : irem (a : Int) (b : Int) = ((a % b : Nat) : Int) := by
  show Int.tmod _ _ = _
  rw [Int.ofNat_tmod]
theorem rput_pure (x : BitVec 32) : CallsA Try.prog 62 [.d (i32 x)] [] fun r σ' => r = .ret (.row 0) ∧ σ' = [.row 1 ((le4 x).map u8) false] := by
  refine CallsA.start F62 (tm := (mk 21 [(0, .d (i32 x))])) (by kernel_rfl) ?_
  refine .seg 7 [4] (T' := cgo 7 [] [.code B62]) (tm' := mk 21 [(4, .d (i32 x))]) (σ' := []) (by kernel_rfl) ?_
  refine .semH (o := (opOf (cgo 7 [] [.code B62])).getD default) (v := .d (i64 x.toNat)) (σ' := []) (by kernel_rfl) (by kernel_rfl) (T' := cgo 8 [] [.code B62]) (by kernel_rfl) (fun k => sem_data (x := .func 93) (args := #[.tmp 4]) (ts := #[21]) (first := []) (cap := []) F93 (bits_pure x) (by kernel_rfl) (by kernel_rfl) (by kernel_rfl) (by kernel_rfl) (by kernel_rfl) []) ?_
  refine .seg 21 [2] (T' := cgo 29 [] [.code B62]) (tm' := mk 21 [(2, .row 0)]) (σ' := [.row 1 [.int .u8 (iconv .u8 (irem x.toNat ((256 : Nat) : Int))), .int .u8 (iconv .u8 (irem (iquo .i64 x.toNat ((256 : Nat) : Int)) ((256 : Nat) : Int))), .int .u8 (iconv .u8 (irem (iquo .i64 x.toNat ((65536 : Nat) : Int)) ((256 : Nat) : Int))), .int .u8 (iconv .u8 (iquo .i64 x.toNat ((16777216 : Nat) : Int)))] false]) (by kernel_rfl) ?_
  have hx := x.isLt
  have e (n : Nat) (h : n < 256) : iconv .u8 (n : Int) = (n : Int) := by
    show IntKind.u8.wrap _ = _
    rw [wrap_u8, Nat.mod_eq_of_lt h]
  have b0 : x.toNat % 256 = (byt x 0).toNat := by rw [byt_toNat]; simp
  have b1 : x.toNat / 256 % 256 = (byt x 1).toNat := by rw [byt_toNat]
  have b2 : x.toNat / 65536 % 256 = (byt x 2).toNat := by rw [byt_toNat]
  have b3 : x.toNat / 16777216 = (byt x 3).toNat := by rw [byt_toNat]; simp; omega
  rw [iquo_nat hx, iquo_nat hx, iquo_nat hx, irem_nat, irem_nat, irem_nat, b0, b1, b2, b3, e _ (UInt8.toNat_lt _), e _ (UInt8.toNat_lt _), e _ (UInt8.toNat_lt _), e _ (UInt8.toNat_lt _)]
  exact .retH F62 (by kernel_rfl) (by kernel_rfl) (⟨rfl, rfl⟩)
noncomputable def B58 : Code := (Try.f58.body).getD .skip
theorem F58 : Fnc Try.prog 58 Try.f58 B58 := ⟨Try.func58, by kernel_rfl, by kernel_rfl⟩
theorem put_pure (bs : List UInt8) (x : BitVec 32) (hlen : bs.length ≤ 140737488355320) : CallsA Try.prog 58 [.d (.list 1 (bs.map u8)), .d (i32 x)] [] fun r σ' => r = .ret (.row 0) ∧ σ' = [.row 1 ((bs ++ le4 x).map u8) false] := by
  refine CallsA.start F58 (tm := (mk 27 [(0, .d (.list 1 (bs.map u8))), (1, .d (i32 x))])) (by kernel_rfl) ?_
  refine .seg 17 [5, 8, 10, 12] (T' := cgo 17 [] [.code B58]) (tm' := mk 27 [(5, .d (.int .u32 (iconv .u32 x.toInt))), (8, .d (.list 1 (bs.map u8))), (10, .d (.int .i64 ((bs.map u8).length))), (12, .d (.int .i64 ((bs.map u8).length)))]) (σ' := []) (by kernel_rfl) ?_
  rw [iconv_u32_i32]
  refine .opH (o := (opOf (cgo 17 [] [.code B58])).getD default) (by kernel_rfl) (by kernel_rfl) (by kernel_rfl) (T' := cgo 18 [] [.code B58]) (by kernel_rfl) (sl3Data_ok (t := 22) (x := .tmp 8) (y := .tmp 10) (z := .tmp 12) (lo := none) (sz := 1) (xs := bs.map u8) 0 (bs.map u8).length (by kernel_rfl) (by kernel_rfl) (by kernel_rfl) rfl ⟨.i64, ((bs.map u8).length : Nat), by kernel_rfl, Int.natCast_nonneg _, Int.toNat_natCast _⟩ ⟨.i64, ((bs.map u8).length : Nat), by kernel_rfl, Int.natCast_nonneg _, Int.toNat_natCast _⟩ (by omega) (by omega)) ?_
  rw [List.drop_zero, List.take_length]
  refine .seg 12 [13, 25] (T' := cgo 30 [] [.code B58]) (tm' := mk 27 [(13, .ex 1 (bs.map u8)), (25, .row 0)]) (σ' := [.row 1 [.int .u8 (iconv .u8 x.toNat), .int .u8 (iconv .u8 (ishr .u32 x.toNat ((8 * 1 : Nat) : Int))), .int .u8 (iconv .u8 (ishr .u32 x.toNat ((8 * 2 : Nat) : Int))), .int .u8 (iconv .u8 (ishr .u32 x.toNat ((8 * 3 : Nat) : Int)))] false]) (by kernel_rfl) ?_
  rw [iconv_byt0, iconv_byt, iconv_byt, iconv_byt]
  refine .opH (o := (opOf (cgo 30 [] [.code B58])).getD default) (by kernel_rfl) (by kernel_rfl) (by kernel_rfl) (T' := cgo 31 [] [.code B58]) (by kernel_rfl) (appEx_ok (s := .tmp 13) (x := .tmp 25) (t := 22) (t2 := 22) (sz := 1) (by' := 1) (xs := bs.map u8) (ys := (le4 x).map u8) (by kernel_rfl) (by kernel_rfl) (by kernel_rfl) (by kernel_rfl) (by kernel_rfl) (by simp [le4]) (by simp [le4]; omega) (by simp [le4, maxLen]; omega)) ?_
  refine .seg 2 [4] (T' := cgo 33 [] [.code B58]) (tm' := mk 27 [(4, .row 1)]) (σ' := [.row 1 ((le4 x).map u8) false, .row 1 (bs.map u8 ++ (le4 x).map u8) false]) (by kernel_rfl) ?_
  refine .sub [1] ((mk 27 [(4, .row 0)])) [.row 1 (bs.map u8 ++ (le4 x).map u8) false] none [] ⟨rfl, rfl, rfl⟩ rfl ⟨by simp, rfl⟩ rfl ⟨rfl, rfl⟩ ⟨rfl, rfl⟩ ?_
  rw [← List.map_append]
  exact .retH F58 (by kernel_rfl) (by kernel_rfl) (⟨rfl, rfl⟩)
end Go.Proofs.Ytoelkgbeefoplaa
namespace Go.Proofs.Ytoelkgbeefoplaa
open Go Go.Br Go.Proofs
theorem and_one (c : BitVec 32) : c &&& 1#32 = if c.getLsbD 0 then 1#32 else 0#32 := by
  apply BitVec.eq_of_toNat_eq
  rw [BitVec.toNat_and]
  have h1 : (1#32).toNat = 1 := rfl
  rw [h1, Nat.and_one_is_mod]
  have h2 : c.getLsbD 0 = c.toNat.testBit 0 := rfl
  rw [h2, Nat.testBit_zero]
  have h3 := Nat.mod_two_eq_zero_or_one c.toNat
  rcases h3 with h3 | h3 <;> simp [h3]
def refs (r : BitVec 32) (c : Bool) : BitVec 32 := (r >>> 1) ^^^ (if r.getLsbD 0 != c then 0xEDB88320#32 else 0#32)
theorem crc1_refs (r x : BitVec 32) : crc1 (r ^^^ x) = refs r (x.getLsbD 0) ^^^ (x >>> 1) := by
  unfold crc1 refs
  rw [and_one, BitVec.getLsbD_xor, BitVec.ushiftRight_xor_distrib]
  cases r.getLsbD 0 <;> cases x.getLsbD 0 <;> simp <;> ac_rfl
theorem shr_shr (x : BitVec 32) (i : Nat) : (x >>> i) >>> 1 = x >>> (i + 1) := by
  apply BitVec.eq_of_toNat_eq
  simp [BitVec.toNat_ushiftRight, Nat.shiftRight_add]
theorem irem_two (r : BitVec 32) : irem (r.toNat : Int) 2 = ((r.toNat % 2 : Nat) : Int) := by
  show Int.tmod (r.toNat : Int) ((2 : Nat) : Int) = _
  rw [Int.ofNat_tmod]
theorem iquo_two (r : BitVec 32) : iquo .u32 (r.toNat : Int) 2 = ((r >>> 1).toNat : Int) := by
  show IntKind.u32.wrap (Int.tdiv (r.toNat : Int) ((2 : Nat) : Int)) = _
  rw [← Int.ofNat_tdiv, wrap_u32]
  have := r.isLt
  simp [Nat.shiftRight_eq_div_pow]
  omega
theorem bit_raw (b : UInt8) (i : Nat) (hi : i < 8) : irem (iconv .u32 (ishr .u8 (b.toNat : Int) (i : Int))) 2 = (((b.toBitVec.zeroExtend 32 >>> i).toNat % 2 : Nat) : Int) := by
  have h1 : ishr .u8 (b.toNat : Int) (i : Int) = ((b.toNat / 2 ^ i : Nat) : Int) := by
    show Int.fdiv (b.toNat : Int) (2 ^ min (i : Int).toNat 8) = _
    have h2 : ((2 : Int) ^ min (i : Int).toNat 8) = ((2 ^ i : Nat) : Int) := by
      have : min (i : Int).toNat 8 = i := by simp; omega
      rw [this]; simp
    rw [h2, Int.fdiv_eq_ediv_of_nonneg _ (Int.natCast_nonneg _), ← Int.natCast_ediv]
  have h4 : b.toNat / 2 ^ i ≤ b.toNat := Nat.div_le_self _ _
  have h5 := UInt8.toNat_lt b
  have h3 : iconv .u32 ((b.toNat / 2 ^ i : Nat) : Int) = ((b.toNat / 2 ^ i : Nat) : Int) := by
    show IntKind.u32.wrap _ = _
    rw [wrap_u32]
    simp only [BitVec.toNat_ofNat]
    rw [Nat.mod_eq_of_lt (Nat.lt_of_le_of_lt h4 (by omega))]
  rw [h1, h3]
  show Int.tmod _ ((2 : Nat) : Int) = _
  rw [Int.ofNat_tmod]
  congr 2
  rw [BitVec.toNat_ushiftRight, Nat.shiftRight_eq_div_pow]
  congr 1
theorem neq_bits (r x : BitVec 32) : (((r.toNat % 2 : Nat) : Int) != ((x.toNat % 2 : Nat) : Int)) = (r.getLsbD 0 != x.getLsbD 0) := by
  have h2 : ∀ c : BitVec 32, c.getLsbD 0 = decide (c.toNat % 2 = 1) := fun c => by
    have : c.getLsbD 0 = c.toNat.testBit 0 := rfl
    rw [this, Nat.testBit_zero]
  rw [h2, h2]
  rcases Nat.mod_two_eq_zero_or_one r.toNat with h3 | h3 <;> rcases Nat.mod_two_eq_zero_or_one x.toNat with h4 | h4 <;> simp [h3, h4]
noncomputable def B63 : Code := (Try.f63.body).getD .skip
theorem F63 : Fnc Try.prog 63 Try.f63 B63 := ⟨Try.func63, by kernel_rfl, by kernel_rfl⟩
section
variable {n : Nat} {σ : Store} {df : List Nat} {Q : AE → Store → Prop}
theorem in63 (L : V) (len x : Int) (b : UInt8) : ∀ (m j : Nat) (r : BitVec 32), j + m = 8 →
    AW Try.prog 63 none n ((cgo 46 [true, false] [.code B63])) ((mk 34 [(3, .d (u32 (crc8 m (r ^^^ (b.toBitVec.zeroExtend 32 >>> j))))), (8, L), (9, .d (.int .i64 (len))), (10, .d (.int .i64 (x)))])) σ df Q →
    AW Try.prog 63 none n ((cgo 38 [true] [.code B63])) ((mk 34 [(3, .d (u32 r)), (5, .d (u8 b)), (6, .d (.int .i64 (j))), (8, L), (9, .d (.int .i64 (len))), (10, .d (.int .i64 (x)))])) σ df Q := by
  intro m
  induction m with
  | zero =>
    intro j r hj hk
    obtain rfl : j = 8 := by omega
    have hz : b.toBitVec.zeroExtend 32 >>> 8 = 0#32 := by
      apply BitVec.eq_of_toNat_eq
      rw [BitVec.toNat_ushiftRight, Nat.shiftRight_eq_div_pow]
      have := UInt8.toNat_lt b
      simp
      omega
    rw [hz, BitVec.xor_zero] at hk
    refine .seg 8 [3, 8, 9, 10] (T' := cgo 46 [true, false] [.code B63]) (tm' := mk 34 [(3, .d (u32 r)), (8, L), (9, .d (.int .i64 (len))), (10, .d (.int .i64 (x)))]) (σ' := σ) (by kernel_rfl) ?_
    exact hk
  | succ m ih =>
    intro j r hj hk
    refine .seg 6 [3, 5, 6, 8, 9, 10, 15] (T' := cgo 44 [true] [.code B63]) (tm' := mk 34 [(3, .d (u32 r)), (5, .d (u8 b)), (6, .d (.int .i64 (j))), (8, L), (9, .d (.int .i64 (len))), (10, .d (.int .i64 (x))), (15, .d (.bool (decide ((j : Int) < 8))))]) (σ' := σ) (by kernel_rfl) ?_
    refine .ifH (b := decide ((j : Int) < 8)) (by kernel_rfl) (by kernel_rfl) (T1 := cgo 45 [true, true] [.code B63]) (T2 := cgo 45 [true, false] [.code B63]) (by kernel_rfl) (by kernel_rfl) (fun _ => ?_) (fun h => absurd h (by simp; omega))
    refine .seg 25 [3, 5, 6, 8, 9, 10, 28] (T' := cgo 70 [true, true] [.code B63]) (tm' := mk 34 [(3, .d (.int .u32 (iquo .u32 r.toNat 2))), (5, .d (u8 b)), (6, .d (.int .i64 (j))), (8, L), (9, .d (.int .i64 (len))), (10, .d (.int .i64 (x))), (28, .d (.bool (irem r.toNat 2 != irem (iconv .u32 (ishr .u8 b.toNat j)) 2)))]) (σ' := σ) (by kernel_rfl) ?_
    rw [irem_two, bit_raw b j (by omega), neq_bits, iquo_two]
    refine .ifH (b := (r.getLsbD 0 != (b.toBitVec.zeroExtend 32 >>> j).getLsbD 0)) (by kernel_rfl) (by kernel_rfl) (T1 := cgo 71 [true, true, true] [.code B63]) (T2 := cgo 71 [true, true, false] [.code B63]) (by kernel_rfl) (by kernel_rfl) (fun h => ?_) (fun h => ?_)
    · refine .seg 12 [3, 5, 6, 8, 9, 10] (T' := cgo 38 [true] [.code B63]) (tm' := mk 34 [(3, .d (.int .u32 (ixor .u32 (r >>> 1).toNat (0xEDB88320#32).toNat))), (5, .d (u8 b)), (6, .d (.int .i64 (iadd .i64 j 1))), (8, L), (9, .d (.int .i64 (len))), (10, .d (.int .i64 (x)))]) (σ' := σ) (by kernel_rfl) ?_
      rw [ixor_u32, iadd_i64 (by omega) (by omega)]
      refine ih (j + 1) _ (by omega) ?_
      simp only [crc8, crc1_refs, refs, h, if_true, shr_shr] at hk
      exact hk
    · refine .seg 8 [3, 5, 6, 8, 9, 10] (T' := cgo 38 [true] [.code B63]) (tm' := mk 34 [(3, .d (.int .u32 (r >>> 1).toNat)), (5, .d (u8 b)), (6, .d (.int .i64 (iadd .i64 j 1))), (8, L), (9, .d (.int .i64 (len))), (10, .d (.int .i64 (x)))]) (σ' := σ) (by kernel_rfl) ?_
      rw [iadd_i64 (by omega) (by omega)]
      refine ih (j + 1) _ (by omega) ?_
      simp only [crc8, crc1_refs, refs, h, shr_shr] at hk
      simpa using hk
theorem ou63 (bs : List UInt8) (hlen : bs.length < 9223372036854775807) (hq : Q (.ret (.d (u32 (crc bs)))) σ) : ∀ (m i : Nat) (r : BitVec 32), i + m = bs.length → (bs.drop i).foldl crcB r = bs.foldl crcB (~~~0#32) →
    AW Try.prog 63 none n ((cgo 17 [] [.code B63])) ((mk 34 [(3, .d (u32 r)), (8, .d (.list 1 (bs.map u8))), (9, .d (.int .i64 (bs.length))), (10, .d (.int .i64 (i)))])) σ [] Q := by
  intro m
  induction m with
  | zero =>
    intro i r hi hr
    obtain rfl : i = bs.length := by omega
    rw [List.drop_length] at hr
    subst hr
    refine .seg 5 [3, 11] (T' := cgo 22 [] [.code B63]) (tm' := mk 34 [(3, .d (u32 (bs.foldl crcB (~~~0#32)))), (11, .d (.bool (decide ((bs.length : Int) < bs.length))))]) (σ' := σ) (by kernel_rfl) ?_
    refine .ifH (b := decide ((bs.length : Int) < bs.length)) (by kernel_rfl) (by kernel_rfl) (T1 := cgo 23 [true] [.code B63]) (T2 := cgo 23 [false] [.code B63]) (by kernel_rfl) (by kernel_rfl) (fun h => absurd h (by simp)) (fun _ => ?_)
    refine .seg 7 [2] (T' := cgo 30 [false] [.code B63]) (tm' := mk 34 [(2, .d (.int .u32 (isub .u32 4294967295 (bs.foldl crcB (~~~0#32)).toNat)))]) (σ' := σ) (by kernel_rfl) ?_
    have e (x : BitVec 32) : isub .u32 4294967295 x.toNat = ((~~~x).toNat : Int) := by
      show IntKind.u32.wrap _ = _
      have := x.isLt
      have h1 : (4294967295 : Int) - x.toNat = ((4294967295 - x.toNat : Nat) : Int) := by omega
      rw [h1, wrap_u32]
      simp
      omega
    rw [e]
    exact .retH F63 (by kernel_rfl) (by kernel_rfl) (hq)
  | succ m ih =>
    intro i r hi hr
    have hlt : i < bs.length := by omega
    refine .seg 5 [3, 8, 9, 10, 11] (T' := cgo 22 [] [.code B63]) (tm' := mk 34 [(3, .d (u32 r)), (8, .d (.list 1 (bs.map u8))), (9, .d (.int .i64 (bs.length))), (10, .d (.int .i64 (i))), (11, .d (.bool (decide ((i : Int) < bs.length))))]) (σ' := σ) (by kernel_rfl) ?_
    refine .ifH (b := decide ((i : Int) < bs.length)) (by kernel_rfl) (by kernel_rfl) (T1 := cgo 23 [true] [.code B63]) (T2 := cgo 23 [false] [.code B63]) (by kernel_rfl) (by kernel_rfl) (fun _ => ?_) (fun h => absurd h (by simp; omega))
    refine .seg 5 [3, 8, 9, 10] (T' := cgo 28 [true] [.code B63]) (tm' := mk 34 [(3, .d (u32 r)), (8, .d (.list 1 (bs.map u8))), (9, .d (.int .i64 (bs.length))), (10, .d (.int .i64 (i)))]) (σ' := σ) (by kernel_rfl) ?_
    refine .opH (o := (opOf (cgo 28 [true] [.code B63])).getD default) (by kernel_rfl) (by kernel_rfl) (by kernel_rfl) (T' := cgo 29 [true] [.code B63]) (by kernel_rfl) (ixData_ok (t := 22) (x := .tmp 8) (i := .tmp 10) (sz := 1) (xs := bs.map u8) (k := .i64) (n := i) (d := u8 bs[i]) (by kernel_rfl) (by kernel_rfl) (by kernel_rfl) (by kernel_rfl) (by omega) (u8s_get hlt)) ?_
    refine .seg 9 [3, 5, 6, 8, 9, 10] (T' := cgo 38 [true] [.code B63]) (tm' := mk 34 [(3, .d (u32 r)), (5, .d (u8 bs[i])), (6, .d (.int .i64 (0))), (8, .d (.list 1 (bs.map u8))), (9, .d (.int .i64 (bs.length))), (10, .d (.int .i64 (i)))]) (σ' := σ) (by kernel_rfl) ?_
    refine in63 _ _ _ _ 8 0 _ rfl ?_
    refine .seg 6 [3, 8, 9, 10] (T' := cgo 17 [] [.code B63]) (tm' := mk 34 [(3, .d (u32 (crcB r bs[i]))), (8, .d (.list 1 (bs.map u8))), (9, .d (.int .i64 (bs.length))), (10, .d (.int .i64 (iadd .i64 i 1)))]) (σ' := σ) (by kernel_rfl) ?_
    rw [iadd_i64 (by omega) (by omega)]
    refine ih (i + 1) (crcB r bs[i]) (by omega) ?_
    rw [← hr, List.drop_eq_getElem_cons hlt, List.foldl_cons]
end
theorem rcrc_pure (bs : List UInt8) (hlen : bs.length < 9223372036854775807) : Pure Try.prog 63 [.d (.list 1 (bs.map u8))] (.d (u32 (crc bs))) := by
  refine CallsA.start F63 (tm := (mk 34 [(0, .d (.list 1 (bs.map u8)))])) (by kernel_rfl) ?_
  refine .seg 17 [3, 8, 9, 10] (T' := cgo 17 [] [.code B63]) (tm' := mk 34 [(3, .d (u32 (~~~0#32))), (8, .d (.list 1 (bs.map u8))), (9, .d (.int .i64 ((bs.map u8).length))), (10, .d (.int .i64 (0)))]) (σ' := []) (by kernel_rfl) ?_
  rw [List.length_map]
  refine ou63 bs hlen ?_ bs.length 0 _ (by simp) rfl
  exact ⟨rfl, rfl⟩
end Go.Proofs.Ytoelkgbeefoplaa
namespace Go.Proofs.Ytoelkgbeefoplaa
open Go Go.Br Go.Proofs
theorem scal_u8s (bs : List UInt8) : D.scalL (bs.map u8) = true := by
  induction bs with
  | nil => rfl
  | cons b bs ih => simp [D.scalL, ih, D.scal, u8]
theorem sc_row (bs : List UInt8) (mv : Bool) : ((V.row 0).scal && ((([.row 1 (bs.map u8) mv] : Store).all O.scal) && belB 1 [.row 1 (bs.map u8) mv])) = true := by
  simp [V.scal, O.scal, scal_u8s, belB, O.locs]
theorem iconv_i32 (n : Int) : iconv .i32 n = (BitVec.ofInt 32 n).toInt := by
  show IntKind.i32.wrap n = _
  rw [BitVec.toInt_ofInt]
  simp only [IntKind.wrap, IntKind.bits, IntKind.signed, Bool.true_and, Int.bmod]
  simp
  omega
theorem iconv_i32_nat (n : Nat) : iconv .i32 (n : Int) = (BitVec.ofNat 32 n).toInt := by rw [iconv_i32]; simp
theorem iconv_i32_u32 (x : BitVec 32) : iconv .i32 (x.toNat : Int) = x.toInt := by rw [iconv_i32_nat]; simp
def bare (bs : List UInt8) : List UInt8 := le4 (BitVec.ofNat 32 bs.length) ++ bs
def frame (bs : List UInt8) : List UInt8 := bare bs ++ le4 (crc (bare bs))
noncomputable def B16 : Code := (Try.f16.body).getD .skip
theorem F16 : Fnc Try.prog 16 Try.f16 B16 := ⟨Try.func16, by kernel_rfl, by kernel_rfl⟩
theorem frame_pure (bs : List UInt8) (hlen : bs.length ≤ 65536) : CallsA Try.prog 16 [.d (.list 1 (bs.map u8))] [] fun r σ' => r = .ret (.tuple [.row 0, .d (i64 0)]) ∧ σ' = [.row 1 ((frame bs).map u8) false] := by
  refine CallsA.start F16 (tm := (mk 19 [(0, .d (.list 1 (bs.map u8)))])) (by kernel_rfl) ?_
  refine .seg 12 [0, 7] (T' := cgo 12 [] [.code B16]) (tm' := mk 19 [(0, .d (.list 1 (bs.map u8))), (7, .d (.bool (decide (((bs.map u8).length : Int) > 65536))))]) (σ' := []) (by kernel_rfl) ?_
  refine .ifH (b := decide (((bs.map u8).length : Int) > 65536)) (by kernel_rfl) (by kernel_rfl) (T1 := cgo 13 [true] [.code B16]) (T2 := cgo 13 [false] [.code B16]) (by kernel_rfl) (by kernel_rfl) (fun h => absurd h (by simp; omega)) (fun _ => ?_)
  refine .seg 6 [0, 10] (T' := cgo 19 [false] [.code B16]) (tm' := mk 19 [(0, .d (.list 1 (bs.map u8))), (10, .d (.int .i32 (iconv .i32 ((bs.map u8).length : Nat))))]) (σ' := []) (by kernel_rfl) ?_
  rw [List.length_map, iconv_i32_nat]
  refine .semH (o := (opOf (cgo 19 [false] [.code B16])).getD default) (v := .row 0) (σ' := [.row 1 ((le4 (BitVec.ofNat 32 bs.length)).map u8) false]) (by kernel_rfl) (by kernel_rfl) (T' := cgo 20 [false] [.code B16]) (by kernel_rfl) (fun k => sem_data (x := .func 58) (args := #[.const (.slice none 0 0), .tmp 10]) (ts := #[22, 21]) (first := []) (cap := []) F58 (put_pure [] (BitVec.ofNat 32 bs.length) (by simp)) (by kernel_rfl) (by kernel_rfl) (by kernel_rfl) (by kernel_rfl) (by kernel_rfl) []) ?_
  refine .seg 1 [11, 12] (T' := cgo 21 [false] [.code B16]) (tm' := mk 19 [(11, .row 0), (12, .d (.list 1 (bs.map u8)))]) (σ' := [.row 1 ((le4 (BitVec.ofNat 32 bs.length)).map u8) false]) (by kernel_rfl) ?_
  refine .opH (o := (opOf (cgo 21 [false] [.code B16])).getD default) (by kernel_rfl) (by kernel_rfl) (by kernel_rfl) (T' := cgo 22 [false] [.code B16]) (by kernel_rfl) (appRow_ok (s := .tmp 11) (x := .tmp 12) (t := 22) (t2 := 22) (l := 0) (sz := 1) (by' := 1) (xs := (le4 (BitVec.ofNat 32 bs.length)).map u8) (ys := bs.map u8) (mv := false) (by kernel_rfl) (by kernel_rfl) (by kernel_rfl) (by kernel_rfl) (by kernel_rfl) (by kernel_rfl) (by simp [le4]; omega) (by simp [le4, maxLen]; omega)) ?_
  refine .seg 6 [14, 15] (T' := cgo 28 [false] [.code B16]) (tm' := mk 19 [(14, .row 0), (15, .row 0)]) (σ' := [.row 1 ((le4 (BitVec.ofNat 32 bs.length)).map u8 ++ bs.map u8) true]) (by kernel_rfl) ?_
  rw [← List.map_append]
  refine .semH (o := (opOf (cgo 28 [false] [.code B16])).getD default) (v := .d (u32 (crc (bare bs)))) (σ' := [.row 1 ((bare bs).map u8) true]) (by kernel_rfl) (by kernel_rfl) (T' := cgo 29 [false] [.code B16]) (by kernel_rfl) (fun k => sem_look (x := .func 59) (args := #[.tmp 15]) (ts := #[22]) (first := []) (cap := []) (σ0 := []) F59 (crc_pure (bare bs) (by simp [bare, le4]; omega)) (by kernel_rfl) (by kernel_rfl) (by kernel_rfl) (by kernel_rfl) (by kernel_rfl)) ?_
  refine .seg 1 [14, 17] (T' := cgo 30 [false] [.code B16]) (tm' := mk 19 [(14, .row 0), (17, .d (.int .i32 (iconv .i32 (crc (bare bs)).toNat)))]) (σ' := [.row 1 ((bare bs).map u8) true]) (by kernel_rfl) ?_
  rw [iconv_i32_u32]
  refine .semH (o := (opOf (cgo 30 [false] [.code B16])).getD default) (v := .row 1) (σ' := [.row 1 ((bare bs).map u8) true, .row 1 ((frame bs).map u8) false]) (by kernel_rfl) (by kernel_rfl) (T' := cgo 31 [false] [.code B16]) (by kernel_rfl) (fun k => sem_look (x := .func 58) (args := #[.tmp 14, .tmp 17]) (ts := #[22, 21]) (first := []) (cap := []) F58 (put_pure (bare bs) (crc (bare bs)) (by simp [bare, le4]; omega)) (by kernel_rfl) (by kernel_rfl) (by kernel_rfl) (by kernel_rfl) (sc_row _ _)) ?_
  refine .seg 3 [2, 3] (T' := cgo 34 [false] [.code B16]) (tm' := mk 19 [(2, .row 1), (3, .d (.int .i64 (0)))]) (σ' := [.row 1 ((bare bs).map u8) true, .row 1 ((frame bs).map u8) false]) (by kernel_rfl) ?_
  refine .sub [1] ((mk 19 [(2, .row 0), (3, .d (.int .i64 (0)))])) [.row 1 ((frame bs).map u8) false] none [] ⟨rfl, rfl, rfl⟩ rfl ⟨by simp, rfl⟩ rfl ⟨rfl, rfl⟩ ⟨rfl, rfl⟩ ?_
  exact .retH F16 (by kernel_rfl) (by kernel_rfl) (⟨rfl, rfl⟩)
noncomputable def B19 : Code := (Try.f19.body).getD .skip
theorem F19 : Fnc Try.prog 19 Try.f19 B19 := ⟨Try.func19, by kernel_rfl, by kernel_rfl⟩
theorem rframe_pure (bs : List UInt8) (hlen : bs.length ≤ 140737488355000) : CallsA Try.prog 19 [.d (.list 1 (bs.map u8))] [] fun r σ' => r = .ret (.row 0) ∧ σ' = [.row 1 ((frame bs).map u8) true] := by
  refine CallsA.start F19 (tm := (mk 27 [(0, .d (.list 1 (bs.map u8)))])) (by kernel_rfl) ?_
  refine .seg 9 [0, 7] (T' := cgo 9 [] [.code B19]) (tm' := mk 27 [(0, .d (.list 1 (bs.map u8))), (7, .d (.int .i32 (iconv .i32 ((bs.map u8).length : Nat))))]) (σ' := []) (by kernel_rfl) ?_
  rw [List.length_map, iconv_i32_nat]
  refine .semH (o := (opOf (cgo 9 [] [.code B19])).getD default) (v := .row 0) (σ' := [.row 1 ((le4 (BitVec.ofNat 32 bs.length)).map u8) false]) (by kernel_rfl) (by kernel_rfl) (T' := cgo 10 [] [.code B19]) (by kernel_rfl) (fun k => sem_data (x := .func 62) (args := #[.tmp 7]) (ts := #[21]) (first := []) (cap := []) F62 (rput_pure (BitVec.ofNat 32 bs.length)) (by kernel_rfl) (by kernel_rfl) (by kernel_rfl) (by kernel_rfl) (by kernel_rfl) []) ?_
  refine .seg 1 [8, 9] (T' := cgo 11 [] [.code B19]) (tm' := mk 27 [(8, .row 0), (9, .d (.list 1 (bs.map u8)))]) (σ' := [.row 1 ((le4 (BitVec.ofNat 32 bs.length)).map u8) false]) (by kernel_rfl) ?_
  refine .opH (o := (opOf (cgo 11 [] [.code B19])).getD default) (by kernel_rfl) (by kernel_rfl) (by kernel_rfl) (T' := cgo 12 [] [.code B19]) (by kernel_rfl) (appRow_ok (s := .tmp 8) (x := .tmp 9) (t := 22) (t2 := 22) (l := 0) (sz := 1) (by' := 1) (xs := (le4 (BitVec.ofNat 32 bs.length)).map u8) (ys := bs.map u8) (mv := false) (by kernel_rfl) (by kernel_rfl) (by kernel_rfl) (by kernel_rfl) (by kernel_rfl) (by kernel_rfl) (by simp [le4]; omega) (by simp [le4, maxLen]; omega)) ?_
  refine .seg 5 [3, 11] (T' := cgo 17 [] [.code B19]) (tm' := mk 27 [(3, .row 0), (11, .row 0)]) (σ' := [.row 1 ((le4 (BitVec.ofNat 32 bs.length)).map u8 ++ bs.map u8) true]) (by kernel_rfl) ?_
  rw [← List.map_append]
  refine .semH (o := (opOf (cgo 17 [] [.code B19])).getD default) (v := .d (u32 (crc (bare bs)))) (σ' := [.row 1 ((bare bs).map u8) true]) (by kernel_rfl) (by kernel_rfl) (T' := cgo 18 [] [.code B19]) (by kernel_rfl) (fun k => sem_look (x := .func 63) (args := #[.tmp 11]) (ts := #[22]) (first := []) (cap := []) (σ0 := []) F63 (rcrc_pure (bare bs) (by simp [bare, le4]; omega)) (by kernel_rfl) (by kernel_rfl) (by kernel_rfl) (by kernel_rfl) (by kernel_rfl)) ?_
  refine .seg 17 [13, 25] (T' := cgo 35 [] [.code B19]) (tm' := mk 27 [(13, .row 0), (25, .row 1)]) (σ' := [.row 1 ((bare bs).map u8) true, .row 1 [.int .u8 (iconv .u8 (crc (bare bs)).toNat), .int .u8 (iconv .u8 (ishr .u32 (crc (bare bs)).toNat ((8 * 1 : Nat) : Int))), .int .u8 (iconv .u8 (ishr .u32 (crc (bare bs)).toNat ((8 * 2 : Nat) : Int))), .int .u8 (iconv .u8 (ishr .u32 (crc (bare bs)).toNat ((8 * 3 : Nat) : Int)))] false]) (by kernel_rfl) ?_
  rw [iconv_byt0, iconv_byt, iconv_byt, iconv_byt]
  refine .opH (o := (opOf (cgo 35 [] [.code B19])).getD default) (by kernel_rfl) (by kernel_rfl) (by kernel_rfl) (T' := cgo 36 [] [.code B19]) (by kernel_rfl) (appRow_ok (s := .tmp 13) (x := .tmp 25) (t := 22) (t2 := 22) (l := 0) (sz := 1) (by' := 1) (xs := (bare bs).map u8) (ys := (le4 (crc (bare bs))).map u8) (mv := true) (by kernel_rfl) (by kernel_rfl) (by kernel_rfl) (by kernel_rfl) (by kernel_rfl) (by kernel_rfl) (by simp [bare, le4]; omega) (by simp [bare, le4, maxLen]; omega)) ?_
  refine .seg 2 [2] (T' := cgo 38 [] [.code B19]) (tm' := mk 27 [(2, .row 0)]) (σ' := [.row 1 ((bare bs).map u8 ++ (le4 (crc (bare bs))).map u8) true, .row 1 ((le4 (crc (bare bs))).map u8) false]) (by kernel_rfl) ?_
  rw [← List.map_append]
  refine .sub [0] ((mk 27 [(2, .row 0)])) [.row 1 ((frame bs).map u8) true] none [] ⟨rfl, rfl, rfl⟩ rfl ⟨by simp, rfl⟩ rfl ⟨rfl, rfl⟩ ⟨rfl, rfl⟩ ?_
  exact .retH F19 (by kernel_rfl) (by kernel_rfl) (⟨rfl, rfl⟩)
end Go.Proofs.Ytoelkgbeefoplaa
namespace Go.Proofs.Ytoelkgbeefoplaa
open Go Go.Br Go.Proofs
theorem ishl_u32 (x : BitVec 32) (n : Nat) (hn : n ≤ 32) : ishl .u32 (x.toNat : Int) (n : Int) = ((x <<< n).toNat : Int) := by
  show IntKind.u32.wrap ((x.toNat : Int) * 2 ^ min (n : Int).toNat 32) = _
  have h1 : ((2 : Int) ^ min (n : Int).toNat 32) = ((2 ^ n : Nat) : Int) := by
    have : min (n : Int).toNat 32 = n := by simp; omega
    rw [this]; simp
  rw [h1, ← Int.natCast_mul, wrap_u32]
  congr 1
  simp [Nat.shiftLeft_eq]
def zx (b : UInt8) : BitVec 32 := b.toBitVec.zeroExtend 32
def get4 (bs : List UInt8) (at' : Nat) : BitVec 32 :=
  if at' + 4 ≤ bs.length then (((0#32 ||| zx (bs.getD at' 0) <<< 0) ||| zx (bs.getD (at' + 1) 0) <<< 8) ||| zx (bs.getD (at' + 2) 0) <<< 16) ||| zx (bs.getD (at' + 3) 0) <<< 24 else 0#32
theorem u8s_getD {bs : List UInt8} {i : Nat} (h : i < bs.length) : (bs.map u8)[((i : Nat) : Int).toNat]? = some (u8 (bs.getD i 0)) := by
  rw [u8s_get h, List.getD_eq_getElem?_getD, List.getElem?_eq_getElem h]; rfl
noncomputable def B105 : Code := (Try.f105.body).getD .skip
theorem F105 : Fnc Try.prog 105 Try.f105 B105 := ⟨Try.func105, by kernel_rfl, by kernel_rfl⟩
theorem get_pure (bs : List UInt8) (a : Nat) (hlen : bs.length < 9223372036854775807) (ha : a < 9223372036854775000) : Pure Try.prog 105 [.d (.list 1 (bs.map u8)), .d (i64 a)] (.tuple [.d (i32 (get4 bs a)), .d (.bool (decide (a + 4 ≤ bs.length)))]) := by
  refine CallsA.start F105 (tm := (mk 35 [(0, .d (.list 1 (bs.map u8))), (1, .d (i64 a))])) (by kernel_rfl) ?_
  refine .seg 11 [0, 1, 10] (T' := cgo 11 [] [.code B105]) (tm' := mk 35 [(0, .d (.list 1 (bs.map u8))), (1, .d (i64 a)), (10, .d (.bool (decide ((a : Int) < 0))))]) (σ' := []) (by kernel_rfl) ?_
  rw [decide_eq_false (show ¬ (a : Int) < 0 by omega)]
  refine .seg 7 [0, 1, 16] (T' := cgo 18 [] [.code B105]) (tm' := mk 35 [(0, .d (.list 1 (bs.map u8))), (1, .d (i64 a)), (16, .d (.bool (decide ((a : Int) > isub .i64 ((bs.map u8).length : Nat) 4))))]) (σ' := []) (by kernel_rfl) ?_
  rw [List.length_map, isub_i64 (by omega) (by omega)]
  refine .ifH (b := decide ((a : Int) > (bs.length : Int) - 4)) (by kernel_rfl) (by kernel_rfl) (T1 := cgo 19 [true] [.code B105]) (T2 := cgo 19 [false] [.code B105]) (by kernel_rfl) (by kernel_rfl) (fun h => ?_) (fun h => ?_)
  · have h' : ¬ (a + 4 ≤ bs.length) := by have := of_decide_eq_true h; omega
    refine .seg 5 [4, 5] (T' := cgo 24 [true] [.code B105]) (tm' := mk 35 [(4, .d (.int .i32 0)), (5, .d (.bool (false)))]) (σ' := []) (by kernel_rfl) ?_
    rw [decide_eq_false h', get4, if_neg h']
    exact .retH F105 (by kernel_rfl) (by kernel_rfl) (⟨rfl, rfl⟩)
  · have h' : a + 4 ≤ bs.length := by have := of_decide_eq_false h; omega
    refine .seg 32 [0, 1, 7, 17, 20, 21, 24] (T' := cgo 51 [false, true] [.code B105]) (tm' := mk 35 [(0, .d (.list 1 (bs.map u8))), (1, .d (i64 a)), (7, .d (.int .i64 (0))), (17, .d (.int .i64 (0))), (20, .d (u32 0#32)), (21, .d (.list 1 (bs.map u8))), (24, .d (.int .i64 (iadd .i64 a 0)))]) (σ' := []) (by kernel_rfl) ?_
    rw [iadd_i64 (by omega) (by omega), Int.add_zero]
    refine .opH (o := (opOf (cgo 51 [false, true] [.code B105])).getD default) (by kernel_rfl) (by kernel_rfl) (by kernel_rfl) (T' := cgo 52 [false, true] [.code B105]) (by kernel_rfl) (ixData_ok (t := 22) (x := .tmp 21) (i := .tmp 24) (sz := 1) (xs := bs.map u8) (k := .i64) (n := (a : Nat)) (d := u8 (bs.getD a 0)) (by kernel_rfl) (by kernel_rfl) (by kernel_rfl) (by kernel_rfl) (by omega) (u8s_getD (by omega))) ?_
    refine .seg 34 [0, 1, 7, 17, 20, 21, 24] (T' := cgo 86 [false, true, true] [.code B105]) (tm' := mk 35 [(0, .d (.list 1 (bs.map u8))), (1, .d (i64 a)), (7, .d (.int .i64 (1))), (17, .d (.int .i64 (1))), (20, .d (.int .u32 (ior .u32 (0#32).toNat (ishl .u32 (iconv .u32 (bs.getD a 0).toNat) ((0 : Nat) : Int))))), (21, .d (.list 1 (bs.map u8))), (24, .d (.int .i64 (iadd .i64 a ((1 : Nat) : Int))))]) (σ' := []) (by kernel_rfl) ?_
    rw [iadd_i64 (by omega) (by omega), ← Int.natCast_add, iconv_u8_u32, ishl_u32 _ _ (by omega), ior_u32]
    refine .opH (o := (opOf (cgo 86 [false, true, true] [.code B105])).getD default) (by kernel_rfl) (by kernel_rfl) (by kernel_rfl) (T' := cgo 87 [false, true, true] [.code B105]) (by kernel_rfl) (ixData_ok (t := 22) (x := .tmp 21) (i := .tmp 24) (sz := 1) (xs := bs.map u8) (k := .i64) (n := ((a + 1 : Nat) : Int)) (d := u8 (bs.getD (a + 1) 0)) (by kernel_rfl) (by kernel_rfl) (by kernel_rfl) (by kernel_rfl) (by omega) (u8s_getD (by omega))) ?_
    refine .seg 34 [0, 1, 7, 17, 20, 21, 24] (T' := cgo 121 [false, true, true, true] [.code B105]) (tm' := mk 35 [(0, .d (.list 1 (bs.map u8))), (1, .d (i64 a)), (7, .d (.int .i64 (2))), (17, .d (.int .i64 (2))), (20, .d (.int .u32 (ior .u32 (0#32 ||| zx (bs.getD a 0) <<< 0).toNat (ishl .u32 (iconv .u32 (bs.getD (a + 1) 0).toNat) ((8 : Nat) : Int))))), (21, .d (.list 1 (bs.map u8))), (24, .d (.int .i64 (iadd .i64 a ((2 : Nat) : Int))))]) (σ' := []) (by kernel_rfl) ?_
    rw [iadd_i64 (by omega) (by omega), ← Int.natCast_add, iconv_u8_u32, ishl_u32 _ _ (by omega), ior_u32]
    refine .opH (o := (opOf (cgo 121 [false, true, true, true] [.code B105])).getD default) (by kernel_rfl) (by kernel_rfl) (by kernel_rfl) (T' := cgo 122 [false, true, true, true] [.code B105]) (by kernel_rfl) (ixData_ok (t := 22) (x := .tmp 21) (i := .tmp 24) (sz := 1) (xs := bs.map u8) (k := .i64) (n := ((a + 2 : Nat) : Int)) (d := u8 (bs.getD (a + 2) 0)) (by kernel_rfl) (by kernel_rfl) (by kernel_rfl) (by kernel_rfl) (by omega) (u8s_getD (by omega))) ?_
    refine .seg 34 [0, 1, 7, 17, 20, 21, 24] (T' := cgo 156 [false, true, true, true, true] [.code B105]) (tm' := mk 35 [(0, .d (.list 1 (bs.map u8))), (1, .d (i64 a)), (7, .d (.int .i64 (3))), (17, .d (.int .i64 (3))), (20, .d (.int .u32 (ior .u32 ((0#32 ||| zx (bs.getD a 0) <<< 0) ||| zx (bs.getD (a + 1) 0) <<< 8).toNat (ishl .u32 (iconv .u32 (bs.getD (a + 2) 0).toNat) ((16 : Nat) : Int))))), (21, .d (.list 1 (bs.map u8))), (24, .d (.int .i64 (iadd .i64 a ((3 : Nat) : Int))))]) (σ' := []) (by kernel_rfl) ?_
    rw [iadd_i64 (by omega) (by omega), ← Int.natCast_add, iconv_u8_u32, ishl_u32 _ _ (by omega), ior_u32]
    refine .opH (o := (opOf (cgo 156 [false, true, true, true, true] [.code B105])).getD default) (by kernel_rfl) (by kernel_rfl) (by kernel_rfl) (T' := cgo 157 [false, true, true, true, true] [.code B105]) (by kernel_rfl) (ixData_ok (t := 22) (x := .tmp 21) (i := .tmp 24) (sz := 1) (xs := bs.map u8) (k := .i64) (n := ((a + 3 : Nat) : Int)) (d := u8 (bs.getD (a + 3) 0)) (by kernel_rfl) (by kernel_rfl) (by kernel_rfl) (by kernel_rfl) (by omega) (u8s_getD (by omega))) ?_
    refine .seg 28 [4, 5] (T' := cgo 185 [false, true, true, true, true, false] [.code B105]) (tm' := mk 35 [(4, .d (.int .i32 (iconv .i32 (ior .u32 (((0#32 ||| zx (bs.getD a 0) <<< 0) ||| zx (bs.getD (a + 1) 0) <<< 8) ||| zx (bs.getD (a + 2) 0) <<< 16).toNat (ishl .u32 (iconv .u32 (bs.getD (a + 3) 0).toNat) ((24 : Nat) : Int)))))), (5, .d (.bool (true)))]) (σ' := []) (by kernel_rfl) ?_
    rw [iconv_u8_u32, ishl_u32 _ _ (by omega), ior_u32, iconv_i32_u32]
    have e : get4 bs a = (((0#32 ||| zx (bs.getD a 0) <<< 0) ||| zx (bs.getD (a + 1) 0) <<< 8) ||| zx (bs.getD (a + 2) 0) <<< 16) ||| zx (bs.getD (a + 3) 0) <<< 24 := by rw [get4, if_pos h']
    rw [decide_eq_true h', e]
    exact .retH F105 (by kernel_rfl) (by kernel_rfl) (⟨rfl, rfl⟩)
end Go.Proofs.Ytoelkgbeefoplaa
namespace Go.Proofs.Ytoelkgbeefoplaa
open Go Go.Br Go.Proofs
def nOf (bs : List UInt8) : Nat := (get4 bs 0).toInt.toNat
def fits (bs : List UInt8) : Bool := decide (4 ≤ bs.length) && decide (0 ≤ (get4 bs 0).toInt) && decide ((get4 bs 0).toInt ≤ 65536) && decide ((get4 bs 0).toInt + 8 ≤ bs.length)
def piece (bs : List UInt8) : List UInt8 := (bs.take (4 + nOf bs)).drop 4
def sumOk (bs : List UInt8) : Bool := get4 bs (4 + nOf bs) == crc (bs.take (4 + nOf bs))
def fstV (bs : List UInt8) : V := if fits bs then .tuple [.ex 1 ((piece bs).map u8), .d (.bool (sumOk bs))] else .tuple [.nils, .d (.bool false)]
theorem toNat_beq (x y : BitVec 32) : (((x.toNat : Int)) == (y.toNat : Int)) = (x == y) := by
  rw [Bool.eq_iff_iff]
  simp only [beq_iff_eq]
  exact ⟨fun h => BitVec.eq_of_toNat_eq (by omega), fun h => by rw [h]⟩
noncomputable def B92 : Code := (Try.f92.body).getD .skip
theorem F92 : Fnc Try.prog 92 Try.f92 B92 := ⟨Try.func92, by kernel_rfl, by kernel_rfl⟩
theorem first_pure (bs : List UInt8) (hlen : bs.length < 9223372036854770000) : Pure Try.prog 92 [.d (.list 1 (bs.map u8))] (fstV bs) := by
  refine CallsA.start F92 (tm := (mk 52 [(0, .d (.list 1 (bs.map u8)))])) (by kernel_rfl) ?_
  refine .seg 8 [0, 10] (T' := cgo 8 [] [.code B92]) (tm' := mk 52 [(0, .d (.list 1 (bs.map u8))), (10, .d (.list 1 (bs.map u8)))]) (σ' := []) (by kernel_rfl) ?_
  refine .semH (o := (opOf (cgo 8 [] [.code B92])).getD default) (v := .tuple [.d (i32 (get4 bs 0)), .d (.bool (decide (0 + 4 ≤ bs.length)))]) (σ' := []) (by kernel_rfl) (by kernel_rfl) (T' := cgo 9 [] [.code B92]) (by kernel_rfl) (fun k => sem_data (x := .func 105) (args := #[.tmp 10, .const (.int .i64 0)]) (ts := #[22, 3]) (first := []) (cap := []) F105 (get_pure bs 0 (by omega) (by omega)) (by kernel_rfl) (by kernel_rfl) (by kernel_rfl) (by kernel_rfl) (by kernel_rfl) []) ?_
  refine .seg 12 [0, 4, 16] (T' := cgo 21 [] [.code B92]) (tm' := mk 52 [(0, .d (.list 1 (bs.map u8))), (4, .d (i32 (get4 bs 0))), (16, .d (.bool (!(decide (0 + 4 ≤ bs.length)))))]) (σ' := []) (by kernel_rfl) ?_
  by_cases h4 : 0 + 4 ≤ bs.length
  case neg =>
    have hf : fits bs = false := by
      have : ¬ 4 ≤ bs.length := by omega
      simp [fits, this]
    rw [decide_eq_false h4, Bool.not_false, fstV, hf]
    refine .seg 22 [2, 3] (T' := cgo 43 [true] [.code B92]) (tm' := mk 52 [(2, .nils), (3, .d (.bool (false)))]) (σ' := []) (by kernel_rfl) ?_
    exact .retH F92 (by kernel_rfl) (by kernel_rfl) (⟨rfl, rfl⟩)
  rw [decide_eq_true h4, Bool.not_true]
  refine .seg 4 [0, 4, 20] (T' := cgo 25 [] [.code B92]) (tm' := mk 52 [(0, .d (.list 1 (bs.map u8))), (4, .d (i32 (get4 bs 0))), (20, .d (.bool (decide ((get4 bs 0).toInt < 0))))]) (σ' := []) (by kernel_rfl) ?_
  by_cases h0 : (get4 bs 0).toInt < 0
  case pos =>
    have hf : fits bs = false := by
      have : ¬ 0 ≤ (get4 bs 0).toInt := by omega
      simp [fits, this]
    rw [decide_eq_true h0, fstV, hf]
    refine .seg 18 [2, 3] (T' := cgo 43 [true] [.code B92]) (tm' := mk 52 [(2, .nils), (3, .d (.bool (false)))]) (σ' := []) (by kernel_rfl) ?_
    exact .retH F92 (by kernel_rfl) (by kernel_rfl) (⟨rfl, rfl⟩)
  rw [decide_eq_false h0]
  refine .seg 4 [0, 4, 24] (T' := cgo 29 [] [.code B92]) (tm' := mk 52 [(0, .d (.list 1 (bs.map u8))), (4, .d (i32 (get4 bs 0))), (24, .d (.bool (decide ((get4 bs 0).toInt > 65536))))]) (σ' := []) (by kernel_rfl) ?_
  by_cases h6 : (get4 bs 0).toInt > 65536
  case pos =>
    have hf : fits bs = false := by
      have : ¬ (get4 bs 0).toInt ≤ 65536 := by omega
      simp [fits, this]
    rw [decide_eq_true h6, fstV, hf]
    refine .seg 14 [2, 3] (T' := cgo 43 [true] [.code B92]) (tm' := mk 52 [(2, .nils), (3, .d (.bool (false)))]) (σ' := []) (by kernel_rfl) ?_
    exact .retH F92 (by kernel_rfl) (by kernel_rfl) (⟨rfl, rfl⟩)
  rw [decide_eq_false h6]
  have hn : (get4 bs 0).toInt = (nOf bs : Int) := by simp [nOf]; omega
  have hi : iconv .i64 (get4 bs 0).toInt = (nOf bs : Int) := by rw [hn]; exact wrap_i64 (by omega) (by omega)
  refine .seg 8 [0, 4, 31] (T' := cgo 37 [] [.code B92]) (tm' := mk 52 [(0, .d (.list 1 (bs.map u8))), (4, .d (i32 (get4 bs 0))), (31, .d (.bool (decide (isub .i64 ((bs.map u8).length : Nat) 8 < iconv .i64 (get4 bs 0).toInt))))]) (σ' := []) (by kernel_rfl) ?_
  rw [List.length_map, isub_i64 (by omega) (by omega), hi]
  by_cases h8 : (bs.length : Int) - 8 < (nOf bs : Int)
  case pos =>
    have hf : fits bs = false := by
      have : ¬ (get4 bs 0).toInt + 8 ≤ bs.length := by omega
      simp [fits, this]
    rw [decide_eq_true h8, fstV, hf]
    refine .seg 6 [2, 3] (T' := cgo 43 [true] [.code B92]) (tm' := mk 52 [(2, .nils), (3, .d (.bool (false)))]) (σ' := []) (by kernel_rfl) ?_
    exact .retH F92 (by kernel_rfl) (by kernel_rfl) (⟨rfl, rfl⟩)
  rw [decide_eq_false h8]
  have hf : fits bs = true := by
    simp only [fits, Bool.and_eq_true, decide_eq_true_eq]
    omega
  rw [fstV, hf]
  refine .seg 13 [0, 6, 36, 37] (T' := cgo 50 [false] [.code B92]) (tm' := mk 52 [(0, .d (.list 1 (bs.map u8))), (6, .d (.int .i64 (iadd .i64 4 (iconv .i64 (get4 bs 0).toInt)))), (36, .d (.list 1 (bs.map u8))), (37, .d (.int .i64 (iadd .i64 4 (iconv .i64 (get4 bs 0).toInt))))]) (σ' := []) (by kernel_rfl) ?_
  have e4 : iadd .i64 4 (nOf bs : Int) = ((4 + nOf bs : Nat) : Int) := by rw [iadd_i64 (by omega) (by omega)]; simp
  rw [hi, e4]
  refine .semH (o := (opOf (cgo 50 [false] [.code B92])).getD default) (v := .tuple [.d (i32 (get4 bs (4 + nOf bs))), .d (.bool (decide (4 + nOf bs + 4 ≤ bs.length)))]) (σ' := []) (by kernel_rfl) (by kernel_rfl) (T' := cgo 51 [false] [.code B92]) (by kernel_rfl) (fun k => sem_data (x := .func 105) (args := #[.tmp 36, .tmp 37]) (ts := #[22, 3]) (first := []) (cap := []) F105 (get_pure bs (4 + nOf bs) (by omega) (by omega)) (by kernel_rfl) (by kernel_rfl) (by kernel_rfl) (by kernel_rfl) (by kernel_rfl) []) ?_
  refine .seg 7 [0, 6, 7] (T' := cgo 58 [false] [.code B92]) (tm' := mk 52 [(0, .d (.list 1 (bs.map u8))), (6, .d (.int .i64 (((4 + nOf bs : Nat) : Int)))), (7, .d (i32 (get4 bs (4 + nOf bs))))]) (σ' := []) (by kernel_rfl) ?_
  refine .drawH (T' := (cgo 59 [false] [.code B92])) (tm' := (mk 52 [(0, .d (.list 1 (bs.map u8))), (6, .d (.int .i64 (((4 + nOf bs : Nat) : Int)))), (7, .d (i32 (get4 bs (4 + nOf bs)))), (41, .d (.list 1 (bs.map u8))), (42, .d (.int .i64 (((4 + nOf bs : Nat) : Int)))), (43, .d (.int .i64 (((4 + nOf bs : Nat) : Int)))), (44, .ex 1 (((bs.map u8).take (4 + nOf bs)).drop 4)), (45, .d (i32 (get4 bs (4 + nOf bs)))), (46, .d (.int .u32 (iconv .u32 (get4 bs (4 + nOf bs)).toInt))), (47, .d (.list 1 (bs.map u8))), (48, .d (.int .i64 (((4 + nOf bs : Nat) : Int)))), (49, .d (.list 1 (((bs.map u8).take (4 + nOf bs)).drop 0))), (50, .d (u32 (crc (bs.take (4 + nOf bs))))), (51, .d (.bool (iconv .u32 (get4 bs (4 + nOf bs)).toInt == ((crc (bs.take (4 + nOf bs))).toNat : Int)))), (2, .ex 1 (((bs.map u8).take (4 + nOf bs)).drop 4)), (3, .d (.bool (iconv .u32 (get4 bs (4 + nOf bs)).toInt == ((crc (bs.take (4 + nOf bs))).toNat : Int))))])) (σ' := []) (List.replicate 13 0) [0, 1, 2, 3, 4, 5, 6, 7, 8, 9, 10, 11, 12] (by kernel_rfl) (by kernel_rfl) (by kernel_rfl) (by kernel_rfl) (fun k => ?_) ?_
  · refine Run.append (A := [0, 1, 2]) (srun_ok (tm' := (mk 52 [(0, .d (.list 1 (bs.map u8))), (6, .d (.int .i64 (((4 + nOf bs : Nat) : Int)))), (7, .d (i32 (get4 bs (4 + nOf bs)))), (41, .d (.list 1 (bs.map u8))), (42, .d (.int .i64 (((4 + nOf bs : Nat) : Int)))), (43, .d (.int .i64 (((4 + nOf bs : Nat) : Int))))])) (σ' := []) (by kernel_rfl)) ?_
    refine Run.one (StepQ.rule (o := ((drawOf (cgo 58 [false] [.code B92]))[3]?).getD default) (v := .ex 1 (((bs.map u8).take (4 + nOf bs)).drop 4)) [.tmp 41, .const (.int .i64 4), .tmp 42, .tmp 43] (by kernel_rfl) (by kernel_rfl) (by kernel_rfl) (by kernel_rfl) (by kernel_rfl) (fun s tm' hv => sl3Data_ok (t := 22) (x := .tmp 41) (y := .tmp 42) (z := .tmp 43) (lo := some (.const (.int .i64 4))) (sz := 1) (xs := bs.map u8) 4 (4 + nOf bs) (by kernel_rfl) (by rw [hv _ (by simp)]; kernel_rfl) (by kernel_rfl) ⟨.i64, 4, by kernel_rfl, by omega, by omega⟩ ⟨.i64, ((4 + nOf bs : Nat) : Int), (hv _ (by simp)).trans (by kernel_rfl), Int.natCast_nonneg _, Int.toNat_natCast _⟩ ⟨.i64, ((4 + nOf bs : Nat) : Int), (hv _ (by simp)).trans (by kernel_rfl), Int.natCast_nonneg _, Int.toNat_natCast _⟩ (by omega) (by simp; omega))) ?_
    refine Run.append (A := [4, 5, 6, 7]) (srun_ok (tm' := (mk 52 [(0, .d (.list 1 (bs.map u8))), (6, .d (.int .i64 (((4 + nOf bs : Nat) : Int)))), (7, .d (i32 (get4 bs (4 + nOf bs)))), (41, .d (.list 1 (bs.map u8))), (42, .d (.int .i64 (((4 + nOf bs : Nat) : Int)))), (43, .d (.int .i64 (((4 + nOf bs : Nat) : Int)))), (44, .ex 1 (((bs.map u8).take (4 + nOf bs)).drop 4)), (45, .d (i32 (get4 bs (4 + nOf bs)))), (46, .d (.int .u32 (iconv .u32 (get4 bs (4 + nOf bs)).toInt))), (47, .d (.list 1 (bs.map u8))), (48, .d (.int .i64 (((4 + nOf bs : Nat) : Int))))])) (σ' := []) (by kernel_rfl)) ?_
    refine Run.one (StepQ.rule (o := ((drawOf (cgo 58 [false] [.code B92]))[8]?).getD default) (v := .d (.list 1 (((bs.map u8).take (4 + nOf bs)).drop 0))) [.tmp 47, .tmp 48] (by kernel_rfl) (by kernel_rfl) (by kernel_rfl) (by kernel_rfl) (by kernel_rfl) (fun s tm' hv => slData_ok (t := 22) (x := .tmp 47) (lo := none) (hi := some (.tmp 48)) (sz := 1) (xs := bs.map u8) 0 (4 + nOf bs) (by kernel_rfl) (by rw [hv _ (by simp)]; kernel_rfl) (by kernel_rfl) rfl ⟨.i64, ((4 + nOf bs : Nat) : Int), (hv _ (by simp)).trans (by kernel_rfl), Int.natCast_nonneg _, Int.toNat_natCast _⟩ (by omega) (by simp; omega))) ?_
    refine Run.one (StepQ.data (o := ((drawOf (cgo 58 [false] [.code B92]))[9]?).getD default) (v := .d (u32 (crc (bs.take (4 + nOf bs))))) (by kernel_rfl) (by kernel_rfl) (by kernel_rfl) (sem_data0 (x := .func 59) (args := #[.tmp 49]) (ts := #[22]) (first := []) (cap := []) (ds := [.d (.list 1 ((bs.take (4 + nOf bs)).map u8))]) F59 (crc_pure (bs.take (4 + nOf bs)) (by simp; omega)) (by kernel_rfl) (by kernel_rfl) (by kernel_rfl) (by rw [List.map_take]; kernel_rfl) (by kernel_rfl) (by kernel_rfl))) ?_
    exact srun_ok (by kernel_rfl)
  rw [iconv_u32_i32, toNat_beq, ← List.map_take, ← List.map_drop]
  exact .retH F92 (by kernel_rfl) (by kernel_rfl) (⟨rfl, rfl⟩)
end Go.Proofs.Ytoelkgbeefoplaa
namespace Go.Proofs.Ytoelkgbeefoplaa
open Go Go.Br Go.Proofs
def bsD (bs : List UInt8) : D := .list 1 (bs.map u8)
noncomputable def B61 : Code := (Try.f61.body).getD .skip
theorem F61 : Fnc Try.prog 61 Try.f61 B61 := ⟨Try.func61, by kernel_rfl, by kernel_rfl⟩
theorem clone_pure (bs : List UInt8) (hlen : bs.length ≤ 140737488355000) : Pure Try.prog 61 [.d (bsD bs)] (.d (bsD bs)) := by
  refine CallsA.start F61 (tm := (mk 8 [(0, .d (bsD bs))])) (by kernel_rfl) ?_
  refine .seg 8 [0, 3] (T' := cgo 8 [] [.code B61]) (tm' := mk 8 [(0, .d (bsD bs)), (3, .d (bsD bs))]) (σ' := []) (by kernel_rfl) ?_
  refine .anyH (o := (opOf (cgo 8 [] [.code B61])).getD default) (by kernel_rfl) (by kernel_rfl) (by kernel_rfl) (T' := (cgo 9 [] [.code B61])) (by kernel_rfl) (nilEq_ok (x := .tmp 3) (y := .const (.slice none 0 0)) (t := 22) (ty := 22) (sz := 1) (xs := bs.map u8) (neg := false) (by kernel_rfl) (by kernel_rfl) (by kernel_rfl) (by kernel_rfl)) ?_
  rintro v ⟨b, rfl, hb⟩
  cases b with
  | true =>
    have h0 : bs = [] := by simpa using hb rfl
    subst h0
    refine .seg 6 [2] (T' := cgo 15 [true] [.code B61]) (tm' := mk 8 [(2, .nils)]) (σ' := []) (by kernel_rfl) ?_
    refine .coerce [22, 22, 22] ?_
    exact .retH (v := .d (bsD [])) F61 (by kernel_rfl) (by kernel_rfl) ⟨rfl, rfl⟩
  | false =>
    refine .seg 5 [0] (T' := cgo 14 [false] [.code B61]) (tm' := mk 8 [(0, .d (bsD bs))]) (σ' := []) (by kernel_rfl) ?_
    refine .opH (o := (opOf (cgo 14 [false] [.code B61])).getD default) (by kernel_rfl) (by kernel_rfl) (by kernel_rfl) (T' := cgo 15 [false] [.code B61]) (by kernel_rfl) (build0_ok (t := 22) (e := 5) (sz := 1) (sz' := 1) (by kernel_rfl) (by kernel_rfl) (by kernel_rfl)) ?_
    refine .seg 1 [5, 6] (T' := cgo 16 [false] [.code B61]) (tm' := mk 8 [(5, .ex 1 []), (6, .d (bsD bs))]) (σ' := []) (by kernel_rfl) ?_
    cases bs with
    | nil =>
      refine .opH (o := (opOf (cgo 16 [false] [.code B61])).getD default) (by kernel_rfl) (by kernel_rfl) (by kernel_rfl) (T' := cgo 17 [false] [.code B61]) (by kernel_rfl) (appNone_ok (s := .tmp 5) (x := .tmp 6) (t := 22) (t2 := 22) (sz := 1) (by' := 1) (xs := []) (by kernel_rfl) (by kernel_rfl) (by kernel_rfl) (by kernel_rfl) (by kernel_rfl)) ?_
      refine .seg 2 [2] (T' := cgo 19 [false] [.code B61]) (tm' := mk 8 [(2, .ex 1 [])]) (σ' := []) (by kernel_rfl) ?_
      refine .coerce [22, 22, 22] ?_
      exact .retH (v := .d (bsD [])) F61 (by kernel_rfl) (by kernel_rfl) ⟨rfl, rfl⟩
    | cons b bs =>
      refine .opH (o := (opOf (cgo 16 [false] [.code B61])).getD default) (by kernel_rfl) (by kernel_rfl) (by kernel_rfl) (T' := cgo 17 [false] [.code B61]) (by kernel_rfl) (appEx_ok (s := .tmp 5) (x := .tmp 6) (t := 22) (t2 := 22) (sz := 1) (by' := 1) (xs := []) (ys := (b :: bs).map u8) (by kernel_rfl) (by kernel_rfl) (by kernel_rfl) (by kernel_rfl) (by kernel_rfl) (by simp) (by simp at hlen ⊢; omega) (by simp [maxLen] at hlen ⊢; omega)) ?_
      refine .seg 2 [2] (T' := cgo 19 [false] [.code B61]) (tm' := mk 8 [(2, .row 0)]) (σ' := [.row 1 ((b :: bs).map u8) false]) (by kernel_rfl) ?_
      refine .freeze 0 (sz := 1) (xs := (b :: bs).map u8) (mv := false) rfl ?_
      refine .sub [] ((mk 8 [(2, .d (bsD (b :: bs)))])) [] none [] ⟨rfl, rfl, rfl⟩ rfl ⟨by simp, rfl⟩ rfl ⟨rfl, rfl⟩ ⟨rfl, rfl⟩ ?_
      exact .retH F61 (by kernel_rfl) (by kernel_rfl) (⟨rfl, rfl⟩)
noncomputable def B60 : Code := (Try.f60.body).getD .skip
theorem F60 : Fnc Try.prog 60 Try.f60 B60 := ⟨Try.func60, by kernel_rfl, by kernel_rfl⟩
theorem frames_pure (bs : List UInt8) : CallsA Try.prog 60 [.d (bsD bs)] [] fun r σ' => r = .ret (.fn (.func 91) [] [.ptr 0 0 0]) ∧ σ' = [.cells [.d (bsD bs)]] := by
  refine CallsA.start F60 (tm := (mk 4 [(0, .d (bsD bs))])) (by kernel_rfl) ?_
  refine .seg 10 [2] (T' := cgo 10 [] [.code B60]) (tm' := mk 4 [(2, .fn (.func 91) [] [.ptr 0 0 0])]) (σ' := [.cells [.d (bsD bs)]]) (by kernel_rfl) ?_
  exact .retH F60 (by kernel_rfl) (by kernel_rfl) (⟨rfl, rfl⟩)
def recs : Nat → List UInt8 → List (List UInt8)
  | 0, _ => []
  | n + 1, bs => if fits bs && sumOk bs then piece bs :: recs n (bs.drop (nOf bs + 8)) else []
def good (rs : List (List UInt8)) : Nat := (rs.map fun r => r.length + 8).sum
theorem fits_le {bs : List UInt8} (h : fits bs = true) : nOf bs + 8 ≤ bs.length ∧ nOf bs ≤ 65536 := by
  simp only [fits, Bool.and_eq_true, decide_eq_true_eq] at h
  unfold nOf
  omega
theorem piece_length {bs : List UInt8} (h : fits bs = true) : (piece bs).length = nOf bs := by
  have := (fits_le h).1
  simp [piece]
  omega
noncomputable def B17 : Code := (Try.f17.body).getD .skip
theorem F17 : Fnc Try.prog 17 Try.f17 B17 := ⟨Try.func17, by kernel_rfl, by kernel_rfl⟩
noncomputable def R17 : List Item := [.code (rfAs (cgo 12 [] [.code B17])), .beginRound, .code (rfBd (cgo 12 [] [.code B17]))]
def tm17 : List V := (mk 20 [(2, .ptr 0 0 0), (3, .ptr 1 0 0), (6, .fn (.func 91) [] [.ptr 2 0 0])])
noncomputable def S17 (rs : List (List UInt8)) (g : Nat) (bs : List UInt8) (mv : Bool) (st : LoopState) : Store :=
  [.cells [.row 3], .cells [.d (i64 g)], .cells [.d (bsD bs)], .row 1 (rs.map bsD) mv, .defd, lp (cgo 12 [] [.code B17]) 17 tm17 st]
theorem body17 (rs : List (List UInt8)) (g : Nat) (bs : List UInt8) (mv : Bool) (r : List UInt8) (hr : r.length ≤ 65536) (hg : g ≤ 1125899906842624) (hrs : rs.length ≤ 1099511627776) :
    AW Try.prog 17 (some 5) 6 R17 ((mk 20 [(2, .ptr 0 0 0), (3, .ptr 1 0 0), (6, .fn (.func 91) [] [.ptr 2 0 0]), (7, .ex 1 (r.map u8))])) (S17 rs g bs mv .ready) [] fun a σ' => a = .ret (.d (.bool true)) ∧ σ' = S17 (rs ++ [r]) (g + (r.length + 8)) bs true .ready := by
  refine .seg 3 [2, 3, 4] (T' := cgo 3 [] R17) (tm' := mk 20 [(2, .ptr 0 0 0), (3, .ptr 1 0 0), (4, .ex 1 (r.map u8))]) (σ' := S17 rs g bs mv .ready) (by kernel_rfl) ?_
  refine .beginL (T0 := (cgo 12 [] [.code B17])) (fn := 17) (tml := tm17) (by kernel_rfl) (T' := (cgo 4 [] R17)) (by kernel_rfl) (σ' := S17 rs g bs mv .busy) (by kernel_rfl) (by kernel_rfl) ?_
  refine .seg 2 [2, 3, 4] (T' := cgo 6 [] R17) (tm' := mk 20 [(2, .ptr 0 0 0), (3, .ptr 1 0 0), (4, .ex 1 (r.map u8))]) (σ' := S17 rs g bs mv .busy) (by kernel_rfl) ?_
  have happ (tm : List V) (h8 : ev tm (.tmp 8) = V.row 3) (h11 : ev tm (.tmp 11) = V.row 6) : OpOk Try.prog (((drawOf (cgo 6 [] R17))[4]?).getD default) tm (S17 rs g bs mv .busy ++ [O.row 1 [bsD r] false]) (.row 3) (V.killL (Nat.beq 3) tm) (((S17 rs g bs mv .busy ++ [O.row 1 [bsD r] false]).map (O.kill (Nat.beq 3))).set 3 (O.row 1 (rs.map bsD ++ [bsD r]) true)) :=
    appRow_ok (s := .tmp 8) (x := .tmp 11) (t := 26) (t2 := 26) (l := 3) (sz := 1) (by' := 24) (xs := rs.map bsD) (ys := [bsD r]) (mv := mv) (by kernel_rfl) h8 (by kernel_rfl) (by rw [h11]; kernel_rfl) (by kernel_rfl) (by kernel_rfl) (by simp; omega) (by simp [maxLen]; omega)
  refine .draw2H (T' := (cgo 7 [] R17)) (tm' := (mk 20 [(2, .ptr 0 0 0), (3, .ptr 1 0 0), (4, .ex 1 (r.map u8)), (9, .ex 1 (r.map u8)), (10, .d (bsD r)), (11, .row 6), (12, .row 3)])) (σ' := S17 (rs ++ [r]) g bs true .busy ++ [.row 1 [bsD r] false]) [1, 0, 0, 2, 3, 2] 0 3 [0, 1, 2, 3, 4, 5] [1, 2, 3, 0, 4, 5] (by kernel_rfl) (by kernel_rfl) (by kernel_rfl) (by kernel_rfl) (fun k => ?_) (fun k => ?_) ?_
  · refine Run.append (A := [0, 1]) (srun_ok (tm' := (mk 20 [(2, .ptr 0 0 0), (3, .ptr 1 0 0), (4, .ex 1 (r.map u8)), (8, .row 3), (9, .ex 1 (r.map u8))])) (σ' := S17 rs g bs mv .busy) (by kernel_rfl)) ?_
    refine Run.one (StepQ.data (o := ((drawOf (cgo 6 [] R17))[2]?).getD default) (v := .d (bsD r)) (by kernel_rfl) (by kernel_rfl) (by kernel_rfl) (sem_data0 (x := .func 61) (args := #[.tmp 9]) (ts := #[22]) (first := []) (cap := []) (ds := [.d (bsD r)]) F61 (clone_pure r (by omega)) (by kernel_rfl) (by kernel_rfl) (by kernel_rfl) (by kernel_rfl) (by kernel_rfl) (by kernel_rfl))) ?_
    refine Run.append (A := [3]) (srun_ok (tm' := (mk 20 [(2, .ptr 0 0 0), (3, .ptr 1 0 0), (4, .ex 1 (r.map u8)), (8, .row 3), (9, .ex 1 (r.map u8)), (10, .d (bsD r)), (11, .row 6)])) (σ' := S17 rs g bs mv .busy ++ [.row 1 [bsD r] false]) (by kernel_rfl)) ?_
    refine Run.one (s1 := ((mk 20 [(2, .ptr 0 0 0), (3, .ptr 1 0 0), (4, .ex 1 (r.map u8)), (9, .ex 1 (r.map u8)), (10, .d (bsD r)), (11, .row 6), (12, .row 3)]), ((S17 rs g bs mv .busy ++ [O.row 1 [bsD r] false]).map (O.kill (Nat.beq 3))).set 3 (O.row 1 (rs.map bsD ++ [bsD r]) true))) (StepQ.all (by kernel_rfl) fun rest hn => .op (o := ((drawOf (cgo 6 [] R17))[4]?).getD default) (by kernel_rfl) (by kernel_rfl) (by kernel_rfl) (happ _ (by kernel_rfl) (by kernel_rfl)) hn) ?_
    rw [show rs.map bsD ++ [bsD r] = (rs ++ [r]).map bsD by simp]
    exact srun_ok (by kernel_rfl)
  · refine Run.append (A := [1]) (srun_ok (tm' := (mk 20 [(2, .ptr 0 0 0), (3, .ptr 1 0 0), (4, .ex 1 (r.map u8)), (9, .ex 1 (r.map u8))])) (σ' := S17 rs g bs mv .busy) (by kernel_rfl)) ?_
    refine Run.one (StepQ.data (o := ((drawOf (cgo 6 [] R17))[2]?).getD default) (v := .d (bsD r)) (by kernel_rfl) (by kernel_rfl) (by kernel_rfl) (sem_data0 (x := .func 61) (args := #[.tmp 9]) (ts := #[22]) (first := []) (cap := []) (ds := [.d (bsD r)]) F61 (clone_pure r (by omega)) (by kernel_rfl) (by kernel_rfl) (by kernel_rfl) (by kernel_rfl) (by kernel_rfl) (by kernel_rfl))) ?_
    refine Run.append (A := [3, 0]) (srun_ok (tm' := (mk 20 [(2, .ptr 0 0 0), (3, .ptr 1 0 0), (4, .ex 1 (r.map u8)), (8, .row 3), (9, .ex 1 (r.map u8)), (10, .d (bsD r)), (11, .row 6)])) (σ' := S17 rs g bs mv .busy ++ [.row 1 [bsD r] false]) (by kernel_rfl)) ?_
    refine Run.one (s1 := ((mk 20 [(2, .ptr 0 0 0), (3, .ptr 1 0 0), (4, .ex 1 (r.map u8)), (9, .ex 1 (r.map u8)), (10, .d (bsD r)), (11, .row 6), (12, .row 3)]), ((S17 rs g bs mv .busy ++ [O.row 1 [bsD r] false]).map (O.kill (Nat.beq 3))).set 3 (O.row 1 (rs.map bsD ++ [bsD r]) true))) (StepQ.all (by kernel_rfl) fun rest hn => .op (o := ((drawOf (cgo 6 [] R17))[4]?).getD default) (by kernel_rfl) (by kernel_rfl) (by kernel_rfl) (happ _ (by kernel_rfl) (by kernel_rfl)) hn) ?_
    rw [show rs.map bsD ++ [bsD r] = (rs ++ [r]).map bsD by simp]
    exact srun_ok (by kernel_rfl)
  refine .seg 9 [] (T' := cgo 16 [] R17) (tm' := mk 20 []) (σ' := [.cells [.row 3], .cells [.d (.int .i64 (iadd .i64 g (iadd .i64 ((r.map u8).length : Nat) 8)))], .cells [.d (bsD bs)], .row 1 ((rs ++ [r]).map bsD) true, .defd, lp (cgo 12 [] [.code B17]) 17 tm17 .busy, .row 1 [bsD r] false]) (by kernel_rfl) ?_
  rw [List.length_map, iadd_i64 (a := (r.length : Int)) (b := 8) (by omega) (by omega), iadd_i64 (a := (g : Int)) (b := (r.length : Int) + 8) (by omega) (by omega), show (g : Int) + ((r.length : Int) + 8) = ((g + (r.length + 8) : Nat) : Int) by omega]
  refine .sub [0, 1, 2, 3, 4, 5] ((mk 20 [])) (S17 (rs ++ [r]) (g + (r.length + 8)) bs true .busy) (some 5) [] (by refine ⟨rfl, rfl, ?_⟩; kernel_rfl) rfl ⟨by simp [S17], rfl⟩ (by kernel_rfl) ⟨rfl, rfl⟩ ⟨rfl, rfl⟩ ?_
  exact .roundEndL (T0 := (cgo 12 [] [.code B17])) (fn := 17) (tml := tm17) (st := .busy) (by kernel_rfl) (by kernel_rfl) rfl ⟨rfl, by kernel_rfl⟩
theorem fst_no {bs : List UInt8} (h : (fits bs && sumOk bs) = false) : ∃ X : V, X.locs = [] ∧ fstV bs = .tuple [X, .d (.bool false)] := by
  unfold fstV
  cases hf : fits bs with
  | false => exact ⟨.nils, rfl, by simp⟩
  | true =>
    rw [hf, Bool.true_and] at h
    exact ⟨.ex 1 ((piece bs).map u8), rfl, by rw [h]; simp⟩
theorem fst_yes {bs : List UInt8} (h : (fits bs && sumOk bs) = true) : fstV bs = .tuple [.ex 1 ((piece bs).map u8), .d (.bool true)] := by
  simp only [Bool.and_eq_true] at h
  unfold fstV
  rw [h.1, h.2]; rfl
noncomputable def B91 : Code := (Try.f91.body).getD .skip
theorem F91 : Fnc Try.prog 91 Try.f91 B91 := ⟨Try.func91, by kernel_rfl, by kernel_rfl⟩
theorem it91 : ∀ (m : Nat) (rs : List (List UInt8)) (g : Nat) (bs : List UInt8) (mv : Bool), bs.length < m → g + bs.length ≤ 1125899906842624 → rs.length + bs.length ≤ 1099511627776 →
    AW Try.prog 91 none 6 ((cgo 2 [] [.code B91])) ((mk 23 [(0, .yield 5), (1, .ptr 2 0 0)])) (S17 rs g bs mv .ready) [] fun r σ' => ∃ rest mv', r = .ret (.tuple []) ∧ σ' = S17 (rs ++ recs m bs) (g + good (recs m bs)) rest mv' .ready := by
  intro m
  induction m with
  | zero => intro rs g bs mv h; omega
  | succ m ih =>
    intro rs g bs mv hm hg hrs
    refine .seg 4 [0, 1, 6] (T' := cgo 6 [] [.code B91]) (tm' := mk 23 [(0, .yield 5), (1, .ptr 2 0 0), (6, .d (bsD bs))]) (σ' := S17 rs g bs mv .ready) (by kernel_rfl) ?_
    cases hf : (fits bs && sumOk bs) with
    | false =>
      obtain ⟨X, hX, hv⟩ := fst_no hf
      have hp := first_pure bs (by omega)
      rw [hv] at hp
      refine .semH (o := (opOf (cgo 6 [] [.code B91])).getD default) (v := .tuple [X, .d (.bool false)]) (σ' := S17 rs g bs mv .ready) (by kernel_rfl) (by kernel_rfl) (T' := cgo 7 [] [.code B91]) (by kernel_rfl) (fun k => sem_data0 (x := .func 92) (args := #[.tmp 6]) (ts := #[22]) (first := []) (cap := []) F92 hp (by kernel_rfl) (by kernel_rfl) (by kernel_rfl) (by kernel_rfl) (by kernel_rfl) (by simp [V.locs, V.locsL, hX]) _) ?_
      refine .seg 19 [] (T' := cgo 26 [true] [.code B91]) (tm' := mk 23 []) (σ' := S17 rs g bs mv .ready) (by kernel_rfl) ?_
      refine .retH F91 (v := .tuple []) (by kernel_rfl) (by kernel_rfl) ⟨bs, mv, rfl, ?_⟩
      simp [recs, hf, good]
    | true =>
      have hv := fst_yes hf
      have hp := first_pure bs (by omega)
      rw [hv] at hp
      have hf1 : fits bs = true := by simp only [Bool.and_eq_true] at hf; exact hf.1
      have hle := fits_le hf1
      refine .semH (o := (opOf (cgo 6 [] [.code B91])).getD default) (v := .tuple [.ex 1 ((piece bs).map u8), .d (.bool true)]) (σ' := S17 rs g bs mv .ready) (by kernel_rfl) (by kernel_rfl) (T' := cgo 7 [] [.code B91]) (by kernel_rfl) (fun k => sem_data0 (x := .func 92) (args := #[.tmp 6]) (ts := #[22]) (first := []) (cap := []) F92 hp (by kernel_rfl) (by kernel_rfl) (by kernel_rfl) (by kernel_rfl) (by kernel_rfl) (by kernel_rfl) _) ?_
      refine .seg 14 [0, 1, 3, 12, 13, 14] (T' := cgo 21 [] [.code B91]) (tm' := mk 23 [(0, .yield 5), (1, .ptr 2 0 0), (3, .ex 1 ((piece bs).map u8)), (12, .d (.bool (false))), (13, .yield 5), (14, .ex 1 ((piece bs).map u8))]) (σ' := S17 rs g bs mv .ready) (by kernel_rfl) ?_
      refine .yieldL (T0 := (cgo 12 [] [.code B17])) (o := (opOf (cgo 21 [] [.code B91])).getD default) (x := .tmp 13) (args := #[.tmp 14]) (ts := #[22]) (l := 5) (st := .ready) (fn := 17) (tml := tm17) (R := R17) (N := 6) (by kernel_rfl) (by kernel_rfl) (by kernel_rfl) (T' := (cgo 22 [] [.code B91])) (by kernel_rfl) (by kernel_rfl) (by kernel_rfl) (by kernel_rfl) (by kernel_rfl) (by kernel_rfl) (by kernel_rfl) (body17 rs g bs mv (piece bs) (by rw [piece_length hf1]; omega) (by omega) (by omega)) ?_
      rintro r σ' ⟨rfl, rfl⟩
      refine ⟨_, rfl, ?_⟩
      refine .seg 10 [0, 1, 18, 21] (T' := cgo 32 [false] [.code B91]) (tm' := mk 23 [(0, .yield 5), (1, .ptr 2 0 0), (18, .d (bsD bs)), (21, .d (.int .i64 (iadd .i64 (((piece bs).map u8).length : Nat) 8)))]) (σ' := S17 (rs ++ [piece bs]) (g + ((piece bs).length + 8)) bs true .ready) (by kernel_rfl) ?_
      rw [List.length_map, piece_length hf1, iadd_i64 (by omega) (by omega), show (nOf bs : Int) + 8 = ((nOf bs + 8 : Nat) : Int) by omega]
      refine .opH (o := (opOf (cgo 32 [false] [.code B91])).getD default) (by kernel_rfl) (by kernel_rfl) (by kernel_rfl) (T' := cgo 33 [false] [.code B91]) (by kernel_rfl) (slData_ok (t := 22) (x := .tmp 18) (lo := some (.tmp 21)) (hi := none) (sz := 1) (xs := bs.map u8) (nOf bs + 8) (bs.map u8).length (by kernel_rfl) (by kernel_rfl) (by kernel_rfl) ⟨.i64, ((nOf bs + 8 : Nat) : Int), by kernel_rfl, Int.natCast_nonneg _, Int.toNat_natCast _⟩ rfl (by simp; omega) (by omega)) ?_
      rw [List.take_length, ← List.map_drop]
      refine .seg 4 [0, 1] (T' := cgo 2 [] [.code B91]) (tm' := mk 23 [(0, .yield 5), (1, .ptr 2 0 0)]) (σ' := S17 (rs ++ [piece bs]) (g + (nOf bs + 8)) (bs.drop (nOf bs + 8)) true .ready) (by kernel_rfl) ?_
      have := ih (rs ++ [piece bs]) (g + (nOf bs + 8)) (bs.drop (nOf bs + 8)) true (by simp; omega) (by simp; omega) (by simp; omega)
      refine this.mono ?_
      rintro r σ' ⟨rest, mv', rfl, rfl⟩
      refine ⟨rest, mv', rfl, ?_⟩
      have e : recs (m + 1) bs = piece bs :: recs m (bs.drop (nOf bs + 8)) := by rw [recs, if_pos hf]
      rw [e]
      simp [good, piece_length hf1, Nat.add_assoc]
def parsed (bs : List UInt8) : List (List UInt8) := recs (bs.length + 1) bs
theorem it91_calls (bs : List UInt8) (hlen : bs.length ≤ 1099511627776) : CallsA Try.prog 91 [.yield 5, .ptr 2 0 0] (S17 [] 0 bs false .ready) fun r σ' => ∃ rest mv', r = .ret (.tuple []) ∧ σ' = S17 (parsed bs) (good (parsed bs)) rest mv' .ready := by
  refine CallsA.start F91 (tm := mk 23 [(0, .yield 5), (1, .ptr 2 0 0)]) (by kernel_rfl) ?_
  refine .seg 2 [0, 1] (T' := (cgo 2 [] [.code B91])) (tm' := mk 23 [(0, .yield 5), (1, .ptr 2 0 0)]) (σ' := S17 [] 0 bs false .ready) (by kernel_rfl) ?_
  have := it91 (bs.length + 1) [] 0 bs false (by omega) (by omega) (by simp; omega)
  simp only [List.nil_append, Nat.zero_add] at this
  exact this
theorem parse_pure (bs : List UInt8) (hlen : bs.length ≤ 1099511627776) : Pure Try.prog 17 [.d (bsD bs)] (.tuple [.d (.list 1 ((parsed bs).map bsD)), .d (i64 (good (parsed bs)))]) := by
  refine CallsA.pure ?_ rfl
  refine CallsA.start F17 (tm := (mk 20 [(0, .d (bsD bs))])) (by kernel_rfl) ?_
  refine .seg 2 [0] (T' := cgo 2 [] [.code B17]) (tm' := mk 20 [(0, .d (bsD bs))]) (σ' := []) (by kernel_rfl) ?_
  refine .opH (o := (opOf (cgo 2 [] [.code B17])).getD default) (by kernel_rfl) (by kernel_rfl) (by kernel_rfl) (T' := cgo 3 [] [.code B17]) (by kernel_rfl) (allocNil_ok (t := 26) (by kernel_rfl) (by kernel_rfl)) ?_
  refine .seg 6 [2, 3, 5] (T' := cgo 9 [] [.code B17]) (tm' := mk 20 [(2, .ptr 0 0 0), (3, .ptr 1 0 0), (5, .d (bsD bs))]) (σ' := [.cells [.nils], .cells [.d (i64 0)]]) (by kernel_rfl) ?_
  refine .semH (o := (opOf (cgo 9 [] [.code B17])).getD default) (v := .fn (.func 91) [] [.ptr 2 0 0]) (σ' := [.cells [.nils], .cells [.d (i64 0)], .cells [.d (bsD bs)]]) (by kernel_rfl) (by kernel_rfl) (T' := cgo 10 [] [.code B17]) (by kernel_rfl) (fun k => sem_data (x := .func 60) (args := #[.tmp 5]) (ts := #[22]) (first := []) (cap := []) F60 (frames_pure bs) (by kernel_rfl) (by kernel_rfl) (by kernel_rfl) (by kernel_rfl) (by kernel_rfl) [.cells [.nils], .cells [.d (i64 0)]]) ?_
  refine .seg 2 [2, 3, 6] (T' := cgo 12 [] [.code B17]) (tm' := mk 20 [(2, .ptr 0 0 0), (3, .ptr 1 0 0), (6, .fn (.func 91) [] [.ptr 2 0 0])]) (σ' := [.cells [.nils], .cells [.d (i64 0)], .cells [.d (bsD bs)]]) (by kernel_rfl) ?_
  refine .virt 0 0 1 rfl rfl ?_
  refine .rangeH (first := []) (cap := [.ptr 2 0 0]) [0, 1, 2, 3, 4, 5] [.yield 5, .ptr 2 0 0] (S17 [] 0 bs false .ready) F91 (by kernel_rfl) (T' := (cgo 13 [] [.code B17])) (by kernel_rfl) (by kernel_rfl) (it91_calls bs hlen) (by kernel_rfl) (by kernel_rfl) (by refine ⟨rfl, rfl, ?_⟩; kernel_rfl) ?_
  rintro r σc' ⟨rest, mv', rfl, rfl⟩
  refine ⟨.tuple [], .ready, tm17, rfPs (cgo 12 [] [.code B17]), rfAs (cgo 12 [] [.code B17]), rfBd (cgo 12 [] [.code B17]), 17, rfl, by simp, by kernel_rfl, ?_⟩
  refine .seg 2 [2, 3] (T' := cgo 15 [] [.code B17]) (tm' := mk 20 [(2, .ptr 0 0 0), (3, .ptr 1 0 0)]) (σ' := S17 (parsed bs) (good (parsed bs)) rest mv' .exhausted) (by kernel_rfl) ?_
  refine .draw2H (T' := (cgo 16 [] [.code B17])) (tm' := (mk 20 [(2, .ptr 0 0 0), (3, .ptr 1 0 0), (18, .row 3), (19, .d (.int .i64 (good (parsed bs))))])) (σ' := S17 (parsed bs) (good (parsed bs)) rest mv' .exhausted) [1, 1, 2, 2] 1 2 [0, 1, 2, 3] [0, 2, 1, 3] (by kernel_rfl) (by kernel_rfl) (by kernel_rfl) (by kernel_rfl) (fun k => srun_ok (by kernel_rfl)) (fun k => srun_ok (by kernel_rfl)) ?_
  refine .freeze 3 (sz := 1) (xs := (parsed bs).map bsD) (mv := mv') rfl ?_
  refine .retD F17 (by kernel_rfl) ⟨rfl, by simp⟩ rfl (by kernel_rfl) rfl
end Go.Proofs.Ytoelkgbeefoplaa
namespace Go.Proofs.Ytoelkgbeefoplaa
open Go Go.Br Go.Proofs
def strOf (bs : List UInt8) : ByteArray := ⟨bs.toArray⟩
theorem strOf_eq (a b : List UInt8) : ((strOf a).toList == (strOf b).toList) = decide (a = b) := by
  rw [ByteArray.toList_eq, ByteArray.toList_eq]
  rw [Bool.eq_iff_iff]
  simp [strOf]
theorem bsD_get {a : List (List UInt8)} {i : Nat} (h : i < a.length) : (a.map bsD)[((i : Nat) : Int).toNat]? = some (bsD (a.getD i [])) := by
  simp [h]
theorem bts_data {P : Program} {tm : List V} {σ : Store} {o : Oper} {s t : TypeId} {x : Operand} {bs : List UInt8} (ho : o.op = .convert s t x) (hs : isU8s P s = true) (ht : isStrT P t = true) (hx : ev tm x = .d (bsD bs)) : OpOk P o tm σ (.d (.str (strOf bs))) tm σ :=
  bts_ok ho hs ht (.inl ⟨by rw [hx]; rfl, fun z hz => by rw [hx] at hz; cases hz⟩)
noncomputable def B20 : Code := (Try.f20.body).getD .skip
theorem F20 : Fnc Try.prog 20 Try.f20 B20 := ⟨Try.func20, by kernel_rfl, by kernel_rfl⟩
section
variable {n : Nat} {Q : AE → Store → Prop}
theorem lp20 (a b : List (List UInt8)) (hab : a.length = b.length) (hlen : a.length < 9223372036854775807) (hq : Q (.ret (.d (.bool (decide (a = b))))) []) : ∀ (m i : Nat), i + m = a.length → a.take i = b.take i →
    AW Try.prog 20 none n ((cgo 24 [false] [.code B20])) ((mk 28 [(0, .d (.list 1 (a.map bsD))), (1, .d (.list 1 (b.map bsD))), (12, .d (.int .i64 (a.length))), (13, .d (.int .i64 (i)))])) [] [] Q := by
  intro m
  induction m with
  | zero =>
    intro i hi hp
    obtain rfl : i = a.length := by omega
    have he : a = b := by
      rw [List.take_length, hab, List.take_length] at hp
      exact hp
    refine .seg 5 [14] (T' := cgo 29 [false] [.code B20]) (tm' := mk 28 [(14, .d (.bool (decide ((a.length : Int) < a.length))))]) (σ' := []) (by kernel_rfl) ?_
    refine .ifH (b := decide ((a.length : Int) < a.length)) (by kernel_rfl) (by kernel_rfl) (T1 := cgo 30 [false, true] [.code B20]) (T2 := cgo 30 [false, false] [.code B20]) (by kernel_rfl) (by kernel_rfl) (fun h => absurd h (by simp)) (fun _ => ?_)
    refine .seg 5 [4] (T' := cgo 35 [false, false] [.code B20]) (tm' := mk 28 [(4, .d (.bool (true)))]) (σ' := []) (by kernel_rfl) ?_
    rw [decide_eq_true he] at hq
    exact .retH F20 (by kernel_rfl) (by kernel_rfl) (hq)
  | succ m ih =>
    intro i hi hp
    have h1 : i < a.length := by omega
    have h2 : i < b.length := by omega
    refine .seg 5 [0, 1, 12, 13, 14] (T' := cgo 29 [false] [.code B20]) (tm' := mk 28 [(0, .d (.list 1 (a.map bsD))), (1, .d (.list 1 (b.map bsD))), (12, .d (.int .i64 (a.length))), (13, .d (.int .i64 (i))), (14, .d (.bool (decide ((i : Int) < a.length))))]) (σ' := []) (by kernel_rfl) ?_
    refine .ifH (b := decide ((i : Int) < a.length)) (by kernel_rfl) (by kernel_rfl) (T1 := cgo 30 [false, true] [.code B20]) (T2 := cgo 30 [false, false] [.code B20]) (by kernel_rfl) (by kernel_rfl) (fun _ => ?_) (fun h => absurd h (by simp; omega))
    refine .seg 9 [0, 1, 5, 12, 13] (T' := cgo 39 [false, true] [.code B20]) (tm' := mk 28 [(0, .d (.list 1 (a.map bsD))), (1, .d (.list 1 (b.map bsD))), (5, .d (.int .i64 (i))), (12, .d (.int .i64 (a.length))), (13, .d (.int .i64 (i)))]) (σ' := []) (by kernel_rfl) ?_
    refine .drawH (T' := (cgo 40 [false, true] [.code B20])) (tm' := (mk 28 [(0, .d (.list 1 (a.map bsD))), (1, .d (.list 1 (b.map bsD))), (5, .d (.int .i64 (i))), (12, .d (.int .i64 (a.length))), (13, .d (.int .i64 (i))), (16, .d (.list 1 (a.map bsD))), (17, .d (.int .i64 (i))), (18, .ep 1 (bsD (a.getD i [])) 0), (19, .d (bsD (a.getD i []))), (20, .d (.str (strOf (a.getD i [])))), (21, .d (.list 1 (b.map bsD))), (22, .d (.int .i64 (i))), (23, .ep 1 (bsD (b.getD i [])) 0), (24, .d (bsD (b.getD i []))), (25, .d (.str (strOf (b.getD i [])))), (26, .d (.bool (!((strOf (a.getD i [])).toList == (strOf (b.getD i [])).toList))))])) (σ' := []) (List.replicate 11 0) [0, 1, 2, 3, 4, 5, 6, 7, 8, 9, 10] (by kernel_rfl) (by kernel_rfl) (by kernel_rfl) (by kernel_rfl) (fun k => ?_) ?_
    · refine Run.append (A := [0, 1]) (srun_ok (tm' := (mk 28 [(0, .d (.list 1 (a.map bsD))), (1, .d (.list 1 (b.map bsD))), (5, .d (.int .i64 (i))), (12, .d (.int .i64 (a.length))), (13, .d (.int .i64 (i))), (16, .d (.list 1 (a.map bsD))), (17, .d (.int .i64 (i)))])) (σ' := []) (by kernel_rfl)) ?_
      refine Run.one (StepQ.rule (o := ((drawOf (cgo 39 [false, true] [.code B20]))[2]?).getD default) (v := .ep 1 (bsD (a.getD i [])) 0) [.tmp 16, .tmp 17] (by kernel_rfl) (by kernel_rfl) (by kernel_rfl) (by kernel_rfl) (by kernel_rfl) (fun s tm' hv => ixData_ok (t := 26) (x := .tmp 16) (i := .tmp 17) (sz := 1) (xs := a.map bsD) (k := .i64) (n := i) (by kernel_rfl) (by rw [hv _ (by simp)]; kernel_rfl) ((hv _ (by simp)).trans (by kernel_rfl)) (by kernel_rfl) (by omega) (bsD_get h1))) ?_
      refine Run.append (A := [3]) (srun_ok (tm' := (mk 28 [(0, .d (.list 1 (a.map bsD))), (1, .d (.list 1 (b.map bsD))), (5, .d (.int .i64 (i))), (12, .d (.int .i64 (a.length))), (13, .d (.int .i64 (i))), (16, .d (.list 1 (a.map bsD))), (17, .d (.int .i64 (i))), (18, .ep 1 (bsD (a.getD i [])) 0), (19, .d (bsD (a.getD i [])))])) (σ' := []) (by kernel_rfl)) ?_
      refine Run.one (StepQ.rule (o := ((drawOf (cgo 39 [false, true] [.code B20]))[4]?).getD default) (v := .d (.str (strOf (a.getD i [])))) [.tmp 19] (by kernel_rfl) (by kernel_rfl) (by kernel_rfl) (by kernel_rfl) (by kernel_rfl) (fun s tm' hv => bts_data (s := 22) (t := 9) (x := .tmp 19) (by kernel_rfl) (by kernel_rfl) (by kernel_rfl) ((hv _ (by simp)).trans (by kernel_rfl)))) ?_
      refine Run.append (A := [5, 6]) (srun_ok (tm' := (mk 28 [(0, .d (.list 1 (a.map bsD))), (1, .d (.list 1 (b.map bsD))), (5, .d (.int .i64 (i))), (12, .d (.int .i64 (a.length))), (13, .d (.int .i64 (i))), (16, .d (.list 1 (a.map bsD))), (17, .d (.int .i64 (i))), (18, .ep 1 (bsD (a.getD i [])) 0), (19, .d (bsD (a.getD i []))), (20, .d (.str (strOf (a.getD i [])))), (21, .d (.list 1 (b.map bsD))), (22, .d (.int .i64 (i)))])) (σ' := []) (by kernel_rfl)) ?_
      refine Run.one (StepQ.rule (o := ((drawOf (cgo 39 [false, true] [.code B20]))[7]?).getD default) (v := .ep 1 (bsD (b.getD i [])) 0) [.tmp 21, .tmp 22] (by kernel_rfl) (by kernel_rfl) (by kernel_rfl) (by kernel_rfl) (by kernel_rfl) (fun s tm' hv => ixData_ok (t := 26) (x := .tmp 21) (i := .tmp 22) (sz := 1) (xs := b.map bsD) (k := .i64) (n := i) (by kernel_rfl) (by rw [hv _ (by simp)]; kernel_rfl) ((hv _ (by simp)).trans (by kernel_rfl)) (by kernel_rfl) (by omega) (bsD_get h2))) ?_
      refine Run.append (A := [8]) (srun_ok (tm' := (mk 28 [(0, .d (.list 1 (a.map bsD))), (1, .d (.list 1 (b.map bsD))), (5, .d (.int .i64 (i))), (12, .d (.int .i64 (a.length))), (13, .d (.int .i64 (i))), (16, .d (.list 1 (a.map bsD))), (17, .d (.int .i64 (i))), (18, .ep 1 (bsD (a.getD i [])) 0), (19, .d (bsD (a.getD i []))), (20, .d (.str (strOf (a.getD i [])))), (21, .d (.list 1 (b.map bsD))), (22, .d (.int .i64 (i))), (23, .ep 1 (bsD (b.getD i [])) 0), (24, .d (bsD (b.getD i [])))])) (σ' := []) (by kernel_rfl)) ?_
      refine Run.one (StepQ.rule (o := ((drawOf (cgo 39 [false, true] [.code B20]))[9]?).getD default) (v := .d (.str (strOf (b.getD i [])))) [.tmp 24] (by kernel_rfl) (by kernel_rfl) (by kernel_rfl) (by kernel_rfl) (by kernel_rfl) (fun s tm' hv => bts_data (s := 22) (t := 9) (x := .tmp 24) (by kernel_rfl) (by kernel_rfl) (by kernel_rfl) ((hv _ (by simp)).trans (by kernel_rfl)))) ?_
      exact srun_ok (by kernel_rfl)
    rw [strOf_eq]
    refine .ifH (b := !(decide (a.getD i [] = b.getD i []))) (by kernel_rfl) (by kernel_rfl) (T1 := cgo 41 [false, true, true] [.code B20]) (T2 := cgo 41 [false, true, false] [.code B20]) (by kernel_rfl) (by kernel_rfl) (fun h => ?_) (fun h => ?_)
    · have hne : a ≠ b := by
        intro e; subst e; simp at h
      refine .seg 4 [4] (T' := cgo 45 [false, true, true] [.code B20]) (tm' := mk 28 [(4, .d (.bool (false)))]) (σ' := []) (by kernel_rfl) ?_
      rw [decide_eq_false hne] at hq
      exact .retH F20 (by kernel_rfl) (by kernel_rfl) (hq)
    · have heq : a.getD i [] = b.getD i [] := by simpa using h
      refine .seg 7 [0, 1, 12, 13] (T' := cgo 24 [false] [.code B20]) (tm' := mk 28 [(0, .d (.list 1 (a.map bsD))), (1, .d (.list 1 (b.map bsD))), (12, .d (.int .i64 (a.length))), (13, .d (.int .i64 (iadd .i64 i 1)))]) (σ' := []) (by kernel_rfl) ?_
      rw [iadd_i64 (by omega) (by omega)]
      refine ih (i + 1) (by omega) ?_
      rw [List.take_succ_eq_append_getElem h1, List.take_succ_eq_append_getElem h2, hp]
      simp only [List.getD_eq_getElem?_getD, List.getElem?_eq_getElem h1, List.getElem?_eq_getElem h2, Option.getD_some] at heq
      rw [heq]
end
theorem same_pure (a b : List (List UInt8)) (ha : a.length < 9223372036854775807) : Pure Try.prog 20 [.d (.list 1 (a.map bsD)), .d (.list 1 (b.map bsD))] (.d (.bool (decide (a = b)))) := by
  refine CallsA.start F20 (tm := (mk 28 [(0, .d (.list 1 (a.map bsD))), (1, .d (.list 1 (b.map bsD)))])) (by kernel_rfl) ?_
  refine .seg 13 [0, 1, 10] (T' := cgo 13 [] [.code B20]) (tm' := mk 28 [(0, .d (.list 1 (a.map bsD))), (1, .d (.list 1 (b.map bsD))), (10, .d (.bool (((a.map bsD).length : Int) != ((b.map bsD).length : Int))))]) (σ' := []) (by kernel_rfl) ?_
  rw [List.length_map, List.length_map]
  by_cases hab : a.length = b.length
  · rw [show ((a.length : Int) != (b.length : Int)) = false by simp [hab]]
    refine .seg 11 [0, 1, 12, 13] (T' := cgo 24 [false] [.code B20]) (tm' := mk 28 [(0, .d (.list 1 (a.map bsD))), (1, .d (.list 1 (b.map bsD))), (12, .d (.int .i64 (((a.map bsD).length : Nat)))), (13, .d (.int .i64 (0)))]) (σ' := []) (by kernel_rfl) ?_
    rw [List.length_map]
    refine lp20 a b hab ha ?_ a.length 0 (by omega) rfl
    exact ⟨rfl, rfl⟩
  · have hne : a ≠ b := fun e => hab (by rw [e])
    rw [show ((a.length : Int) != (b.length : Int)) = true by simp; omega, decide_eq_false hne]
    refine .seg 5 [4] (T' := cgo 18 [true] [.code B20]) (tm' := mk 28 [(4, .d (.bool (false)))]) (σ' := []) (by kernel_rfl) ?_
    exact .retH F20 (by kernel_rfl) (by kernel_rfl) (⟨rfl, rfl⟩)
end Go.Proofs.Ytoelkgbeefoplaa
namespace Go.Proofs.Ytoelkgbeefoplaa
open Go Go.Br Go.Proofs
def rlen (bs : List UInt8) : Nat := (bs.getD 0 0).toNat + (bs.getD 1 0).toNat * 256 + (bs.getD 2 0).toNat * 65536
end Go.Proofs.Ytoelkgbeefoplaa
namespace Go.Proofs.Ytoelkgbeefoplaa
open Go Go.Br Go.Proofs Go.ChangeShapes Go.WideShapes Go.ChangeAt Go.RowKit
theorem own : ownKnob Try.prog.godebug = none := by kernel_rfl
theorem laidOut : laidOutB Try.prog = true := by kernel_rfl
def I0 (W : World) (b : Nat) : Prop := b < W.heap.size
theorem orel0 (W : World) : ORel W (I0 W) (fun _ => none) [] :=
  ⟨fun l o h => by simp at h, fun l l' L L' h => by obtain ⟨o, h, _⟩ := h; simp at h, fun b h => by obtain ⟨l, o, L, h, _⟩ := h; simp at h, fun b hb => ⟨hb, fun h => by obtain ⟨l, o, L, h, _⟩ := h; simp at h⟩⟩
theorem below0 {W W' : World} {I' : Nat → Prop} {ρ' : LM} {σ' : Store} (h : Ext 0 W (I0 W) (fun _ => none) [] W' I' ρ' σ') : Below W.heap.size W W' :=
  ⟨h.os, h.tape, h.output, h.size, fun k hk => h.old k hk fun hf => by obtain ⟨l, o, L, h, _⟩ := hf; simp at h⟩
theorem law_calls {P : Program} {g : FuncId} {args : List V} (h : Br.Pure P g args (.d (.bool true))) {W : World} {xs : List Value} (hx : vrL W (I0 W) (fun _ => none) [] args xs) :
    Calls P g xs.toArray W fun e W' => e = .returned (.bool true) ∧ Below W.heap.size W W' := by
  refine (h W (I0 W) (fun _ => none) xs hx (orel0 W)).mono ?_
  rintro e W' ⟨I', ρ', σ', r, ⟨rfl, rfl⟩, ⟨x, rfl, hx⟩, _, hE⟩
  simp only [vr, Dr] at hx
  subst hx
  exact ⟨rfl, below0 hE⟩
section
variable {H : Type} {enc : TypeId × Value → H} {W : World}
end
end Go.Proofs.Ytoelkgbeefoplaa
namespace Go.Br
open Go
def isAggB (P : Program) (t : TypeId) : Bool := match P.underlying t with | some (.struct _) | some (.array _ _) => true | _ => false
def layB (P : Program) : List Field → Nat → Option Nat
  | [], o => some o
  | f :: fs, o => if f.offset = o then layB P fs (o + P.cellsOf f.type) else none
def plainB (P : Program) : Nat → TypeId → Bool
  | 0, _ => false
  | n + 1, t => match P.underlying t with
    | some .bool | some (.int _) | some .string => Nat.beq (P.cellsOf t) 1
    | some (.slice e) => Nat.beq (P.cellsOf t) 1 && (Nat.blt 0 (P.cellsOf e) && plainB P n e)
    | some (.struct fs) => (layB P fs.toList 0 == some (P.cellsOf t)) && fs.toList.all fun f => plainB P n f.type
    | some (.array m e) => Nat.beq (m * P.cellsOf e) (P.cellsOf t) && plainB P n e
    | _ => false
def WtC (P : Program) : Nat → TypeId → List D → Prop
  | 0, _, _ => False
  | n + 1, t, ds => match P.underlying t with
    | some .bool => ∃ b, ds = [.bool b]
    | some (.int k) => ∃ x, ds = [.int k x] ∧ k.min ≤ x ∧ x ≤ k.max
    | some .string => ∃ s, ds = [.str s] ∧ s.size ≤ maxLen
    | some (.slice e) => ∃ xs, ds = [.list (P.cellsOf e) xs] ∧ xs.length ≤ maxLen ∧ ∀ x ∈ xs, if isAggB P e = true then ∃ cs, x = .agg cs ∧ cs.length = P.cellsOf e ∧ WtC P n e cs else WtC P n e [x]
    | some (.struct fs) => ∀ f ∈ fs.toList, WtC P n f.type ((ds.drop f.offset).take (P.cellsOf f.type))
    | some (.array m e) => ∀ i, i < m → WtC P n e ((ds.drop (i * P.cellsOf e)).take (P.cellsOf e))
    | _ => False
def WtE (P : Program) (n : Nat) (e : TypeId) (x : D) : Prop := if isAggB P e = true then ∃ cs, x = .agg cs ∧ cs.length = P.cellsOf e ∧ WtC P n e cs else WtC P n e [x]
theorem choose_list {α : Type} {R : Nat → α → Prop} : ∀ (n : Nat), (∀ i, i < n → ∃ d, R i d) → ∃ xs : List α, xs.length = n ∧ ∀ i d, xs[i]? = some d → R i d
  | 0, _ => ⟨[], rfl, fun i d h => by simp at h⟩
  | n + 1, h => by
    obtain ⟨xs, h1, h2⟩ := choose_list n fun i hi => h i (by omega)
    obtain ⟨d, hd⟩ := h n (by omega)
    refine ⟨xs ++ [d], by simp [h1], fun i e he => ?_⟩
    by_cases hi : i < xs.length
    · rw [List.getElem?_append_left hi] at he; exact h2 i e he
    · rw [List.getElem?_append_right (by omega)] at he
      have : i - xs.length = 0 := by
        rcases Nat.eq_zero_or_pos (i - xs.length) with h | h
        · exact h
        · simp [List.getElem?_eq_none (show [d].length ≤ i - xs.length by simp; omega)] at he
      rw [this] at he
      simp at he
      subst he
      obtain rfl : i = n := by omega
      exact hd
section
variable {W : World} {I : Nat → Prop}
theorem DrE_of_get {sz b : Nat} : ∀ {xs : List D} {o : Nat}, (∀ i d, xs[i]? = some d → ∃ v, Dr W I d v ∧ v.cells.size = sz ∧ ∀ j, j < sz → W.cell? ⟨b, o + i * sz + j, none⟩ = v.cells[j]?) → DrE W I sz b o xs
  | [], _, _ => by simp [DrE]
  | x :: xs, o, h => by
    simp only [DrE]
    refine ⟨?_, DrE_of_get fun i d hd => ?_⟩
    · have := h 0 x (by simp)
      simpa using this
    · have := h (i + 1) d (by simpa using hd)
      rw [show o + (i + 1) * sz = o + sz + i * sz by rw [Nat.add_mul]; omega] at this
      exact this
end
theorem drop_take_cat {α : Type} (cs : List α) (o a : Nat) : (cs.drop o).take a ++ cs.drop (o + a) = cs.drop o := by
  have := List.take_append_drop a (cs.drop o)
  rwa [List.drop_drop] at this
section
variable {H : Type} {enc : TypeId × Value → H} {P : Program} {W : World} {base : Nat} {spare : Nat → Bool} {held : Bool}
theorem fields_read {cs : List Value} {R : TypeId → List D → Prop} : ∀ (fs : List Field) (o tot : Nat), layB P fs o = some tot → tot = cs.length → o ≤ cs.length →
    (∀ f ∈ fs, f.offset + P.cellsOf f.type ≤ cs.length → ∃ ds, DrL W (fun b => b < W.heap.size) ds ((cs.drop f.offset).take (P.cellsOf f.type)) ∧ R f.type ds) →
    ∃ ds, DrL W (fun b => b < W.heap.size) ds (cs.drop o) ∧ ∀ f ∈ fs, o ≤ f.offset ∧ R f.type ((ds.drop (f.offset - o)).take (P.cellsOf f.type))
  | [], o, tot, hl, ht, ho, _ => by
    simp only [layB, Option.some.injEq] at hl
    subst hl ht
    refine ⟨[], ?_, fun f hf => by cases hf⟩
    rw [List.drop_length]; simp [DrL]
  | f :: fs, o, tot, hl, ht, ho, h => by
    simp only [layB] at hl
    split at hl
    · rename_i hfo
      have hmono : ∀ (fs : List Field) (o tot : Nat), layB P fs o = some tot → o ≤ tot := by
        intro fs
        induction fs with
        | nil => intro o tot h; simp only [layB, Option.some.injEq] at h; omega
        | cons g gs ih =>
          intro o tot h
          simp only [layB] at h
          split at h
          · have := ih _ _ h; omega
          · cases h
      have hle := hmono fs _ _ hl
      obtain ⟨ds1, h1, h2⟩ := h f (by simp) (by omega)
      rw [hfo] at h1
      obtain ⟨ds2, h3, h4⟩ := fields_read fs (o + P.cellsOf f.type) tot hl ht (by omega) fun g hg => h g (by simp [hg])
      have hlen : ds1.length = P.cellsOf f.type := by
        have := DrL_len h1
        simp at this; omega
      refine ⟨ds1 ++ ds2, ?_, fun g hg => ?_⟩
      · rw [← drop_take_cat cs o (P.cellsOf f.type)]
        exact DrL_append h1 h3
      · rcases List.mem_cons.1 hg with rfl | hg
        · refine ⟨by omega, ?_⟩
          rw [hfo, Nat.sub_self, List.drop_zero, ← hlen, List.take_left]
          exact h2
        · obtain ⟨k1, k2⟩ := h4 g hg
          refine ⟨by omega, ?_⟩
          rw [List.drop_append, List.drop_eq_nil_of_le (by omega), List.nil_append, show g.offset - o - ds1.length = g.offset - (o + P.cellsOf f.type) by omega]
          exact k2
    · cases hl
theorem elems_read {cs : List Value} {R : List D → Prop} {c : Nat} : ∀ (m o : Nat), o + m * c = cs.length →
    (∀ i, i < m → ∃ ds, DrL W (fun b => b < W.heap.size) ds ((cs.drop (o + i * c)).take c) ∧ R ds) →
    ∃ ds, DrL W (fun b => b < W.heap.size) ds (cs.drop o) ∧ ∀ i, i < m → R ((ds.drop (i * c)).take c)
  | 0, o, ho, _ => by
    refine ⟨[], ?_, fun i hi => by omega⟩
    rw [List.drop_eq_nil_of_le (by omega)]; simp [DrL]
  | m + 1, o, ho, h => by
    have hm : (m + 1) * c = m * c + c := Nat.succ_mul m c
    obtain ⟨ds1, h1, h2⟩ := h 0 (by omega)
    rw [Nat.zero_mul, Nat.add_zero] at h1
    obtain ⟨ds2, h3, h4⟩ := elems_read (cs := cs) (R := R) (c := c) m (o + c) (by omega) fun i hi => by
      have := h (i + 1) (by omega)
      rwa [show o + (i + 1) * c = o + c + i * c by rw [Nat.succ_mul]; omega] at this
    have hlen : ds1.length = c := by
      have := DrL_len h1
      simp at this; omega
    refine ⟨ds1 ++ ds2, ?_, fun i hi => ?_⟩
    · rw [← drop_take_cat cs o c]
      exact DrL_append h1 h3
    · cases i with
      | zero => rw [Nat.zero_mul, List.drop_zero, ← hlen, List.take_left]; exact h2
      | succ i =>
        have e : (i + 1) * c = i * c + c := Nat.succ_mul i c
        rw [List.drop_append, List.drop_eq_nil_of_le (by omega), List.nil_append, show (i + 1) * c - ds1.length = i * c by omega]
        exact h4 i (by omega)
theorem cells_spot {a : Addr} {c : Nat} {vs : List Value} (h : W.cells? base a c = some vs) (hc : 0 < c) : a.spot = none ∧ a.block < W.heap.size ∧ vs.length = c ∧ ∀ j, j < c → W.cell? ⟨a.block, a.off + j, none⟩ = vs[j]? := by
  unfold World.cells? at h
  split at h
  · have hl := mapM_some_length h
    have hg := fun j (hj : j < c) => mapM_some_get h j j (by simp [hj])
    have h0 := hg 0 hc
    have hv : ∃ v, W.cell? a = some v := by
      have h1 : vs[0]? = some (vs[0]'(by simp at hl; omega)) := List.getElem?_eq_getElem (by simp at hl; omega)
      rw [h1] at h0
      exact ⟨_, by simpa [Addr.add] using h0⟩
    obtain ⟨v, hv⟩ := hv
    have hs : a.spot = none ∧ a.block < W.heap.size := by
      unfold World.cell? at hv
      split at hv
      · rename_i hh
        split at hv
        · cases hv
        · rename_i hs
          exact ⟨by simpa using hs, (Array.getElem?_eq_some_iff.1 hh).1⟩
      · cases hv
    refine ⟨hs.1, hs.2, by simpa using hl, fun j hj => ?_⟩
    rw [← hg j hj]
    have : a.add j = ⟨a.block, a.off + j, none⟩ := by
      obtain ⟨b, o, sp⟩ := a
      simp only at hs
      unfold Addr.add
      split
      · rename_i hj0; subst hj0; simp [hs.1]
      · rfl
    rw [this]
  · cases h
theorem cells_one {n : Nat} {e : TypeId} (h : plainB P n e = true) (ha : isAggB P e = false) : P.cellsOf e = 1 := by
  cases n with
  | zero => simp [plainB] at h
  | succ n =>
    unfold plainB at h
    unfold isAggB at ha
    split at h
    · simpa using h
    · simpa using h
    · simpa using h
    · simp only [Bool.and_eq_true] at h; simpa using h.1
    · rename_i hu; simp [hu] at ha
    · rename_i hu; simp [hu] at ha
    · cases h
theorem spot_of {a : Addr} {e : TypeId} {len fuel : Nat} {elems : List (DataW H × List MemPlace)} (hE : ∀ i, i < len → (W.cells? base (a.add (i * P.cellsOf e)) (P.cellsOf e)).bind (DataW.trod enc P W base spare held fuel e) = elems[i]?) (hl : elems.length = len) (hc : 0 < P.cellsOf e) (h0 : 0 < len) : a.spot = none := by
  have h1 := hE 0 h0
  rw [List.getElem?_eq_getElem (by omega)] at h1
  simp only [Option.bind_eq_some_iff] at h1
  obtain ⟨vs, h2, _⟩ := h1
  have := (cells_spot h2 hc).1
  simpa [Addr.add] using this
theorem plain_read : ∀ (n : Nat) {fuel : Nat} {t : TypeId} {cs : List Value} {x : DataW H × List MemPlace}, plainB P n t = true → DataW.trod enc P W base spare held fuel t cs = some x →
    ∃ ds, DrL W (fun b => b < W.heap.size) ds cs ∧ WtC P n t ds
  | 0, _, _, _, _, hp, _ => by simp [plainB] at hp
  | n + 1, 0, _, _, _, _, h => by simp [DataW.trod] at h
  | n + 1, fuel + 1, t, cs, x, hp, h => by
    unfold plainB at hp
    unfold WtC
    split at hp
    · rename_i hu
      unfold DataW.trod at h
      rw [hu] at h
      try simp only [hu]
      split at h <;> simp_all
      rename_i b
      refine ⟨[.bool b], ?_, ?_⟩
      · simp only [DrL, Dr]; exact ⟨_, [], rfl, rfl, rfl, rfl⟩
      · cases b <;> simp
    · rename_i k hu
      unfold DataW.trod at h
      rw [hu] at h
      try simp only [hu]
      split at h <;> (try cases h) <;> simp_all only [Option.some.injEq, TypeDesc.int.injEq, reduceCtorEq, Option.ite_none_right_eq_some]
      rename_i k' m _
      obtain ⟨⟨h1, hw⟩, _⟩ := h
      subst h1
      simp only [Lit.wf, Bool.and_eq_true, decide_eq_true_eq] at hw
      refine ⟨[.int _ m], ?_, m, rfl, hw.1, hw.2⟩
      simp only [DrL, Dr]; exact ⟨_, [], rfl, rfl, rfl, rfl⟩
    · rename_i hu
      unfold DataW.trod at h
      rw [hu] at h
      try simp only [hu]
      split at h <;> simp_all
      rename_i s
      refine ⟨[.str s], ?_, s, rfl, h.1⟩
      simp only [DrL, Dr]; exact ⟨_, [], rfl, rfl, rfl, rfl⟩
    · rename_i e hu
      try simp only [hu]
      simp only [Bool.and_eq_true, Nat.blt_eq] at hp
      obtain ⟨_, hc, hpe⟩ := hp
      rcases DataW.trod_slice hu h with ⟨rfl, _⟩ | ⟨a, len, cap, elems, rest, m, hm, rfl, _, hb, hlc, hcm, hel, hE, _⟩
      · refine ⟨[.list (P.cellsOf e) []], ?_, [], rfl, by simp [maxLen], fun x hx => by cases hx⟩
        simp only [DrL, Dr]
        exact ⟨_, [], rfl, by simp [one, Value.oneCell'], ⟨none, 0, rfl, by simp, by simp [maxLen], .inl trivial⟩, rfl⟩
      · obtain rfl : fuel = m := by omega
        have hi : ∀ i, i < len → ∃ d, (∃ v, Dr W (fun b => b < W.heap.size) d v ∧ v.cells.size = P.cellsOf e ∧ ∀ j, j < P.cellsOf e → W.cell? ⟨a.block, a.off + i * P.cellsOf e + j, none⟩ = v.cells[j]?) ∧ WtE P n e d ∧ a.spot = none ∧ a.block < W.heap.size := by
          intro i hi
          have h1 := hE i hi
          rw [List.getElem?_eq_getElem (by omega)] at h1
          simp only [Option.bind_eq_some_iff] at h1
          obtain ⟨vs, h2, h3⟩ := h1
          obtain ⟨g1, g2, g3, g4⟩ := cells_spot h2 hc
          obtain ⟨ds, k1, k2⟩ := plain_read n hpe h3
          have hadd : a.add (i * P.cellsOf e) = ⟨a.block, a.off + i * P.cellsOf e, a.spot⟩ ∨ (a.add (i * P.cellsOf e) = ⟨a.block, a.off + i * P.cellsOf e, none⟩) := by
            obtain ⟨b, o, sp⟩ := a
            unfold Addr.add
            split
            · rename_i hz; left; simp [hz]
            · right; rfl
          have hlenv := DrL_len k1
          by_cases hag : isAggB P e = true
          · refine ⟨.agg ds, ⟨.agg vs.toArray, by simp only [Dr]; exact ⟨vs, rfl, k1⟩, by simp [Value.cells, g3], fun j hj => ?_⟩, by unfold WtE; rw [if_pos hag]; exact ⟨ds, rfl, by omega, k2⟩, ?_, ?_⟩
            · have := g4 j hj
              rcases hadd with e' | e' <;> rw [e'] at this <;> simpa [Value.cells] using this
            · rcases hadd with e' | e'
              · rw [e'] at g1; exact g1
              · rw [e'] at g1
                exact spot_of hE hel hc (by omega)
            · rcases hadd with e' | e' <;> rw [e'] at g2 <;> exact g2
          · have hone : P.cellsOf e = 1 := cells_one hpe (by simpa using hag)
            obtain ⟨d, rfl⟩ : ∃ d, ds = [d] := List.length_eq_one_iff.1 (by omega)
            obtain ⟨v, rfl⟩ : ∃ v, vs = [v] := List.length_eq_one_iff.1 (by omega)
            simp only [DrL] at k1
            obtain ⟨v', vs', e1, hov, hdv, rfl⟩ := k1
            cases e1
            have hcells : v.cells = #[v] := by
              have := hov
              unfold one at this
              cases v <;> simp_all [Value.cells, Value.oneCell']
            refine ⟨d, ⟨v, hdv, by simp [hcells, hone], fun j hj => ?_⟩, by unfold WtE; rw [if_neg hag]; exact k2, ?_, ?_⟩
            · have := g4 j hj
              rw [hcells]
              rcases hadd with e' | e' <;> rw [e'] at this <;> simpa using this
            · rcases hadd with e' | e'
              · rw [e'] at g1; exact g1
              · exact spot_of hE hel hc (by omega)
            · rcases hadd with e' | e' <;> rw [e'] at g2 <;> exact g2
        obtain ⟨xs, hx1, hx2⟩ := choose_list len hi
        refine ⟨[.list (P.cellsOf e) xs], ?_, xs, rfl, by omega, fun x hx => ?_⟩
        · simp only [DrL, Dr]
          refine ⟨_, [], rfl, by simp [one, Value.oneCell'], ⟨some a, cap, by rw [hx1], by omega, hcm, ?_⟩, rfl⟩
          by_cases h0 : len = 0
          · left; exact List.eq_nil_of_length_eq_zero (by omega)
          · right
            obtain ⟨d, hd⟩ : ∃ d, xs[0]? = some d := ⟨xs[0]'(by omega), List.getElem?_eq_getElem (by omega)⟩
            obtain ⟨_, _, h5, h6⟩ := hx2 0 d hd
            refine ⟨a.block, a.off, by obtain ⟨b, o, sp⟩ := a; simp only at h5; rw [h5], h6, DrE_of_get fun i d hd => (hx2 i d hd).1⟩
        · obtain ⟨i, hi2, rfl⟩ := List.getElem_of_mem hx
          exact (hx2 i _ (List.getElem?_eq_getElem hi2)).2.1
    · rename_i fs hu
      try simp only [hu]
      simp only [Bool.and_eq_true, beq_iff_eq, List.all_eq_true] at hp
      obtain ⟨ys, m, hm, _, hcs, hlen, hf⟩ := DataW.trod_struct hu h
      obtain rfl : fuel = m := by omega
      obtain ⟨ds, k1, k2⟩ := fields_read (cs := cs) (R := WtC P n) fs.toList 0 (P.cellsOf t) hp.1 hcs.symm (by omega) fun f hfm _ => by
        obtain ⟨i, hi, rfl⟩ := List.getElem_of_mem hfm
        have h1 := hf i (fs.toList[i]) (by simp at hi; simp [hi])
        rw [List.getElem?_eq_getElem (by simp at hi; omega)] at h1
        exact plain_read n (hp.2 _ hfm) h1
      rw [List.drop_zero] at k1
      exact ⟨ds, k1, fun f hf => by have := (k2 f hf).2; rwa [Nat.sub_zero] at this⟩
    · rename_i m e hu
      try simp only [hu]
      simp only [Bool.and_eq_true, Nat.beq_eq] at hp
      obtain ⟨ys, m', hm', _, hcs, hlen, hf⟩ := DataW.trod_array hu h
      obtain rfl : fuel = m' := by omega
      obtain ⟨ds, k1, k2⟩ := elems_read (cs := cs) (R := WtC P n e) (c := P.cellsOf e) m 0 (by omega) fun i hi => by
        have h1 := hf i hi
        rw [List.getElem?_eq_getElem (by omega)] at h1
        rw [Nat.zero_add]
        exact plain_read n hp.2 h1
      rw [List.drop_zero] at k1
      exact ⟨ds, k1, k2⟩
    · cases hp
end
end Go.Br
namespace Go.Br
open Go Go.WideShapes
theorem arg_read {H : Type} {enc : TypeId × Value → H} {P : Program} {W : World} {base b2 : Nat} {spare : Nat → Bool} {held : Bool} {r : Reach} {t : TypeId} {v : Value} {d : DataW H} {ps : List MemPlace} (n : Nat) (hp : plainB P n t = true)
    (hval : Value.okWide P W r b2 t v) (h : DataW.Trod enc P W base spare held t v d ps) : ∃ x : D, Dr W (fun b => b < W.heap.size) x v ∧ WtE P n t x := by
  obtain ⟨fuel, hf⟩ := h
  obtain ⟨ds, h1, h2⟩ := plain_read n hp hf
  by_cases hag : isAggB P t = true
  · have : ∃ cs, v = .agg cs ∧ cs.size = P.cellsOf t := by
      unfold isAggB at hag
      unfold Value.okWide at hval
      split at hag
      · rename_i hu; rw [hu] at hval; obtain ⟨cs, e1, e2, _⟩ := hval; exact ⟨cs, e1, e2⟩
      · rename_i hu; rw [hu] at hval; obtain ⟨cs, e1, e2, _⟩ := hval; exact ⟨cs, e1, e2⟩
      · cases hag
    obtain ⟨cs, rfl, hcs⟩ := this
    have hl := DrL_len h1
    refine ⟨.agg ds, by simp only [Dr]; exact ⟨cs.toList, rfl, h1⟩, ?_⟩
    unfold WtE
    rw [if_pos hag]
    refine ⟨ds, rfl, ?_, h2⟩
    simp [Value.cells] at hl
    omega
  · have hone : v.cells = #[v] := by
      unfold plainB at hp
      cases n with
      | zero => simp at hp
      | succ n =>
        simp only at hp
        unfold isAggB at hag
        split at hp
        · rename_i hu; obtain ⟨b, rfl⟩ := okWide_bool hu hval; rfl
        · rename_i hu; obtain ⟨b, rfl⟩ := okWide_int hu hval; rfl
        · rename_i hu; obtain ⟨b, rfl⟩ := okWide_string hu hval; rfl
        · rename_i hu; obtain ⟨a, b, c, rfl⟩ := okWide_slice hu hval; rfl
        · rename_i hu; simp [hu] at hag
        · rename_i hu; simp [hu] at hag
        · cases hp
    rw [hone] at h1
    have hl := DrL_len h1
    obtain ⟨x, rfl⟩ : ∃ x, ds = [x] := List.length_eq_one_iff.1 (by simpa using hl.symm)
    simp only [DrL] at h1
    obtain ⟨v', vs', e1, _, hd, _⟩ := h1
    cases e1
    exact ⟨x, hd, by unfold WtE; rw [if_neg hag]; exact h2⟩
section
variable {P : Program} {n : Nat}
theorem WtE.bool {t : TypeId} {x : D} (h : WtE P n t x) (hu : P.underlying t = some .bool) : ∃ b, x = .bool b := by
  unfold WtE isAggB at h
  simp only [hu] at h
  cases n with
  | zero => simp [WtC] at h
  | succ n => simpa [WtC, hu] using h
theorem WtE.int {t : TypeId} {x : D} {k : IntKind} (h : WtE P n t x) (hu : P.underlying t = some (.int k)) : ∃ a, x = .int k a ∧ k.min ≤ a ∧ a ≤ k.max := by
  unfold WtE isAggB at h
  simp only [hu] at h
  cases n with
  | zero => simp [WtC] at h
  | succ n => simpa [WtC, hu] using h
theorem WtE.str {t : TypeId} {x : D} (h : WtE P n t x) (hu : P.underlying t = some .string) : ∃ s, x = .str s ∧ s.size ≤ maxLen := by
  unfold WtE isAggB at h
  simp only [hu] at h
  cases n with
  | zero => simp [WtC] at h
  | succ n => simpa [WtC, hu] using h
theorem WtE.slice {t e : TypeId} {x : D} (h : WtE P n t x) (hu : P.underlying t = some (.slice e)) : ∃ xs, x = .list (P.cellsOf e) xs ∧ xs.length ≤ maxLen ∧ ∀ y ∈ xs, WtE P (n - 1) e y := by
  unfold WtE at h
  have hag : isAggB P t = false := by simp [isAggB, hu]
  rw [hag] at h
  cases n with
  | zero => simp [WtC] at h
  | succ n =>
    simp only [WtC, hu, Bool.false_eq_true, if_false] at h
    obtain ⟨xs, h1, h2, h3⟩ := h
    simp only [List.cons.injEq, and_true] at h1
    exact ⟨xs, h1, h2, fun y hy => h3 y hy⟩
theorem WtE.slice_map {α : Type} {t e : TypeId} {x : D} (g : α → D) (ok : α → Prop) (h : WtE P n t x) (hu : P.underlying t = some (.slice e)) (hg : ∀ y, WtE P (n - 1) e y → ∃ a, y = g a ∧ ok a) :
    ∃ l : List α, x = .list (P.cellsOf e) (l.map g) ∧ l.length ≤ maxLen ∧ ∀ a ∈ l, ok a := by
  obtain ⟨xs, rfl, h2, h3⟩ := h.slice hu
  have : ∀ xs : List D, (∀ y ∈ xs, WtE P (n - 1) e y) → ∃ l : List α, xs = l.map g ∧ ∀ a ∈ l, ok a := by
    intro xs
    induction xs with
    | nil => intro _; exact ⟨[], rfl, fun a ha => by cases ha⟩
    | cons y ys ih =>
      intro h
      obtain ⟨l, h1, h2⟩ := ih fun z hz => h z (by simp [hz])
      obtain ⟨a, h3, h4⟩ := hg y (h y (by simp))
      exact ⟨a :: l, by simp [h3, h1], fun b hb => by rcases List.mem_cons.1 hb with rfl | hb; exact h4; exact h2 b hb⟩
  obtain ⟨l, rfl, h4⟩ := this xs h3
  exact ⟨l, rfl, by simpa using h2, h4⟩
theorem WtE.struct {t : TypeId} {x : D} {fs : Array Field} (h : WtE P n t x) (hu : P.underlying t = some (.struct fs)) : ∃ cs, x = .agg cs ∧ cs.length = P.cellsOf t ∧ ∀ f ∈ fs.toList, WtC P (n - 1) f.type ((cs.drop f.offset).take (P.cellsOf f.type)) := by
  unfold WtE at h
  have hag : isAggB P t = true := by simp [isAggB, hu]
  rw [if_pos hag] at h
  cases n with
  | zero => obtain ⟨_, _, _, h⟩ := h; simp [WtC] at h
  | succ n => simpa [WtC, hu] using h
theorem WtE.array {t : TypeId} {x : D} {m : Nat} {e : TypeId} (h : WtE P n t x) (hu : P.underlying t = some (.array m e)) : ∃ cs, x = .agg cs ∧ cs.length = P.cellsOf t ∧ ∀ i, i < m → WtC P (n - 1) e ((cs.drop (i * P.cellsOf e)).take (P.cellsOf e)) := by
  unfold WtE at h
  have hag : isAggB P t = true := by simp [isAggB, hu]
  rw [if_pos hag] at h
  cases n with
  | zero => obtain ⟨_, _, _, h⟩ := h; simp [WtC] at h
  | succ n => simpa [WtC, hu] using h
theorem WtC.one {t : TypeId} {ds : List D} (h : WtC P n t ds) (ha : isAggB P t = false) : ∃ x, ds = [x] ∧ WtE P n t x := by
  cases n with
  | zero => simp [WtC] at h
  | succ n =>
    have h' := h
    unfold WtC at h
    unfold WtE
    rw [ha]
    simp only [Bool.false_eq_true, if_false]
    unfold isAggB at ha
    split at h
    · obtain ⟨b, rfl⟩ := h; exact ⟨_, rfl, h'⟩
    · obtain ⟨b, rfl, _⟩ := h; exact ⟨_, rfl, h'⟩
    · obtain ⟨b, rfl, _⟩ := h; exact ⟨_, rfl, h'⟩
    · obtain ⟨b, rfl, _⟩ := h; exact ⟨_, rfl, h'⟩
    · rename_i hu; simp [hu] at ha
    · rename_i hu; simp [hu] at ha
    · cases h
theorem WtC.agg {t : TypeId} {ds : List D} (h : WtC P n t ds) (ha : isAggB P t = true) (hl : ds.length = P.cellsOf t) : WtE P n t (.agg ds) := by
  unfold WtE
  rw [if_pos ha]
  exact ⟨ds, rfl, hl, h⟩
end
end Go.Br
namespace Go.Proofs.Ytoelkgbeefoplaa
open Go Go.Br Go.Proofs
theorem or_shl (x y : BitVec 32) (k : Nat) (hx : x.toNat < 2 ^ k) (hy : y.toNat < 256) (hk : k + 8 ≤ 32) : (x ||| y <<< k).toNat = x.toNat + y.toNat * 2 ^ k := by
  rw [BitVec.toNat_or, BitVec.toNat_shiftLeft]
  have h1 : y.toNat <<< k < 2 ^ 32 := by
    rw [Nat.shiftLeft_eq]
    calc y.toNat * 2 ^ k < 256 * 2 ^ k := Nat.mul_lt_mul_of_pos_right hy (Nat.two_pow_pos k)
      _ = 2 ^ (k + 8) := by rw [Nat.pow_add, Nat.mul_comm]
      _ ≤ 2 ^ 32 := Nat.pow_le_pow_right (by omega) hk
  rw [Nat.mod_eq_of_lt h1, Nat.or_comm, ← Nat.shiftLeft_add_eq_or_of_lt hx, Nat.shiftLeft_eq, Nat.add_comm]
theorem zx_toNat (b : UInt8) : (zx b).toNat = b.toNat := by
  have := UInt8.toNat_lt b
  simp [zx]
theorem get4_toNat {bs : List UInt8} {k : Nat} (h : k + 4 ≤ bs.length) :
    (get4 bs k).toNat = (bs.getD k 0).toNat + (bs.getD (k + 1) 0).toNat * 256 + (bs.getD (k + 2) 0).toNat * 65536 + (bs.getD (k + 3) 0).toNat * 16777216 := by
  have h0 := UInt8.toNat_lt (bs.getD k 0)
  have h1 := UInt8.toNat_lt (bs.getD (k + 1) 0)
  have h2 := UInt8.toNat_lt (bs.getD (k + 2) 0)
  have h3 := UInt8.toNat_lt (bs.getD (k + 3) 0)
  have e0 : (0#32 ||| zx (bs.getD k 0) <<< 0).toNat = (bs.getD k 0).toNat := by simp [zx_toNat]
  have e1 := or_shl (0#32 ||| zx (bs.getD k 0) <<< 0) (zx (bs.getD (k + 1) 0)) 8 (by rw [e0]; omega) (by rw [zx_toNat]; omega) (by omega)
  rw [e0, zx_toNat] at e1
  have e2 := or_shl _ (zx (bs.getD (k + 2) 0)) 16 (by rw [e1]; omega) (by rw [zx_toNat]; omega) (by omega)
  rw [e1, zx_toNat] at e2
  have e3 := or_shl _ (zx (bs.getD (k + 3) 0)) 24 (by rw [e2]; omega) (by rw [zx_toNat]; omega) (by omega)
  rw [e2, zx_toNat] at e3
  rw [get4, if_pos h, e3]
theorem fits_iff (bs : List UInt8) : fits bs = (!(decide (bs.length < 8)) && !(decide ((bs.getD 3 0).toNat > 0)) && !(decide ((bs.getD 2 0).toNat > 1)) && !(decide (rlen bs > 65536)) && !(decide (bs.length < rlen bs + 8))) := by
  by_cases h4 : bs.length < 4
  · have h8 : bs.length < 8 := by omega
    simp [fits, h4, h8]
    omega
  · have hg := get4_toNat (bs := bs) (k := 0) (by omega)
    simp only [Nat.zero_add] at hg
    have h0 := UInt8.toNat_lt (bs.getD 0 0)
    have h1 := UInt8.toNat_lt (bs.getD 1 0)
    have h2 := UInt8.toNat_lt (bs.getD 2 0)
    have h3 := UInt8.toNat_lt (bs.getD 3 0)
    have hi := BitVec.toInt_eq_toNat_cond (get4 bs 0)
    rw [Bool.eq_iff_iff]
    simp only [fits, Bool.and_eq_true, decide_eq_true_eq, Bool.not_eq_true', decide_eq_false_iff_not]
    unfold rlen
    generalize (bs.getD 0 0).toNat = c0 at *
    generalize (bs.getD 1 0).toNat = c1 at *
    generalize (bs.getD 2 0).toNat = c2 at *
    generalize (bs.getD 3 0).toNat = c3 at *
    split at hi <;> omega
end Go.Proofs.Ytoelkgbeefoplaa
namespace Go.Proofs.Ytoelkgbeefoplaa
open Go Go.Br Go.Proofs
theorem _root_.Go.Br.AW.keepT {P : Program} {f : FuncId} {ro : Option Nat} {n : Nat} {T : List Item} {tm tm' : List V} {σ : Store} {df : List Nat} {Q : AE → Store → Prop} (l : List Nat) (ht : keep l tm = tm') (h : AW P f ro n T tm' σ df Q) : AW P f ro n T tm σ df Q :=
  .less (fun _ _ _ _ hr => by rw [← ht]; exact keep_rel hr) h
def fab : List UInt8 := frame [97, 98]
theorem fab_len : fab.length = 10 := by decide +kernel
theorem fab_0 : fab.getD 0 0 = 2 := by decide +kernel
theorem fab_4 : fab.getD 4 0 = 97 := by decide +kernel
theorem fab_parsed : parsed (fab ++ fab.take 5) = [[97, 98]] := by decide +kernel
theorem parsed_ab : Pure Try.prog 17 [.d (bsD (fab ++ fab.take 5))] (.tuple [.d (.list 1 [bsD [97, 98]]), .d (i64 10)]) := by
  have h := parse_pure (fab ++ fab.take 5) (by simp [fab_len])
  rw [fab_parsed] at h
  exact h
theorem rframe_data (bs : List UInt8) (hlen : bs.length ≤ 140737488355000) : Pure Try.prog 19 [.d (bsD bs)] (.d (bsD (frame bs))) := (rframe_pure bs hlen).view rfl
noncomputable def B21 : Code := (Try.f21.body).getD .skip
theorem F21 : Fnc Try.prog 21 Try.f21 B21 := ⟨Try.func21, by kernel_rfl, by kernel_rfl⟩
theorem lives_pure : Pure Try.prog 21 [] (.d (.bool true)) := by
  refine CallsA.pure ?_ rfl
  refine CallsA.start F21 (tm := (mk 59 [])) (by kernel_rfl) ?_
  refine .seg 7 [6] (T' := cgo 7 [] [.code B21]) (tm' := mk 59 [(6, .row 0)]) (σ' := [.row 1 [u8 97, u8 98] false]) (by kernel_rfl) ?_
  refine .convH (o := (opOf (cgo 7 [] [.code B21])).getD default) (t := 22) (e := 5) (x := .tmp 6) (l := 0) (sz := 1) (xs := [u8 97, u8 98]) (mv := false) (by kernel_rfl) (by kernel_rfl) (T' := (cgo 8 [] [.code B21])) (by kernel_rfl) (by kernel_rfl) (by kernel_rfl) (by kernel_rfl) (by kernel_rfl) rfl (by simp) ?_
  refine AW.keepT [7] (tm' := (mk 59 [(7, .d (bsD [97, 98]))])) (by kernel_rfl) ?_
  refine .sub [] ((mk 59 [(7, .d (bsD [97, 98]))])) [] none [] ⟨rfl, rfl, rfl⟩ rfl ⟨by simp, rfl⟩ rfl ⟨rfl, rfl⟩ ⟨rfl, rfl⟩ ?_
  refine .semH (o := (opOf (cgo 8 [] [.code B21])).getD default) (v := .tuple [.row 0, .d (i64 0)]) (σ' := [.row 1 (fab.map u8) false]) (by kernel_rfl) (by kernel_rfl) (T' := cgo 9 [] [.code B21]) (by kernel_rfl) (fun k => sem_data (x := .func 16) (args := #[.tmp 7]) (ts := #[22]) (first := []) (cap := []) F16 (frame_pure [97, 98] (by simp)) (by kernel_rfl) (by kernel_rfl) (by kernel_rfl) (by kernel_rfl) (by kernel_rfl) []) ?_
  refine .seg 7 [1, 2] (T' := cgo 16 [] [.code B21]) (tm' := mk 59 [(1, .row 0), (2, .d (.int .i64 (0)))]) (σ' := [.row 1 (fab.map u8) false]) (by kernel_rfl) ?_
  refine .freeze 0 (sz := 1) (xs := fab.map u8) (mv := false) rfl ?_
  refine .sub [] ((mk 59 [(1, .d (bsD fab)), (2, .d (.int .i64 (0)))])) [] none [] ⟨rfl, rfl, rfl⟩ rfl ⟨by simp, rfl⟩ rfl ⟨rfl, rfl⟩ ⟨rfl, rfl⟩ ?_
  have e5 : iquo .i64 ((fab.map u8).length : Nat) 2 = ((5 : Nat) : Int) := by rw [List.length_map, fab_len]; rfl
  refine .drawH (T' := (cgo 17 [] [.code B21])) (tm' := (mk 59 [(1, .d (bsD fab)), (2, .d (.int .i64 (0))), (3, .d (.list 1 [bsD [97, 98]])), (4, .d (.int .i64 (10))), (11, .tuple [.d (.list 1 [bsD [97, 98]]), .d (i64 10)]), (21, .tuple [.d (.list 1 [bsD [97, 98]]), .d (i64 10)]), (22, .d (.list 1 [bsD [97, 98]])), (23, .d (.int .i64 (10)))])) (σ' := []) [0, 0, 2, 0, 0, 0, 0, 0, 3, 3, 0, 0, 0, 0, 0] [0, 1, 2, 3, 4, 5, 6, 7, 8, 9, 10, 11, 12, 13, 14] (by kernel_rfl) (by kernel_rfl) (by kernel_rfl) (by kernel_rfl) (fun k => ?_) ?_
  · refine Run.one (StepQ.rule (o := ((drawOf (cgo 16 [] [.code B21]))[0]?).getD default) (v := .ex 1 []) [] (by kernel_rfl) (by kernel_rfl) (by kernel_rfl) (by kernel_rfl) (by kernel_rfl) (fun s tm' hv => build0_ok (t := 22) (e := 5) (sz := 1) (sz' := 1) (by kernel_rfl) (by kernel_rfl) (by kernel_rfl))) ?_
    refine Run.append (A := [1]) (srun_ok (tm' := (mk 59 [(1, .d (bsD fab)), (2, .d (.int .i64 (0))), (12, .ex 1 []), (13, .d (bsD fab))])) (σ' := []) (by kernel_rfl)) ?_
    refine Run.one (StepQ.any (o := ((drawOf (cgo 16 [] [.code B21]))[2]?).getD default) (v := .row 0) (σ' := [.row 1 ([] ++ fab.map u8) false]) (by kernel_rfl) (by kernel_rfl) (by kernel_rfl) (by kernel_rfl) (fun tm' hv => by
      have hv' := vals_at (xs := [.tmp 12, .tmp 13]) (by kernel_rfl) hv
      exact appEx_ok (s := .tmp 12) (x := .tmp 13) (t := 22) (t2 := 22) (sz := 1) (by' := 1) (xs := []) (ys := fab.map u8) (by kernel_rfl) ((hv' _ (by simp)).trans (by kernel_rfl)) (by rw [hv' _ (by simp)]; kernel_rfl) (by kernel_rfl) (by kernel_rfl) (by simp [fab_len]) (by simp [fab_len]) (by simp [fab_len, maxLen]))) ?_
    rw [List.nil_append]
    refine Run.append (A := [3, 4, 5, 6]) (srun_ok (tm' := (mk 59 [(1, .d (bsD fab)), (2, .d (.int .i64 (0))), (12, .ex 1 []), (13, .d (bsD fab)), (14, .row 0), (15, .d (bsD fab)), (16, .d (bsD fab)), (17, .d (.int .i64 (((fab.map u8).length : Nat)))), (18, .d (.int .i64 (iquo .i64 ((fab.map u8).length : Nat) 2)))])) (σ' := [.row 1 (fab.map u8) false]) (by kernel_rfl)) ?_
    rw [e5]
    refine Run.one (StepQ.rule (o := ((drawOf (cgo 16 [] [.code B21]))[7]?).getD default) (v := .d (.list 1 (((fab.map u8).take 5).drop 0))) [.tmp 15, .tmp 18] (by kernel_rfl) (by kernel_rfl) (by kernel_rfl) (by kernel_rfl) (by kernel_rfl) (fun s tm' hv => slData_ok (t := 22) (x := .tmp 15) (lo := none) (hi := some (.tmp 18)) (sz := 1) (xs := fab.map u8) 0 5 (by kernel_rfl) (by rw [hv _ (by simp)]; kernel_rfl) (by kernel_rfl) rfl ⟨.i64, ((5 : Nat) : Int), (hv _ (by simp)).trans (by kernel_rfl), Int.natCast_nonneg _, Int.toNat_natCast _⟩ (by omega) (by simp [fab_len]))) ?_
    rw [List.drop_zero, ← List.map_take]
    refine Run.one (s1 := ((mk 59 [(1, .d (bsD fab)), (2, .d (.int .i64 (0))), (20, .row 0)]), [.row 1 ((fab ++ fab.take 5).map u8) true])) (StepQ.all (by kernel_rfl) fun rest hn => .op (o := ((drawOf (cgo 16 [] [.code B21]))[8]?).getD default) (by kernel_rfl) (by kernel_rfl) (by kernel_rfl) (appRow_ok (s := .tmp 14) (x := .tmp 19) (t := 22) (t2 := 22) (l := 0) (sz := 1) (by' := 1) (xs := fab.map u8) (ys := (fab.take 5).map u8) (mv := false) (by kernel_rfl) (by kernel_rfl) (by kernel_rfl) (by kernel_rfl) (by kernel_rfl) (by kernel_rfl) (by simp [fab_len]) (by simp [fab_len, maxLen])) (by
      refine AW.keepT [1, 2, 20] (tm' := (mk 59 [(1, .d (bsD fab)), (2, .d (.int .i64 (0))), (20, .row 0)])) (by kernel_rfl) ?_
      rw [← List.map_append]
      exact hn)) ?_
    refine Run.one (s1 := ((mk 59 [(1, .d (bsD fab)), (2, .d (.int .i64 (0))), (21, .tuple [.d (.list 1 [bsD [97, 98]]), .d (i64 10)])]), [])) (StepQ.all (by kernel_rfl) fun rest hn => by
      refine .freeze 0 (sz := 1) (xs := (fab ++ fab.take 5).map u8) (mv := true) rfl ?_
      refine .sub [] ((mk 59 [(1, .d (bsD fab)), (2, .d (.int .i64 (0))), (20, .d (bsD (fab ++ fab.take 5)))])) [] none [] ⟨rfl, rfl, rfl⟩ rfl ⟨by simp, rfl⟩ rfl ⟨rfl, rfl⟩ ⟨rfl, rfl⟩ ?_
      refine .sem (o := ((drawOf (cgo 16 [] [.code B21]))[9]?).getD default) (v := .tuple [.d (.list 1 [bsD [97, 98]]), .d (i64 10)]) (σ' := []) (sem_data0 (x := .func 17) (args := #[.tmp 20]) (ts := #[22]) (first := []) (cap := []) (ds := [.d (bsD (fab ++ fab.take 5))]) F17 parsed_ab (by kernel_rfl) (by kernel_rfl) (by kernel_rfl) (by kernel_rfl) (by kernel_rfl) (by kernel_rfl) []) (by kernel_rfl) ?_
      refine AW.keepT [1, 2, 21] (tm' := (mk 59 [(1, .d (bsD fab)), (2, .d (.int .i64 (0))), (21, .tuple [.d (.list 1 [bsD [97, 98]]), .d (i64 10)])])) (by kernel_rfl) ?_
      exact hn) ?_
    exact srun_ok (by kernel_rfl)
  refine .seg 7 [1, 26, 28, 3, 4] (T' := cgo 24 [] [.code B21]) (tm' := mk 59 [(1, .d (bsD fab)), (26, .d (.bool (true))), (28, .d (.int .i64 (((fab.map u8).length : Nat)))), (3, .d (.list 1 [bsD [97, 98]])), (4, .d (.int .i64 (10)))]) (σ' := []) (by kernel_rfl) ?_
  rw [List.length_map, fab_len]
  refine .seg 4 [1, 31, 32, 3, 4] (T' := cgo 28 [] [.code B21]) (tm' := mk 59 [(1, .d (bsD fab)), (31, .d (.bool (true))), (32, .d (bsD fab)), (3, .d (.list 1 [bsD [97, 98]])), (4, .d (.int .i64 (10)))]) (σ' := []) (by kernel_rfl) ?_
  refine .opH (o := (opOf (cgo 28 [] [.code B21])).getD default) (by kernel_rfl) (by kernel_rfl) (by kernel_rfl) (T' := cgo 29 [] [.code B21]) (by kernel_rfl) (ixData_ok (t := 22) (x := .tmp 32) (i := .const (.int .i64 0)) (sz := 1) (xs := fab.map u8) (k := .i64) (n := ((0 : Nat) : Int)) (d := u8 (fab.getD 0 0)) (by kernel_rfl) (by kernel_rfl) (by kernel_rfl) (by kernel_rfl) (by omega) (u8s_getD (by rw [fab_len]; omega))) ?_
  rw [fab_0]
  refine .seg 5 [1, 37, 38, 3, 4] (T' := cgo 34 [] [.code B21]) (tm' := mk 59 [(1, .d (bsD fab)), (37, .d (.bool (true))), (38, .d (bsD fab)), (3, .d (.list 1 [bsD [97, 98]])), (4, .d (.int .i64 (10)))]) (σ' := []) (by kernel_rfl) ?_
  refine .opH (o := (opOf (cgo 34 [] [.code B21])).getD default) (by kernel_rfl) (by kernel_rfl) (by kernel_rfl) (T' := cgo 35 [] [.code B21]) (by kernel_rfl) (ixData_ok (t := 22) (x := .tmp 38) (i := .const (.int .i64 4)) (sz := 1) (xs := fab.map u8) (k := .i64) (n := ((4 : Nat) : Int)) (d := u8 (fab.getD 4 0)) (by kernel_rfl) (by kernel_rfl) (by kernel_rfl) (by kernel_rfl) (by omega) (u8s_getD (by rw [fab_len]; omega))) ?_
  rw [fab_4]
  refine .seg 10 [48, 49, 4] (T' := cgo 45 [] [.code B21]) (tm' := mk 59 [(48, .d (.bool (true))), (49, .d (.list 1 [bsD [97, 98]])), (4, .d (.int .i64 (10)))]) (σ' := []) (by kernel_rfl) ?_
  refine .opH (o := (opOf (cgo 45 [] [.code B21])).getD default) (by kernel_rfl) (by kernel_rfl) (by kernel_rfl) (T' := cgo 46 [] [.code B21]) (by kernel_rfl) (ixData_ok (t := 26) (x := .tmp 49) (i := .const (.int .i64 0)) (sz := 1) (xs := [bsD [97, 98]]) (k := .i64) (n := ((0 : Nat) : Int)) (d := bsD [97, 98]) (by kernel_rfl) (by kernel_rfl) (by kernel_rfl) (by kernel_rfl) (by omega) rfl) ?_
  refine .seg 1 [48, 51, 4] (T' := cgo 47 [] [.code B21]) (tm' := mk 59 [(48, .d (.bool (true))), (51, .d (bsD [97, 98])), (4, .d (.int .i64 (10)))]) (σ' := []) (by kernel_rfl) ?_
  refine .opH (o := (opOf (cgo 47 [] [.code B21])).getD default) (by kernel_rfl) (by kernel_rfl) (by kernel_rfl) (T' := cgo 48 [] [.code B21]) (by kernel_rfl) (bts_data (s := 22) (t := 9) (x := .tmp 51) (bs := [97, 98]) (by kernel_rfl) (by kernel_rfl) (by kernel_rfl) (by kernel_rfl)) ?_
  refine .seg 1 [48, 53, 4] (T' := cgo 49 [] [.code B21]) (tm' := mk 59 [(48, .d (.bool (true))), (53, .d (.bool (((strOf [97, 98]).toList == (strOf [97, 98]).toList)))), (4, .d (.int .i64 (10)))]) (σ' := []) (by kernel_rfl) ?_
  rw [strOf_eq, decide_eq_true rfl]
  refine .seg 7 [0] (T' := cgo 56 [] [.code B21]) (tm' := mk 59 [(0, .d (.bool (true)))]) (σ' := []) (by kernel_rfl) ?_
  exact .retH F21 (by kernel_rfl) (by kernel_rfl) rfl
end Go.Proofs.Ytoelkgbeefoplaa
namespace Go.Proofs.Ytoelkgbeefoplaa
open Go Go.Br Go.Proofs
end Go.Proofs.Ytoelkgbeefoplaa
namespace Go.Proofs.Ytoelkgbeefoplaa
open Go Go.Br Go.Proofs
def lsD (l : List (List UInt8)) : D := .list 1 (l.map bsD)
def allOf (l : List (List UInt8)) : List UInt8 := (l.map frame).flatten
theorem frame_length (r : List UInt8) : (frame r).length = r.length + 8 := by
  simp [frame, bare, le4]
noncomputable def B24 : Code := (Try.f24.body).getD .skip
theorem F24 : Fnc Try.prog 24 Try.f24 B24 := ⟨Try.func24, by kernel_rfl, by kernel_rfl⟩
theorem ll24 (l : List (List UInt8)) (hl : l.length < 9223372036854775807) (hs : (allOf l).length ≤ 1099511627776) : ∀ (m i : Nat) (mv : Bool), i + m = l.length →
    AW Try.prog 24 none 0 ((cgo 17 [] [.code B24])) ((mk 18 [(3, .row 0), (6, .d (lsD l)), (7, .d (.int .i64 (l.length))), (8, .d (.int .i64 (i)))])) [.row 1 ((allOf (l.take i)).map u8) mv] [] fun r _ => r = .ret (.d (bsD (allOf l))) := by
  intro m
  induction m with
  | zero =>
    intro i mv hi
    obtain rfl : i = l.length := by omega
    rw [List.take_length]
    refine .seg 5 [3, 9] (T' := cgo 22 [] [.code B24]) (tm' := mk 18 [(3, .row 0), (9, .d (.bool (decide ((l.length : Int) < l.length))))]) (σ' := [.row 1 ((allOf l).map u8) mv]) (by kernel_rfl) ?_
    refine .ifH (b := decide ((l.length : Int) < l.length)) (by kernel_rfl) (by kernel_rfl) (T1 := cgo 23 [true] [.code B24]) (T2 := cgo 23 [false] [.code B24]) (by kernel_rfl) (by kernel_rfl) (fun h => absurd h (by simp)) (fun _ => ?_)
    refine .seg 6 [2] (T' := cgo 29 [false] [.code B24]) (tm' := mk 18 [(2, .row 0)]) (σ' := [.row 1 ((allOf l).map u8) mv]) (by kernel_rfl) ?_
    refine .freeze 0 (sz := 1) (xs := (allOf l).map u8) (mv := mv) rfl ?_
    exact .retH F24 (by kernel_rfl) (by kernel_rfl) rfl
  | succ m ih =>
    intro i mv hi
    have h1 : i < l.length := by omega
    have hstep : allOf (l.take (i + 1)) = allOf (l.take i) ++ frame (l.getD i []) := by
      unfold allOf
      rw [List.take_succ_eq_append_getElem h1, List.map_append, List.flatten_append]
      simp only [List.map_cons, List.map_nil, List.flatten_cons, List.flatten_nil, List.append_nil, List.getD_eq_getElem?_getD, List.getElem?_eq_getElem h1, Option.getD_some]
    have hle : (allOf (l.take (i + 1))).length ≤ (allOf l).length := by
      have e : allOf l = allOf (l.take (i + 1)) ++ allOf (l.drop (i + 1)) := by
        unfold allOf
        rw [← List.flatten_append, ← List.map_append, List.take_append_drop]
      rw [e, List.length_append]; omega
    have hlen : (allOf (l.take i)).length + (frame (l.getD i [])).length ≤ 1099511627776 := by
      rw [hstep, List.length_append] at hle
      omega
    have hri : (l.getD i []).length ≤ 1099511627776 := by rw [frame_length] at hlen; omega
    refine .seg 5 [3, 6, 7, 8, 9] (T' := cgo 22 [] [.code B24]) (tm' := mk 18 [(3, .row 0), (6, .d (lsD l)), (7, .d (.int .i64 (l.length))), (8, .d (.int .i64 (i))), (9, .d (.bool (decide ((i : Int) < l.length))))]) (σ' := [.row 1 ((allOf (l.take i)).map u8) mv]) (by kernel_rfl) ?_
    refine .ifH (b := decide ((i : Int) < l.length)) (by kernel_rfl) (by kernel_rfl) (T1 := cgo 23 [true] [.code B24]) (T2 := cgo 23 [false] [.code B24]) (by kernel_rfl) (by kernel_rfl) (fun _ => ?_) (fun h => absurd h (by simp; omega))
    refine .seg 5 [3, 6, 7, 8] (T' := cgo 28 [true] [.code B24]) (tm' := mk 18 [(3, .row 0), (6, .d (lsD l)), (7, .d (.int .i64 (l.length))), (8, .d (.int .i64 (i)))]) (σ' := [.row 1 ((allOf (l.take i)).map u8) mv]) (by kernel_rfl) ?_
    refine .opH (o := (opOf (cgo 28 [true] [.code B24])).getD default) (by kernel_rfl) (by kernel_rfl) (by kernel_rfl) (T' := cgo 29 [true] [.code B24]) (by kernel_rfl) (ixData_ok (t := 26) (x := .tmp 6) (i := .tmp 8) (sz := 1) (xs := l.map bsD) (k := .i64) (n := i) (by kernel_rfl) (by kernel_rfl) (by kernel_rfl) (by kernel_rfl) (by omega) (bsD_get h1)) ?_
    refine .seg 6 [6, 7, 8, 12, 13] (T' := cgo 35 [true] [.code B24]) (tm' := mk 18 [(6, .d (lsD l)), (7, .d (.int .i64 (l.length))), (8, .d (.int .i64 (i))), (12, .row 0), (13, .d (bsD (l.getD i [])))]) (σ' := [.row 1 ((allOf (l.take i)).map u8) mv]) (by kernel_rfl) ?_
    refine .semH (o := (opOf (cgo 35 [true] [.code B24])).getD default) (v := .d (bsD (frame (l.getD i [])))) (σ' := [.row 1 ((allOf (l.take i)).map u8) mv]) (by kernel_rfl) (by kernel_rfl) (T' := cgo 36 [true] [.code B24]) (by kernel_rfl) (fun k => sem_data0 (x := .func 19) (args := #[.tmp 13]) (ts := #[22]) (first := []) (cap := []) F19 (rframe_data (l.getD i []) (by omega)) (by kernel_rfl) (by kernel_rfl) (by kernel_rfl) (by kernel_rfl) (by kernel_rfl) (by kernel_rfl) _) ?_
    refine .opH (o := (opOf (cgo 36 [true] [.code B24])).getD default) (by kernel_rfl) (by kernel_rfl) (by kernel_rfl) (T' := cgo 37 [true] [.code B24]) (by kernel_rfl) (appRow_ok (s := .tmp 12) (x := .tmp 14) (t := 22) (t2 := 22) (l := 0) (sz := 1) (by' := 1) (xs := (allOf (l.take i)).map u8) (ys := (frame (l.getD i [])).map u8) (mv := mv) (by kernel_rfl) (by kernel_rfl) (by kernel_rfl) (by kernel_rfl) (by kernel_rfl) (by kernel_rfl) (by simp only [List.length_map]; omega) (by simp only [List.length_map, maxLen]; omega)) ?_
    refine .seg 8 [3, 6, 7, 8] (T' := cgo 17 [] [.code B24]) (tm' := mk 18 [(3, .row 0), (6, .d (lsD l)), (7, .d (.int .i64 (l.length))), (8, .d (.int .i64 (iadd .i64 i 1)))]) (σ' := [.row 1 ((allOf (l.take i)).map u8 ++ (frame (l.getD i [])).map u8) true]) (by kernel_rfl) ?_
    rw [iadd_i64 (by omega) (by omega), ← List.map_append, ← hstep]
    exact ih (i + 1) true (by omega)
theorem all_pure (l : List (List UInt8)) (hl : l.length < 9223372036854775807) (hs : (allOf l).length ≤ 1099511627776) : Br.Pure Try.prog 24 [.d (lsD l)] (.d (bsD (allOf l))) := by
  refine CallsA.pure ?_ rfl
  refine CallsA.start F24 (tm := (mk 18 [(0, .d (lsD l))])) (by kernel_rfl) ?_
  refine .seg 17 [3, 6, 7, 8] (T' := cgo 17 [] [.code B24]) (tm' := mk 18 [(3, .nils), (6, .d (lsD l)), (7, .d (.int .i64 (((l.map bsD).length : Nat)))), (8, .d (.int .i64 (0)))]) (σ' := []) (by kernel_rfl) ?_
  rw [List.length_map]
  refine .virtT 3 1 rfl ?_
  refine .keepT [3, 6, 7, 8] (tm' := (mk 18 [(3, .row 0), (6, .d (lsD l)), (7, .d (.int .i64 (l.length))), (8, .d (.int .i64 (((0 : Nat) : Int))))])) (by kernel_rfl) ?_
  exact ll24 l hl hs l.length 0 false (by omega)
def cutg : Nat → List (List UInt8) → List (List UInt8)
  | _, [] => []
  | i, r :: rs => if i < 30 ∧ r.length ≤ 300 then r :: cutg (i + 1) rs else cutg (i + 1) rs
noncomputable def B22 : Code := (Try.f22.body).getD .skip
theorem F22 : Fnc Try.prog 22 Try.f22 B22 := ⟨Try.func22, by kernel_rfl, by kernel_rfl⟩
theorem lc22 (l : List (List UInt8)) (hl : l.length ≤ 9223372036854775807) : ∀ (m i : Nat) (acc : List (List UInt8)) (mv : Bool), i + m = l.length → acc.length ≤ i →
    AW Try.prog 22 none 0 ((cgo 17 [] [.code B22])) ((mk 26 [(3, .row 0), (6, .d (lsD l)), (7, .d (.int .i64 (l.length))), (8, .d (.int .i64 (i)))])) [.row 1 (acc.map bsD) mv] [] fun r _ => r = .ret (.d (lsD (acc ++ cutg i (l.drop i)))) := by
  intro m
  induction m with
  | zero =>
    intro i acc mv hi ha
    obtain rfl : i = l.length := by omega
    rw [List.drop_length]
    refine .seg 5 [3, 9] (T' := cgo 22 [] [.code B22]) (tm' := mk 26 [(3, .row 0), (9, .d (.bool (decide ((l.length : Int) < l.length))))]) (σ' := [.row 1 (acc.map bsD) mv]) (by kernel_rfl) ?_
    refine .ifH (b := decide ((l.length : Int) < l.length)) (by kernel_rfl) (by kernel_rfl) (T1 := cgo 23 [true] [.code B22]) (T2 := cgo 23 [false] [.code B22]) (by kernel_rfl) (by kernel_rfl) (fun h => absurd h (by simp)) (fun _ => ?_)
    refine .seg 6 [2] (T' := cgo 29 [false] [.code B22]) (tm' := mk 26 [(2, .row 0)]) (σ' := [.row 1 (acc.map bsD) mv]) (by kernel_rfl) ?_
    refine .freeze 0 (sz := 1) (xs := acc.map bsD) (mv := mv) rfl ?_
    refine .retH F22 (v := .d (lsD acc)) (by kernel_rfl) (by kernel_rfl) ?_
    simp [cutg]
  | succ m ih =>
    intro i acc mv hi ha
    have h1 : i < l.length := by omega
    have hd : l.drop i = l.getD i [] :: l.drop (i + 1) := by
      rw [List.drop_eq_getElem_cons h1]
      simp [h1]
    rw [hd]
    refine .seg 5 [3, 6, 7, 8, 9] (T' := cgo 22 [] [.code B22]) (tm' := mk 26 [(3, .row 0), (6, .d (lsD l)), (7, .d (.int .i64 (l.length))), (8, .d (.int .i64 (i))), (9, .d (.bool (decide ((i : Int) < l.length))))]) (σ' := [.row 1 (acc.map bsD) mv]) (by kernel_rfl) ?_
    refine .ifH (b := decide ((i : Int) < l.length)) (by kernel_rfl) (by kernel_rfl) (T1 := cgo 23 [true] [.code B22]) (T2 := cgo 23 [false] [.code B22]) (by kernel_rfl) (by kernel_rfl) (fun _ => ?_) (fun h => absurd h (by simp; omega))
    refine .seg 6 [3, 6, 7, 8, 10] (T' := cgo 29 [true] [.code B22]) (tm' := mk 26 [(3, .row 0), (6, .d (lsD l)), (7, .d (.int .i64 (l.length))), (8, .d (.int .i64 (i))), (10, .d (.int .i64 (i)))]) (σ' := [.row 1 (acc.map bsD) mv]) (by kernel_rfl) ?_
    refine .opH (o := (opOf (cgo 29 [true] [.code B22])).getD default) (by kernel_rfl) (by kernel_rfl) (by kernel_rfl) (T' := cgo 30 [true] [.code B22]) (by kernel_rfl) (ixData_ok (t := 26) (x := .tmp 6) (i := .tmp 8) (sz := 1) (xs := l.map bsD) (k := .i64) (n := i) (by kernel_rfl) (by kernel_rfl) (by kernel_rfl) (by kernel_rfl) (by omega) (bsD_get h1)) ?_
    refine .seg 9 [3, 5, 6, 7, 8, 15] (T' := cgo 39 [true] [.code B22]) (tm' := mk 26 [(3, .row 0), (5, .d (bsD (l.getD i []))), (6, .d (lsD l)), (7, .d (.int .i64 (l.length))), (8, .d (.int .i64 (i))), (15, .d (.bool (decide ((i : Int) < 30))))]) (σ' := [.row 1 (acc.map bsD) mv]) (by kernel_rfl) ?_
    by_cases h30 : i < 30
    case neg =>
      rw [decide_eq_false (show ¬ (i : Int) < 30 by omega), cutg, if_neg (by omega)]
      refine .seg 13 [3, 6, 7, 8] (T' := cgo 17 [] [.code B22]) (tm' := mk 26 [(3, .row 0), (6, .d (lsD l)), (7, .d (.int .i64 (l.length))), (8, .d (.int .i64 (iadd .i64 i 1)))]) (σ' := [.row 1 (acc.map bsD) mv]) (by kernel_rfl) ?_
      rw [iadd_i64 (by omega) (by omega)]
      exact ih (i + 1) acc mv (by omega) (by omega)
    rw [decide_eq_true (show (i : Int) < 30 by omega)]
    refine .seg 5 [3, 5, 6, 7, 8, 19] (T' := cgo 44 [true] [.code B22]) (tm' := mk 26 [(3, .row 0), (5, .d (bsD (l.getD i []))), (6, .d (lsD l)), (7, .d (.int .i64 (l.length))), (8, .d (.int .i64 (i))), (19, .d (.bool (decide ((((l.getD i []).map u8).length : Int) ≤ 300))))]) (σ' := [.row 1 (acc.map bsD) mv]) (by kernel_rfl) ?_
    rw [List.length_map]
    by_cases h3 : (l.getD i []).length ≤ 300
    case neg =>
      rw [decide_eq_false (show ¬ ((l.getD i []).length : Int) ≤ 300 by omega), cutg, if_neg (by omega)]
      refine .seg 8 [3, 6, 7, 8] (T' := cgo 17 [] [.code B22]) (tm' := mk 26 [(3, .row 0), (6, .d (lsD l)), (7, .d (.int .i64 (l.length))), (8, .d (.int .i64 (iadd .i64 i 1)))]) (σ' := [.row 1 (acc.map bsD) mv]) (by kernel_rfl) ?_
      rw [iadd_i64 (by omega) (by omega)]
      exact ih (i + 1) acc mv (by omega) (by omega)
    rw [decide_eq_true (show ((l.getD i []).length : Int) ≤ 300 by omega), cutg, if_pos ⟨h30, h3⟩]
    refine .seg 5 [6, 7, 8, 20, 22] (T' := cgo 49 [true, true] [.code B22]) (tm' := mk 26 [(6, .d (lsD l)), (7, .d (.int .i64 (l.length))), (8, .d (.int .i64 (i))), (20, .row 0), (22, .row 1)]) (σ' := [.row 1 (acc.map bsD) mv, .row 1 [bsD (l.getD i [])] false]) (by kernel_rfl) ?_
    refine .opH (o := (opOf (cgo 49 [true, true] [.code B22])).getD default) (by kernel_rfl) (by kernel_rfl) (by kernel_rfl) (T' := cgo 50 [true, true] [.code B22]) (by kernel_rfl) (appRow_ok (s := .tmp 20) (x := .tmp 22) (t := 26) (t2 := 26) (l := 0) (sz := 1) (by' := 24) (xs := acc.map bsD) (ys := [bsD (l.getD i [])]) (mv := mv) (by kernel_rfl) (by kernel_rfl) (by kernel_rfl) (by kernel_rfl) (by kernel_rfl) (by kernel_rfl) (by simp; omega) (by simp [maxLen]; omega)) ?_
    refine .seg 8 [3, 6, 7, 8] (T' := cgo 17 [] [.code B22]) (tm' := mk 26 [(3, .row 0), (6, .d (lsD l)), (7, .d (.int .i64 (l.length))), (8, .d (.int .i64 (iadd .i64 i 1)))]) (σ' := [.row 1 (acc.map bsD ++ [bsD (l.getD i [])]) true, .row 1 [bsD (l.getD i [])] false]) (by kernel_rfl) ?_
    rw [iadd_i64 (by omega) (by omega), show acc.map bsD ++ [bsD (l.getD i [])] = (acc ++ [l.getD i []]).map bsD by simp]
    refine .sub [0] ((mk 26 [(3, .row 0), (6, .d (lsD l)), (7, .d (.int .i64 (l.length))), (8, .d (.int .i64 ((i : Int) + 1)))])) [.row 1 ((acc ++ [l.getD i []]).map bsD) true] none [] ⟨rfl, rfl, rfl⟩ rfl ⟨by simp, rfl⟩ rfl ⟨rfl, rfl⟩ ⟨rfl, rfl⟩ ?_
    refine (ih (i + 1) (acc ++ [l.getD i []]) true (by omega) (by simp; omega)).mono ?_
    rintro r σ' rfl
    simp
theorem cut_pure (l : List (List UInt8)) (hl : l.length ≤ 9223372036854775807) : Br.Pure Try.prog 22 [.d (lsD l)] (.d (lsD (cutg 0 l))) := by
  refine CallsA.pure ?_ rfl
  refine CallsA.start F22 (tm := (mk 26 [(0, .d (lsD l))])) (by kernel_rfl) ?_
  refine .seg 17 [3, 6, 7, 8] (T' := cgo 17 [] [.code B22]) (tm' := mk 26 [(3, .nils), (6, .d (lsD l)), (7, .d (.int .i64 (((l.map bsD).length : Nat)))), (8, .d (.int .i64 (0)))]) (σ' := []) (by kernel_rfl) ?_
  rw [List.length_map]
  refine .virtT 3 1 rfl ?_
  refine .keepT [3, 6, 7, 8] (tm' := (mk 26 [(3, .row 0), (6, .d (lsD l)), (7, .d (.int .i64 (l.length))), (8, .d (.int .i64 (((0 : Nat) : Int))))])) (by kernel_rfl) ?_
  have := lc22 l hl l.length 0 [] false (by omega) (by simp)
  simpa using this
end Go.Proofs.Ytoelkgbeefoplaa
namespace Go.Proofs.Ytoelkgbeefoplaa
open Go Go.Br Go.Proofs Go.ChangeShapes Go.WideShapes Go.ChangeAt Go.RowKit
set_option maxRecDepth 100000
theorem rd_u8 {n : Nat} {y : D} (h : WtE Try.prog n 5 y) : ∃ b : UInt8, y = u8 b ∧ True := by
  obtain ⟨a, rfl, h1, h2⟩ := h.int (show Try.prog.underlying 5 = some (.int .u8) by kernel_rfl)
  simp [IntKind.min, IntKind.max, IntKind.bits, IntKind.signed] at h1 h2
  refine ⟨UInt8.ofNat a.toNat, ?_, trivial⟩
  simp only [u8, D.int.injEq, true_and, UInt8.toNat_ofNat']
  omega
theorem rd_22 {n : Nat} {x : D} (h : WtE Try.prog n 22 x) : ∃ bs : List UInt8, x = bsD bs ∧ bs.length ≤ maxLen := by
  obtain ⟨l, rfl, h1, _⟩ := WtE.slice_map (P := Try.prog) (e := 5) (t := 22) u8 (fun _ => True) h (show Try.prog.underlying 22 = some (.slice 5) by kernel_rfl) fun y hy => rd_u8 hy
  exact ⟨l, by rw [show Try.prog.cellsOf 5 = 1 by kernel_rfl]; rfl, h1⟩
theorem rd_26 {n : Nat} {x : D} (h : WtE Try.prog n 26 x) : ∃ l : List (List UInt8), x = lsD l ∧ l.length ≤ maxLen ∧ ∀ r ∈ l, r.length ≤ maxLen := by
  obtain ⟨l, rfl, h1, h2⟩ := WtE.slice_map (P := Try.prog) (e := 22) (t := 26) bsD (fun r => r.length ≤ maxLen) h (show Try.prog.underlying 26 = some (.slice 22) by kernel_rfl) fun y hy => rd_22 hy
  exact ⟨l, by rw [show Try.prog.cellsOf 22 = 1 by kernel_rfl]; rfl, h1, h2⟩
end Go.Proofs.Ytoelkgbeefoplaa
namespace Go.Proofs
open Go.Shelf
def Try.laysNm222_ren : Go.Shelf.Ren := ⟨fun | 22 => 100 | 29 => 112 | 30 => 113 | 36 => 118 | 17 => 121 | n => n, fun | 24 => 66 | 9 => 9 | 3 => 3 | 4 => 4 | 0 => 0 | n => n, fun | n => n⟩
theorem Try.laysNm222 : Go.Proofs.Lays2.n22 Try.prog Try.laysNm222_ren := {
  mixed := by kernel_rfl
  f17 := Try.func121.trans (congrArg some (by kernel_rfl))
  f22 := Try.func100.trans (congrArg some (by kernel_rfl))
  f29 := Try.func112.trans (congrArg some (by kernel_rfl))
  f30 := Try.func113.trans (congrArg some (by kernel_rfl))
  f36 := Try.func118.trans (congrArg some (by kernel_rfl))
  t0 := Try.underlying0
  a0 := Try.isAgg0
  z0 := Try.sizeOf0
  v0 := Try.zeroValue0
  t3 := Try.underlying3
  a3 := Try.isAgg3
  z3 := Try.sizeOf3
  v3 := Try.zeroValue3
  t4 := Try.underlying4
  a4 := Try.isAgg4
  z4 := Try.sizeOf4
  v4 := Try.zeroValue4
  t9 := Try.underlying9
  a9 := Try.isAgg9
  z9 := Try.sizeOf9
  v9 := Try.zeroValue9
  t24 := Try.underlying66
  a24 := Try.isAgg66
  z24 := Try.sizeOf66
  v24 := Try.zeroValue66
  i9 := by kernel_rfl }
def Try.laysNm221_ren : Go.Shelf.Ren := ⟨fun | 21 => 101 | 27 => 114 | 28 => 115 | 35 => 119 | 39 => 122 | n => n, fun | 22 => 46 | 3 => 3 | 4 => 4 | 0 => 0 | n => n, fun | n => n⟩
theorem Try.laysNm221 : Go.Proofs.Lays2.n21 Try.prog Try.laysNm221_ren := {
  mixed := by kernel_rfl
  f21 := Try.func101.trans (congrArg some (by kernel_rfl))
  f27 := Try.func114.trans (congrArg some (by kernel_rfl))
  f28 := Try.func115.trans (congrArg some (by kernel_rfl))
  f35 := Try.func119.trans (congrArg some (by kernel_rfl))
  f39 := Try.func122.trans (congrArg some (by kernel_rfl))
  t0 := Try.underlying0
  a0 := Try.isAgg0
  z0 := Try.sizeOf0
  v0 := Try.zeroValue0
  t3 := Try.underlying3
  a3 := Try.isAgg3
  z3 := Try.sizeOf3
  v3 := Try.zeroValue3
  t4 := Try.underlying4
  a4 := Try.isAgg4
  z4 := Try.sizeOf4
  v4 := Try.zeroValue4
  t22 := Try.underlying46
  a22 := Try.isAgg46
  z22 := Try.sizeOf46
  v22 := Try.zeroValue46
  i3 := by kernel_rfl }
def Try.laysNm223_ren : Go.Shelf.Ren := ⟨fun | 23 => 108 | n => n, fun | 22 => 46 | 3 => 3 | 4 => 4 | 0 => 0 | n => n, fun | n => n⟩
theorem Try.laysNm223 : Go.Proofs.Lays2.n23 Try.prog Try.laysNm223_ren := {
  mixed := by kernel_rfl
  f23 := Try.func108.trans (congrArg some (by kernel_rfl))
  t0 := Try.underlying0
  a0 := Try.isAgg0
  z0 := Try.sizeOf0
  v0 := Try.zeroValue0
  t3 := Try.underlying3
  a3 := Try.isAgg3
  z3 := Try.sizeOf3
  v3 := Try.zeroValue3
  t4 := Try.underlying4
  a4 := Try.isAgg4
  z4 := Try.sizeOf4
  v4 := Try.zeroValue4
  t22 := Try.underlying46
  a22 := Try.isAgg46
  z22 := Try.sizeOf46
  v22 := Try.zeroValue46
  i3 := by kernel_rfl }
def Try.laysNm224_ren : Go.Shelf.Ren := ⟨fun | 24 => 107 | n => n, fun | 24 => 66 | 9 => 9 | 3 => 3 | 4 => 4 | 0 => 0 | n => n, fun | n => n⟩
theorem Try.laysNm224 : Go.Proofs.Lays2.n24 Try.prog Try.laysNm224_ren := {
  mixed := by kernel_rfl
  f24 := Try.func107.trans (congrArg some (by kernel_rfl))
  t0 := Try.underlying0
  a0 := Try.isAgg0
  z0 := Try.sizeOf0
  v0 := Try.zeroValue0
  t3 := Try.underlying3
  a3 := Try.isAgg3
  z3 := Try.sizeOf3
  v3 := Try.zeroValue3
  t4 := Try.underlying4
  a4 := Try.isAgg4
  z4 := Try.sizeOf4
  v4 := Try.zeroValue4
  t9 := Try.underlying9
  a9 := Try.isAgg9
  z9 := Try.sizeOf9
  v9 := Try.zeroValue9
  t24 := Try.underlying66
  a24 := Try.isAgg66
  z24 := Try.sizeOf66
  v24 := Try.zeroValue66
  i9 := by kernel_rfl }
def Try.laysNm226_ren : Go.Shelf.Ren := ⟨fun | 26 => 106 | 33 => 116 | 34 => 117 | 38 => 120 | n => n, fun | 24 => 66 | 9 => 9 | 3 => 3 | 4 => 4 | 40 => 33 | 0 => 0 | n => n, fun | n => n⟩
theorem Try.laysNm226 : Go.Proofs.Lays2.n26 Try.prog Try.laysNm226_ren := {
  mixed := by kernel_rfl
  f26 := Try.func106.trans (congrArg some (by kernel_rfl))
  f33 := Try.func116.trans (congrArg some (by kernel_rfl))
  f34 := Try.func117.trans (congrArg some (by kernel_rfl))
  f38 := Try.func120.trans (congrArg some (by kernel_rfl))
  t0 := Try.underlying0
  a0 := Try.isAgg0
  z0 := Try.sizeOf0
  v0 := Try.zeroValue0
  t3 := Try.underlying3
  a3 := Try.isAgg3
  z3 := Try.sizeOf3
  v3 := Try.zeroValue3
  t4 := Try.underlying4
  a4 := Try.isAgg4
  z4 := Try.sizeOf4
  v4 := Try.zeroValue4
  t9 := Try.underlying9
  a9 := Try.isAgg9
  z9 := Try.sizeOf9
  v9 := Try.zeroValue9
  t24 := Try.underlying66
  a24 := Try.isAgg66
  z24 := Try.sizeOf66
  v24 := Try.zeroValue66
  t40 := Try.underlying33
  a40 := Try.isAgg33
  z40 := Try.sizeOf33
  v40 := Try.zeroValue33 }
end Go.Proofs
namespace Go.Proofs.Ytoelkgbeefoplaa
open Go Go.Br Go.Proofs
theorem alloc_keep {w : World} {o : Obj} {b : Nat} (h : b < w.heap.size) : (w.alloc o).heap[b]? = w.heap[b]? := by first | exact Go.heap_alloc_old _ _ _ h | exact Go.heap_alloc_old _ _ h
theorem row_laid {w : World} {I : Nat → Prop} {ρ : LM} {σ : Store} {l n sz : Nat} {xs : List D} {mv : Bool} {v : Value} (hO : ORel w I ρ σ) (hl : σ[l]? = some (.row sz xs mv)) (h : vr w I ρ σ (.row l) v) (hn : xs.length = n ∧ 0 < n) :
    ∃ L C T fz, ρ l = some L ∧ L.sz = sz ∧ w.heap[L.b]? = some (.cells C T fz) ∧ thawR fz C ∧ C.size = L.o + L.cap * sz ∧ xs.length ≤ L.cap ∧ DrE w I sz L.b L.o xs ∧ v = .slice (some ⟨L.b, L.o, none⟩) xs.length L.cap := by
  simp only [vr] at h
  rcases h.2.2 _ _ _ hl with ⟨hz, _⟩ | ⟨L, hL, hle, he⟩
  · omega
  · have ho := hO.objs l _ hl
    simp only [orel] at ho
    rcases ho with ⟨hx, _⟩ | ⟨L', C, T, fz, hL', hs, hh, hth, hC, hle2, hcap, hE⟩
    · rw [hL] at hx; cases hx
    rw [hL] at hL'; cases hL'
    exact ⟨L, C, T, fz, hL, hs, hh, hth, hC, hle2, hE, by rw [he]; simp⟩
theorem ins_string (xs : List D) (y : D) (i : Nat) (mv mv2 : Bool) (hi : i ≤ xs.length) (hb : (xs.length + 1) * 16 ≤ 140737488355328) : CallsA Try.prog 100 [.row 0, .d (.int .i64 i), .row 1] [.row 1 xs mv, .row 1 [y] mv2] fun r σ' => r = .ret (.row 0) ∧ σ' = [.row 1 (xs.take i ++ y :: xs.drop i) true, .row 1 [y] mv2] := by
  intro w I ρ ags has hO
  simp only [vrL] at has
  obtain ⟨v0, _, rfl, h0, v1, _, rfl, h1, v2, _, rfl, h2, rfl⟩ := has
  simp only [vr, Dr] at h1
  subst h1
  obtain ⟨L1, C1, T1, fz1, hL1, hs1, hh1, hth1, hC1, hle1, hE1, rfl⟩ := row_laid (n := 1) hO (l := 1) rfl h2 (by simp)
  obtain ⟨vs, hN1, hc1⟩ := DrN_of_E hE1
  have hvl : vs.length = 1 := by have := DrN_len hN1; simpa using this
  have hvone := DrN_one hN1
  have hvs : ∀ j v, vs[j]? = some v → w.cell? ⟨L1.b, L1.o + j, none⟩ = some v := fun j v hj => by rw [hc1 j (List.getElem?_eq_some_iff.1 hj).1]; exact hj
  have hone1 : ∀ v ∈ vs, v.oneCell' = true := hvone
  have hmax : xs.length + 1 ≤ maxLen := by simp only [maxLen]; omega
  have hy : ∀ (ys zs : List D) (a b : List Value) {w' : World}, (∀ b, I b → I b ∧ w'.heap[b]? = w.heap[b]?) → DrN w I 1 ys a → DrN w I 1 zs b → DrN w' I 1 (ys ++ y :: zs) (a ++ vs ++ b) := fun ys zs a b w' hI ha hb => by
    have := DrN_append (DrN_append ha hN1) hb
    rw [List.append_assoc, List.singleton_append] at this
    exact DrN_mono hI this
  have hdst : ∀ l : List D, l.length = xs.length + 1 → ((([O.row 1 xs mv, O.row 1 [y] mv2].map (O.kill (Nat.beq 0))).set 0 (O.row 1 l true))) = [.row 1 l true, .row 1 [y] mv2] := fun l _ => rfl
  have hz1 : ∀ x ∈ (.string ⟨#[]⟩ : Value).cells.toList, one x := by intro x hx; simp [Value.cells] at hx; subst hx; rfl
  have hzs : ∀ n, (Builtin.zeroCells (.string ⟨#[]⟩ : Value).cells n).size = n := fun n => by rw [size_zeroCells]; simp [Value.cells]
  have hlen : (xs.take i ++ y :: xs.drop i).length = xs.length + 1 := by simp; omega
  -- a new row
  have fresh : ∀ (cap : Nat) (C' : Array Value) (w' : World) (T' : TypeId), xs.length + 1 ≤ cap → cap ≤ maxLen → w'.heap[w.heap.size]? = some (.cells C' T' (0, 0)) → C'.size = cap → (∀ x ∈ C'.toList, one x) → (∀ b, b < w.heap.size → w'.heap[b]? = w.heap[b]?) → w.heap.size ≤ w'.heap.size → w'.os = w.os → w'.tape = w.tape → w'.output = w.output →
      ∀ cs, DrN w I 1 xs cs → (∀ j, j < xs.length + 1 → C'[j]? = (cs.take i ++ vs ++ cs.drop i)[j]?) →
      Fin 2 w I ρ [.row 1 xs mv, .row 1 [y] mv2] (fun r σ' => r = .ret (.row 0) ∧ σ' = [.row 1 (xs.take i ++ y :: xs.drop i) true, .row 1 [y] mv2]) (.returned (.slice (some ⟨w.heap.size, 0, none⟩) (xs.length + 1) cap)) w' := by
    intro cap C' w' T' k1 k2 k3 k4 k5 k6 k7 k8 k9 k10 cs hN k11
    have hI : ∀ b, I b → I b ∧ w'.heap[b]? = w.heap[b]? := fun b hb => ⟨hb, k6 b (hO.imm b hb).1⟩
    have hcl : cs.length = xs.length := by have := DrN_len hN; simpa using this
    have := row_moved (w' := w') (n := 2) (xs' := xs.take i ++ y :: xs.drop i) hO (l := 0) (sz := 1) (xs := xs) (mv := mv) rfl ⟨w.heap.size, 0, 1, cap⟩ rfl k3 ⟨thaw_zero _, k5⟩ (by simpa using k4) (by rw [hlen]; exact k1) k2 (by
      refine DrE_of_N (hy _ _ _ _ hI (by simpa using DrN_take i hN) (by simpa using DrN_drop i hN)) fun j hj => ?_
      simp only [List.length_append, List.length_take, List.length_drop, hcl, hvl] at hj
      rw [← k11 j (by omega)]
      simp only [World.cell?, k3, Nat.zero_add]
      rfl) (fun b hb _ => k6 b hb) k7 (.inl (Nat.le_refl _)) k8 k9 k10 (Nat.le_refl _)
    rw [hlen] at this
    exact this
  have h0' := h0
  simp only [vr] at h0
  rcases h0.2.2 _ _ _ rfl with ⟨hz, a, rfl⟩ | ⟨L, hL, hle, rfl⟩
  · -- nothing there
    have hxs : xs = [] := List.eq_nil_of_length_eq_zero hz
    subst hxs
    obtain rfl : i = 0 := by simpa using hi
    have hc := Any2.slices_Insert_string_end_grow Try.laysNm222 a 0 0 L1.b L1.o 1 L1.cap [] vs w (by omega) (by omega) (by omega) (by omega) rfl hvl (fun _ => rfl) (fun _ _ j v hj => by simp at hj) hvs hone1
    refine hc.mono ?_
    rintro e w' ⟨rfl, rfl⟩
    have hg := grownCap_ge w 1 0 (Try.laysNm222_ren.t 9)
    refine fresh _ _ _ _ (by simpa using hg) (grownCap_le_maxLen w 1 0 (Try.laysNm222_ren.t 9) (by simp [maxLen])) (heap_alloc_new _ _) ?_ ?_ (fun b hb => alloc_keep hb) (by simp) rfl rfl rfl [] (by simp [DrN]) (fun j hj => ?_)
    · rw [Array.size_append, hzs]; simp [hvl]; omega
    · exact one_app (fun x hx => hvone x (by simpa using hx)) (one_zeros hz1 _)
    · rw [Array.getElem?_append_left (by simp [hvl]; simpa using hj)]
      simp
  · have ho := hO.objs 0 _ rfl
    simp only [orel] at ho
    rcases ho with ⟨hx, _⟩ | ⟨L', C, T, fz, hL', hs, hh, hth, hC, hle2, hcap, hE⟩
    · rw [hL] at hx; cases hx
    rw [hL] at hL'; cases hL'
    obtain ⟨cs, hN, hcc⟩ := DrN_of_E hE
    have hcl : cs.length = xs.length := by have := DrN_len hN; simpa using this
    have hcone := DrN_one hN
    have hone : ∀ v ∈ cs, v.oneCell' = true := hcone
    have hcs : ∀ j v, cs[j]? = some v → w.cell? ⟨L.b, L.o + j, none⟩ = some v := fun j v hj => by rw [hcc j (List.getElem?_eq_some_iff.1 hj).1]; exact hj
    have hne : L1.b ≠ L.b := fun e => by have := hO.inj 1 0 L1 L ⟨_, rfl, by simp⟩ ⟨_, rfl, by simp⟩ hL1 hL e; omega
    have hCs : C.size = L.o + L.cap := by rw [hC]; simp
    have hsome : ∀ j, j < L.cap → (w.cell? ⟨L.b, L.o + j, none⟩).isSome = true := fun j hj => by simp [World.cell?, hh]; omega
    have hfro : ∀ j, j < L.cap → w.frozen? ⟨L.b, L.o + j, none⟩ = false := fun j hj => by
      have := hth.1.2 (L.o + j) (by omega)
      simp only [World.frozen?, hh, Bool.and_eq_false_iff, decide_eq_false_iff_not]
      omega
    have hv0 : (Value.slice (some ⟨L.b, L.o + 0 * L.sz, none⟩) xs.length (L.cap - 0)) = .slice (some ⟨L.b, L.o, none⟩) xs.length L.cap := by simp
    have hm63 : L.cap ≤ 9223372036854775807 := by simp only [maxLen] at hcap; exact hcap
    rw [hv0]
    -- in its place
    have inpl : ∀ (C' : Array Value) (w' : World), xs.length + 1 ≤ L.cap → w'.heap[L.b]? = some (.cells C' T fz) → C'.size = C.size → (∀ x ∈ C'.toList, one x) → (∀ b, b ≠ L.b → w'.heap[b]? = w.heap[b]?) → w'.heap.size = w.heap.size → w'.os = w.os → w'.tape = w.tape → w'.output = w.output →
        (∀ j, j < xs.length + 1 → w'.cell? ⟨L.b, L.o + j, none⟩ = (cs.take i ++ vs ++ cs.drop i)[j]?) →
        Fin 2 w I ρ [.row 1 xs mv, .row 1 [y] mv2] (fun r σ' => r = .ret (.row 0) ∧ σ' = [.row 1 (xs.take i ++ y :: xs.drop i) true, .row 1 [y] mv2]) (.returned (.slice (some ⟨L.b, L.o, none⟩) (xs.length + 1) L.cap)) w' := by
      intro C' w' k1 k3 k4 k5 k6 k7 k8 k9 k10 k11
      have hI : ∀ b, I b → I b ∧ w'.heap[b]? = w.heap[b]? := fun b hb => ⟨hb, k6 b fun e => (hO.imm b hb).2 ⟨0, _, L, rfl, by simp, hL, e.symm⟩⟩
      have := row_moved (w' := w') (n := 2) (xs' := xs.take i ++ y :: xs.drop i) hO (l := 0) (sz := 1) (xs := xs) (mv := mv) rfl L hs k3 ⟨by rw [k4]; exact hth.1, k5⟩ (by rw [k4, hC]) (by rw [hlen]; exact k1) hcap (by
        refine DrE_of_N (hy _ _ _ _ hI (by simpa using DrN_take i hN) (by simpa using DrN_drop i hN)) fun j hj => ?_
        simp only [List.length_append, List.length_take, List.length_drop, hcl, hvl] at hj
        exact k11 j (by omega)) (fun b _ hb => k6 b fun e => hb L hL e.symm) (by omega) (.inr ⟨L, hL, rfl⟩) k8 k9 k10 (Nat.le_refl _)
      rw [hlen] at this
      exact this
    by_cases hin : i < xs.length
    · by_cases hroom : xs.length + 1 ≤ L.cap
      · have hc := Any2.slices_Insert_string_shift Try.laysNm222 L.b L.o xs.length L.cap i L1.b L1.o 1 L1.cap cs vs w hin (by omega) hroom hm63 hne hcl hvl hcs (fun j hj => hsome j (by omega)) (fun j hj => hfro j (by omega)) hvs hone hone1
          T1 T C1.size C.size (by simp [World.shape?, hh1]) (by simp [World.shape?, hh]) (by omega) (by
            have := hth1.1.2 L1.o (by omega)
            simp only [World.frozen?, hh1, Bool.and_eq_false_iff, decide_eq_false_iff_not]
            omega) (by
            have := hth1.1.2 C1.size (Nat.le_refl _)
            simp only [World.frozen?, hh1, Bool.and_eq_false_iff, decide_eq_false_iff_not]
            omega)
        refine hc.mono ?_
        rintro e w' ⟨rfl, rfl⟩
        have hdl : (cs.drop i).length = xs.length - i := by simp [hcl]
        have e1 := setCells_setRow (cs.drop i) (L.o + (i + 1)) C w.drew (show w.drew.heap[L.b]? = _ from hh) (by omega)
        have hh2 := setRow_heap w.drew L.b C (C.toList.take (L.o + (i + 1)) ++ cs.drop i ++ C.toList.drop (L.o + (i + 1) + (cs.drop i).length)).toArray T fz hh
        have e2 := setCells_setRow vs (L.o + i) _ _ hh2 (by simp; omega)
        rw [← e1] at hh2 e2
        refine inpl _ _ hroom (by rw [e2]; exact setRow_heap _ _ _ _ _ _ hh2) (by simp; omega) (one_splice (one_splice hth.2 (fun x hx => hcone x (List.mem_of_mem_drop hx))) hvone) (fun b hb => by rw [e2, setRow_other _ _ _ _ hb, e1, setRow_other _ _ _ _ hb]; rfl) (by rw [e2, e1]; simp) (by rw [e2, e1]; rfl) (by rw [e2, e1]; rfl) (by rw [e2, e1]; rfl) fun j hj => ?_
        by_cases hj1 : j < i
        · rw [World.cell?_setCells_out _ _ _ _ _ (fun _ _ => by left; show L.o + j < L.o + i; omega), World.cell?_setCells_out _ _ _ _ _ (fun _ _ => by left; show L.o + j < L.o + (i + 1); omega)]
          rw [List.getElem?_append_left (by simp [hcl, hvl]; omega), List.getElem?_append_left (by simp [hcl]; omega), List.getElem?_take, if_pos hj1, ← hcc j (by omega)]
          rfl
        · by_cases hj2 : j = i
          · subst hj2
            rw [List.getElem?_append_left (by simp [hcl, hvl]; omega), List.getElem?_append_right (by simp [hcl]; omega), show j - (cs.take j).length = 0 by simp [hcl]; omega]
            have := World.cell?_setCells_in L.b vs (L.o + j) (w.drew.setCells L.b (L.o + (j + 1)) (cs.drop j)) (fun q hq => by
              rw [e1, cell_setRow_same (w := w.drew) (hg := hh)]
              simp; omega) 0 (by omega)
            rw [List.getElem?_eq_getElem (by omega)]
            simpa using this
          · rw [World.cell?_setCells_out _ _ _ _ _ (fun _ _ => by right; show L.o + i + vs.length ≤ L.o + j; omega)]
            have := World.cell?_setCells_in L.b (cs.drop i) (L.o + (i + 1)) w.drew (fun q hq => by
              show (w.cell? ⟨L.b, L.o + (i + 1) + q, none⟩).isSome = true
              rw [show L.o + (i + 1) + q = L.o + (i + 1 + q) by omega]
              exact hsome _ (by omega)) (j - (i + 1)) (by omega)
            rw [show L.o + (i + 1) + (j - (i + 1)) = L.o + j by omega] at this
            rw [this, List.getElem?_append_right (by simp [hcl, hvl]; omega), show j - (cs.take i ++ vs).length = j - (i + 1) by simp [hcl, hvl]; omega, List.getElem?_eq_getElem]
      · have hc := Any2.slices_Insert_string_grow Try.laysNm222 L.b L.o xs.length L.cap i L1.b L1.o 1 L1.cap cs vs w hin (by omega) (by omega) (by omega) hb hcl hvl hcs hvs hone hone1
        refine hc.mono ?_
        rintro e w' ⟨rfl, rfl⟩
        have hg := grownCap_ge w (xs.length + 1) L.cap (Try.laysNm222_ren.t 9)
        generalize hcap' : grownCap w (xs.length + 1) L.cap (Try.laysNm222_ren.t 9) = cap' at hg
        have hmx : cap' ≤ maxLen := hcap' ▸ grownCap_le_maxLen w _ _ _ hmax
        generalize hA : (cs.take i).toArray ++ Builtin.zeroCells (.string ⟨#[]⟩ : Value).cells (xs.length + 1 - i) ++ Builtin.zeroCells (.string ⟨#[]⟩ : Value).cells (cap' - (xs.length + 1)) = A
        have hAs : A.size = cap' := by rw [← hA, Array.size_append, Array.size_append, hzs, hzs]; simp [hcl]; omega
        have hA1 : A.toList.take i = cs.take i := by
          rw [← hA, Array.toList_append, Array.toList_append, List.append_assoc]
          rw [List.take_append_of_le_length (by simp [hcl]; omega), List.take_of_length_le (by simp; omega)]
        have hAo : ∀ x ∈ A.toList, one x := by
          rw [← hA]
          intro x hx
          rw [Array.toList_append] at hx
          rcases List.mem_append.1 hx with hx | hx
          · exact one_app (fun x hx => hcone x (List.mem_of_mem_take hx)) (one_zeros hz1 _) x hx
          · exact one_zeros hz1 _ x hx
        have ha1 : (w.alloc (.cells A (Try.laysNm222_ren.t 9))).drew.heap[w.heap.size]? = some (.cells A (Try.laysNm222_ren.t 9) (0, 0)) := heap_alloc_new _ _
        have e1 := setCells_setRow vs i A _ ha1 (by omega)
        have ha2 := setRow_heap _ w.heap.size A (A.toList.take i ++ vs ++ A.toList.drop (i + vs.length)).toArray _ _ ha1
        rw [← e1] at ha2
        have ha3 : ((w.alloc (.cells A (Try.laysNm222_ren.t 9))).drew.setCells w.heap.size i vs).drew.heap[w.heap.size]? = some (.cells (A.toList.take i ++ vs ++ A.toList.drop (i + vs.length)).toArray (Try.laysNm222_ren.t 9) (0, 0)) := ha2
        have hdl : (cs.drop i).length = xs.length - i := by simp [hcl]
        have e2 := setCells_setRow (cs.drop i) (i + 1) _ _ ha3 (by simp; omega)
        have ha4 := setRow_heap _ w.heap.size _ ((A.toList.take i ++ vs ++ A.toList.drop (i + vs.length)).toArray.toList.take (i + 1) ++ cs.drop i ++ (A.toList.take i ++ vs ++ A.toList.drop (i + vs.length)).toArray.toList.drop (i + 1 + (cs.drop i).length)).toArray _ _ ha3
        rw [← e2] at ha4
        refine fresh cap' _ _ _ hg hmx ha4 (by simp; omega) (one_splice (one_splice hAo hvone) (fun x hx => hcone x (List.mem_of_mem_drop hx))) (fun b hb => ?_) (by rw [e2]; simp only [setRow_size]; rw [show ∀ w : World, w.drew.heap.size = w.heap.size from fun _ => rfl, e1]; simp) (by rw [e2]; show (World.setCells _ _ _ _).os = _; rw [e1]; rfl) (by rw [e2]; show (World.setCells _ _ _ _).tape = _; rw [e1]; rfl) (by rw [e2]; show (World.setCells _ _ _ _).output = _; rw [e1]; rfl) cs hN (fun j hj => ?_)
        · rw [e2, setRow_other _ _ _ _ (by omega)]
          show (World.setCells _ _ _ _).heap[b]? = _
          rw [e1, setRow_other _ _ _ _ (by omega)]
          exact alloc_keep hb
        · have ht : (A.toList.take i ++ vs ++ A.toList.drop (i + vs.length)).take (i + 1) = cs.take i ++ vs := by
            rw [hA1, List.take_append_of_le_length (by simp [hcl, hvl]; omega), List.take_of_length_le (by simp [hcl, hvl]; omega)]
          simp only [List.getElem?_toArray]
          rw [ht, List.getElem?_append_left (by simp [hcl, hvl]; omega)]
    · obtain rfl : i = xs.length := by omega
      by_cases hroom : xs.length + 1 ≤ L.cap
      · have hc := Any2.slices_Insert_string_end_room Try.laysNm222 L.b L.o xs.length L.cap L1.b L1.o 1 L1.cap vs w (by omega) hroom hm63 hvl (fun j hj => by rw [Nat.add_assoc]; exact hsome _ (by omega)) (fun j hj => by rw [Nat.add_assoc]; exact hfro _ (by omega)) hvs hone1
        refine hc.mono ?_
        rintro e w' ⟨rfl, rfl⟩
        have e1 := setCells_setRow vs (L.o + xs.length) C w hh (by omega)
        refine inpl _ _ hroom (by rw [e1]; exact setRow_heap _ _ _ _ _ _ hh) (by simp; omega) (one_splice hth.2 hvone) (fun b hb => by rw [e1, setRow_other _ _ _ _ hb]) (by rw [e1]; simp) (by rw [e1]; rfl) (by rw [e1]; rfl) (by rw [e1]; rfl) fun j hj => ?_
        by_cases hj1 : j < xs.length
        · rw [World.cell?_setCells_out _ _ _ _ _ (fun _ _ => by left; show L.o + j < L.o + xs.length; omega)]
          rw [List.getElem?_append_left (by simp [hcl, hvl]; omega), List.getElem?_append_left (by simp [hcl]; omega), List.getElem?_take, if_pos hj1, ← hcc j (by omega)]
        · obtain rfl : j = xs.length := by omega
          rw [List.getElem?_append_left (by simp [hcl, hvl]), List.getElem?_append_right (by simp [hcl]), show xs.length - (cs.take xs.length).length = 0 by simp [hcl]]
          have := World.cell?_setCells_in L.b vs (L.o + xs.length) w (fun q hq => by rw [Nat.add_assoc]; exact hsome _ (by omega)) 0 (by omega)
          rw [List.getElem?_eq_getElem (by omega)]
          simpa using this
      · have hc := Any2.slices_Insert_string_end_grow Try.laysNm222 (some ⟨L.b, L.o, none⟩) xs.length L.cap L1.b L1.o 1 L1.cap cs vs w (by omega) (by omega) (by omega) hb hcl hvl (fun h => by cases h) (fun a ha j v hj => by cases ha; rw [addr_add]; exact hcs j v hj) hvs hone1
        refine hc.mono ?_
        rintro e w' ⟨rfl, rfl⟩
        have hg := grownCap_ge w (xs.length + 1) L.cap (Try.laysNm222_ren.t 9)
        refine fresh _ _ _ _ hg (grownCap_le_maxLen w _ _ (Try.laysNm222_ren.t 9) hmax) (heap_alloc_new _ _) ?_ ?_ (fun b hb => alloc_keep hb) (by simp) rfl rfl rfl cs hN (fun j hj => ?_)
        · rw [Array.size_append, hzs]; simp [hvl, hcl]; omega
        · exact one_app (fun x hx => (List.mem_append.1 hx).elim (hcone x) (hvone x)) (one_zeros hz1 _)
        · rw [Array.getElem?_append_left (by simp [hvl, hcl]; omega), List.getElem?_toArray, List.take_of_length_le (by omega), List.drop_eq_nil_of_le (by omega), List.append_nil]
theorem ins_int (xs : List D) (y : D) (i : Nat) (mv mv2 : Bool) (hi : i ≤ xs.length) (hb : (xs.length + 1) * 8 ≤ 140737488355328) : CallsA Try.prog 101 [.row 0, .d (.int .i64 i), .row 1] [.row 1 xs mv, .row 1 [y] mv2] fun r σ' => r = .ret (.row 0) ∧ σ' = [.row 1 (xs.take i ++ y :: xs.drop i) true, .row 1 [y] mv2] := by
  intro w I ρ ags has hO
  simp only [vrL] at has
  obtain ⟨v0, _, rfl, h0, v1, _, rfl, h1, v2, _, rfl, h2, rfl⟩ := has
  simp only [vr, Dr] at h1
  subst h1
  obtain ⟨L1, C1, T1, fz1, hL1, hs1, hh1, hth1, hC1, hle1, hE1, rfl⟩ := row_laid (n := 1) hO (l := 1) rfl h2 (by simp)
  obtain ⟨vs, hN1, hc1⟩ := DrN_of_E hE1
  have hvl : vs.length = 1 := by have := DrN_len hN1; simpa using this
  have hvone := DrN_one hN1
  have hvs : ∀ j v, vs[j]? = some v → w.cell? ⟨L1.b, L1.o + j, none⟩ = some v := fun j v hj => by rw [hc1 j (List.getElem?_eq_some_iff.1 hj).1]; exact hj
  have hone1 : ∀ v ∈ vs, v.oneCell' = true := hvone
  have hmax : xs.length + 1 ≤ maxLen := by simp only [maxLen]; omega
  have hy : ∀ (ys zs : List D) (a b : List Value) {w' : World}, (∀ b, I b → I b ∧ w'.heap[b]? = w.heap[b]?) → DrN w I 1 ys a → DrN w I 1 zs b → DrN w' I 1 (ys ++ y :: zs) (a ++ vs ++ b) := fun ys zs a b w' hI ha hb => by
    have := DrN_append (DrN_append ha hN1) hb
    rw [List.append_assoc, List.singleton_append] at this
    exact DrN_mono hI this
  have hdst : ∀ l : List D, l.length = xs.length + 1 → ((([O.row 1 xs mv, O.row 1 [y] mv2].map (O.kill (Nat.beq 0))).set 0 (O.row 1 l true))) = [.row 1 l true, .row 1 [y] mv2] := fun l _ => rfl
  have hz1 : ∀ x ∈ (.int .i64 0 : Value).cells.toList, one x := by intro x hx; simp [Value.cells] at hx; subst hx; rfl
  have hzs : ∀ n, (Builtin.zeroCells (.int .i64 0 : Value).cells n).size = n := fun n => by rw [size_zeroCells]; simp [Value.cells]
  have hlen : (xs.take i ++ y :: xs.drop i).length = xs.length + 1 := by simp; omega
  -- a new row
  have fresh : ∀ (cap : Nat) (C' : Array Value) (w' : World) (T' : TypeId), xs.length + 1 ≤ cap → cap ≤ maxLen → w'.heap[w.heap.size]? = some (.cells C' T' (0, 0)) → C'.size = cap → (∀ x ∈ C'.toList, one x) → (∀ b, b < w.heap.size → w'.heap[b]? = w.heap[b]?) → w.heap.size ≤ w'.heap.size → w'.os = w.os → w'.tape = w.tape → w'.output = w.output →
      ∀ cs, DrN w I 1 xs cs → (∀ j, j < xs.length + 1 → C'[j]? = (cs.take i ++ vs ++ cs.drop i)[j]?) →
      Fin 2 w I ρ [.row 1 xs mv, .row 1 [y] mv2] (fun r σ' => r = .ret (.row 0) ∧ σ' = [.row 1 (xs.take i ++ y :: xs.drop i) true, .row 1 [y] mv2]) (.returned (.slice (some ⟨w.heap.size, 0, none⟩) (xs.length + 1) cap)) w' := by
    intro cap C' w' T' k1 k2 k3 k4 k5 k6 k7 k8 k9 k10 cs hN k11
    have hI : ∀ b, I b → I b ∧ w'.heap[b]? = w.heap[b]? := fun b hb => ⟨hb, k6 b (hO.imm b hb).1⟩
    have hcl : cs.length = xs.length := by have := DrN_len hN; simpa using this
    have := row_moved (w' := w') (n := 2) (xs' := xs.take i ++ y :: xs.drop i) hO (l := 0) (sz := 1) (xs := xs) (mv := mv) rfl ⟨w.heap.size, 0, 1, cap⟩ rfl k3 ⟨thaw_zero _, k5⟩ (by simpa using k4) (by rw [hlen]; exact k1) k2 (by
      refine DrE_of_N (hy _ _ _ _ hI (by simpa using DrN_take i hN) (by simpa using DrN_drop i hN)) fun j hj => ?_
      simp only [List.length_append, List.length_take, List.length_drop, hcl, hvl] at hj
      rw [← k11 j (by omega)]
      simp only [World.cell?, k3, Nat.zero_add]
      rfl) (fun b hb _ => k6 b hb) k7 (.inl (Nat.le_refl _)) k8 k9 k10 (Nat.le_refl _)
    rw [hlen] at this
    exact this
  have h0' := h0
  simp only [vr] at h0
  rcases h0.2.2 _ _ _ rfl with ⟨hz, a, rfl⟩ | ⟨L, hL, hle, rfl⟩
  · -- nothing there
    have hxs : xs = [] := List.eq_nil_of_length_eq_zero hz
    subst hxs
    obtain rfl : i = 0 := by simpa using hi
    have hc := Any2.slices_Insert_int_end_grow Try.laysNm221 a 0 0 L1.b L1.o 1 L1.cap [] vs w (by omega) (by omega) (by omega) (by omega) rfl hvl (fun _ => rfl) (fun _ _ j v hj => by simp at hj) hvs hone1
    refine hc.mono ?_
    rintro e w' ⟨rfl, rfl⟩
    have hg := grownCap_ge w 1 0 (Try.laysNm221_ren.t 3)
    refine fresh _ _ _ _ (by simpa using hg) (grownCap_le_maxLen w 1 0 (Try.laysNm221_ren.t 3) (by simp [maxLen])) (heap_alloc_new _ _) ?_ ?_ (fun b hb => alloc_keep hb) (by simp) rfl rfl rfl [] (by simp [DrN]) (fun j hj => ?_)
    · rw [Array.size_append, hzs]; simp [hvl]; omega
    · exact one_app (fun x hx => hvone x (by simpa using hx)) (one_zeros hz1 _)
    · rw [Array.getElem?_append_left (by simp [hvl]; simpa using hj)]
      simp
  · have ho := hO.objs 0 _ rfl
    simp only [orel] at ho
    rcases ho with ⟨hx, _⟩ | ⟨L', C, T, fz, hL', hs, hh, hth, hC, hle2, hcap, hE⟩
    · rw [hL] at hx; cases hx
    rw [hL] at hL'; cases hL'
    obtain ⟨cs, hN, hcc⟩ := DrN_of_E hE
    have hcl : cs.length = xs.length := by have := DrN_len hN; simpa using this
    have hcone := DrN_one hN
    have hone : ∀ v ∈ cs, v.oneCell' = true := hcone
    have hcs : ∀ j v, cs[j]? = some v → w.cell? ⟨L.b, L.o + j, none⟩ = some v := fun j v hj => by rw [hcc j (List.getElem?_eq_some_iff.1 hj).1]; exact hj
    have hne : L1.b ≠ L.b := fun e => by have := hO.inj 1 0 L1 L ⟨_, rfl, by simp⟩ ⟨_, rfl, by simp⟩ hL1 hL e; omega
    have hCs : C.size = L.o + L.cap := by rw [hC]; simp
    have hsome : ∀ j, j < L.cap → (w.cell? ⟨L.b, L.o + j, none⟩).isSome = true := fun j hj => by simp [World.cell?, hh]; omega
    have hfro : ∀ j, j < L.cap → w.frozen? ⟨L.b, L.o + j, none⟩ = false := fun j hj => by
      have := hth.1.2 (L.o + j) (by omega)
      simp only [World.frozen?, hh, Bool.and_eq_false_iff, decide_eq_false_iff_not]
      omega
    have hv0 : (Value.slice (some ⟨L.b, L.o + 0 * L.sz, none⟩) xs.length (L.cap - 0)) = .slice (some ⟨L.b, L.o, none⟩) xs.length L.cap := by simp
    have hm63 : L.cap ≤ 9223372036854775807 := by simp only [maxLen] at hcap; exact hcap
    rw [hv0]
    -- in its place
    have inpl : ∀ (C' : Array Value) (w' : World), xs.length + 1 ≤ L.cap → w'.heap[L.b]? = some (.cells C' T fz) → C'.size = C.size → (∀ x ∈ C'.toList, one x) → (∀ b, b ≠ L.b → w'.heap[b]? = w.heap[b]?) → w'.heap.size = w.heap.size → w'.os = w.os → w'.tape = w.tape → w'.output = w.output →
        (∀ j, j < xs.length + 1 → w'.cell? ⟨L.b, L.o + j, none⟩ = (cs.take i ++ vs ++ cs.drop i)[j]?) →
        Fin 2 w I ρ [.row 1 xs mv, .row 1 [y] mv2] (fun r σ' => r = .ret (.row 0) ∧ σ' = [.row 1 (xs.take i ++ y :: xs.drop i) true, .row 1 [y] mv2]) (.returned (.slice (some ⟨L.b, L.o, none⟩) (xs.length + 1) L.cap)) w' := by
      intro C' w' k1 k3 k4 k5 k6 k7 k8 k9 k10 k11
      have hI : ∀ b, I b → I b ∧ w'.heap[b]? = w.heap[b]? := fun b hb => ⟨hb, k6 b fun e => (hO.imm b hb).2 ⟨0, _, L, rfl, by simp, hL, e.symm⟩⟩
      have := row_moved (w' := w') (n := 2) (xs' := xs.take i ++ y :: xs.drop i) hO (l := 0) (sz := 1) (xs := xs) (mv := mv) rfl L hs k3 ⟨by rw [k4]; exact hth.1, k5⟩ (by rw [k4, hC]) (by rw [hlen]; exact k1) hcap (by
        refine DrE_of_N (hy _ _ _ _ hI (by simpa using DrN_take i hN) (by simpa using DrN_drop i hN)) fun j hj => ?_
        simp only [List.length_append, List.length_take, List.length_drop, hcl, hvl] at hj
        exact k11 j (by omega)) (fun b _ hb => k6 b fun e => hb L hL e.symm) (by omega) (.inr ⟨L, hL, rfl⟩) k8 k9 k10 (Nat.le_refl _)
      rw [hlen] at this
      exact this
    by_cases hin : i < xs.length
    · by_cases hroom : xs.length + 1 ≤ L.cap
      · have hc := Any2.slices_Insert_int_shift Try.laysNm221 L.b L.o xs.length L.cap i L1.b L1.o 1 L1.cap cs vs w hin (by omega) hroom hm63 hne hcl hvl hcs (fun j hj => hsome j (by omega)) (fun j hj => hfro j (by omega)) hvs hone hone1
          T1 T C1.size C.size (by simp [World.shape?, hh1]) (by simp [World.shape?, hh]) (by omega) (by
            have := hth1.1.2 L1.o (by omega)
            simp only [World.frozen?, hh1, Bool.and_eq_false_iff, decide_eq_false_iff_not]
            omega) (by
            have := hth1.1.2 C1.size (Nat.le_refl _)
            simp only [World.frozen?, hh1, Bool.and_eq_false_iff, decide_eq_false_iff_not]
            omega)
        refine hc.mono ?_
        rintro e w' ⟨rfl, rfl⟩
        have hdl : (cs.drop i).length = xs.length - i := by simp [hcl]
        have e1 := setCells_setRow (cs.drop i) (L.o + (i + 1)) C w.drew (show w.drew.heap[L.b]? = _ from hh) (by omega)
        have hh2 := setRow_heap w.drew L.b C (C.toList.take (L.o + (i + 1)) ++ cs.drop i ++ C.toList.drop (L.o + (i + 1) + (cs.drop i).length)).toArray T fz hh
        have e2 := setCells_setRow vs (L.o + i) _ _ hh2 (by simp; omega)
        rw [← e1] at hh2 e2
        refine inpl _ _ hroom (by rw [e2]; exact setRow_heap _ _ _ _ _ _ hh2) (by simp; omega) (one_splice (one_splice hth.2 (fun x hx => hcone x (List.mem_of_mem_drop hx))) hvone) (fun b hb => by rw [e2, setRow_other _ _ _ _ hb, e1, setRow_other _ _ _ _ hb]; rfl) (by rw [e2, e1]; simp) (by rw [e2, e1]; rfl) (by rw [e2, e1]; rfl) (by rw [e2, e1]; rfl) fun j hj => ?_
        by_cases hj1 : j < i
        · rw [World.cell?_setCells_out _ _ _ _ _ (fun _ _ => by left; show L.o + j < L.o + i; omega), World.cell?_setCells_out _ _ _ _ _ (fun _ _ => by left; show L.o + j < L.o + (i + 1); omega)]
          rw [List.getElem?_append_left (by simp [hcl, hvl]; omega), List.getElem?_append_left (by simp [hcl]; omega), List.getElem?_take, if_pos hj1, ← hcc j (by omega)]
          rfl
        · by_cases hj2 : j = i
          · subst hj2
            rw [List.getElem?_append_left (by simp [hcl, hvl]; omega), List.getElem?_append_right (by simp [hcl]; omega), show j - (cs.take j).length = 0 by simp [hcl]; omega]
            have := World.cell?_setCells_in L.b vs (L.o + j) (w.drew.setCells L.b (L.o + (j + 1)) (cs.drop j)) (fun q hq => by
              rw [e1, cell_setRow_same (w := w.drew) (hg := hh)]
              simp; omega) 0 (by omega)
            rw [List.getElem?_eq_getElem (by omega)]
            simpa using this
          · rw [World.cell?_setCells_out _ _ _ _ _ (fun _ _ => by right; show L.o + i + vs.length ≤ L.o + j; omega)]
            have := World.cell?_setCells_in L.b (cs.drop i) (L.o + (i + 1)) w.drew (fun q hq => by
              show (w.cell? ⟨L.b, L.o + (i + 1) + q, none⟩).isSome = true
              rw [show L.o + (i + 1) + q = L.o + (i + 1 + q) by omega]
              exact hsome _ (by omega)) (j - (i + 1)) (by omega)
            rw [show L.o + (i + 1) + (j - (i + 1)) = L.o + j by omega] at this
            rw [this, List.getElem?_append_right (by simp [hcl, hvl]; omega), show j - (cs.take i ++ vs).length = j - (i + 1) by simp [hcl, hvl]; omega, List.getElem?_eq_getElem]
      · have hc := Any2.slices_Insert_int_grow Try.laysNm221 L.b L.o xs.length L.cap i L1.b L1.o 1 L1.cap cs vs w hin (by omega) (by omega) (by omega) hb hcl hvl hcs hvs hone hone1
        refine hc.mono ?_
        rintro e w' ⟨rfl, rfl⟩
        have hg := grownCap_ge w (xs.length + 1) L.cap (Try.laysNm221_ren.t 3)
        generalize hcap' : grownCap w (xs.length + 1) L.cap (Try.laysNm221_ren.t 3) = cap' at hg
        have hmx : cap' ≤ maxLen := hcap' ▸ grownCap_le_maxLen w _ _ _ hmax
        generalize hA : (cs.take i).toArray ++ Builtin.zeroCells (.int .i64 0 : Value).cells (xs.length + 1 - i) ++ Builtin.zeroCells (.int .i64 0 : Value).cells (cap' - (xs.length + 1)) = A
        have hAs : A.size = cap' := by rw [← hA, Array.size_append, Array.size_append, hzs, hzs]; simp [hcl]; omega
        have hA1 : A.toList.take i = cs.take i := by
          rw [← hA, Array.toList_append, Array.toList_append, List.append_assoc]
          rw [List.take_append_of_le_length (by simp [hcl]; omega), List.take_of_length_le (by simp; omega)]
        have hAo : ∀ x ∈ A.toList, one x := by
          rw [← hA]
          intro x hx
          rw [Array.toList_append] at hx
          rcases List.mem_append.1 hx with hx | hx
          · exact one_app (fun x hx => hcone x (List.mem_of_mem_take hx)) (one_zeros hz1 _) x hx
          · exact one_zeros hz1 _ x hx
        have ha1 : (w.alloc (.cells A (Try.laysNm221_ren.t 3))).drew.heap[w.heap.size]? = some (.cells A (Try.laysNm221_ren.t 3) (0, 0)) := heap_alloc_new _ _
        have e1 := setCells_setRow vs i A _ ha1 (by omega)
        have ha2 := setRow_heap _ w.heap.size A (A.toList.take i ++ vs ++ A.toList.drop (i + vs.length)).toArray _ _ ha1
        rw [← e1] at ha2
        have ha3 : ((w.alloc (.cells A (Try.laysNm221_ren.t 3))).drew.setCells w.heap.size i vs).drew.heap[w.heap.size]? = some (.cells (A.toList.take i ++ vs ++ A.toList.drop (i + vs.length)).toArray (Try.laysNm221_ren.t 3) (0, 0)) := ha2
        have hdl : (cs.drop i).length = xs.length - i := by simp [hcl]
        have e2 := setCells_setRow (cs.drop i) (i + 1) _ _ ha3 (by simp; omega)
        have ha4 := setRow_heap _ w.heap.size _ ((A.toList.take i ++ vs ++ A.toList.drop (i + vs.length)).toArray.toList.take (i + 1) ++ cs.drop i ++ (A.toList.take i ++ vs ++ A.toList.drop (i + vs.length)).toArray.toList.drop (i + 1 + (cs.drop i).length)).toArray _ _ ha3
        rw [← e2] at ha4
        refine fresh cap' _ _ _ hg hmx ha4 (by simp; omega) (one_splice (one_splice hAo hvone) (fun x hx => hcone x (List.mem_of_mem_drop hx))) (fun b hb => ?_) (by rw [e2]; simp only [setRow_size]; rw [show ∀ w : World, w.drew.heap.size = w.heap.size from fun _ => rfl, e1]; simp) (by rw [e2]; show (World.setCells _ _ _ _).os = _; rw [e1]; rfl) (by rw [e2]; show (World.setCells _ _ _ _).tape = _; rw [e1]; rfl) (by rw [e2]; show (World.setCells _ _ _ _).output = _; rw [e1]; rfl) cs hN (fun j hj => ?_)
        · rw [e2, setRow_other _ _ _ _ (by omega)]
          show (World.setCells _ _ _ _).heap[b]? = _
          rw [e1, setRow_other _ _ _ _ (by omega)]
          exact alloc_keep hb
        · have ht : (A.toList.take i ++ vs ++ A.toList.drop (i + vs.length)).take (i + 1) = cs.take i ++ vs := by
            rw [hA1, List.take_append_of_le_length (by simp [hcl, hvl]; omega), List.take_of_length_le (by simp [hcl, hvl]; omega)]
          simp only [List.getElem?_toArray]
          rw [ht, List.getElem?_append_left (by simp [hcl, hvl]; omega)]
    · obtain rfl : i = xs.length := by omega
      by_cases hroom : xs.length + 1 ≤ L.cap
      · have hc := Any2.slices_Insert_int_end_room Try.laysNm221 L.b L.o xs.length L.cap L1.b L1.o 1 L1.cap vs w (by omega) hroom hm63 hvl (fun j hj => by rw [Nat.add_assoc]; exact hsome _ (by omega)) (fun j hj => by rw [Nat.add_assoc]; exact hfro _ (by omega)) hvs hone1
        refine hc.mono ?_
        rintro e w' ⟨rfl, rfl⟩
        have e1 := setCells_setRow vs (L.o + xs.length) C w hh (by omega)
        refine inpl _ _ hroom (by rw [e1]; exact setRow_heap _ _ _ _ _ _ hh) (by simp; omega) (one_splice hth.2 hvone) (fun b hb => by rw [e1, setRow_other _ _ _ _ hb]) (by rw [e1]; simp) (by rw [e1]; rfl) (by rw [e1]; rfl) (by rw [e1]; rfl) fun j hj => ?_
        by_cases hj1 : j < xs.length
        · rw [World.cell?_setCells_out _ _ _ _ _ (fun _ _ => by left; show L.o + j < L.o + xs.length; omega)]
          rw [List.getElem?_append_left (by simp [hcl, hvl]; omega), List.getElem?_append_left (by simp [hcl]; omega), List.getElem?_take, if_pos hj1, ← hcc j (by omega)]
        · obtain rfl : j = xs.length := by omega
          rw [List.getElem?_append_left (by simp [hcl, hvl]), List.getElem?_append_right (by simp [hcl]), show xs.length - (cs.take xs.length).length = 0 by simp [hcl]]
          have := World.cell?_setCells_in L.b vs (L.o + xs.length) w (fun q hq => by rw [Nat.add_assoc]; exact hsome _ (by omega)) 0 (by omega)
          rw [List.getElem?_eq_getElem (by omega)]
          simpa using this
      · have hc := Any2.slices_Insert_int_end_grow Try.laysNm221 (some ⟨L.b, L.o, none⟩) xs.length L.cap L1.b L1.o 1 L1.cap cs vs w (by omega) (by omega) (by omega) hb hcl hvl (fun h => by cases h) (fun a ha j v hj => by cases ha; rw [addr_add]; exact hcs j v hj) hvs hone1
        refine hc.mono ?_
        rintro e w' ⟨rfl, rfl⟩
        have hg := grownCap_ge w (xs.length + 1) L.cap (Try.laysNm221_ren.t 3)
        refine fresh _ _ _ _ hg (grownCap_le_maxLen w _ _ (Try.laysNm221_ren.t 3) hmax) (heap_alloc_new _ _) ?_ ?_ (fun b hb => alloc_keep hb) (by simp) rfl rfl rfl cs hN (fun j hj => ?_)
        · rw [Array.size_append, hzs]; simp [hvl, hcl]; omega
        · exact one_app (fun x hx => (List.mem_append.1 hx).elim (hcone x) (hvone x)) (one_zeros hz1 _)
        · rw [Array.getElem?_append_left (by simp [hvl, hcl]; omega), List.getElem?_toArray, List.take_of_length_le (by omega), List.drop_eq_nil_of_le (by omega), List.append_nil]
end Go.Proofs.Ytoelkgbeefoplaa
namespace Go.Proofs.Ytoelkgbeefoplaa
open Go Go.Br Go.Proofs
def strD (s : ByteArray) : D := .str s
def intD (n : Int) : D := .int .i64 n
theorem cells_scal {α : Type} {w : World} {I : Nat → Prop} {b : Nat} (g : α → D) (e : α → Value) (hg : ∀ a v, Dr w I (g a) v → v = e a) (h1 : ∀ a, (e a).cells = #[e a]) : ∀ {l : List α} {o : Nat}, DrE w I 1 b o (l.map g) → ∀ j (h : j < l.length), w.cell? ⟨b, o + j, none⟩ = some (e l[j]) := by
  intro l o hE j h
  obtain ⟨v, k1, k2, k3⟩ := DrE_get hE (i := j) (d := g l[j]) (by simp [h])
  obtain rfl := hg _ _ k1
  have := k3 0 (by omega)
  simp only [Nat.mul_one, Nat.add_zero, h1] at this
  simpa using this
theorem cells_str {w : World} {I : Nat → Prop} {b o : Nat} {l : List ByteArray} (h : DrE w I 1 b o (l.map strD)) (j : Nat) (hj : j < l.length) : w.cell? ⟨b, o + j, none⟩ = some (.string l[j]) :=
  cells_scal strD Value.string (fun a v h => by simpa [strD, Dr] using h) (fun _ => rfl) h j hj
theorem cells_int {w : World} {I : Nat → Prop} {b o : Nat} {l : List Int} (h : DrE w I 1 b o (l.map intD)) (j : Nat) (hj : j < l.length) : w.cell? ⟨b, o + j, none⟩ = some (.int .i64 l[j]) :=
  cells_scal intD (Value.int .i64) (fun a v h => by simpa [intD, Dr] using h) (fun _ => rfl) h j hj
theorem drewN_rest (w : World) (q : Nat) : (w.drewN q).heap = w.heap ∧ (w.drewN q).os = w.os ∧ (w.drewN q).tape = w.tape ∧ (w.drewN q).output = w.output := ⟨rfl, rfl, rfl, rfl⟩
theorem fin_drew {n : Nat} {w w' : World} {I : Nat → Prop} {ρ : LM} {σ : Store} {v : V} {x : Value} (hO : ORel w I ρ σ) (hh : w'.heap = w.heap) (ho : w'.os = w.os) (ht : w'.tape = w.tape) (hp : w'.output = w.output) (hn : n ≤ σ.length) (hv : vr w I ρ σ v x) :
    Fin n w I ρ σ (fun r σ' => r = .ret v ∧ σ' = σ) (.returned x) w' := by
  have hI : ∀ b, I b → I b ∧ w'.heap[b]? = w.heap[b]? := fun b hb => ⟨hb, by rw [hh]⟩
  have hS : ∀ l, l < σ.length → Same ρ σ ρ σ l := fun l hl => ⟨hl, fun o' h1 h2 => ⟨rfl, o', h1, h2, rfl⟩⟩
  have hx := (Ext.refl w I ρ σ).less hn
  refine ⟨I, ρ, σ, .ret v, ⟨rfl, rfl⟩, ⟨x, rfl, vr_all hI hS hv⟩, ⟨fun l o hl => orel_all hI hS rfl (fun L _ => by rw [hh]) (hO.objs l o hl), hO.inj, fun b hb => by rw [hh]; exact hO.flt b hb, fun b hb => by rw [hh]; exact hO.imm b hb⟩, ⟨by rw [hh]; exact Nat.le_refl _, ho, ht, hp, fun b _ _ => by rw [hh], hx.immI, hx.immN, hx.footN, hx.len, hx.alive, hx.fixed, hx.stay⟩⟩
theorem row_cut {n l : Nat} {w w' : World} {I : Nat → Prop} {ρ : LM} {σ : Store} {xs xs' : List D} {mv : Bool} {L : Br.Loc} {C : Array Value} {T : TypeId} {fz : Nat × Nat} {vs : List Value} {q : Nat} (hO : ORel w I ρ σ) (hl : σ[l]? = some (.row 1 xs mv)) (hL : ρ l = some L) (hs : L.sz = 1)
    (hh : w.heap[L.b]? = some (.cells C T fz)) (hth : thawR fz C) (hC : C.size = L.o + L.cap * 1) (hle : xs.length ≤ L.cap) (hvl : vs.length = xs.length) (hv1 : ∀ x ∈ vs, one x) (hw : w' = (w.drewN q).setCells L.b L.o vs) (hx : xs'.length ≤ xs.length) (hcap : L.cap ≤ maxLen) (hn : n ≤ σ.length)
    (hE : ∀ w2 : World, (∀ b, I b → I b ∧ w2.heap[b]? = w.heap[b]?) → (∀ j, j < vs.length → w2.cell? ⟨L.b, L.o + j, none⟩ = vs[j]?) → DrE w2 I 1 L.b L.o xs') :
    Fin n w I ρ σ (fun r σ' => r = .ret (.row l) ∧ σ' = (σ.map (O.kill (Nat.beq l))).set l (.row 1 xs' true)) (.returned (.slice (some ⟨L.b, L.o, none⟩) xs'.length L.cap)) w' := by
  have e1 := setCells_setRow vs L.o C (w.drewN q) hh (by omega)
  have hh2 := setRow_heap (w.drewN q) L.b C (C.toList.take L.o ++ vs ++ C.toList.drop (L.o + vs.length)).toArray T fz hh
  rw [← e1, ← hw] at hh2
  have hoth : ∀ b, b ≠ L.b → w'.heap[b]? = w.heap[b]? := fun b hb => by rw [hw, e1, setRow_other _ _ _ _ hb]; rfl
  have hI : ∀ b, I b → I b ∧ w'.heap[b]? = w.heap[b]? := fun b hb => ⟨hb, hoth b fun e => (hO.imm b hb).2 ⟨l, _, L, hl, by simp, hL, e.symm⟩⟩
  refine row_moved hO hl L hs hh2 ⟨?_, one_splice hth.2 hv1⟩ (by simp; omega) (by omega) hcap (hE w' hI fun j hj => ?_) (fun b _ hb => hoth b fun e => hb L hL e.symm) (by rw [hw, e1]; simp [(drewN_rest w q).1]) (.inr ⟨L, hL, rfl⟩) (by rw [hw, e1]; rfl) (by rw [hw, e1]; rfl) (by rw [hw, e1]; rfl) hn
  · have : ∀ m, m = C.size → thaw fz m := fun m e => e ▸ hth.1
    exact this _ (by simp; omega)
  · rw [hw]
    rw [World.cell?_setCells_in L.b vs L.o (w.drewN q) (fun k hk => by
      show (w.cell? ⟨L.b, L.o + k, none⟩).isSome = true
      simp [World.cell?, hh]; omega) j hj, List.getElem?_eq_getElem hj]
theorem strs_eq (ks : List ByteArray) (x : ByteArray) : Lib.strsOf (fun i => ks.getD i x) ks.length = ks.map fun s => s.data.toList := by
  apply List.ext_getElem
  · simp [Lib.strsOf]
  · intro i h1 h2
    simp only [Lib.strsOf, List.length_map, List.length_range] at h1
    simp [Lib.strsOf, h1]
theorem enc_str (s : ByteArray) : encStr s.data.toList = .string s := by simp [encStr]
theorem drN_scal {w : World} {I : Nat → Prop} : ∀ (l : List ByteArray), DrN w I 1 (l.map strD) (l.map Value.string)
  | [] => by simp [DrN]
  | s :: l => by
    simp only [List.map_cons, DrN]
    exact ⟨.string s, l.map Value.string, by simp [strD, Dr], rfl, rfl, drN_scal l⟩
theorem drN_ints {w : World} {I : Nat → Prop} : ∀ (l : List Int), DrN w I 1 (l.map intD) (l.map (Value.int .i64))
  | [] => by simp [DrN]
  | s :: l => by
    simp only [List.map_cons, DrN]
    exact ⟨.int .i64 s, l.map (Value.int .i64), by simp [intD, Dr], rfl, rfl, drN_ints l⟩
theorem del_string (ks : List ByteArray) (i : Nat) (mv : Bool) (hi : i < ks.length) : CallsA Try.prog 107 [.row 0, .d (.int .i64 (i : Nat)), .d (.int .i64 ((i + 1 : Nat) : Int))] [.row 1 (ks.map strD) mv] fun r σ' => r = .ret (.row 0) ∧ σ' = [.row 1 ((ks.eraseIdx i).map strD) true] := by
  intro w I ρ ags has hO
  simp only [vrL] at has
  obtain ⟨v0, _, rfl, h0, v1, _, rfl, h1, v2, _, rfl, h2, rfl⟩ := has
  simp only [vr, Dr] at h1 h2
  subst h1 h2
  obtain ⟨L, C, T, fz, hL, hs, hh, hth, hC, hle, hE, rfl⟩ := row_laid (n := ks.length) hO (l := 0) rfl h0 (by simp; omega)
  have hcap : L.cap ≤ maxLen := by
    have ho := hO.objs 0 _ rfl
    simp only [orel] at ho
    rcases ho with ⟨hx, _⟩ | ⟨L', C', T', fz', hL', _, _, _, _, _, hc, _⟩
    · rw [hL] at hx; cases hx
    · rw [hL] at hL'; cases hL'; exact hc
  have hc := Any.slices_Delete_string_cells Try.laysNm224 L.b L.o ks.length L.cap i (i + 1) (fun j => ks.getD j .empty) w (by simpa using hle) (by simpa [maxLen] using hcap) (by omega) (by omega)
    (fun j hj => by rw [cells_str hE j hj]; simp [hj]) (fun j hj => by
      have := hth.1.2 (L.o + j) (by simp at hle; omega)
      simp only [World.frozen?, hh, Bool.and_eq_false_iff, decide_eq_false_iff_not]
      omega)
  rw [List.length_map]
  refine hc.mono ?_
  rintro e w' ⟨rfl, q, hw⟩
  rw [strs_eq] at hw
  have hlen : ((ks.eraseIdx i).map strD).length = ks.length - (i + 1 - i) := by simp [List.length_eraseIdx, hi]
  rw [← hlen]
  have hvs : ∀ j, j < ks.length - 1 → (((ks.map fun s => s.data.toList).take i ++ (ks.map fun s => s.data.toList).drop (i + 1) ++ List.replicate (i + 1 - i) ([] : List UInt8)).map encStr)[j]? = ((ks.eraseIdx i).map Value.string)[j]? := by
    intro j hj
    rw [← List.map_take, ← List.map_drop, ← List.map_append, ← List.eraseIdx_eq_take_drop_succ, List.map_append, List.map_map, List.getElem?_append_left (by simp [List.length_eraseIdx, hi]; omega)]
    simp only [List.getElem?_map, Function.comp_def, enc_str]
  exact row_cut (n := 1) (xs' := (ks.eraseIdx i).map strD) (q := q) hO (l := 0) rfl hL hs hh hth hC hle (by simp; omega) (fun x hx => by
    obtain ⟨l, _, rfl⟩ := List.mem_map.1 hx
    rfl) hw (by simp [List.length_eraseIdx, hi]) hcap (by simp) (fun w2 hI hcell => by
    refine DrE_of_N (vs := (ks.eraseIdx i).map Value.string) (drN_scal _) fun j hj => ?_
    simp only [List.length_map, List.length_eraseIdx, hi, if_true] at hj
    rw [hcell j (by simp; omega), hvs j hj])
theorem del_int (zs : List Int) (i : Nat) (mv : Bool) (hi : i < zs.length) : CallsA Try.prog 108 [.row 0, .d (.int .i64 (i : Nat)), .d (.int .i64 ((i + 1 : Nat) : Int))] [.row 1 (zs.map intD) mv] fun r σ' => r = .ret (.row 0) ∧ σ' = [.row 1 ((zs.eraseIdx i).map intD) true] := by
  intro w I ρ ags has hO
  simp only [vrL] at has
  obtain ⟨v0, _, rfl, h0, v1, _, rfl, h1, v2, _, rfl, h2, rfl⟩ := has
  simp only [vr, Dr] at h1 h2
  subst h1 h2
  obtain ⟨L, C, T, fz, hL, hs, hh, hth, hC, hle, hE, rfl⟩ := row_laid (n := zs.length) hO (l := 0) rfl h0 (by simp; omega)
  have hcap : L.cap ≤ maxLen := by
    have ho := hO.objs 0 _ rfl
    simp only [orel] at ho
    rcases ho with ⟨hx, _⟩ | ⟨L', C', T', fz', hL', _, _, _, _, _, hc, _⟩
    · rw [hL] at hx; cases hx
    · rw [hL] at hL'; cases hL'; exact hc
  have hc := Any.slices_Delete_int_cells Try.laysNm223 L.b L.o zs.length L.cap i (i + 1) zs w (Nat.le_refl _) (by simpa using hle) (by simpa [maxLen] using hcap) (by omega) (by omega)
    (fun j hj => by rw [cells_int hE j hj]; simp [hj]) (fun j hj => by
      have := hth.1.2 (L.o + j) (by simp at hle; omega)
      simp only [World.frozen?, hh, Bool.and_eq_false_iff, decide_eq_false_iff_not]
      omega)
  rw [List.length_map]
  refine hc.mono ?_
  rintro e w' ⟨rfl, q, hw⟩
  rw [List.take_length] at hw
  have hlen : ((zs.eraseIdx i).map intD).length = zs.length - (i + 1 - i) := by simp [List.length_eraseIdx, hi]
  rw [← hlen]
  have hvs : ∀ j, j < zs.length - 1 → ((zs.take i ++ zs.drop (i + 1) ++ List.replicate (i + 1 - i) (0 : Int)).map (Value.int .i64))[j]? = ((zs.eraseIdx i).map (Value.int .i64))[j]? := by
    intro j hj
    rw [← List.eraseIdx_eq_take_drop_succ, List.map_append, List.getElem?_append_left (by simp [List.length_eraseIdx, hi]; omega)]
  exact row_cut (n := 1) (xs' := (zs.eraseIdx i).map intD) (q := q) hO (l := 0) rfl hL hs hh hth hC hle (by simp; omega) (fun x hx => by
    obtain ⟨l, _, rfl⟩ := List.mem_map.1 hx
    rfl) hw (by simp [List.length_eraseIdx, hi]) hcap (by simp) (fun w2 hI hcell => by
    refine DrE_of_N (vs := (zs.eraseIdx i).map (Value.int .i64)) (drN_ints _) fun j hj => ?_
    simp only [List.length_map, List.length_eraseIdx, hi, if_true] at hj
    rw [hcell j (by simp; omega), hvs j hj])
def lt (a b : ByteArray) : Bool := Op.bytesLess a.toList b.toList
def pos (ks : List ByteArray) (x : ByteArray) : Nat := (ks.takeWhile fun k => lt k x).length
theorem pos_le (ks : List ByteArray) (x : ByteArray) : pos ks x ≤ ks.length := by
  unfold pos
  exact (List.takeWhile_sublist _).length_le
def Rising (ks : List ByteArray) : Prop := ks.Pairwise fun a b => lt a b = true
theorem bytesLess_irrefl : ∀ l : List UInt8, Op.bytesLess l l = false
  | [] => rfl
  | a :: l => by simp [Op.bytesLess, bytesLess_irrefl l]
theorem lt_irrefl (a : ByteArray) : lt a a = false := bytesLess_irrefl _
theorem bytesLess_trans : ∀ {a b c : List UInt8}, Op.bytesLess a b = true → Op.bytesLess b c = true → Op.bytesLess a c = true
  | _, [], _, h, _ => by simp [Op.bytesLess] at h
  | _, _ :: _, [], _, h => by simp [Op.bytesLess] at h
  | [], _ :: _, _ :: _, _, _ => by simp [Op.bytesLess]
  | x :: a, y :: b, z :: c, h, h' => by
    have ih := @bytesLess_trans a b c
    simp only [Op.bytesLess, Bool.or_eq_true, decide_eq_true_eq, Bool.and_eq_true, beq_iff_eq, UInt8.lt_iff_toNat_lt, ← UInt8.toNat_inj] at h h' ⊢
    rcases h with h | ⟨h, h2⟩ <;> rcases h' with h' | ⟨h', h3⟩
    · left; omega
    · left; omega
    · left; omega
    · right; exact ⟨by omega, ih h2 h3⟩
theorem bytesLess_total : ∀ {a b : List UInt8}, Op.bytesLess a b = false → Op.bytesLess b a = false → a = b
  | [], [], _, _ => rfl
  | [], _ :: _, h, _ => by simp [Op.bytesLess] at h
  | _ :: _, [], _, h => by simp [Op.bytesLess] at h
  | x :: a, y :: b, h, h' => by
    simp only [Op.bytesLess, Bool.or_eq_false_iff, decide_eq_false_iff_not, Bool.and_eq_false_iff, beq_eq_false_iff_ne, UInt8.lt_iff_toNat_lt, ne_eq, ← UInt8.toNat_inj] at h h'
    have hxy : x = y := UInt8.toNat_inj.1 (by omega)
    subst hxy
    rw [bytesLess_total (h.2.resolve_left (by simp)) (h'.2.resolve_left (by simp))]
theorem lt_trans {a b c : ByteArray} (h : lt a b = true) (h' : lt b c = true) : lt a c = true := bytesLess_trans h h'
theorem toList_inj {a b : ByteArray} (h : a.toList = b.toList) : a = b := by
  rw [Go.ByteArray.toList_eq, Go.ByteArray.toList_eq] at h
  cases a; cases b
  simp only [ByteArray.mk.injEq]
  exact Array.ext' h
theorem lt_total {a b : ByteArray} (h : lt a b = false) (h' : lt b a = false) : a = b := toList_inj (bytesLess_total h h')
theorem lt_asymm {a b : ByteArray} (h : lt a b = true) : lt b a = false := by
  cases h' : lt b a with
  | false => rfl
  | true => have := lt_trans h h'; rw [lt_irrefl] at this; cases this
theorem pos_cons (k : ByteArray) (ks : List ByteArray) (x : ByteArray) : pos (k :: ks) x = if lt k x = true then pos ks x + 1 else 0 := by
  unfold pos
  rw [List.takeWhile_cons]
  split <;> simp
theorem pos_low : ∀ {ks : List ByteArray} {x : ByteArray} {t : Nat} (h : t < pos ks x) (h' : t < ks.length), lt ks[t] x = true
  | [], x, t, h, h' => by simp at h'
  | k :: ks, x, t, h, h' => by
    rw [pos_cons] at h
    split at h
    · cases t with
      | zero => assumption
      | succ t => exact pos_low (ks := ks) (by omega) (by simpa using h')
    · omega
theorem pos_high : ∀ {ks : List ByteArray} {x : ByteArray} {t : Nat} (_ : Rising ks) (h : pos ks x ≤ t) (h' : t < ks.length), lt ks[t] x = false
  | [], x, t, _, h, h' => by simp at h'
  | k :: ks, x, t, hr, h, h' => by
    rw [pos_cons] at h
    have hr' := List.pairwise_cons.1 hr
    split at h
    · cases t with
      | zero => omega
      | succ t => exact pos_high (ks := ks) hr'.2 (by omega) (by simpa using h')
    · rename_i hk
      have hk : lt k x = false := by simpa using hk
      cases t with
      | zero => exact hk
      | succ t =>
        have ht : t < ks.length := by simpa using h'
        have h1 := hr'.1 ks[t] (List.getElem_mem _)
        cases h2 : lt ks[t] x with
        | false => simpa using h2
        | true => have := lt_trans h1 h2; rw [hk] at this; cases this
theorem spec_106 (ks : List ByteArray) (x : ByteArray) (hr : Rising ks) (hl : ks.length < 4611686018427387904) : Br.Pure Try.prog 106 [.d (.list 1 (ks.map strD)), .d (.str x)] (.tuple [.d (i64 (pos ks x)), .d (.bool (decide (ks[pos ks x]? = some x)))]) := by
  intro w I ρ ags has hO
  simp only [vrL] at has
  obtain ⟨v0, _, rfl, h0, v1, _, rfl, h1, rfl⟩ := has
  simp only [vr, Dr] at h0 h1
  subst h1
  obtain ⟨a, cap, rfl, hle, hcap, hE⟩ := h0
  rw [List.length_map] at *
  have hp := pos_le ks x
  by_cases hz : ks.length = 0
  · have hks : ks = [] := List.eq_nil_of_length_eq_zero hz
    subst hks
    have hc := Any2.slices_BinarySearch_string_empty Try.laysNm226 a cap x w
    refine hc.mono ?_
    rintro e w' ⟨rfl, rfl⟩
    refine fin_drew hO rfl rfl rfl rfl (Nat.le_refl _) ?_
    simp only [vr, vrL, pos]
    exact ⟨[.int .i64 0, .bool false], rfl, _, _, rfl, by simp [Dr, i64], _, _, rfl, by simp [Dr], rfl⟩
  · rcases hE with hE | ⟨b, o, rfl, hI, hE⟩
    · exact absurd (by simpa using hE) (show ¬ ks = [] by rintro rfl; exact hz rfl)
    have hc := Any2.slices_BinarySearch_string Try.laysNm226 b o ks.length cap (fun t => ks.getD t x) x w hl (fun j hj => by rw [cells_str hE j hj]; simp [hj])
    have hbs : Lib.bsGo (fun t => Op.bytesLess (ks.getD t x).toList x.toList) ks.length 0 ks.length = pos ks x := by
      refine Lib.bsGo_spec _ _ (fun t ht => ?_) (fun t ht => ?_) _ _ _ (by omega) (by omega) hp
      · have hlt : t < ks.length := by omega
        rw [List.getD_eq_getElem?_getD, List.getElem?_eq_getElem hlt]
        exact pos_low ht hlt
      · by_cases hlt : t < ks.length
        · rw [List.getD_eq_getElem?_getD, List.getElem?_eq_getElem hlt]
          exact pos_high hr ht hlt
        · rw [List.getD_eq_getElem?_getD, List.getElem?_eq_none (by omega)]
          exact lt_irrefl x
    rw [hbs] at hc
    refine hc.mono ?_
    rintro e w' ⟨rfl, q, rfl⟩
    refine fin_drew hO rfl rfl rfl rfl (Nat.le_refl _) ?_
    simp only [vr, vrL]
    refine ⟨_, rfl, _, _, rfl, by simp [Dr, i64], _, _, rfl, ?_, rfl⟩
    simp only [Dr, Value.bool.injEq, decide_eq_decide]
    by_cases hlt : pos ks x < ks.length
    · simp [hlt]
    · simp [List.getElem?_eq_none (show ks.length ≤ pos ks x by omega), hlt]
end Go.Proofs.Ytoelkgbeefoplaa
namespace Go.Proofs.Ytoelkgbeefoplaa
open Go Go.Br Go.Proofs Go.ChangeShapes Go.WideShapes Go.ChangeAt Go.RowKit
set_option maxRecDepth 100000
end Go.Proofs.Ytoelkgbeefoplaa
namespace Go.Proofs.Ytoelkgbeefoplaa
open Go Go.Br Go.Proofs
noncomputable def B106 : Code := (Try.f106.body).getD .skip
theorem F106 : Fnc Try.prog 106 Try.f106 B106 := ⟨Try.func106, by kernel_rfl, by kernel_rfl⟩
noncomputable def B95 : Code := (Try.f95.body).getD .skip
theorem F95 : Fnc Try.prog 95 Try.f95 B95 := ⟨Try.func95, by kernel_rfl, by kernel_rfl⟩
noncomputable def B70 : Code := (Try.f70.body).getD .skip
theorem F70 : Fnc Try.prog 70 Try.f70 B70 := ⟨Try.func70, by kernel_rfl, by kernel_rfl⟩
noncomputable def B66 : Code := (Try.f66.body).getD .skip
theorem F66 : Fnc Try.prog 66 Try.f66 B66 := ⟨Try.func66, by kernel_rfl, by kernel_rfl⟩
theorem spec_95 (ks : List ByteArray) (x : ByteArray) (V2 : List Int) (hr : Rising ks) (hl : ks.length < 4611686018427387904) :
    CallsA Try.prog 95 [.ptr 0 0 0, .d (.str x)] [.cells [.row 1, .row 2], .row 1 (ks.map strD) false, .row 1 (V2.map intD) false] fun r σ' => r = .ret (.tuple [.d (i64 (pos ks x)), .d (.bool (decide (ks[pos ks x]? = some x)))]) ∧ σ' = [.cells [.row 1, .row 2], .row 1 (ks.map strD) false, .row 1 (V2.map intD) false] := by
  refine CallsA.start F95 (tm := mk 16 [(0, .ptr 0 0 0), (1, .d (.str x))]) (by kernel_rfl) ?_
  refine .sg0 20 [0, 1, 4, 5, 8, 9, 10, 11, 12] (cgo 20 [false] [.code B95]) [(4, .d (.int .i64 0)), (5, .d (.bool false)), (8, .ptr 0 0 0), (9, .ptr 0 0 0), (10, .ptr 0 0 0), (11, .row 1), (12, .d (.str x))] ?_
  refine .semH (o := (opOf (cgo 20 [false] [Item.code B95])).getD default) (v := .tuple [.d (.int .i64 (↑(pos ks x) : Int)), .d (.bool (decide (ks[pos ks x]? = some x)))]) (σ' := [.cells [.row 1, .row 2], .row 1 (List.map strD ks) false, .row 1 (List.map intD V2) false]) (by kernel_rfl) (by kernel_rfl) (T' := cgo 21 [false] [Item.code B95]) (by kernel_rfl) (fun k => sem_look (x := (.func 106)) (args := #[(.tmp 11), (.tmp 12)]) (ts := #[66, 9]) (first := []) (cap := []) (ds := [.d (.list 1 (List.map strD ks)), .d (.str x)]) (v := .tuple [.d (.int .i64 (↑(pos ks x) : Int)), .d (.bool (decide (ks[pos ks x]? = some x)))]) (σ0 := []) F106 (@spec_106 (ks) (x) (by assumption) (by assumption)) (by kernel_rfl) (by kernel_rfl) (by kernel_rfl) (by kernel_rfl) (by kernel_rfl)) ?_
  refine .seg 5 [4, 5] (T' := cgo 26 [false] [.code B95]) (tm' := mk 16 [(4, .d (.int .i64 (↑(pos ks x) : Int))), (5, .d (.bool (decide (ks[pos ks x]? = some x))))]) (σ' := [.cells [.row 1, .row 2], .row 1 (List.map strD ks) false, .row 1 (List.map intD V2) false]) (by kernel_rfl) ?_
  refine .retH F95 (v := V.tuple [V.d (D.int IntKind.i64 (↑(pos ks x) : Int)), V.d (D.bool (decide (ks[pos ks x]? = some x)))]) (by kernel_rfl) (by kernel_rfl) ?_
  exact ⟨rfl, rfl⟩
theorem spec_66 (ks : List ByteArray) (V2 : List Int) :
    CallsA Try.prog 66 [.ptr 0 0 0] [.cells [.row 1, .row 2], .row 1 (ks.map strD) false, .row 1 (V2.map intD) false] fun r σ' => r = .ret (.d (i64 ks.length)) ∧ σ' = [.cells [.row 1, .row 2], .row 1 (ks.map strD) false, .row 1 (V2.map intD) false] := by
  refine CallsA.start F66 (tm := mk ((Try.f66.ntmps)) [(0, .ptr 0 0 0)]) (by kernel_rfl) ?_
  refine .seg 21 [2] (T' := cgo 21 [false] [.code B66]) (tm' := mk 10 [(2, .d (.int .i64 (↑(List.map strD ks).length : Int)))]) (σ' := [.cells [.row 1, .row 2], .row 1 (List.map strD ks) false, .row 1 (List.map intD V2) false]) (by kernel_rfl) ?_
  simp only [List.length_map]
  refine .retH F66 (v := V.d (D.int IntKind.i64 (↑ks.length : Int))) (by kernel_rfl) (by kernel_rfl) ?_
  exact ⟨rfl, rfl⟩
def look (ks : List ByteArray) (V2 : List Int) (x : ByteArray) : Option Int := if ks[pos ks x]? = some x then V2[pos ks x]? else none
theorem spec_70 (ks : List ByteArray) (x : ByteArray) (V2 : List Int) (hr : Rising ks) (hl : ks.length < 4611686018427387904) (hv : V2.length = ks.length) :
    CallsA Try.prog 70 [.ptr 0 0 0, .d (.str x)] [.cells [.row 1, .row 2], .row 1 (ks.map strD) false, .row 1 (V2.map intD) false] fun r σ' => r = .ret (.tuple [.d (i64 ((look ks V2 x).getD 0)), .d (.bool (look ks V2 x).isSome)]) ∧ σ' = [.cells [.row 1, .row 2], .row 1 (ks.map strD) false, .row 1 (V2.map intD) false] := by
  refine CallsA.start F70 (tm := mk 23 [(0, .ptr 0 0 0), (1, .d (.str x))]) (by kernel_rfl) ?_
  refine .sg0 9 [0, 1, 4, 5, 8, 9] (cgo 9 [] [.code B70]) [(4, .d (.int .i64 0)), (5, .d (.bool false)), (8, .ptr 0 0 0), (9, .d (.str x))] ?_
  refine .ca [0, 1, 2] (cgo 10 [] [.code B70]) F95 (@spec_95 (ks) (x) (V2) (by assumption) (by assumption)) ?_
  rintro r0 s0 ⟨rfl, rfl⟩
  refine ⟨_, rfl, ?_⟩
  refine .sg0 11 [0, 4, 5, 6, 13] (cgo 21 [] [.code B70]) [(5, .d (.bool (decide (ks[pos ks x]? = some x)))), (6, .d (.int .i64 (↑(pos ks x) : Int))), (13, .d (.bool (decide (ks[pos ks x]? = some x))))] ?_
  refine .if' (decide (ks[pos ks x]? = some x)) (cgo 22 [true] [.code B70]) (cgo 22 [false] [.code B70]) (fun h2 => ?_) (fun h2 => ?_)
  · simp only [bsX] at h2
    refine .sg0 6 [0, 4, 5, 6, 14, 15, 16, 17, 18] (cgo 28 [true] [.code B70]) [(14, .ptr 0 0 0), (15, .ptr 0 0 0), (16, .ptr 0 0 1), (17, .row 2), (18, .d (.int .i64 (↑(pos ks x) : Int)))] ?_
    refine .op' (cgo 29 [true] [.code B70]) (ixRow_ok (t := 46) (x := (.tmp 17)) (i := (.tmp 18)) (k := IntKind.i64) (n := (↑(pos ks x) : Int)) (l := 2) (sz := 1) (xs := List.map intD V2) (mv := false) (by kernel_rfl) (by kernel_rfl) (by kernel_rfl) (by kernel_rfl) (by kernel_rfl) (by omega) (by grind)) ?_
    obtain ⟨y3, hy3⟩ := get_some (l := V2) (i := (↑(pos ks x) : Int).toNat) (by grind)
    refine .op' (cgo 30 [true] [.code B70]) (ldRow_ok (t := 3) (x := (.tmp 19)) (l := 2) (i := (↑(pos ks x) : Int).toNat) (s := 0) (sz := 1) (xs := List.map intD V2) (mv := false) (d := intD y3) (v := .d (.int .i64 y3)) (by kernel_rfl) (by kernel_rfl) (by kernel_rfl) (map_get hy3) (by kernel_rfl)) ?_
    refine .seg 9 [4, 5] (T' := cgo 39 [true] [.code B70]) (tm' := mk 23 [(4, .d (.int .i64 y3)), (5, .d (.bool (decide (ks[pos ks x]? = some x))))]) (σ' := [.cells [.row 1, .row 2], .row 1 (List.map strD ks) false, .row 1 (List.map intD V2) false]) (by kernel_rfl) ?_
    refine .retH F70 (v := V.tuple [V.d (D.int IntKind.i64 y3), V.d (D.bool (decide (ks[pos ks x]? = some x)))]) (by kernel_rfl) (by kernel_rfl) ?_
    simp_all [look, i64, intD]
  · simp only [bsX] at h2
    refine .seg 8 [4, 5] (T' := cgo 30 [false] [.code B70]) (tm' := mk 23 [(4, .d (.int .i64 0)), (5, .d (.bool (decide (ks[pos ks x]? = some x))))]) (σ' := [.cells [.row 1, .row 2], .row 1 (List.map strD ks) false, .row 1 (List.map intD V2) false]) (by kernel_rfl) ?_
    refine .retH F70 (v := V.tuple [V.d (D.int IntKind.i64 0), V.d (D.bool (decide (ks[pos ks x]? = some x)))]) (by kernel_rfl) (by kernel_rfl) ?_
    simp_all [look, i64, intD]
end Go.Proofs.Ytoelkgbeefoplaa
namespace Go.Proofs.Ytoelkgbeefoplaa
open Go Go.Br Go.Proofs
noncomputable def B100 : Code := (Try.f100.body).getD .skip
theorem F100 : Fnc Try.prog 100 Try.f100 B100 := ⟨Try.func100, by kernel_rfl, by kernel_rfl⟩
noncomputable def B101 : Code := (Try.f101.body).getD .skip
theorem F101 : Fnc Try.prog 101 Try.f101 B101 := ⟨Try.func101, by kernel_rfl, by kernel_rfl⟩
noncomputable def B107 : Code := (Try.f107.body).getD .skip
theorem F107 : Fnc Try.prog 107 Try.f107 B107 := ⟨Try.func107, by kernel_rfl, by kernel_rfl⟩
noncomputable def B108 : Code := (Try.f108.body).getD .skip
theorem F108 : Fnc Try.prog 108 Try.f108 B108 := ⟨Try.func108, by kernel_rfl, by kernel_rfl⟩
noncomputable def B96 : Code := (Try.f96.body).getD .skip
theorem F96 : Fnc Try.prog 96 Try.f96 B96 := ⟨Try.func96, by kernel_rfl, by kernel_rfl⟩
noncomputable def B76 : Code := (Try.f76.body).getD .skip
theorem F76 : Fnc Try.prog 76 Try.f76 B76 := ⟨Try.func76, by kernel_rfl, by kernel_rfl⟩
theorem spec_100 (xs : List D) (y : D) (i : Nat) (hi : i ≤ xs.length) (hb : (xs.length + 1) * 16 ≤ 140737488355328) : CallsA Try.prog 100 [.row 0, .d (.int .i64 i), .row 1] [.row 1 xs false, .row 1 [y] false] fun r σ' => r = .ret (.row 0) ∧ σ' = [.row 1 (xs.take i ++ y :: xs.drop i) true, .row 1 [y] false] := ins_string xs y i false false hi hb
theorem spec_101 (xs : List D) (y : D) (i : Nat) (hi : i ≤ xs.length) (hb : (xs.length + 1) * 8 ≤ 140737488355328) : CallsA Try.prog 101 [.row 0, .d (.int .i64 i), .row 1] [.row 1 xs false, .row 1 [y] false] fun r σ' => r = .ret (.row 0) ∧ σ' = [.row 1 (xs.take i ++ y :: xs.drop i) true, .row 1 [y] false] := ins_int xs y i false false hi hb
theorem spec_107 (ks : List ByteArray) (i : Nat) (hi : i < ks.length) (hl : ks.length < 1000000) : CallsA Try.prog 107 [.row 0, .d (.int .i64 (i : Nat)), .d (.int .i64 (IntKind.i64.wrap ((i : Int) + 1)))] [.row 1 (ks.map strD) false] fun r σ' => r = .ret (.row 0) ∧ σ' = [.row 1 ((ks.eraseIdx i).map strD) true] := by
  rw [wrap_i64 (by omega) (by omega)]
  exact del_string ks i false hi
theorem spec_108 (zs : List Int) (i : Nat) (hi : i < zs.length) (hl : zs.length < 1000000) : CallsA Try.prog 108 [.row 0, .d (.int .i64 (i : Nat)), .d (.int .i64 (IntKind.i64.wrap ((i : Int) + 1)))] [.row 1 (zs.map intD) false] fun r σ' => r = .ret (.row 0) ∧ σ' = [.row 1 ((zs.eraseIdx i).map intD) true] := by
  rw [wrap_i64 (by omega) (by omega)]
  exact del_int zs i false hi
def kput (ks : List ByteArray) (V2 : List Int) (x : ByteArray) (y : Int) : List ByteArray × List Int :=
  if ks[pos ks x]? = some x then (ks, V2.set (pos ks x) y) else (ks.take (pos ks x) ++ x :: ks.drop (pos ks x), V2.take (pos ks x) ++ y :: V2.drop (pos ks x))
theorem spec_76 (ks : List ByteArray) (x : ByteArray) (V2 : List Int) (y : Int) (hr : Rising ks) (hl : ks.length < 1000000) (hv : V2.length = ks.length) :
    CallsA Try.prog 76 [.ptr 0 0 0, .d (.str x), .d (.int .i64 y)] [.cells [.row 1, .row 2], .row 1 (ks.map strD) false, .row 1 (V2.map intD) false] fun r σ' => r = .ret (.d (.bool (!(decide (ks[pos ks x]? = some x))))) ∧ σ' = [.cells [.row 1, .row 2], .row 1 ((kput ks V2 x y).1.map strD) true, .row 1 ((kput ks V2 x y).2.map intD) true] := by
  refine CallsA.start F76 (tm := mk (Try.f76.ntmps) [(0, .ptr 0 0 0), (1, .d (.str x)), (2, .d (.int .i64 y))]) (by kernel_rfl) ?_
  have hp := pos_le ks x
  refine .sg0 16 [0, 1, 2, 6, 12, 13] (cgo 16 [false] [.code B76]) [(6, .d (.bool false)), (12, .ptr 0 0 0), (13, .d (.str x))] ?_
  refine .ca [0, 1, 2] (cgo 17 [false] [.code B76]) F95 (@spec_95 (ks) (x) (V2) (by assumption) (by omega)) ?_
  rintro r0 s0 ⟨rfl, rfl⟩
  refine ⟨_, rfl, ?_⟩
  refine .sg0 11 [0, 1, 2, 6, 7, 17] (cgo 28 [false] [.code B76]) [(7, .d (.int .i64 (↑(pos ks x) : Int))), (17, .d (.bool (decide (ks[pos ks x]? = some x))))] ?_
  refine .if' (decide (ks[pos ks x]? = some x)) (cgo 29 [false, true] [.code B76]) (cgo 29 [false, false] [.code B76]) (fun h2 => ?_) (fun h2 => ?_)
  · simp only [bsX] at h2
    refine .sg0 8 [0, 1, 2, 6, 7, 18, 19, 20, 21, 22, 23] (cgo 37 [false, true] [.code B76]) [(18, .ptr 0 0 0), (19, .ptr 0 0 0), (20, .ptr 0 0 1), (21, .row 2), (22, .d (.int .i64 (↑(pos ks x) : Int))), (23, .d (.int .i64 y))] ?_
    refine .op' (cgo 38 [false, true] [.code B76]) (ixRow_ok (t := 46) (x := (.tmp 21)) (i := (.tmp 22)) (k := IntKind.i64) (n := (↑(pos ks x) : Int)) (l := 2) (sz := 1) (xs := List.map intD V2) (mv := false) (by kernel_rfl) (by kernel_rfl) (by kernel_rfl) (by kernel_rfl) (by kernel_rfl) (by omega) (by grind)) ?_
    obtain ⟨y3, hy3⟩ := get_some (l := V2) (i := (↑(pos ks x) : Int).toNat) (by grind)
    refine .op' (cgo 39 [false, true] [.code B76]) (stRow_ok (t := 3) (x := (.tmp 24)) (y := (.tmp 23)) (l := 2) (i := (↑(pos ks x) : Int).toNat) (s := 0) (sz := 1) (xs := List.map intD V2) (mv := false) (d := intD y3) (d' := D.int IntKind.i64 y) (by kernel_rfl) (by kernel_rfl) (by kernel_rfl) (map_get hy3) (by kernel_rfl)) ?_
    refine .seg 5 [0, 1, 2, 6, 7] (T' := cgo 44 [false, true] [.code B76]) (tm' := mk 47 [(0, .ptr 0 0 0), (1, .d (.str x)), (2, .d (.int .i64 y)), (6, .d (.bool false)), (7, .d (.int .i64 (↑(pos ks x) : Int)))]) (σ' := [.cells [.row 1, .row 2], .row 1 (List.map strD ks) false, .row 1 ((List.map intD V2).set (↑(pos ks x) : Int).toNat (D.int IntKind.i64 y)) false]) (by kernel_rfl) ?_
    refine .raise 1 rfl rfl ?_
    refine .raise 2 rfl rfl ?_
    refine .retH F76 (v := V.d (D.bool false)) (by kernel_rfl) (by kernel_rfl) ?_
    exact ⟨by simp [h2], by simp [kput, h2, intD, List.map_set]⟩
  · simp only [bsX] at h2
    refine .sg0 2 [0, 1, 2, 6, 7] (cgo 31 [false, false] [.code B76]) [] ?_
    refine .newVirt 1 ?_
    refine .newVirt 1 ?_
    refine .dr (cgo 32 [false, false] [.code B76]) [(25, .ptr 0 0 0), (26, .ptr 0 0 0), (27, .ptr 0 0 0), (28, .ptr 0 0 0), (29, .ptr 0 0 0), (31, .d (.int .i64 (↑(pos ks x) : Int))), (32, .d (.str x)), (33, .row 3), (34, .row 1), (35, .ptr 0 0 0), (36, .ptr 0 0 0), (37, .ptr 0 0 1), (39, .d (.int .i64 (↑(pos ks x) : Int))), (40, .d (.int .i64 y)), (41, .row 4), (42, .row 2), (43, .ptr 0 0 0), (44, .ptr 0 0 0), (45, .ptr 0 0 0), (46, .ptr 0 0 1)] [(1, .row 1 (List.take (pos ks x) (List.map strD ks) ++ D.str x :: List.drop (pos ks x) (List.map strD ks)) true), (2, .row 1 (List.take (pos ks x) (List.map intD V2) ++ D.int IntKind.i64 y :: List.drop (pos ks x) (List.map intD V2)) true), (3, .row 1 [D.str x] true), (4, .row 1 [D.int IntKind.i64 y] true)] (fun kz L hL => ?_) ?_
    · rcases ahead_or' hL 9 13 (by kernel_rfl) with o10 | o10
      · rcases ahead_or' hL 13 16 (by kernel_rfl) with o13 | o13
        · refine ⟨[⟨[], [], [], [0], [0], [], true, false⟩, ⟨[], [], [], [0], [0], [], true, false⟩, ⟨[], [], [], [0], [0], [], true, false⟩, ⟨[], [], [], [0], [0], [0], true, false⟩, ⟨[], [], [], [0], [0], [0], true, false⟩, ⟨[0], [], [], [1], [0, 1, 2], [], true, false⟩, ⟨[], [], [], [], [], [], true, false⟩, ⟨[], [], [], [], [], [], true, false⟩, ⟨[3], [3], [3], [3], [], [], true, false⟩, ⟨[1, 3], [1, 3], [1], [1], [1, 3], [], true, false⟩, ⟨[], [], [], [0], [0], [], true, false⟩, ⟨[], [], [], [0], [0], [0], true, false⟩, ⟨[], [], [], [0], [0], [0], true, false⟩, ⟨[0], [], [], [2], [0, 2], [], false, false⟩, ⟨[], [], [], [], [], [], true, false⟩, ⟨[], [], [], [], [], [], true, false⟩, ⟨[4], [4], [4], [4], [], [], true, false⟩, ⟨[2, 4], [2, 4], [2], [2], [2, 4], [], true, false⟩, ⟨[], [], [], [0], [0], [0], true, false⟩, ⟨[], [], [], [0], [0], [0], true, false⟩, ⟨[0], [0], [], [1], [0, 1], [], false, false⟩, ⟨[], [], [], [0], [0], [0], true, false⟩, ⟨[], [], [], [0], [0], [0], true, false⟩, ⟨[0], [0], [], [1, 2], [0, 2, 1], [], false, false⟩], run_amongF hL _ [(9, 13), (13, 16)] [0, 1, 2, 3, 4, 5, 6, 7, 10, 11, 12, 14, 15, 8, 9, 13, 16, 17, 18, 19, 20, 21, 22, 23] (by simp [o10, o13]) (by kernel_rfl) ?_⟩
          refine Run.ap [0, 1, 2, 3, 4, 5, 6, 7, 10, 11, 12, 14, 15] [(25, .ptr 0 0 0), (26, .ptr 0 0 0), (27, .ptr 0 0 0), (28, .ptr 0 0 0), (29, .ptr 0 0 0), (30, .row 1), (31, .d (.int .i64 (↑(pos ks x) : Int))), (32, .d (.str x)), (35, .ptr 0 0 0), (36, .ptr 0 0 0), (37, .ptr 0 0 1), (39, .d (.int .i64 (↑(pos ks x) : Int))), (40, .d (.int .i64 y))] [] ?_
          refine Run.one (StepF.build (o := ((drawOf (cgo 31 [false, false] [.code B76]))[8]?).getD default) (t := 66) (len := 1) (parts := #[(0, (.tmp 32))]) (l := 3) (ds := [D.str x]) (sz := 1) (mv := false) (by kernel_rfl) rfl (by kernel_rfl) (by kernel_rfl) (by kernel_rfl) (by kernel_rfl) (by kernel_rfl) (by kernel_rfl) (by kernel_rfl) (by kernel_rfl)) ?_
          refine Run.one (StepF.call (o := ((drawOf (cgo 31 [false, false] [.code B76]))[9]?).getD default) (x := (.func 100)) (args := #[(.tmp 30), (.tmp 31), (.tmp 33)]) (ts := #[66, 3, 66]) (first := []) (cap := []) [1, 3] [.row 0, .d (.int .i64 (↑(pos ks x) : Int)), .row 1] [.row 1 (List.map strD ks) false, .row 1 [D.str x] false] [.row 1 (List.take (pos ks x) (List.map strD ks) ++ D.str x :: List.drop (pos ks x) (List.map strD ks)) true, .row 1 [D.str x] false] (v := .row 1) (by kernel_rfl) rfl (by kernel_rfl) (by kernel_rfl) F100 (@spec_100 (List.map strD ks) (D.str x) (pos ks x) (by simp <;> omega) (by simp <;> omega)) (by kernel_rfl) (by kernel_rfl) (by kernel_rfl) (by kernel_rfl) ⟨rfl, rfl, by kernel_rfl⟩ (by kernel_rfl) (by kernel_rfl) (by kernel_rfl) (by kernel_rfl) (by kernel_rfl) rfl rfl) ?_
          refine Run.ap [13] [(38, .row 2)] [] ?_
          refine Run.one (StepF.build (o := ((drawOf (cgo 31 [false, false] [.code B76]))[16]?).getD default) (t := 46) (len := 1) (parts := #[(0, (.tmp 40))]) (l := 4) (ds := [D.int IntKind.i64 y]) (sz := 1) (mv := false) (by kernel_rfl) rfl (by kernel_rfl) (by kernel_rfl) (by kernel_rfl) (by kernel_rfl) (by kernel_rfl) (by kernel_rfl) (by kernel_rfl) (by kernel_rfl)) ?_
          refine Run.one (StepF.call (o := ((drawOf (cgo 31 [false, false] [.code B76]))[17]?).getD default) (x := (.func 101)) (args := #[(.tmp 38), (.tmp 39), (.tmp 41)]) (ts := #[46, 3, 46]) (first := []) (cap := []) [2, 4] [.row 0, .d (.int .i64 (↑(pos ks x) : Int)), .row 1] [.row 1 (List.map intD V2) false, .row 1 [D.int IntKind.i64 y] false] [.row 1 (List.take (pos ks x) (List.map intD V2) ++ D.int IntKind.i64 y :: List.drop (pos ks x) (List.map intD V2)) true, .row 1 [D.int IntKind.i64 y] false] (v := .row 2) (by kernel_rfl) rfl (by kernel_rfl) (by kernel_rfl) F101 (@spec_101 (List.map intD V2) (D.int IntKind.i64 y) (pos ks x) (by simp <;> omega) (by simp <;> omega)) (by kernel_rfl) (by kernel_rfl) (by kernel_rfl) (by kernel_rfl) ⟨rfl, rfl, by kernel_rfl⟩ (by kernel_rfl) (by kernel_rfl) (by kernel_rfl) (by kernel_rfl) (by kernel_rfl) rfl rfl) ?_
          exact Run.fin
        · refine ⟨[⟨[], [], [], [0], [0], [], true, false⟩, ⟨[], [], [], [0], [0], [], true, false⟩, ⟨[], [], [], [0], [0], [], true, false⟩, ⟨[], [], [], [0], [0], [0], true, false⟩, ⟨[], [], [], [0], [0], [0], true, false⟩, ⟨[0], [], [], [1], [0, 1, 2], [], true, false⟩, ⟨[], [], [], [], [], [], true, false⟩, ⟨[], [], [], [], [], [], true, false⟩, ⟨[3], [3], [3], [3], [], [], true, false⟩, ⟨[1, 3], [1, 3], [1], [1], [1, 3], [], true, false⟩, ⟨[], [], [], [0], [0], [], true, false⟩, ⟨[], [], [], [0], [0], [0], true, false⟩, ⟨[], [], [], [0], [0], [0], true, false⟩, ⟨[0], [], [], [2], [0, 2], [], false, false⟩, ⟨[], [], [], [], [], [], true, false⟩, ⟨[], [], [], [], [], [], true, false⟩, ⟨[4], [4], [4], [4], [], [], true, false⟩, ⟨[2, 4], [2, 4], [2], [2], [2, 4], [], true, false⟩, ⟨[], [], [], [0], [0], [0], true, false⟩, ⟨[], [], [], [0], [0], [0], true, false⟩, ⟨[0], [0], [], [1], [0, 1], [], false, false⟩, ⟨[], [], [], [0], [0], [0], true, false⟩, ⟨[], [], [], [0], [0], [0], true, false⟩, ⟨[0], [0], [], [1, 2], [0, 2, 1], [], false, false⟩], run_amongF hL _ [(9, 13), (16, 13)] [0, 1, 2, 3, 4, 5, 6, 7, 10, 11, 12, 14, 15, 8, 16, 9, 13, 17, 18, 19, 20, 21, 22, 23] (by simp [o10, o13]) (by kernel_rfl) ?_⟩
          refine Run.ap [0, 1, 2, 3, 4, 5, 6, 7, 10, 11, 12, 14, 15] [(25, .ptr 0 0 0), (26, .ptr 0 0 0), (27, .ptr 0 0 0), (28, .ptr 0 0 0), (29, .ptr 0 0 0), (30, .row 1), (31, .d (.int .i64 (↑(pos ks x) : Int))), (32, .d (.str x)), (35, .ptr 0 0 0), (36, .ptr 0 0 0), (37, .ptr 0 0 1), (39, .d (.int .i64 (↑(pos ks x) : Int))), (40, .d (.int .i64 y))] [] ?_
          refine Run.one (StepF.build (o := ((drawOf (cgo 31 [false, false] [.code B76]))[8]?).getD default) (t := 66) (len := 1) (parts := #[(0, (.tmp 32))]) (l := 3) (ds := [D.str x]) (sz := 1) (mv := false) (by kernel_rfl) rfl (by kernel_rfl) (by kernel_rfl) (by kernel_rfl) (by kernel_rfl) (by kernel_rfl) (by kernel_rfl) (by kernel_rfl) (by kernel_rfl)) ?_
          refine Run.one (StepF.build (o := ((drawOf (cgo 31 [false, false] [.code B76]))[16]?).getD default) (t := 46) (len := 1) (parts := #[(0, (.tmp 40))]) (l := 4) (ds := [D.int IntKind.i64 y]) (sz := 1) (mv := false) (by kernel_rfl) rfl (by kernel_rfl) (by kernel_rfl) (by kernel_rfl) (by kernel_rfl) (by kernel_rfl) (by kernel_rfl) (by kernel_rfl) (by kernel_rfl)) ?_
          refine Run.one (StepF.call (o := ((drawOf (cgo 31 [false, false] [.code B76]))[9]?).getD default) (x := (.func 100)) (args := #[(.tmp 30), (.tmp 31), (.tmp 33)]) (ts := #[66, 3, 66]) (first := []) (cap := []) [1, 3] [.row 0, .d (.int .i64 (↑(pos ks x) : Int)), .row 1] [.row 1 (List.map strD ks) false, .row 1 [D.str x] false] [.row 1 (List.take (pos ks x) (List.map strD ks) ++ D.str x :: List.drop (pos ks x) (List.map strD ks)) true, .row 1 [D.str x] false] (v := .row 1) (by kernel_rfl) rfl (by kernel_rfl) (by kernel_rfl) F100 (@spec_100 (List.map strD ks) (D.str x) (pos ks x) (by simp <;> omega) (by simp <;> omega)) (by kernel_rfl) (by kernel_rfl) (by kernel_rfl) (by kernel_rfl) ⟨rfl, rfl, by kernel_rfl⟩ (by kernel_rfl) (by kernel_rfl) (by kernel_rfl) (by kernel_rfl) (by kernel_rfl) rfl rfl) ?_
          refine Run.ap [13] [(38, .row 2)] [] ?_
          refine Run.one (StepF.call (o := ((drawOf (cgo 31 [false, false] [.code B76]))[17]?).getD default) (x := (.func 101)) (args := #[(.tmp 38), (.tmp 39), (.tmp 41)]) (ts := #[46, 3, 46]) (first := []) (cap := []) [2, 4] [.row 0, .d (.int .i64 (↑(pos ks x) : Int)), .row 1] [.row 1 (List.map intD V2) false, .row 1 [D.int IntKind.i64 y] false] [.row 1 (List.take (pos ks x) (List.map intD V2) ++ D.int IntKind.i64 y :: List.drop (pos ks x) (List.map intD V2)) true, .row 1 [D.int IntKind.i64 y] false] (v := .row 2) (by kernel_rfl) rfl (by kernel_rfl) (by kernel_rfl) F101 (@spec_101 (List.map intD V2) (D.int IntKind.i64 y) (pos ks x) (by simp <;> omega) (by simp <;> omega)) (by kernel_rfl) (by kernel_rfl) (by kernel_rfl) (by kernel_rfl) ⟨rfl, rfl, by kernel_rfl⟩ (by kernel_rfl) (by kernel_rfl) (by kernel_rfl) (by kernel_rfl) (by kernel_rfl) rfl rfl) ?_
          exact Run.fin
      · refine ⟨[⟨[], [], [], [0], [0], [], true, false⟩, ⟨[], [], [], [0], [0], [], true, false⟩, ⟨[], [], [], [0], [0], [], true, false⟩, ⟨[], [], [], [0], [0], [0], true, false⟩, ⟨[], [], [], [0], [0], [0], true, false⟩, ⟨[0], [], [], [1], [0, 1, 2], [], true, false⟩, ⟨[], [], [], [], [], [], true, false⟩, ⟨[], [], [], [], [], [], true, false⟩, ⟨[3], [3], [3], [3], [], [], true, false⟩, ⟨[1, 3], [1, 3], [1], [1], [1, 3], [], true, false⟩, ⟨[], [], [], [0], [0], [], true, false⟩, ⟨[], [], [], [0], [0], [0], true, false⟩, ⟨[], [], [], [0], [0], [0], true, false⟩, ⟨[0], [], [], [2], [0, 1, 2], [], true, false⟩, ⟨[], [], [], [], [], [], true, false⟩, ⟨[], [], [], [], [], [], true, false⟩, ⟨[4], [4], [4], [4], [], [], true, false⟩, ⟨[2, 4], [2, 4], [2], [2], [2, 4], [], true, false⟩, ⟨[], [], [], [0], [0], [0], true, false⟩, ⟨[], [], [], [0], [0], [0], true, false⟩, ⟨[0], [0], [], [1], [0, 1], [], false, false⟩, ⟨[], [], [], [0], [0], [0], true, false⟩, ⟨[], [], [], [0], [0], [0], true, false⟩, ⟨[0], [0], [], [1, 2], [0, 2, 1], [], false, false⟩], run_amongF hL _ [(13, 9)] [0, 1, 2, 3, 4, 5, 6, 7, 10, 11, 12, 13, 14, 15, 8, 16, 9, 17, 18, 19, 20, 21, 22, 23] (by simp [o10]) (by kernel_rfl) ?_⟩
        refine Run.ap [0, 1, 2, 3, 4, 5, 6, 7, 10, 11, 12, 13, 14, 15] [(25, .ptr 0 0 0), (26, .ptr 0 0 0), (27, .ptr 0 0 0), (28, .ptr 0 0 0), (29, .ptr 0 0 0), (30, .row 1), (31, .d (.int .i64 (↑(pos ks x) : Int))), (32, .d (.str x)), (35, .ptr 0 0 0), (36, .ptr 0 0 0), (37, .ptr 0 0 1), (38, .row 2), (39, .d (.int .i64 (↑(pos ks x) : Int))), (40, .d (.int .i64 y))] [] ?_
        refine Run.one (StepF.build (o := ((drawOf (cgo 31 [false, false] [.code B76]))[8]?).getD default) (t := 66) (len := 1) (parts := #[(0, (.tmp 32))]) (l := 3) (ds := [D.str x]) (sz := 1) (mv := false) (by kernel_rfl) rfl (by kernel_rfl) (by kernel_rfl) (by kernel_rfl) (by kernel_rfl) (by kernel_rfl) (by kernel_rfl) (by kernel_rfl) (by kernel_rfl)) ?_
        refine Run.one (StepF.build (o := ((drawOf (cgo 31 [false, false] [.code B76]))[16]?).getD default) (t := 46) (len := 1) (parts := #[(0, (.tmp 40))]) (l := 4) (ds := [D.int IntKind.i64 y]) (sz := 1) (mv := false) (by kernel_rfl) rfl (by kernel_rfl) (by kernel_rfl) (by kernel_rfl) (by kernel_rfl) (by kernel_rfl) (by kernel_rfl) (by kernel_rfl) (by kernel_rfl)) ?_
        refine Run.one (StepF.call (o := ((drawOf (cgo 31 [false, false] [.code B76]))[9]?).getD default) (x := (.func 100)) (args := #[(.tmp 30), (.tmp 31), (.tmp 33)]) (ts := #[66, 3, 66]) (first := []) (cap := []) [1, 3] [.row 0, .d (.int .i64 (↑(pos ks x) : Int)), .row 1] [.row 1 (List.map strD ks) false, .row 1 [D.str x] false] [.row 1 (List.take (pos ks x) (List.map strD ks) ++ D.str x :: List.drop (pos ks x) (List.map strD ks)) true, .row 1 [D.str x] false] (v := .row 1) (by kernel_rfl) rfl (by kernel_rfl) (by kernel_rfl) F100 (@spec_100 (List.map strD ks) (D.str x) (pos ks x) (by simp <;> omega) (by simp <;> omega)) (by kernel_rfl) (by kernel_rfl) (by kernel_rfl) (by kernel_rfl) ⟨rfl, rfl, by kernel_rfl⟩ (by kernel_rfl) (by kernel_rfl) (by kernel_rfl) (by kernel_rfl) (by kernel_rfl) rfl rfl) ?_
        refine Run.one (StepF.call (o := ((drawOf (cgo 31 [false, false] [.code B76]))[17]?).getD default) (x := (.func 101)) (args := #[(.tmp 38), (.tmp 39), (.tmp 41)]) (ts := #[46, 3, 46]) (first := []) (cap := []) [2, 4] [.row 0, .d (.int .i64 (↑(pos ks x) : Int)), .row 1] [.row 1 (List.map intD V2) false, .row 1 [D.int IntKind.i64 y] false] [.row 1 (List.take (pos ks x) (List.map intD V2) ++ D.int IntKind.i64 y :: List.drop (pos ks x) (List.map intD V2)) true, .row 1 [D.int IntKind.i64 y] false] (v := .row 2) (by kernel_rfl) rfl (by kernel_rfl) (by kernel_rfl) F101 (@spec_101 (List.map intD V2) (D.int IntKind.i64 y) (pos ks x) (by simp <;> omega) (by simp <;> omega)) (by kernel_rfl) (by kernel_rfl) (by kernel_rfl) (by kernel_rfl) ⟨rfl, rfl, by kernel_rfl⟩ (by kernel_rfl) (by kernel_rfl) (by kernel_rfl) (by kernel_rfl) (by kernel_rfl) rfl rfl) ?_
        exact Run.fin
    refine .sg0 4 [6] (cgo 36 [false, false] [.code B76]) [(6, .d (.bool true))] ?_
    refine .kp [6] ?_
    refine .su [0, 1, 2] (mk 47 [(6, V.d (D.bool true))]) [O.cells [V.row 1, V.row 2], O.row 1 (List.take (pos ks x) (List.map strD ks) ++ D.str x :: List.drop (pos ks x) (List.map strD ks)) true, O.row 1 (List.take (pos ks x) (List.map intD V2) ++ D.int IntKind.i64 y :: List.drop (pos ks x) (List.map intD V2)) true] ?_
    refine .retH F76 (v := V.d (D.bool true)) (by kernel_rfl) (by kernel_rfl) ?_
    exact ⟨by simp [h2], by simp [kput, h2, intD, strD, List.map_take, List.map_drop]⟩
def kdrop (ks : List ByteArray) (V2 : List Int) (x : ByteArray) : List ByteArray × List Int :=
  if ks[pos ks x]? = some x then (ks.eraseIdx (pos ks x), V2.eraseIdx (pos ks x)) else (ks, V2)
theorem spec_96 (ks : List ByteArray) (x : ByteArray) (V2 : List Int) (hr : Rising ks) (hl : ks.length < 1000000) (hv : V2.length = ks.length) :
    CallsA Try.prog 96 [.ptr 0 0 0, .d (.str x)] [.cells [.row 1, .row 2], .row 1 (ks.map strD) false, .row 1 (V2.map intD) false] fun r σ' => r = .ret (.d (.bool (decide (ks[pos ks x]? = some x)))) ∧ σ' = [.cells [.row 1, .row 2], .row 1 ((kdrop ks V2 x).1.map strD) true, .row 1 ((kdrop ks V2 x).2.map intD) true] := by
  refine CallsA.start F96 (tm := mk (Try.f96.ntmps) [(0, .ptr 0 0 0), (1, .d (.str x))]) (by kernel_rfl) ?_
  have hp := pos_le ks x
  refine .sg0 8 [0, 1, 4, 8, 9] (cgo 8 [] [.code B96]) [(4, .d (.bool false)), (8, .ptr 0 0 0), (9, .d (.str x))] ?_
  refine .ca [0, 1, 2] (cgo 9 [] [.code B96]) F95 (@spec_95 (ks) (x) (V2) (by assumption) (by omega)) ?_
  rintro r0 s0 ⟨rfl, rfl⟩
  refine ⟨_, rfl, ?_⟩
  refine .sg0 11 [0, 4, 5, 6, 13] (cgo 20 [] [.code B96]) [(5, .d (.int .i64 (↑(pos ks x) : Int))), (6, .d (.bool (decide (ks[pos ks x]? = some x)))), (13, .d (.bool (decide (ks[pos ks x]? = some x))))] ?_
  refine .if' (decide (ks[pos ks x]? = some x)) (cgo 21 [true] [.code B96]) (cgo 21 [false] [.code B96]) (fun h2 => ?_) (fun h2 => ?_)
  · simp only [bsX] at h2
    refine .dr (cgo 22 [true] [.code B96]) [(14, .ptr 0 0 0), (15, .ptr 0 0 0), (16, .ptr 0 0 0), (17, .ptr 0 0 0), (18, .ptr 0 0 0), (20, .d (.int .i64 (↑(pos ks x) : Int))), (21, .d (.int .i64 (↑(pos ks x) : Int))), (22, .d (.int .i64 (IntKind.i64.wrap ((↑(pos ks x) : Int) + 1)))), (23, .row 1), (24, .ptr 0 0 0), (25, .ptr 0 0 0), (26, .ptr 0 0 1), (28, .d (.int .i64 (↑(pos ks x) : Int))), (29, .d (.int .i64 (↑(pos ks x) : Int))), (30, .d (.int .i64 (IntKind.i64.wrap ((↑(pos ks x) : Int) + 1)))), (31, .row 2), (32, .ptr 0 0 0), (33, .ptr 0 0 0), (34, .ptr 0 0 0), (35, .ptr 0 0 1)] [(1, .row 1 (List.map strD (ks.eraseIdx (pos ks x))) true), (2, .row 1 (List.map intD (V2.eraseIdx (pos ks x))) true)] (fun kz L hL => ?_) ?_
    · rcases ahead_or' hL 9 13 (by kernel_rfl) with o9 | o9
      · refine ⟨[⟨[], [], [], [0], [0], [], true, false⟩, ⟨[], [], [], [0], [0], [], true, false⟩, ⟨[], [], [], [0], [0], [], true, false⟩, ⟨[], [], [], [0], [0], [0], true, false⟩, ⟨[], [], [], [0], [0], [0], true, false⟩, ⟨[0], [], [], [1], [0, 1, 2], [], true, false⟩, ⟨[], [], [], [], [], [], true, false⟩, ⟨[], [], [], [], [], [], true, false⟩, ⟨[], [], [], [], [], [], true, false⟩, ⟨[1], [1], [1], [1], [1], [], true, false⟩, ⟨[], [], [], [0], [0], [], true, false⟩, ⟨[], [], [], [0], [0], [0], true, false⟩, ⟨[], [], [], [0], [0], [0], true, false⟩, ⟨[0], [], [], [2], [0, 2], [], false, false⟩, ⟨[], [], [], [], [], [], true, false⟩, ⟨[], [], [], [], [], [], true, false⟩, ⟨[], [], [], [], [], [], true, false⟩, ⟨[2], [2], [2], [2], [2], [], true, false⟩, ⟨[], [], [], [0], [0], [0], true, false⟩, ⟨[], [], [], [0], [0], [0], true, false⟩, ⟨[0], [0], [], [1], [0, 1], [], false, false⟩, ⟨[], [], [], [0], [0], [0], true, false⟩, ⟨[], [], [], [0], [0], [0], true, false⟩, ⟨[0], [0], [], [1, 2], [0, 2, 1], [], false, false⟩], run_amongF hL _ [(9, 13)] [0, 1, 2, 3, 4, 5, 6, 7, 8, 10, 11, 12, 14, 15, 16, 9, 13, 17, 18, 19, 20, 21, 22, 23] (by simp [o9]) (by kernel_rfl) ?_⟩
        refine Run.ap [0, 1, 2, 3, 4, 5, 6, 7, 8, 10, 11, 12, 14, 15, 16] [(14, .ptr 0 0 0), (15, .ptr 0 0 0), (16, .ptr 0 0 0), (17, .ptr 0 0 0), (18, .ptr 0 0 0), (19, .row 1), (20, .d (.int .i64 (↑(pos ks x) : Int))), (21, .d (.int .i64 (↑(pos ks x) : Int))), (22, .d (.int .i64 (IntKind.i64.wrap ((↑(pos ks x) : Int) + 1)))), (24, .ptr 0 0 0), (25, .ptr 0 0 0), (26, .ptr 0 0 1), (28, .d (.int .i64 (↑(pos ks x) : Int))), (29, .d (.int .i64 (↑(pos ks x) : Int))), (30, .d (.int .i64 (IntKind.i64.wrap ((↑(pos ks x) : Int) + 1))))] [] ?_
        refine Run.one (StepF.call (o := ((drawOf (cgo 21 [true] [.code B96]))[9]?).getD default) (x := (.func 107)) (args := #[(.tmp 19), (.tmp 20), (.tmp 22)]) (ts := #[66, 3, 3]) (first := []) (cap := []) [1] [.row 0, .d (.int .i64 (↑(pos ks x) : Int)), .d (.int .i64 (IntKind.i64.wrap ((↑(pos ks x) : Int) + 1)))] [.row 1 (List.map strD ks) false] [.row 1 (List.map strD (ks.eraseIdx (pos ks x))) true] (v := .row 1) (by kernel_rfl) rfl (by kernel_rfl) (by kernel_rfl) F107 (@spec_107 (ks) (pos ks x) (by grind) (by assumption)) (by kernel_rfl) (by kernel_rfl) (by kernel_rfl) (by kernel_rfl) ⟨rfl, rfl, by kernel_rfl⟩ (by kernel_rfl) (by kernel_rfl) (by kernel_rfl) (by kernel_rfl) (by kernel_rfl) rfl rfl) ?_
        refine Run.ap [13] [(27, .row 2)] [] ?_
        refine Run.one (StepF.call (o := ((drawOf (cgo 21 [true] [.code B96]))[17]?).getD default) (x := (.func 108)) (args := #[(.tmp 27), (.tmp 28), (.tmp 30)]) (ts := #[46, 3, 3]) (first := []) (cap := []) [2] [.row 0, .d (.int .i64 (↑(pos ks x) : Int)), .d (.int .i64 (IntKind.i64.wrap ((↑(pos ks x) : Int) + 1)))] [.row 1 (List.map intD V2) false] [.row 1 (List.map intD (V2.eraseIdx (pos ks x))) true] (v := .row 2) (by kernel_rfl) rfl (by kernel_rfl) (by kernel_rfl) F108 (@spec_108 (V2) (pos ks x) (by grind) (by omega)) (by kernel_rfl) (by kernel_rfl) (by kernel_rfl) (by kernel_rfl) ⟨rfl, rfl, by kernel_rfl⟩ (by kernel_rfl) (by kernel_rfl) (by kernel_rfl) (by kernel_rfl) (by kernel_rfl) rfl rfl) ?_
        exact Run.fin
      · refine ⟨[⟨[], [], [], [0], [0], [], true, false⟩, ⟨[], [], [], [0], [0], [], true, false⟩, ⟨[], [], [], [0], [0], [], true, false⟩, ⟨[], [], [], [0], [0], [0], true, false⟩, ⟨[], [], [], [0], [0], [0], true, false⟩, ⟨[0], [], [], [1], [0, 1, 2], [], true, false⟩, ⟨[], [], [], [], [], [], true, false⟩, ⟨[], [], [], [], [], [], true, false⟩, ⟨[], [], [], [], [], [], true, false⟩, ⟨[1], [1], [1], [1], [1], [], true, false⟩, ⟨[], [], [], [0], [0], [], true, false⟩, ⟨[], [], [], [0], [0], [0], true, false⟩, ⟨[], [], [], [0], [0], [0], true, false⟩, ⟨[0], [], [], [2], [0, 1, 2], [], true, false⟩, ⟨[], [], [], [], [], [], true, false⟩, ⟨[], [], [], [], [], [], true, false⟩, ⟨[], [], [], [], [], [], true, false⟩, ⟨[2], [2], [2], [2], [2], [], true, false⟩, ⟨[], [], [], [0], [0], [0], true, false⟩, ⟨[], [], [], [0], [0], [0], true, false⟩, ⟨[0], [0], [], [1], [0, 1], [], false, false⟩, ⟨[], [], [], [0], [0], [0], true, false⟩, ⟨[], [], [], [0], [0], [0], true, false⟩, ⟨[0], [0], [], [1, 2], [0, 2, 1], [], false, false⟩], run_amongF hL _ [(13, 9)] [0, 1, 2, 3, 4, 5, 6, 7, 8, 10, 11, 12, 13, 14, 15, 16, 9, 17, 18, 19, 20, 21, 22, 23] (by simp [o9]) (by kernel_rfl) ?_⟩
        refine Run.ap [0, 1, 2, 3, 4, 5, 6, 7, 8, 10, 11, 12, 13, 14, 15, 16] [(14, .ptr 0 0 0), (15, .ptr 0 0 0), (16, .ptr 0 0 0), (17, .ptr 0 0 0), (18, .ptr 0 0 0), (19, .row 1), (20, .d (.int .i64 (↑(pos ks x) : Int))), (21, .d (.int .i64 (↑(pos ks x) : Int))), (22, .d (.int .i64 (IntKind.i64.wrap ((↑(pos ks x) : Int) + 1)))), (24, .ptr 0 0 0), (25, .ptr 0 0 0), (26, .ptr 0 0 1), (27, .row 2), (28, .d (.int .i64 (↑(pos ks x) : Int))), (29, .d (.int .i64 (↑(pos ks x) : Int))), (30, .d (.int .i64 (IntKind.i64.wrap ((↑(pos ks x) : Int) + 1))))] [] ?_
        refine Run.one (StepF.call (o := ((drawOf (cgo 21 [true] [.code B96]))[9]?).getD default) (x := (.func 107)) (args := #[(.tmp 19), (.tmp 20), (.tmp 22)]) (ts := #[66, 3, 3]) (first := []) (cap := []) [1] [.row 0, .d (.int .i64 (↑(pos ks x) : Int)), .d (.int .i64 (IntKind.i64.wrap ((↑(pos ks x) : Int) + 1)))] [.row 1 (List.map strD ks) false] [.row 1 (List.map strD (ks.eraseIdx (pos ks x))) true] (v := .row 1) (by kernel_rfl) rfl (by kernel_rfl) (by kernel_rfl) F107 (@spec_107 (ks) (pos ks x) (by grind) (by assumption)) (by kernel_rfl) (by kernel_rfl) (by kernel_rfl) (by kernel_rfl) ⟨rfl, rfl, by kernel_rfl⟩ (by kernel_rfl) (by kernel_rfl) (by kernel_rfl) (by kernel_rfl) (by kernel_rfl) rfl rfl) ?_
        refine Run.one (StepF.call (o := ((drawOf (cgo 21 [true] [.code B96]))[17]?).getD default) (x := (.func 108)) (args := #[(.tmp 27), (.tmp 28), (.tmp 30)]) (ts := #[46, 3, 3]) (first := []) (cap := []) [2] [.row 0, .d (.int .i64 (↑(pos ks x) : Int)), .d (.int .i64 (IntKind.i64.wrap ((↑(pos ks x) : Int) + 1)))] [.row 1 (List.map intD V2) false] [.row 1 (List.map intD (V2.eraseIdx (pos ks x))) true] (v := .row 2) (by kernel_rfl) rfl (by kernel_rfl) (by kernel_rfl) F108 (@spec_108 (V2) (pos ks x) (by grind) (by omega)) (by kernel_rfl) (by kernel_rfl) (by kernel_rfl) (by kernel_rfl) ⟨rfl, rfl, by kernel_rfl⟩ (by kernel_rfl) (by kernel_rfl) (by kernel_rfl) (by kernel_rfl) (by kernel_rfl) rfl rfl) ?_
        exact Run.fin
    refine .seg 5 [4] (T' := cgo 27 [true] [.code B96]) (tm' := mk 37 [(4, .d (.bool (decide (ks[pos ks x]? = some x))))]) (σ' := [.cells [.row 1, .row 2], .row 1 (List.map strD (ks.eraseIdx (pos ks x))) true, .row 1 (List.map intD (V2.eraseIdx (pos ks x))) true]) (by kernel_rfl) ?_
    refine .raise 1 rfl rfl ?_
    refine .raise 2 rfl rfl ?_
    refine .retH F96 (v := V.d (D.bool (decide (ks[pos ks x]? = some x)))) (by kernel_rfl) (by kernel_rfl) ?_
    exact ⟨by simp [h2], by simp [kdrop, h2]⟩
  · simp only [bsX] at h2
    refine .seg 6 [4] (T' := cgo 27 [false] [.code B96]) (tm' := mk 37 [(4, .d (.bool (decide (ks[pos ks x]? = some x))))]) (σ' := [.cells [.row 1, .row 2], .row 1 (List.map strD ks) false, .row 1 (List.map intD V2) false]) (by kernel_rfl) ?_
    refine .raise 1 rfl rfl ?_
    refine .raise 2 rfl rfl ?_
    refine .retH F96 (v := V.d (D.bool (decide (ks[pos ks x]? = some x)))) (by kernel_rfl) (by kernel_rfl) ?_
    exact ⟨by simp [h2], by simp [kdrop, h2]⟩
end Go.Proofs.Ytoelkgbeefoplaa
