/- The sums of check: walks of digest.More and digest.Crc. -/
import Derived.Test.YtoelkgbeefoplaaBrW
import Derived.Test.YtoelkgbeefoplaaProg
namespace Go.Proofs.Ytoelkgbeefoplaa
open Go Go.Br Go.Proofs

def u32 (b : BitVec 32) : D := .int .u32 b.toNat
noncomputable def B90 : Code := (Try.f90.body).getD .skip
theorem F90 : Fnc Try.prog 90 Try.f90 B90 := ⟨Try.func90, by kernel_rfl, by kernel_rfl⟩

def crc1 (r : BitVec 32) : BitVec 32 := (r >>> 1) ^^^ (0xEDB88320#32 &&& -(r &&& 1#32))
def crc8 : Nat → BitVec 32 → BitVec 32
  | 0, r => r
  | n + 1, r => crc8 n (crc1 r)
def crcB (r : BitVec 32) (c : UInt8) : BitVec 32 := crc8 8 (r ^^^ c.toBitVec.zeroExtend 32)

section
variable {n : Nat} {σ : Store} {df : List Nat} {Q : AE → Store → Prop} {s : BitVec 32}
theorem in90 (L : V) (len i : Int) : ∀ (m j : Nat) (r : BitVec 32), j + m = 8 → 
    AW Try.prog 90 none n (cgo 81 [true, true, false] [.code B90]) (mk 33 [(5, .d (u32 (crc8 m r))), (10, L), (11, .d (.int .i64 len)), (12, .d (.int .i64 i))]) σ df Q →
    AW Try.prog 90 none n (cgo 48 [true] [.code B90]) (mk 33 [(5, .d (u32 r)), (10, L), (11, .d (.int .i64 len)), (12, .d (.int .i64 i)), (20, .d (.int .i64 j))]) σ df Q := by
  intro m
  induction m with
  | zero =>
    intro j r hj hk
    obtain rfl : j = 8 := by omega
    refine .seg 8 [5, 10, 11, 12] (T' := cgo 81 [true, true, false] [.code B90]) (tm' := mk 33 [(5, .d (u32 r)), (10, L), (11, .d (.int .i64 len)), (12, .d (.int .i64 i))]) (σ' := σ) (by kernel_rfl) hk
  | succ m ih =>
    intro j r hj hk
    refine .seg 5 [5, 10, 11, 12, 20, 21] (T' := cgo 53 [true] [.code B90]) (tm' := mk 33 [(5, .d (u32 r)), (10, L), (11, .d (.int .i64 len)), (12, .d (.int .i64 i)), (20, .d (.int .i64 j)), (21, .d (.bool (decide ((j : Int) < 8))))]) (σ' := σ) (by kernel_rfl) ?_
    refine .ifH (b := decide ((j : Int) < 8)) (by kernel_rfl) (by kernel_rfl) (T1 := cgo 54 [true, true] [.code B90]) (T2 := cgo 54 [true, false] [.code B90]) (by kernel_rfl) (by kernel_rfl) (fun _ => ?_) (fun h => absurd h (by simp; omega))
    refine .seg 19 [5, 10, 11, 12, 20] (T' := cgo 48 [true] [.code B90]) (tm' := mk 33 [(5, .d (.int .u32 (ixor .u32 (ishr .u32 r.toNat (1 : Nat)) (iand .u32 (0xEDB88320#32).toNat (ineg .u32 (iand .u32 r.toNat (1#32).toNat)))))), (10, L), (11, .d (.int .i64 len)), (12, .d (.int .i64 i)), (20, .d (.int .i64 (iadd .i64 j 1)))]) (σ' := σ) (by kernel_rfl) ?_
    rw [iand_u32, ineg_u32, iand_u32, ishr_u32, ixor_u32, iadd_i64 (by omega) (by omega)]
    have := ih (j + 1) (crc1 r) (by omega) hk
    exact this
theorem ou90 (bs : List UInt8) (hlen : bs.length < 9223372036854775807) (hq : Q (.ret (.d (u32 (~~~(bs.foldl crcB (~~~s)))))) σ) : ∀ (m i : Nat) (r : BitVec 32), i + m = bs.length → (bs.drop i).foldl crcB r = bs.foldl crcB (~~~s) →
    AW Try.prog 90 none n (cgo 19 [] [.code B90]) (mk 33 [(5, .d (u32 r)), (10, .d (.list 1 (bs.map u8))), (11, .d (.int .i64 bs.length)), (12, .d (.int .i64 i))]) σ [] Q := by
  intro m
  induction m with
  | zero =>
    intro i r hi hr
    obtain rfl : i = bs.length := by omega
    rw [List.drop_length] at hr
    subst hr
    refine .seg 5 [5, 13] (T' := cgo 24 [] [.code B90]) (tm' := mk 33 [(5, .d (u32 (bs.foldl crcB (~~~s)))), (13, .d (.bool (decide ((bs.length : Int) < bs.length))))]) (σ' := σ) (by kernel_rfl) ?_
    refine .ifH (b := decide ((bs.length : Int) < bs.length)) (by kernel_rfl) (by kernel_rfl) (T1 := cgo 25 [true] [.code B90]) (T2 := cgo 25 [false] [.code B90]) (by kernel_rfl) (by kernel_rfl) (fun h => absurd h (by simp)) (fun _ => ?_)
    refine .seg 7 [4] (T' := cgo 32 [false] [.code B90]) (tm' := mk 33 [(4, .d (.int .u32 (inot .u32 (bs.foldl crcB (~~~s)).toNat)))]) (σ' := σ) (by kernel_rfl) ?_
    rw [inot_u32]
    exact .retH F90 (by kernel_rfl) (by kernel_rfl) hq
  | succ m ih =>
    intro i r hi hr
    have hlt : i < bs.length := by omega
    refine .seg 5 [5, 10, 11, 12, 13] (T' := cgo 24 [] [.code B90]) (tm' := mk 33 [(5, .d (u32 r)), (10, .d (.list 1 (bs.map u8))), (11, .d (.int .i64 bs.length)), (12, .d (.int .i64 i)), (13, .d (.bool (decide ((i : Int) < bs.length))))]) (σ' := σ) (by kernel_rfl) ?_
    refine .ifH (b := decide ((i : Int) < bs.length)) (by kernel_rfl) (by kernel_rfl) (T1 := cgo 25 [true] [.code B90]) (T2 := cgo 25 [false] [.code B90]) (by kernel_rfl) (by kernel_rfl) (fun _ => ?_) (fun h => absurd h (by simp; omega))
    refine .seg 5 [5, 10, 11, 12] (T' := cgo 30 [true] [.code B90]) (tm' := mk 33 [(5, .d (u32 r)), (10, .d (.list 1 (bs.map u8))), (11, .d (.int .i64 bs.length)), (12, .d (.int .i64 i))]) (σ' := σ) (by kernel_rfl) ?_
    refine .opH (o := (opOf (cgo 30 [true] [.code B90])).getD default) (by kernel_rfl) (by kernel_rfl) (by kernel_rfl) (T' := cgo 31 [true] [.code B90]) (by kernel_rfl)
      (ixData_ok (t := 22) (x := .tmp 10) (i := .tmp 12) (sz := 1) (xs := bs.map u8) (k := .i64) (n := i) (d := u8 bs[i]) (by kernel_rfl) (by kernel_rfl) (by kernel_rfl) (by kernel_rfl) (by omega) (u8s_get hlt)) ?_
    refine .seg 17 [5, 10, 11, 12, 20] (T' := cgo 48 [true] [.code B90]) (tm' := mk 33 [(5, .d (.int .u32 (ixor .u32 r.toNat (iconv .u32 bs[i].toNat)))), (10, .d (.list 1 (bs.map u8))), (11, .d (.int .i64 bs.length)), (12, .d (.int .i64 i)), (20, .d (.int .i64 0))]) (σ' := σ) (by kernel_rfl) ?_
    rw [iconv_u8_u32, ixor_u32]
    refine in90 _ _ _ 8 0 _ rfl ?_
    refine .seg 5 [5, 10, 11, 12] (T' := cgo 19 [] [.code B90]) (tm' := mk 33 [(5, .d (u32 (crcB r bs[i]))), (10, .d (.list 1 (bs.map u8))), (11, .d (.int .i64 bs.length)), (12, .d (.int .i64 (iadd .i64 i 1)))]) (σ' := σ) (by kernel_rfl) ?_
    rw [iadd_i64 (by omega) (by omega)]
    refine ih (i + 1) (crcB r bs[i]) (by omega) ?_
    rw [← hr, List.drop_eq_getElem_cons hlt, List.foldl_cons]
end
theorem more_pure (s : BitVec 32) (bs : List UInt8) (hlen : bs.length < 9223372036854775807) : Pure Try.prog 90 [.d (u32 s), .d (.list 1 (bs.map u8))] (.d (u32 (~~~(bs.foldl crcB (~~~s))))) := by
  refine CallsA.start F90 (tm := mk 33 [(0, .d (u32 s)), (1, .d (.list 1 (bs.map u8)))]) (by kernel_rfl) ?_
  refine .seg 19 [5, 10, 11, 12] (T' := cgo 19 [] [.code B90]) (tm' := mk 33 [(5, .d (.int .u32 (inot .u32 s.toNat))), (10, .d (.list 1 (bs.map u8))), (11, .d (.int .i64 (bs.map u8).length)), (12, .d (.int .i64 0))]) (σ' := []) (by kernel_rfl) ?_
  rw [inot_u32, List.length_map]
  exact ou90 (s := s) bs hlen ⟨rfl, rfl⟩ bs.length 0 _ (by simp) rfl
noncomputable def B59 : Code := (Try.f59.body).getD .skip
theorem F59 : Fnc Try.prog 59 Try.f59 B59 := ⟨Try.func59, by kernel_rfl, by kernel_rfl⟩
def crc (bs : List UInt8) : BitVec 32 := ~~~(bs.foldl crcB (~~~0#32))
theorem crc_pure (bs : List UInt8) (hlen : bs.length < 9223372036854775807) : Pure Try.prog 59 [.d (.list 1 (bs.map u8))] (.d (u32 (crc bs))) := by
  refine CallsA.start F59 (tm := mk 5 [(0, .d (.list 1 (bs.map u8)))]) (by kernel_rfl) ?_
  refine .seg 7 [3] (T' := cgo 7 [] [.code B59]) (tm' := mk 5 [(3, .d (.list 1 (bs.map u8)))]) (σ' := []) (by kernel_rfl) ?_
  refine .semH (o := (opOf (cgo 7 [] [.code B59])).getD default) (v := .d (u32 (crc bs))) (σ' := []) (by kernel_rfl) (by kernel_rfl) (T' := cgo 8 [] [.code B59]) (by kernel_rfl)
    (fun k => sem_data (x := .func 90) (args := #[.const (.int .u32 0), .tmp 3]) (ts := #[38, 22]) (first := []) (cap := []) F90 (more_pure 0#32 bs hlen) (by kernel_rfl) (by kernel_rfl) (by kernel_rfl) (by kernel_rfl) (by kernel_rfl) []) ?_
  refine .seg 2 [2] (T' := cgo 10 [] [.code B59]) (tm' := mk 5 [(2, .d (u32 (crc bs)))]) (σ' := []) (by kernel_rfl) ?_
  exact .retH F59 (by kernel_rfl) (by kernel_rfl) ⟨rfl, rfl⟩
end Go.Proofs.Ytoelkgbeefoplaa
