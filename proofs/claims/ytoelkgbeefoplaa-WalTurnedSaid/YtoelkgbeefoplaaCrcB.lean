/- The document's sum of check is the same. -/
import Derived.Test.YtoelkgbeefoplaaWordA
namespace Go.Proofs.Ytoelkgbeefoplaa
open Go Go.Br Go.Proofs

theorem and_one (c : BitVec 32) : c &&& 1#32 = if c.getLsbD 0 then 1#32 else 0#32 := by
  apply BitVec.eq_of_toNat_eq
  rw [BitVec.toNat_and]
  have h1 : (1#32).toNat = 1 := rfl
  rw [h1, Nat.and_one_is_mod]
  have h2 : c.getLsbD 0 = c.toNat.testBit 0 := rfl
  rw [h2, Nat.testBit_zero]
  have h3 := Nat.mod_two_eq_zero_or_one c.toNat
  rcases h3 with h3 | h3 <;> simp [h3]
/-- One bit, as the document says it. -/
def refs (r : BitVec 32) (c : Bool) : BitVec 32 := (r >>> 1) ^^^ (if r.getLsbD 0 != c then 0xEDB88320#32 else 0#32)
theorem crc1_refs (r x : BitVec 32) : crc1 (r ^^^ x) = refs r (x.getLsbD 0) ^^^ (x >>> 1) := by
  unfold crc1 refs
  rw [and_one, BitVec.getLsbD_xor, BitVec.ushiftRight_xor_distrib]
  cases r.getLsbD 0 <;> cases x.getLsbD 0 <;> simp <;> ac_rfl
theorem shr_shr (x : BitVec 32) (i : Nat) : (x >>> i) >>> 1 = x >>> (i + 1) := by
  apply BitVec.eq_of_toNat_eq
  simp [BitVec.toNat_ushiftRight, Nat.shiftRight_add]
theorem irem_two (r : BitVec 32) : irem (r.toNat : Int) 2 = ((r.toNat % 2 : Nat) : Int) := by
  show Int.tmod (r.toNat : Int) ((2 : Nat) : Int) = _
  rw [Int.ofNat_tmod]
theorem iquo_two (r : BitVec 32) : iquo .u32 (r.toNat : Int) 2 = ((r >>> 1).toNat : Int) := by
  show IntKind.u32.wrap (Int.tdiv (r.toNat : Int) ((2 : Nat) : Int)) = _
  rw [← Int.ofNat_tdiv, wrap_u32]
  have := r.isLt
  simp [Nat.shiftRight_eq_div_pow]
  omega
theorem bit_raw (b : UInt8) (i : Nat) (hi : i < 8) : irem (iconv .u32 (ishr .u8 (b.toNat : Int) (i : Int))) 2 = (((b.toBitVec.zeroExtend 32 >>> i).toNat % 2 : Nat) : Int) := by
  have h1 : ishr .u8 (b.toNat : Int) (i : Int) = ((b.toNat / 2 ^ i : Nat) : Int) := by
    show Int.fdiv (b.toNat : Int) (2 ^ min (i : Int).toNat 8) = _
    have h2 : ((2 : Int) ^ min (i : Int).toNat 8) = ((2 ^ i : Nat) : Int) := by
      have : min (i : Int).toNat 8 = i := by simp; omega
      rw [this]; simp
    rw [h2, Int.fdiv_eq_ediv_of_nonneg _ (Int.natCast_nonneg _), ← Int.natCast_ediv]
  have h4 : b.toNat / 2 ^ i ≤ b.toNat := Nat.div_le_self _ _
  have h5 := UInt8.toNat_lt b
  have h3 : iconv .u32 ((b.toNat / 2 ^ i : Nat) : Int) = ((b.toNat / 2 ^ i : Nat) : Int) := by
    show IntKind.u32.wrap _ = _
    rw [wrap_u32]
    simp only [BitVec.toNat_ofNat]
    rw [Nat.mod_eq_of_lt (Nat.lt_of_le_of_lt h4 (by omega))]
  rw [h1, h3]
  show Int.tmod _ ((2 : Nat) : Int) = _
  rw [Int.ofNat_tmod]
  congr 2
  rw [BitVec.toNat_ushiftRight, Nat.shiftRight_eq_div_pow]
  congr 1
theorem neq_bits (r x : BitVec 32) : (((r.toNat % 2 : Nat) : Int) != ((x.toNat % 2 : Nat) : Int)) = (r.getLsbD 0 != x.getLsbD 0) := by
  have h2 : ∀ c : BitVec 32, c.getLsbD 0 = decide (c.toNat % 2 = 1) := fun c => by
    have : c.getLsbD 0 = c.toNat.testBit 0 := rfl
    rw [this, Nat.testBit_zero]
  rw [h2, h2]
  rcases Nat.mod_two_eq_zero_or_one r.toNat with h3 | h3 <;> rcases Nat.mod_two_eq_zero_or_one x.toNat with h4 | h4 <;> simp [h3, h4]

noncomputable def B63 : Code := (Try.f63.body).getD .skip
theorem F63 : Fnc Try.prog 63 Try.f63 B63 := ⟨Try.func63, by kernel_rfl, by kernel_rfl⟩
section
variable {n : Nat} {σ : Store} {df : List Nat} {Q : AE → Store → Prop}
theorem in63 (L : V) (len x : Int) (b : UInt8) : ∀ (m j : Nat) (r : BitVec 32), j + m = 8 →
    AW Try.prog 63 none n ((cgo 46 [true, false] [.code B63])) ((mk 34 [(3, .d (u32 (crc8 m (r ^^^ (b.toBitVec.zeroExtend 32 >>> j))))), (8, L), (9, .d (.int .i64 (len))), (10, .d (.int .i64 (x)))])) σ df Q →
    AW Try.prog 63 none n ((cgo 38 [true] [.code B63])) ((mk 34 [(3, .d (u32 r)), (5, .d (u8 b)), (6, .d (.int .i64 (j))), (8, L), (9, .d (.int .i64 (len))), (10, .d (.int .i64 (x)))])) σ df Q := by
  intro m
  induction m with
  | zero =>
    intro j r hj hk
    obtain rfl : j = 8 := by omega
    have hz : b.toBitVec.zeroExtend 32 >>> 8 = 0#32 := by
      apply BitVec.eq_of_toNat_eq
      rw [BitVec.toNat_ushiftRight, Nat.shiftRight_eq_div_pow]
      have := UInt8.toNat_lt b
      simp
      omega
    rw [hz, BitVec.xor_zero] at hk
    refine .seg 8 [3, 8, 9, 10] (T' := cgo 46 [true, false] [.code B63]) (tm' := mk 34 [(3, .d (u32 r)), (8, L), (9, .d (.int .i64 (len))), (10, .d (.int .i64 (x)))]) (σ' := σ) (by kernel_rfl) ?_
    exact hk
  | succ m ih =>
    intro j r hj hk
    refine .seg 6 [3, 5, 6, 8, 9, 10, 15] (T' := cgo 44 [true] [.code B63]) (tm' := mk 34 [(3, .d (u32 r)), (5, .d (u8 b)), (6, .d (.int .i64 (j))), (8, L), (9, .d (.int .i64 (len))), (10, .d (.int .i64 (x))), (15, .d (.bool (decide ((j : Int) < 8))))]) (σ' := σ) (by kernel_rfl) ?_
    refine .ifH (b := decide ((j : Int) < 8)) (by kernel_rfl) (by kernel_rfl) (T1 := cgo 45 [true, true] [.code B63]) (T2 := cgo 45 [true, false] [.code B63]) (by kernel_rfl) (by kernel_rfl) (fun _ => ?_) (fun h => absurd h (by simp; omega))
    refine .seg 25 [3, 5, 6, 8, 9, 10, 28] (T' := cgo 70 [true, true] [.code B63]) (tm' := mk 34 [(3, .d (.int .u32 (iquo .u32 r.toNat 2))), (5, .d (u8 b)), (6, .d (.int .i64 (j))), (8, L), (9, .d (.int .i64 (len))), (10, .d (.int .i64 (x))), (28, .d (.bool (irem r.toNat 2 != irem (iconv .u32 (ishr .u8 b.toNat j)) 2)))]) (σ' := σ) (by kernel_rfl) ?_
    rw [irem_two, bit_raw b j (by omega), neq_bits, iquo_two]
    refine .ifH (b := (r.getLsbD 0 != (b.toBitVec.zeroExtend 32 >>> j).getLsbD 0)) (by kernel_rfl) (by kernel_rfl) (T1 := cgo 71 [true, true, true] [.code B63]) (T2 := cgo 71 [true, true, false] [.code B63]) (by kernel_rfl) (by kernel_rfl) (fun h => ?_) (fun h => ?_)
    · refine .seg 12 [3, 5, 6, 8, 9, 10] (T' := cgo 38 [true] [.code B63]) (tm' := mk 34 [(3, .d (.int .u32 (ixor .u32 (r >>> 1).toNat (0xEDB88320#32).toNat))), (5, .d (u8 b)), (6, .d (.int .i64 (iadd .i64 j 1))), (8, L), (9, .d (.int .i64 (len))), (10, .d (.int .i64 (x)))]) (σ' := σ) (by kernel_rfl) ?_
      rw [ixor_u32, iadd_i64 (by omega) (by omega)]
      refine ih (j + 1) _ (by omega) ?_
      simp only [crc8, crc1_refs, refs, h, if_true, shr_shr] at hk
      exact hk
    · refine .seg 8 [3, 5, 6, 8, 9, 10] (T' := cgo 38 [true] [.code B63]) (tm' := mk 34 [(3, .d (.int .u32 (r >>> 1).toNat)), (5, .d (u8 b)), (6, .d (.int .i64 (iadd .i64 j 1))), (8, L), (9, .d (.int .i64 (len))), (10, .d (.int .i64 (x)))]) (σ' := σ) (by kernel_rfl) ?_
      rw [iadd_i64 (by omega) (by omega)]
      refine ih (j + 1) _ (by omega) ?_
      simp only [crc8, crc1_refs, refs, h, shr_shr] at hk
      simpa using hk
theorem ou63 (bs : List UInt8) (hlen : bs.length < 9223372036854775807) (hq : Q (.ret (.d (u32 (crc bs)))) σ) : ∀ (m i : Nat) (r : BitVec 32), i + m = bs.length → (bs.drop i).foldl crcB r = bs.foldl crcB (~~~0#32) →
    AW Try.prog 63 none n ((cgo 17 [] [.code B63])) ((mk 34 [(3, .d (u32 r)), (8, .d (.list 1 (bs.map u8))), (9, .d (.int .i64 (bs.length))), (10, .d (.int .i64 (i)))])) σ [] Q := by
  intro m
  induction m with
  | zero =>
    intro i r hi hr
    obtain rfl : i = bs.length := by omega
    rw [List.drop_length] at hr
    subst hr
    refine .seg 5 [3, 11] (T' := cgo 22 [] [.code B63]) (tm' := mk 34 [(3, .d (u32 (bs.foldl crcB (~~~0#32)))), (11, .d (.bool (decide ((bs.length : Int) < bs.length))))]) (σ' := σ) (by kernel_rfl) ?_
    refine .ifH (b := decide ((bs.length : Int) < bs.length)) (by kernel_rfl) (by kernel_rfl) (T1 := cgo 23 [true] [.code B63]) (T2 := cgo 23 [false] [.code B63]) (by kernel_rfl) (by kernel_rfl) (fun h => absurd h (by simp)) (fun _ => ?_)
    refine .seg 7 [2] (T' := cgo 30 [false] [.code B63]) (tm' := mk 34 [(2, .d (.int .u32 (isub .u32 4294967295 (bs.foldl crcB (~~~0#32)).toNat)))]) (σ' := σ) (by kernel_rfl) ?_
    have e (x : BitVec 32) : isub .u32 4294967295 x.toNat = ((~~~x).toNat : Int) := by
      show IntKind.u32.wrap _ = _
      have := x.isLt
      have h1 : (4294967295 : Int) - x.toNat = ((4294967295 - x.toNat : Nat) : Int) := by omega
      rw [h1, wrap_u32]
      simp
      omega
    rw [e]
    exact .retH F63 (by kernel_rfl) (by kernel_rfl) (hq)
  | succ m ih =>
    intro i r hi hr
    have hlt : i < bs.length := by omega
    refine .seg 5 [3, 8, 9, 10, 11] (T' := cgo 22 [] [.code B63]) (tm' := mk 34 [(3, .d (u32 r)), (8, .d (.list 1 (bs.map u8))), (9, .d (.int .i64 (bs.length))), (10, .d (.int .i64 (i))), (11, .d (.bool (decide ((i : Int) < bs.length))))]) (σ' := σ) (by kernel_rfl) ?_
    refine .ifH (b := decide ((i : Int) < bs.length)) (by kernel_rfl) (by kernel_rfl) (T1 := cgo 23 [true] [.code B63]) (T2 := cgo 23 [false] [.code B63]) (by kernel_rfl) (by kernel_rfl) (fun _ => ?_) (fun h => absurd h (by simp; omega))
    refine .seg 5 [3, 8, 9, 10] (T' := cgo 28 [true] [.code B63]) (tm' := mk 34 [(3, .d (u32 r)), (8, .d (.list 1 (bs.map u8))), (9, .d (.int .i64 (bs.length))), (10, .d (.int .i64 (i)))]) (σ' := σ) (by kernel_rfl) ?_
    refine .opH (o := (opOf (cgo 28 [true] [.code B63])).getD default) (by kernel_rfl) (by kernel_rfl) (by kernel_rfl) (T' := cgo 29 [true] [.code B63]) (by kernel_rfl) (ixData_ok (t := 22) (x := .tmp 8) (i := .tmp 10) (sz := 1) (xs := bs.map u8) (k := .i64) (n := i) (d := u8 bs[i]) (by kernel_rfl) (by kernel_rfl) (by kernel_rfl) (by kernel_rfl) (by omega) (u8s_get hlt)) ?_
    refine .seg 9 [3, 5, 6, 8, 9, 10] (T' := cgo 38 [true] [.code B63]) (tm' := mk 34 [(3, .d (u32 r)), (5, .d (u8 bs[i])), (6, .d (.int .i64 (0))), (8, .d (.list 1 (bs.map u8))), (9, .d (.int .i64 (bs.length))), (10, .d (.int .i64 (i)))]) (σ' := σ) (by kernel_rfl) ?_
    refine in63 _ _ _ _ 8 0 _ rfl ?_
    refine .seg 6 [3, 8, 9, 10] (T' := cgo 17 [] [.code B63]) (tm' := mk 34 [(3, .d (u32 (crcB r bs[i]))), (8, .d (.list 1 (bs.map u8))), (9, .d (.int .i64 (bs.length))), (10, .d (.int .i64 (iadd .i64 i 1)))]) (σ' := σ) (by kernel_rfl) ?_
    rw [iadd_i64 (by omega) (by omega)]
    refine ih (i + 1) (crcB r bs[i]) (by omega) ?_
    rw [← hr, List.drop_eq_getElem_cons hlt, List.foldl_cons]
end
theorem rcrc_pure (bs : List UInt8) (hlen : bs.length < 9223372036854775807) : Pure Try.prog 63 [.d (.list 1 (bs.map u8))] (.d (u32 (crc bs))) := by
  refine CallsA.start F63 (tm := (mk 34 [(0, .d (.list 1 (bs.map u8)))])) (by kernel_rfl) ?_
  refine .seg 17 [3, 8, 9, 10] (T' := cgo 17 [] [.code B63]) (tm' := mk 34 [(3, .d (u32 (~~~0#32))), (8, .d (.list 1 (bs.map u8))), (9, .d (.int .i64 ((bs.map u8).length))), (10, .d (.int .i64 (0)))]) (σ' := []) (by kernel_rfl) ?_
  rw [List.length_map]
  refine ou63 bs hlen ?_ bs.length 0 _ (by simp) rfl
  exact ⟨rfl, rfl⟩
end Go.Proofs.Ytoelkgbeefoplaa

