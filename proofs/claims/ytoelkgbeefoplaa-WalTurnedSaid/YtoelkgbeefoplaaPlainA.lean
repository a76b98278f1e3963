/- The document's records are the program's. -/
import Derived.Test.YtoelkgbeefoplaaRefParseA
namespace Go.Proofs.Ytoelkgbeefoplaa
open Go Go.Br Go.Proofs

theorem or_shl (x y : BitVec 32) (k : Nat) (hx : x.toNat < 2 ^ k) (hy : y.toNat < 256) (hk : k + 8 ≤ 32) : (x ||| y <<< k).toNat = x.toNat + y.toNat * 2 ^ k := by
  rw [BitVec.toNat_or, BitVec.toNat_shiftLeft]
  have h1 : y.toNat <<< k < 2 ^ 32 := by
    rw [Nat.shiftLeft_eq]
    calc y.toNat * 2 ^ k < 256 * 2 ^ k := Nat.mul_lt_mul_of_pos_right hy (Nat.two_pow_pos k)
      _ = 2 ^ (k + 8) := by rw [Nat.pow_add, Nat.mul_comm]
      _ ≤ 2 ^ 32 := Nat.pow_le_pow_right (by omega) hk
  rw [Nat.mod_eq_of_lt h1, Nat.or_comm, ← Nat.shiftLeft_add_eq_or_of_lt hx, Nat.shiftLeft_eq, Nat.add_comm]
theorem zx_toNat (b : UInt8) : (zx b).toNat = b.toNat := by
  have := UInt8.toNat_lt b
  simp [zx]
theorem get4_toNat {bs : List UInt8} {k : Nat} (h : k + 4 ≤ bs.length) :
    (get4 bs k).toNat = (bs.getD k 0).toNat + (bs.getD (k + 1) 0).toNat * 256 + (bs.getD (k + 2) 0).toNat * 65536 + (bs.getD (k + 3) 0).toNat * 16777216 := by
  have h0 := UInt8.toNat_lt (bs.getD k 0)
  have h1 := UInt8.toNat_lt (bs.getD (k + 1) 0)
  have h2 := UInt8.toNat_lt (bs.getD (k + 2) 0)
  have h3 := UInt8.toNat_lt (bs.getD (k + 3) 0)
  have e0 : (0#32 ||| zx (bs.getD k 0) <<< 0).toNat = (bs.getD k 0).toNat := by simp [zx_toNat]
  have e1 := or_shl (0#32 ||| zx (bs.getD k 0) <<< 0) (zx (bs.getD (k + 1) 0)) 8 (by rw [e0]; omega) (by rw [zx_toNat]; omega) (by omega)
  rw [e0, zx_toNat] at e1
  have e2 := or_shl _ (zx (bs.getD (k + 2) 0)) 16 (by rw [e1]; omega) (by rw [zx_toNat]; omega) (by omega)
  rw [e1, zx_toNat] at e2
  have e3 := or_shl _ (zx (bs.getD (k + 3) 0)) 24 (by rw [e2]; omega) (by rw [zx_toNat]; omega) (by omega)
  rw [e2, zx_toNat] at e3
  rw [get4, if_pos h, e3]
theorem take4 {bs : List UInt8} {k : Nat} (h : k + 4 ≤ bs.length) : (bs.drop k).take 4 = [bs.getD k 0, bs.getD (k + 1) 0, bs.getD (k + 2) 0, bs.getD (k + 3) 0] := by
  have hg : ∀ i, bs.getD (k + i) 0 = (bs.drop k).getD i 0 := fun i => by simp [List.getD_eq_getElem?_getD]
  have hl : 4 ≤ (bs.drop k).length := by simp; omega
  have := hg 0
  rw [Nat.add_zero] at this
  rw [this, hg 1, hg 2, hg 3]
  generalize bs.drop k = l at hl
  match l, hl with
  | a :: b :: c :: d :: t, _ => rfl
theorem byt_eq {x : BitVec 32} {b0 b1 b2 b3 : UInt8} (h : x.toNat = b0.toNat + b1.toNat * 256 + b2.toNat * 65536 + b3.toNat * 16777216) : le4 x = [b0, b1, b2, b3] := by
  have h0 := UInt8.toNat_lt b0
  have h1 := UInt8.toNat_lt b1
  have h2 := UInt8.toNat_lt b2
  have h3 := UInt8.toNat_lt b3
  have e0 : byt x 0 = b0 := UInt8.toNat_inj.1 (by rw [byt_toNat, h]; simp; omega)
  have e1 : byt x 1 = b1 := UInt8.toNat_inj.1 (by rw [byt_toNat, h]; simp; omega)
  have e2 : byt x 2 = b2 := UInt8.toNat_inj.1 (by rw [byt_toNat, h]; simp; omega)
  have e3 : byt x 3 = b3 := UInt8.toNat_inj.1 (by rw [byt_toNat, h]; simp; omega)
  rw [le4, e0, e1, e2, e3]
theorem le4_get4 {bs : List UInt8} {k : Nat} (h : k + 4 ≤ bs.length) : le4 (get4 bs k) = (bs.drop k).take 4 := by
  rw [take4 h]
  exact byt_eq (get4_toNat h)
theorem le4_inj {x y : BitVec 32} (h : le4 x = le4 y) : x = y := by
  simp only [le4, List.cons.injEq, and_true] at h
  obtain ⟨h0, h1, h2, h3⟩ := h
  have k0 := congrArg UInt8.toNat h0
  have k1 := congrArg UInt8.toNat h1
  have k2 := congrArg UInt8.toNat h2
  have k3 := congrArg UInt8.toNat h3
  simp only [byt_toNat] at k0 k1 k2 k3
  simp at k0 k1 k2 k3
  apply BitVec.eq_of_toNat_eq
  have := x.isLt
  have := y.isLt
  omega
theorem fits_iff (bs : List UInt8) : fits bs = (!(decide (bs.length < 8)) && !(decide ((bs.getD 3 0).toNat > 0)) && !(decide ((bs.getD 2 0).toNat > 1)) && !(decide (rlen bs > 65536)) && !(decide (bs.length < rlen bs + 8))) := by
  by_cases h4 : bs.length < 4
  · have h8 : bs.length < 8 := by omega
    simp [fits, h4, h8]
    omega
  · have hg := get4_toNat (bs := bs) (k := 0) (by omega)
    simp only [Nat.zero_add] at hg
    have h0 := UInt8.toNat_lt (bs.getD 0 0)
    have h1 := UInt8.toNat_lt (bs.getD 1 0)
    have h2 := UInt8.toNat_lt (bs.getD 2 0)
    have h3 := UInt8.toNat_lt (bs.getD 3 0)
    have hi := BitVec.toInt_eq_toNat_cond (get4 bs 0)
    rw [Bool.eq_iff_iff]
    simp only [fits, Bool.and_eq_true, decide_eq_true_eq, Bool.not_eq_true', decide_eq_false_iff_not]
    unfold rlen
    generalize (bs.getD 0 0).toNat = c0 at *
    generalize (bs.getD 1 0).toNat = c1 at *
    generalize (bs.getD 2 0).toNat = c2 at *
    generalize (bs.getD 3 0).toNat = c3 at *
    split at hi <;> omega
theorem nOf_rlen {bs : List UInt8} (h : fits bs = true) : nOf bs = rlen bs ∧ (bs.getD 3 0).toNat = 0 ∧ 8 ≤ bs.length := by
  have h' := h
  rw [fits_iff] at h'
  simp only [Bool.and_eq_true, Bool.not_eq_true', decide_eq_false_iff_not] at h'
  have hg := get4_toNat (bs := bs) (k := 0) (by omega)
  simp only [Nat.zero_add] at hg
  have hi := BitVec.toInt_eq_toNat_cond (get4 bs 0)
  have e : (get4 bs 0).toNat = rlen bs := by unfold rlen at *; omega
  unfold nOf
  split at hi <;> omega
theorem rfits_eq (bs : List UInt8) : rfits bs = (fits bs && sumOk bs) := by
  have e : rfits bs = (fits bs && decide (frame (rpiece bs) = bs.take (rlen bs + 8))) := by rw [fits_iff]; rfl
  rw [e]
  cases hf : fits bs with
  | false => rfl
  | true =>
    rw [Bool.true_and, Bool.true_and]
    obtain ⟨hn, h3, h8⟩ := nOf_rlen hf
    have hle := fits_le hf
    have hp : rpiece bs = piece bs := by rw [rpiece, piece, hn]
    have hpl : (piece bs).length = nOf bs := piece_length hf
    have hbare : bare (rpiece bs) = bs.take (4 + nOf bs) := by
      rw [bare, hp, hpl]
      have h1 : le4 (BitVec.ofNat 32 (nOf bs)) = bs.take 4 := by
        have h2 := take4 (bs := bs) (k := 0) (by omega)
        simp only [List.drop_zero, Nat.zero_add] at h2
        rw [h2]
        refine byt_eq ?_
        rw [hn, h3]
        have : rlen bs < 2 ^ 32 := by omega
        simp only [BitVec.toNat_ofNat]
        rw [Nat.mod_eq_of_lt this]
        unfold rlen
        omega
      rw [h1]
      have h2 : bs.take 4 = (bs.take (4 + nOf bs)).take 4 := by rw [List.take_take]; congr 1; omega
      rw [h2, piece, List.take_append_drop]
    have htake : bs.take (rlen bs + 8) = bs.take (4 + nOf bs) ++ (bs.drop (4 + nOf bs)).take 4 := by
      rw [← List.take_add]
      congr 1
      omega
    rw [frame, hbare, htake, ← le4_get4 (by omega)]
    unfold sumOk
    rw [Bool.eq_iff_iff]
    simp only [List.append_cancel_left_eq, decide_eq_true_eq, beq_iff_eq]
    exact ⟨fun h => (le4_inj h).symm, fun h => by rw [h]⟩
theorem rrecs_eq : ∀ (m : Nat) (bs : List UInt8), rrecs m bs = recs m bs
  | 0, _ => rfl
  | m + 1, bs => by
    rw [rrecs, recs, rfits_eq]
    cases hf : (fits bs && sumOk bs) with
    | false => rfl
    | true =>
      have hf1 : fits bs = true := by simp only [Bool.and_eq_true] at hf; exact hf.1
      have hn := (nOf_rlen hf1).1
      simp only [if_true]
      rw [rrecs_eq m, hn, show rpiece bs = piece bs by rw [rpiece, piece, hn]]
end Go.Proofs.Ytoelkgbeefoplaa
