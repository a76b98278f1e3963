/- The records of frames are what was framed; of a beginning of them, a beginning. -/
import Derived.Test.YtoelkgbeefoplaaBackA
namespace Go.Proofs.Ytoelkgbeefoplaa
open Go Go.Br Go.Proofs

theorem le4_length (x : BitVec 32) : (le4 x).length = 4 := rfl
theorem getD_app {a b : List UInt8} {i : Nat} (h : i < a.length) : (a ++ b).getD i 0 = a.getD i 0 := by
  simp [List.getD_eq_getElem?_getD, List.getElem?_append_left h]
theorem getD_le4 (x : BitVec 32) (t : List UInt8) : (le4 x ++ t).getD 0 0 = byt x 0 ∧ (le4 x ++ t).getD 1 0 = byt x 1 ∧ (le4 x ++ t).getD 2 0 = byt x 2 ∧ (le4 x ++ t).getD 3 0 = byt x 3 := ⟨rfl, rfl, rfl, rfl⟩
theorem get4_le4 (x : BitVec 32) (t : List UInt8) : get4 (le4 x ++ t) 0 = x := by
  apply BitVec.eq_of_toNat_eq
  rw [get4_toNat (by simp [le4_length])]
  obtain ⟨h0, h1, h2, h3⟩ := getD_le4 x t
  simp only [Nat.zero_add]
  rw [h0, h1, h2, h3, byt_toNat, byt_toNat, byt_toNat, byt_toNat]
  have := x.isLt
  simp
  omega
theorem get4_drop (bs : List UInt8) (k : Nat) (h : k + 4 ≤ bs.length) : get4 bs k = get4 (bs.drop k) 0 := by
  have hg : ∀ i, bs.getD (k + i) 0 = (bs.drop k).getD i 0 := fun i => by simp [List.getD_eq_getElem?_getD]
  have h0 := hg 0
  rw [Nat.add_zero] at h0
  rw [get4, get4, if_pos h, if_pos (by simp; omega), h0, hg 1, hg 2, hg 3]
theorem toInt_small {n : Nat} (h : n ≤ 65536) : (BitVec.ofNat 32 n).toInt = (n : Int) := by
  rw [BitVec.toInt_eq_toNat_cond, BitVec.toNat_ofNat, Nat.mod_eq_of_lt (by omega)]
  split <;> omega
/-- A frame at the front is found. -/
theorem front {r t : List UInt8} (hr : r.length ≤ 65536) : fits (frame r ++ t) = true ∧ sumOk (frame r ++ t) = true ∧ nOf (frame r ++ t) = r.length ∧ piece (frame r ++ t) = r ∧ (frame r ++ t).drop (r.length + 8) = t := by
  have e : frame r ++ t = le4 (BitVec.ofNat 32 r.length) ++ (r ++ (le4 (crc (bare r)) ++ t)) := by simp [frame, bare]
  have hl : (frame r ++ t).length = r.length + 8 + t.length := by rw [List.length_append, frame_length]
  have h0 : get4 (frame r ++ t) 0 = BitVec.ofNat 32 r.length := by rw [e, get4_le4]
  have hi : (get4 (frame r ++ t) 0).toInt = (r.length : Int) := by rw [h0, toInt_small hr]
  have hn : nOf (frame r ++ t) = r.length := by unfold nOf; omega
  have hf : fits (frame r ++ t) = true := by
    simp only [fits, Bool.and_eq_true, decide_eq_true_eq]
    omega
  have hb : (frame r ++ t).take (4 + r.length) = bare r := by
    have e2 : frame r ++ t = bare r ++ (le4 (crc (bare r)) ++ t) := by simp [frame]
    rw [e2, List.take_left' (by simp [bare, le4_length])]
  refine ⟨hf, ?_, hn, ?_, ?_⟩
  · unfold sumOk
    rw [hn, hb, get4_drop _ _ (by omega)]
    have e3 : (frame r ++ t).drop (4 + r.length) = le4 (crc (bare r)) ++ t := by
      have e2 : frame r ++ t = bare r ++ (le4 (crc (bare r)) ++ t) := by simp [frame]
      rw [e2, List.drop_left' (by simp [bare, le4_length])]
    rw [e3, get4_le4]
    simp
  · rw [piece, hn, hb, bare, List.drop_left' (by simp [le4_length])]
  · rw [List.drop_left' (by rw [frame_length])]
theorem fits_short {bs : List UInt8} (h : bs.length < 8) : fits bs = false := by
  rw [fits_iff]; simp [h]
theorem allOf_cons (r : List UInt8) (l : List (List UInt8)) : allOf (r :: l) = frame r ++ allOf l := by simp [allOf]
/-- The frames of records, with too little for a frame behind them. -/
theorem recs_all : ∀ (l : List (List UInt8)) (more : List UInt8) (m : Nat), (∀ r ∈ l, r.length ≤ 65536) → more.length < 8 → (allOf l ++ more).length < m → recs m (allOf l ++ more) = l
  | [], more, 0, _, _, h => by omega
  | [], more, m + 1, _, hm, h => by
    have e : allOf [] ++ more = more := by simp [allOf]
    rw [e, recs, fits_short hm]; rfl
  | r :: l, more, 0, _, _, h => by omega
  | r :: l, more, m + 1, hl, hm, h => by
    have hr := hl r (by simp)
    rw [allOf_cons, List.append_assoc] at h ⊢
    obtain ⟨h1, h2, h3, h4, h5⟩ := front (t := allOf l ++ more) hr
    rw [recs, h1, h2, h3, h4, h5]
    simp only [Bool.and_self, if_true]
    rw [recs_all l more m (fun x hx => hl x (by simp [hx])) hm (by rw [List.length_append, frame_length] at h; omega)]
theorem good_all : ∀ l : List (List UInt8), good l = (allOf l).length
  | [] => rfl
  | r :: l => by
    have := good_all l
    simp only [good, List.map_cons, List.sum_cons] at this ⊢
    rw [allOf_cons, List.length_append, frame_length, this]
/-- A frame that is cut is none. -/
theorem cut_none {r t : List UInt8} (hr : r.length ≤ 65536) {k : Nat} (hk : k < r.length + 8) : fits ((frame r ++ t).take k) = false := by
  by_cases h8 : k < 8
  · exact fits_short (by simp; omega)
  · have e : (frame r ++ t).take k = le4 (BitVec.ofNat 32 r.length) ++ (r ++ (le4 (crc (bare r)) ++ t)).take (k - 4) := by
      have e2 : frame r ++ t = le4 (BitVec.ofNat 32 r.length) ++ (r ++ (le4 (crc (bare r)) ++ t)) := by simp [frame, bare]
      rw [e2, List.take_append, le4_length, List.take_of_length_le (by simp [le4_length]; omega)]
    have h0 : get4 ((frame r ++ t).take k) 0 = BitVec.ofNat 32 r.length := by rw [e, get4_le4]
    have hi : (get4 ((frame r ++ t).take k) 0).toInt = (r.length : Int) := by rw [h0, toInt_small hr]
    have hl : ((frame r ++ t).take k).length ≤ k := by simp; omega
    simp only [fits]
    rw [show decide ((get4 ((frame r ++ t).take k) 0).toInt + 8 ≤ (((frame r ++ t).take k).length : Int)) = false from decide_eq_false (by omega), Bool.and_false]
/-- A beginning of the frames has a beginning of the records, and not all. -/
theorem recs_take : ∀ (l : List (List UInt8)) (k m : Nat), (∀ r ∈ l, r.length ≤ 65536) → k < (allOf l).length → k < m → ∃ j, j < l.length ∧ recs m ((allOf l).take k) = l.take j
  | [], k, m, _, h, _ => by simp [allOf] at h
  | r :: l, k, 0, _, _, h => by omega
  | r :: l, k, m + 1, hl, h, hm => by
    have hr := hl r (by simp)
    rw [allOf_cons] at h ⊢
    by_cases hk : k < r.length + 8
    · refine ⟨0, by simp, ?_⟩
      rw [recs, cut_none hr hk]; rfl
    · have e : (frame r ++ allOf l).take k = frame r ++ (allOf l).take (k - (r.length + 8)) := by
        rw [List.take_append, frame_length, List.take_of_length_le (by rw [frame_length]; omega)]
      obtain ⟨h1, h2, h3, h4, h5⟩ := front (t := (allOf l).take (k - (r.length + 8))) hr
      rw [List.length_append, frame_length] at h
      obtain ⟨j, hj, hrec⟩ := recs_take l (k - (r.length + 8)) m (fun x hx => hl x (by simp [hx])) (by omega) (by omega)
      refine ⟨j + 1, by simp; omega, ?_⟩
      rw [e, recs, h1, h2, h3, h4, h5, hrec]
      simp
end Go.Proofs.Ytoelkgbeefoplaa
