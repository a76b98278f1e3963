/- Bits that are turned within 32 change the sum of check. -/
import Derived.Test.YtoelkgbeefoplaaTurnB
namespace Go.Proofs.Ytoelkgbeefoplaa
open Go Go.Br Go.Proofs

def feed (s : BitVec 32) (bs : List UInt8) : BitVec 32 := bs.foldl crcB s
theorem and_one32 (r : BitVec 32) : r &&& 1#32 = if r.getLsbD 0 then 1#32 else 0#32 := by
  apply BitVec.eq_of_getLsbD_eq
  intro j hj
  by_cases h0 : j = 0
  · subst h0
    rw [BitVec.getLsbD_and]
    cases h : r.getLsbD 0 <;> rfl
  · cases h : r.getLsbD 0 <;> simp [h0]
theorem crc1_eq (r : BitVec 32) : crc1 r = (r >>> 1) ^^^ (if r.getLsbD 0 then 0xEDB88320#32 else 0#32) := by
  unfold crc1
  rw [and_one32]
  cases r.getLsbD 0
  · rfl
  · rfl
theorem crc1_xor (x y : BitVec 32) : crc1 (x ^^^ y) = crc1 x ^^^ crc1 y := by
  rw [crc1_eq, crc1_eq, crc1_eq, BitVec.getLsbD_xor, BitVec.ushiftRight_xor_distrib]
  generalize x >>> 1 = a
  generalize y >>> 1 = b
  generalize 0xEDB88320#32 = p
  apply BitVec.eq_of_getLsbD_eq
  intro j hj
  cases x.getLsbD 0 <;> cases y.getLsbD 0 <;> simp <;> cases a.getLsbD j <;> cases b.getLsbD j <;> cases p.getLsbD j <;> rfl
theorem crc8_xor : ∀ (n : Nat) (x y : BitVec 32), crc8 n (x ^^^ y) = crc8 n x ^^^ crc8 n y
  | 0, _, _ => rfl
  | n + 1, x, y => by rw [crc8, crc1_xor, crc8_xor n]; rfl
theorem crc8_add : ∀ (m n : Nat) (x : BitVec 32), crc8 (m + n) x = crc8 n (crc8 m x)
  | 0, n, x => by rw [Nat.zero_add]; rfl
  | m + 1, n, x => by rw [Nat.add_right_comm, crc8, crc8_add m n]; rfl
theorem crc1_inj {x : BitVec 32} (h : crc1 x = 0#32) : x = 0#32 := by
  rw [crc1_eq] at h
  have h31 := congrArg (fun z => z.getLsbD 31) h
  have h0 : x.getLsbD 0 = false := by
    cases hx : x.getLsbD 0 with
    | false => rfl
    | true => rw [hx] at h31; simp at h31
  rw [h0] at h
  apply BitVec.eq_of_getLsbD_eq
  intro j hj
  cases j with
  | zero => simpa using h0
  | succ j =>
    have := congrArg (fun z => z.getLsbD j) h
    simp at this
    rw [Nat.add_comm]
    simpa using this
theorem crc8_inj : ∀ (n : Nat) {x : BitVec 32}, crc8 n x = 0#32 → x = 0#32
  | 0, _, h => h
  | n + 1, _, h => crc1_inj (crc8_inj n h)
theorem crc1_shl (i : Fin 31) : crc1 (1#32 <<< (i.val + 1)) = 1#32 <<< i.val := by
  revert i; decide
theorem crc8_shl : ∀ i : Nat, i < 32 → crc8 i (1#32 <<< i) = 1#32
  | 0, _ => rfl
  | i + 1, h => by rw [crc8, crc1_shl ⟨i, by omega⟩, crc8_shl i (by omega)]
theorem zx_xor (c d : UInt8) : (c ^^^ d).toBitVec.zeroExtend 32 = c.toBitVec.zeroExtend 32 ^^^ d.toBitVec.zeroExtend 32 := by
  simp [BitVec.setWidth_xor]
theorem crcB_xor (a b : BitVec 32) (c d : UInt8) : crcB (a ^^^ b) (c ^^^ d) = crcB a c ^^^ crcB b d := by
  unfold crcB
  rw [zx_xor, ← crc8_xor]
  congr 1
  ac_rfl
theorem crcB_left (a b : BitVec 32) (c : UInt8) : crcB (a ^^^ b) c = crcB a c ^^^ crc8 8 b := by
  have := crcB_xor a b c 0
  rw [UInt8.xor_zero] at this
  rw [this]
  congr 1
  show crc8 8 (b ^^^ 0#32) = _
  rw [BitVec.xor_zero]
theorem feed_xor : ∀ (bs : List UInt8) (a b : BitVec 32), feed (a ^^^ b) bs = feed a bs ^^^ crc8 (8 * bs.length) b
  | [], _, _ => rfl
  | c :: bs, a, b => by
    show feed (crcB (a ^^^ b) c) bs = feed (crcB a c) bs ^^^ _
    rw [crcB_left, feed_xor bs, ← crc8_add, List.length_cons]
    congr 2
    omega
theorem zx_shl (b : Nat) (h : b < 8) : (1 <<< UInt8.ofNat b : UInt8).toBitVec.zeroExtend 32 = 1#32 <<< b := by
  have : b = 0 ∨ b = 1 ∨ b = 2 ∨ b = 3 ∨ b = 4 ∨ b = 5 ∨ b = 6 ∨ b = 7 := by omega
  rcases this with h | h | h | h | h | h | h | h <;> subst h <;> rfl
theorem feed_flip : ∀ (bs : List UInt8) (j b : Nat) (s : BitVec 32), j < bs.length → b < 8 → feed s (flip bs j b) = feed s bs ^^^ crc8 (8 * (bs.length - j) - b) 1#32
  | [], j, b, s, h, _ => by simp at h
  | c :: bs, 0, b, s, _, hb => by
    show feed (crcB s (c ^^^ (1 <<< UInt8.ofNat b))) bs = feed (crcB s c) bs ^^^ _
    have h1 : crcB s (c ^^^ (1 <<< UInt8.ofNat b)) = crcB s c ^^^ crc8 (8 - b) 1#32 := by
      have h2 := crcB_xor s 0#32 c (1 <<< UInt8.ofNat b)
      rw [BitVec.xor_zero] at h2
      rw [h2]
      congr 1
      rw [crcB, BitVec.zero_xor, zx_shl b hb, ← crc8_shl b (by omega), ← crc8_add, crc8_shl b (by omega)]
      congr 1
      omega
    rw [h1, feed_xor, ← crc8_add, List.length_cons]
    congr 2
    omega
  | c :: bs, j + 1, b, s, h, hb => by
    have h1 : flip (c :: bs) (j + 1) b = c :: flip bs j b := by simp [flip]
    rw [h1]
    show feed (crcB s c) (flip bs j b) = feed (crcB s c) bs ^^^ _
    rw [feed_flip bs j b _ (by simpa using h) hb, List.length_cons]
    congr 2
    omega
theorem flip_app (pre f post : List UInt8) (q b : Nat) (h : q < f.length) : flip (pre ++ f ++ post) (pre.length + q) b = pre ++ flip f q b ++ post := by
  have h1 : (pre ++ f ++ post).getD (pre.length + q) 0 = f.getD q 0 := by
    rw [List.getD_eq_getElem?_getD, List.getD_eq_getElem?_getD, List.append_assoc, List.getElem?_append_right (by omega), Nat.add_sub_cancel_left, List.getElem?_append_left h]
  unfold flip
  rw [h1, List.append_assoc, List.set_append_right _ _ (by omega), Nat.add_sub_cancel_left, List.set_append_left _ _ h, List.append_assoc]
theorem bit_ne {E : BitVec 32} {i : Nat} (hi : i < 32) (h : ∀ j, j < i + 1 → E.getLsbD j = false) : (1#32 <<< i ^^^ E) ≠ 0#32 := by
  intro he
  have := congrArg (fun z => z.getLsbD i) he
  rw [BitVec.getLsbD_xor, h i (by omega)] at this
  simp [hi] at this
/-- What the loop makes of a row with a frame in it. -/
theorem turn_ok (pre post : List UInt8) (M o : Nat) (P : BitVec 32) (ho : o < 8 * M) : ∀ (m i : Nat) (f : List UInt8) (tn : Bool), i + m = 32 → f.length = M + 4 →
    ∃ f' E, turn pre.length o (8 * M) P m i (pre ++ f ++ post) tn = (pre ++ f' ++ post, tn || decide (E ≠ 0#32)) ∧ f'.length = f.length ∧ f'.take 4 = f.take 4 ∧ (∀ j, j < i → E.getLsbD j = false) ∧ (E = 0#32 → f' = f) ∧ ∀ s, feed s f' = feed s f ^^^ crc8 (8 * M - o) E := by
  intro m
  have hz : ∀ n, crc8 n 0#32 = 0#32 := fun n => by have := crc8_xor n 0#32 0#32; rw [BitVec.xor_self, BitVec.xor_self] at this; exact this
  have none : ∀ (f : List UInt8) (tn : Bool) (i : Nat) (r : List UInt8 × Bool), r = (pre ++ f ++ post, tn) → ∃ f' E, r = (pre ++ f' ++ post, tn || decide (E ≠ 0#32)) ∧ f'.length = f.length ∧ f'.take 4 = f.take 4 ∧ (∀ j, j < i → E.getLsbD j = false) ∧ (E = 0#32 → f' = f) ∧ ∀ s, feed s f' = feed s f ^^^ crc8 (8 * M - o) E :=
    fun f tn i r hr => ⟨f, 0#32, by rw [hr]; simp, rfl, rfl, fun j _ => by simp, fun _ => rfl, fun s => by rw [hz, BitVec.xor_zero]⟩
  induction m with
  | zero => exact fun i f tn _ _ => none f tn i _ rfl
  | succ m ih =>
    intro i f tn hi hf
    by_cases hoi : o + i < 8 * M
    case neg => exact none f tn i _ (by rw [turn, if_neg hoi])
    rw [turn, if_pos hoi]
    by_cases hP : P.getLsbD i = true
    case neg =>
      rw [if_neg hP]
      obtain ⟨f', E, h1, h2, h3, h4, h5, h6⟩ := ih (i + 1) f tn (by omega) hf
      exact ⟨f', E, h1, h2, h3, fun j hj => h4 j (by omega), h5, h6⟩
    rw [if_pos hP, Nat.add_assoc, flip_app pre f post _ _ (by omega)]
    obtain ⟨f', E, h1, h2, h3, h4, h5, h6⟩ := ih (i + 1) (flip f (4 + (o + i) / 8) ((o + i) % 8)) true (by omega) (by rw [flip_length]; exact hf)
    have hne := bit_ne (E := E) (i := i) (by omega) h4
    refine ⟨f', 1#32 <<< i ^^^ E, by rw [h1, decide_eq_true hne]; simp, by rw [h2, flip_length], ?_, fun j hj => ?_, fun h => absurd h hne, fun s => ?_⟩
    · rw [h3, flip, List.take_set]
      rw [List.set_eq_of_length_le (by simp; omega)]
    · rw [BitVec.getLsbD_xor, h4 j (by omega)]
      simp [BitVec.getLsbD_shiftLeft, hj]
    · rw [h6, feed_flip _ _ _ _ (by omega) (by omega), crc8_xor, BitVec.xor_assoc]
      congr 2
      rw [show 8 * M - o = i + (8 * M - o - i) by omega, crc8_add, crc8_shl i (by omega)]
      congr 1
      omega
theorem crc8_low : ∀ (n : Nat) (x : BitVec 32), (∀ j, j < n → x.getLsbD j = false) → crc8 n x = x >>> n
  | 0, x, _ => by simp [crc8]
  | n + 1, x, h => by
    rw [crc8, crc1_eq, h 0 (by omega)]
    have e : (x >>> 1 ^^^ if false = true then 0xEDB88320#32 else 0#32) = x >>> 1 := by simp
    rw [e, crc8_low n (x >>> 1) (fun j hj => by rw [BitVec.getLsbD_ushiftRight]; exact h _ (by omega)), ← BitVec.shiftRight_add, Nat.add_comm]
theorem byt_bv (x : BitVec 32) (k : Nat) : (byt x k).toBitVec = (x >>> (8 * k)).setWidth 8 := by
  apply BitVec.eq_of_toNat_eq
  simp [byt, Nat.shiftRight_eq_div_pow]
theorem byt_not (x : BitVec 32) (k : Nat) (hk : k < 4) : byt (~~~x) k = byt x k ^^^ 255 := by
  apply UInt8.toBitVec_inj.1
  rw [UInt8.toBitVec_xor, byt_bv, byt_bv]
  apply BitVec.eq_of_getLsbD_eq
  intro j hj
  have h1 : 8 * k + j < 32 := by omega
  have h2 : (UInt8.toBitVec 255).getLsbD j = true := by
    have : j = 0 ∨ j = 1 ∨ j = 2 ∨ j = 3 ∨ j = 4 ∨ j = 5 ∨ j = 6 ∨ j = 7 := by omega
    rcases this with h | h | h | h | h | h | h | h <;> subst h <;> rfl
  rw [BitVec.getLsbD_xor, h2, BitVec.getLsbD_setWidth, BitVec.getLsbD_setWidth, BitVec.getLsbD_ushiftRight, BitVec.getLsbD_ushiftRight, BitVec.getLsbD_not]
  simp [h1, hj]
theorem byt_shr (x : BitVec 32) (k : Nat) : byt (x >>> 8) k = byt x (k + 1) := by
  apply UInt8.toBitVec_inj.1
  rw [byt_bv, byt_bv, ← BitVec.shiftRight_add]
  congr 2
  omega
theorem crcB_self (t : BitVec 32) : crcB t (byt t 0) = t >>> 8 := by
  have hb : ∀ j, (t ^^^ (byt t 0).toBitVec.zeroExtend 32).getLsbD j = (t.getLsbD j && decide (8 ≤ j)) := by
    intro j
    rw [byt_bv, BitVec.getLsbD_xor]
    simp only [Nat.mul_zero, BitVec.ushiftRight_zero, BitVec.getLsbD_setWidth]
    by_cases hj : j < 8
    · simp [hj, show j < 32 by omega, show ¬ 8 ≤ j by omega]
    · simp [hj, show 8 ≤ j by omega]
  rw [crcB, crc8_low 8 _ (fun j hj => by rw [hb]; simp; omega)]
  apply BitVec.eq_of_getLsbD_eq
  intro j hj
  rw [BitVec.getLsbD_ushiftRight, BitVec.getLsbD_ushiftRight, hb]
  simp
theorem feed_self (t : BitVec 32) : feed t (le4 (~~~t)) = feed 0#32 [255, 255, 255, 255] := by
  have h1 : ∀ (t a : BitVec 32), crcB (t ^^^ a) (byt t 0 ^^^ 255) = (t >>> 8) ^^^ crcB a 255 := fun t a => by rw [crcB_xor, crcB_self]
  show crcB (crcB (crcB (crcB t (byt (~~~t) 0)) (byt (~~~t) 1)) (byt (~~~t) 2)) (byt (~~~t) 3) = crcB (crcB (crcB (crcB 0#32 255) 255) 255) 255
  rw [byt_not t 0 (by omega), byt_not t 1 (by omega), byt_not t 2 (by omega), byt_not t 3 (by omega)]
  have h0 := h1 t 0#32
  rw [BitVec.xor_zero] at h0
  rw [h0, show byt t 1 = byt (t >>> 8) 0 from (byt_shr t 0).symm, h1, show byt t 2 = byt (t >>> 8 >>> 8) 0 by rw [byt_shr, byt_shr], h1, show byt t 3 = byt (t >>> 8 >>> 8 >>> 8) 0 by rw [byt_shr, byt_shr, byt_shr], h1]
  have h2 : t >>> 8 >>> 8 >>> 8 >>> 8 = 0#32 := by
    apply BitVec.eq_of_getLsbD_eq
    intro j hj
    simp only [BitVec.getLsbD_ushiftRight]
    rw [BitVec.getLsbD_of_ge _ _ (by omega)]
    simp
  rw [h2, BitVec.zero_xor]
/-- A row of bytes and its sum behind it: fed whole, always the same. -/
theorem feed_summed (b : List UInt8) : feed (~~~0#32) (b ++ le4 (crc b)) = feed 0#32 [255, 255, 255, 255] := by
  have : feed (~~~0#32) (b ++ le4 (crc b)) = feed (feed (~~~0#32) b) (le4 (~~~(feed (~~~0#32) b))) := by
    show (b ++ le4 (crc b)).foldl crcB _ = _
    rw [List.foldl_append]
    rfl
  rw [this, feed_self]
/-- What was turned is no frame. -/
theorem turned_none {r post : List UInt8} {f' : List UInt8} (hr : r.length ≤ 65536) (hl : f'.length = (frame r).length) (h4 : f'.take 4 = (frame r).take 4) (hne : feed (~~~0#32) f' ≠ feed (~~~0#32) (frame r)) : (fits (f' ++ post) && sumOk (f' ++ post)) = false := by
  cases hs : sumOk (f' ++ post) with
  | false => rw [Bool.and_false]
  | true =>
    exfalso
    apply hne
    rw [frame, feed_summed]
    have hfl := frame_length r
    have hg : get4 (f' ++ post) 0 = get4 (frame r ++ []) 0 := by
      apply le4_inj
      rw [le4_get4 (by simp; omega), le4_get4 (by simp; omega), List.drop_zero, List.drop_zero, List.append_nil, List.take_append_of_le_length (by omega), h4]
    have hn : nOf (f' ++ post) = r.length := by
      unfold nOf
      rw [hg]
      exact (front (t := []) hr).2.2.1
    unfold sumOk at hs
    rw [hn, beq_iff_eq, List.take_append_of_le_length (by omega)] at hs
    have h5 : f' = f'.take (4 + r.length) ++ le4 (crc (f'.take (4 + r.length))) := by
      have h6 : (f'.drop (4 + r.length)).take 4 = f'.drop (4 + r.length) := List.take_of_length_le (by simp; omega)
      rw [← hs, le4_get4 (by simp; omega), List.drop_append_of_le_length (by omega), List.take_append_of_le_length (by simp; omega), h6, List.take_append_drop]
    rw [h5, feed_summed]
theorem recs_front : ∀ (l : List (List UInt8)) (more : List UInt8) (m : Nat), (∀ r ∈ l, r.length ≤ 65536) → (fits more && sumOk more) = false → (allOf l ++ more).length < m → recs m (allOf l ++ more) = l
  | [], more, 0, _, _, h => by omega
  | [], more, m + 1, _, hm, h => by
    have e : allOf [] ++ more = more := by simp [allOf]
    rw [e, recs, hm]; rfl
  | r :: l, more, 0, _, _, h => by omega
  | r :: l, more, m + 1, hl, hm, h => by
    have hr := hl r (by simp)
    rw [allOf_cons, List.append_assoc] at h ⊢
    obtain ⟨h1, h2, h3, h4, h5⟩ := front (t := allOf l ++ more) hr
    rw [recs, h1, h2, h3, h4, h5]
    simp only [Bool.and_self, if_true]
    rw [recs_front l more m (fun x hx => hl x (by simp [hx])) hm (by rw [List.length_append, frame_length] at h; omega)]
/-- The records of the frames with bits turned in one of them. -/
theorem turned_recs (l : List (List UInt8)) (k o : Nat) (P : BitVec 32) (hk : k < l.length) (hl : ∀ r ∈ l, r.length ≤ 65536) (ho : o < 8 * ((l.getD k []).length + 4)) (R : List UInt8 × Bool)
    (hR : turn (allOf (l.take k)).length o (8 * ((l.getD k []).length + 4)) P 32 0 (allOf l) false = R) : R.1.length = (allOf l).length ∧ parsed R.1 = if R.2 then l.take k else l := by
  have hd : l = l.take k ++ l.getD k [] :: l.drop (k + 1) := by
    rw [List.getD_eq_getElem?_getD, List.getElem?_eq_getElem hk, Option.getD_some, List.getElem_cons_drop, List.take_append_drop]
  have hall : allOf l = allOf (l.take k) ++ frame (l.getD k []) ++ allOf (l.drop (k + 1)) := by
    have : allOf l = allOf (l.take k ++ l.getD k [] :: l.drop (k + 1)) := by rw [← hd]
    rw [this]
    simp [allOf]
  have hr : (l.getD k []).length ≤ 65536 := hl _ (by rw [List.getD_eq_getElem?_getD, List.getElem?_eq_getElem hk]; simp)
  have hfl := frame_length (l.getD k [])
  generalize hg : l.getD k [] = r at *
  obtain ⟨f', E, h1, h2, h3, _, h5, h6⟩ := turn_ok (allOf (l.take k)) (allOf (l.drop (k + 1))) (r.length + 4) o P ho 32 0 (frame r) false rfl (by omega)
  rw [hall, h1] at hR
  subst hR
  refine ⟨by simp only [hall, List.length_append, h2], ?_⟩
  simp only [Bool.false_or]
  by_cases hE : E = 0#32
  · rw [h5 hE, if_neg (by simp [hE]), ← hall]
    have := recs_all l [] ((allOf l).length + 1) hl (by simp) (by simp)
    rw [List.append_nil] at this
    exact this
  · rw [if_pos (by simp [hE]), List.append_assoc]
    refine recs_front (l.take k) (f' ++ allOf (l.drop (k + 1))) _ (fun x hx => hl x (List.mem_of_mem_take hx)) ?_ (by simp)
    refine turned_none hr h2 h3 ?_
    rw [h6]
    intro he
    apply hE
    apply crc8_inj (8 * (r.length + 4) - o)
    have := congrArg (fun z => feed (~~~0#32) (frame r) ^^^ z) he
    simp only [BitVec.xor_self] at this
    rw [← BitVec.xor_assoc, BitVec.xor_self, BitVec.zero_xor] at this
    exact this
end Go.Proofs.Ytoelkgbeefoplaa
