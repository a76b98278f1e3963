/- A walk of WalBack, ahead of its loop. -/
import Derived.Test.YtoelkgbeefoplaaBackC
import Derived.Test.YtoelkgbeefoplaaBrZ
namespace Go.Proofs.Ytoelkgbeefoplaa
open Go Go.Br Go.Proofs
theorem spec_22 (l : List (List UInt8)) (hl : l.length ≤ 9223372036854775807) : Br.Pure Try.prog 22 [.d (lsD l)] (.d (lsD (cutg 0 l))) := cut_pure l hl
theorem cutg_len : ∀ (l : List (List UInt8)) (i : Nat), (cutg i l).length ≤ 30 - i
  | [], i => by simp [cutg]
  | r :: rs, i => by
    have := cutg_len rs (i + 1)
    unfold cutg
    split <;> simp <;> omega
theorem cutg_le : ∀ (l : List (List UInt8)) (i : Nat), ∀ r ∈ cutg i l, r.length ≤ 300
  | [], i, r, h => by simp [cutg] at h
  | x :: xs, i, r, h => by
    unfold cutg at h
    split at h
    · rcases List.mem_cons.1 h with rfl | h
      · omega
      · exact cutg_le xs _ r h
    · exact cutg_le xs _ r h
theorem allOf_le (k : Nat) : ∀ (l : List (List UInt8)), (∀ r ∈ l, r.length ≤ k) → (allOf l).length ≤ l.length * (k + 8)
  | [], _ => by simp [allOf]
  | r :: rs, h => by
    have h1 := allOf_le k rs fun x hx => h x (by simp [hx])
    have h2 := h r (by simp)
    have e : allOf (r :: rs) = frame r ++ allOf rs := by simp [allOf]
    have e2 : (frame r).length = r.length + 8 := by rw [frame_length]
    rw [e, List.length_append, e2, List.length_cons, Nat.add_mul]
    omega

theorem back_pure (l : List (List UInt8)) (more : List UInt8) (a : Nat) (hl : l.length ≤ 9223372036854775807) (hm : more.length ≤ 9223372036854775807) (ha : a < 18446744073709551616) :
    Br.Pure Try.prog 4 [.d (lsD l), .d (.int .u64 a), .d (bsD more)] (.d (.bool true)) := by
  refine CallsA.pure ?_ rfl
  refine CallsA.start F4 (tm := mk 97 [(0, .d (lsD l)), (1, .d (.int .u64 a)), (2, .d (bsD more))]) (by kernel_rfl) ?_
  refine .seg 7 [0, 1, 2, 6, 17] (T' := cgo 7 [] [Item.code B4]) (tm' := mk 97 [(0, V.d (D.list 1 (List.map bsD l))), (1, V.d (D.int IntKind.u64 (↑a : Int))), (2, V.d (D.list 1 (List.map u8 more))), (6, V.d (D.bool false)), (17, V.d (D.list 1 (List.map bsD l)))]) (σ' := []) (by kernel_rfl) ?_
  refine .semH (o := (opOf (cgo 7 [] [Item.code B4])).getD default) (v := V.d (D.list 1 (List.map bsD (cutg 0 l)))) (σ' := []) (by kernel_rfl) (by kernel_rfl) (T' := cgo 8 [] [Item.code B4]) (by kernel_rfl) (fun k => sem_data0 (x := (.func 22)) (args := #[(.tmp 17)]) (ts := #[26]) (first := []) (cap := []) (ds := [V.d (D.list 1 (List.map bsD l))]) (v := V.d (D.list 1 (List.map bsD (cutg 0 l)))) F22 (@spec_22 (l) (by assumption)) (by kernel_rfl) (by kernel_rfl) (by kernel_rfl) (by kernel_rfl) (by kernel_rfl) (by kernel_rfl) _) ?_
  refine .seg 8 [0, 1, 2, 6, 19, 20, 21, 22] (T' := cgo 16 [] [Item.code B4]) (tm' := mk 97 [(0, V.d (D.list 1 (List.map bsD (cutg 0 l)))), (1, V.d (D.int IntKind.u64 (↑a : Int))), (2, V.d (D.list 1 (List.map u8 more))), (6, V.d (D.bool false)), (19, V.d (D.list 1 (List.map u8 more))), (20, V.d (D.list 1 (List.map u8 more))), (21, V.d (D.int IntKind.i64 (↑(List.map u8 more).length : Int))), (22, V.d (D.int IntKind.i64 (if 7 < (↑(List.map u8 more).length : Int) then 7 else (↑(List.map u8 more).length : Int))))]) (σ' := []) (by kernel_rfl) ?_
  refine .opH (o := (opOf (cgo 16 [] [Item.code B4])).getD default) (by kernel_rfl) (by kernel_rfl) (by kernel_rfl) (T' := cgo 17 [] [Item.code B4]) (by kernel_rfl) (slData_ok (t := 22) (x := (.tmp 19)) (lo := none) (hi := (some (.tmp 22))) (sz := 1) (xs := List.map u8 more) (0) ((if 7 < (↑(List.map u8 more).length : Int) then 7 else (↑(List.map u8 more).length : Int)).toNat) (by kernel_rfl) (by kernel_rfl) (by kernel_rfl) rfl (bnd_some (k := IntKind.i64) (i := if 7 < (↑(List.map u8 more).length : Int) then 7 else (↑(List.map u8 more).length : Int)) (by kernel_rfl) (by omega) (by rfl)) (by omega) (by omega)) ?_
  simp only [List.take_length, List.drop_zero, ← List.map_take, ← List.map_drop]
  refine .seg 14 [0, 1, 2, 6, 7, 24, 25, 26] (T' := cgo 31 [] [Item.code B4]) (tm' := mk 97 [(0, V.d (D.list 1 (List.map bsD (cutg 0 l)))), (1, V.d (D.int IntKind.u64 (↑a : Int))), (2, V.d (D.list 1 (List.map u8 (List.take (if 7 < (↑(List.map u8 more).length : Int) then 7 else (↑(List.map u8 more).length : Int)).toNat more)))), (6, V.d (D.bool false)), (7, V.nils), (24, V.d (D.list 1 (List.map bsD (cutg 0 l)))), (25, V.d (D.int IntKind.i64 (↑(List.map bsD (cutg 0 l)).length : Int))), (26, V.d (D.int IntKind.i64 0))]) (σ' := []) (by kernel_rfl) ?_
  -- STOP: code Go.Code.loop at 31
  refine .seg 1 [0, 1, 2, 6, 7, 24, 25, 26] (T' := cgo 32 [] [Item.code B4]) (tm' := mk 97 [(0, V.d (D.list 1 (List.map bsD (cutg 0 l)))), (1, V.d (D.int IntKind.u64 (↑a : Int))), (2, V.d (D.list 1 (List.map u8 (List.take (if 7 < (↑(List.map u8 more).length : Int) then 7 else (↑(List.map u8 more).length : Int)).toNat more)))), (6, V.d (D.bool false)), (7, V.nils), (24, V.d (D.list 1 (List.map bsD (cutg 0 l)))), (25, V.d (D.int IntKind.i64 (↑(List.map bsD (cutg 0 l)).length : Int))), (26, V.d (D.int IntKind.i64 0))]) (σ' := []) (by kernel_rfl) ?_
  simp only [List.length_map]
  have h1 := cutg_len l 0
  have h2 := cutg_le l 0
  have h3 := allOf_le 300 (cutg 0 l) h2
  refine .virtT 7 1 (by kernel_rfl) ?_
  refine .keeps [0, 1, 2, 7, 24, 25, 26] (tm' := mk 97 [(0, .d (lsD (cutg 0 l))), (1, .d (.int .u64 a)), (2, .d (bsD (List.take (if 7 < (↑(more).length : Int) then 7 else (↑(more).length : Int)).toNat more))), (7, .row 0), (24, .d (lsD (cutg 0 l))), (25, .d (.int .i64 (cutg 0 l).length)), (26, .d (.int .i64 (0 : Nat)))]) (by kernel_rfl) ?_
  refine ll4 (cutg 0 l) (.int .u64 a) (bsD _) (by omega) (fun r hr => by have := h2 r hr; omega) (by omega) (fun mv => ?_) (cutg 0 l).length 0 false (by omega)
  exact rest4 (cutg 0 l) _ a (by omega) h2 (by simp; omega) ha (by omega) mv
end Go.Proofs.Ytoelkgbeefoplaa
