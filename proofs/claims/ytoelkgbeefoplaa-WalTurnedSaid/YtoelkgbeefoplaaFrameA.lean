/- The frame of a record: walks of wal.Frame and of the document's Frame. -/
import Derived.Test.YtoelkgbeefoplaaCrcB
namespace Go.Proofs.Ytoelkgbeefoplaa
open Go Go.Br Go.Proofs

theorem scal_u8s (bs : List UInt8) : D.scalL (bs.map u8) = true := by
  induction bs with
  | nil => rfl
  | cons b bs ih => simp [D.scalL, ih, D.scal, u8]
theorem sc_row (bs : List UInt8) (mv : Bool) : ((V.row 0).scal && ((([.row 1 (bs.map u8) mv] : Store).all O.scal) && belB 1 [.row 1 (bs.map u8) mv])) = true := by
  simp [V.scal, O.scal, scal_u8s, belB, O.locs]
theorem iconv_i32 (n : Int) : iconv .i32 n = (BitVec.ofInt 32 n).toInt := by
  show IntKind.i32.wrap n = _
  rw [BitVec.toInt_ofInt]
  simp only [IntKind.wrap, IntKind.bits, IntKind.signed, Bool.true_and, Int.bmod]
  simp
  omega
theorem iconv_i32_nat (n : Nat) : iconv .i32 (n : Int) = (BitVec.ofNat 32 n).toInt := by rw [iconv_i32]; simp
theorem iconv_i32_u32 (x : BitVec 32) : iconv .i32 (x.toNat : Int) = x.toInt := by rw [iconv_i32_nat]; simp

/-- A frame without its sum. -/
def bare (bs : List UInt8) : List UInt8 := le4 (BitVec.ofNat 32 bs.length) ++ bs
def frame (bs : List UInt8) : List UInt8 := bare bs ++ le4 (crc (bare bs))

noncomputable def B16 : Code := (Try.f16.body).getD .skip
theorem F16 : Fnc Try.prog 16 Try.f16 B16 := ⟨Try.func16, by kernel_rfl, by kernel_rfl⟩
theorem frame_pure (bs : List UInt8) (hlen : bs.length ≤ 65536) : CallsA Try.prog 16 [.d (.list 1 (bs.map u8))] [] fun r σ' => r = .ret (.tuple [.row 0, .d (i64 0)]) ∧ σ' = [.row 1 ((frame bs).map u8) false] := by
  refine CallsA.start F16 (tm := (mk 19 [(0, .d (.list 1 (bs.map u8)))])) (by kernel_rfl) ?_
  refine .seg 12 [0, 7] (T' := cgo 12 [] [.code B16]) (tm' := mk 19 [(0, .d (.list 1 (bs.map u8))), (7, .d (.bool (decide (((bs.map u8).length : Int) > 65536))))]) (σ' := []) (by kernel_rfl) ?_
  refine .ifH (b := decide (((bs.map u8).length : Int) > 65536)) (by kernel_rfl) (by kernel_rfl) (T1 := cgo 13 [true] [.code B16]) (T2 := cgo 13 [false] [.code B16]) (by kernel_rfl) (by kernel_rfl) (fun h => absurd h (by simp; omega)) (fun _ => ?_)
  refine .seg 6 [0, 10] (T' := cgo 19 [false] [.code B16]) (tm' := mk 19 [(0, .d (.list 1 (bs.map u8))), (10, .d (.int .i32 (iconv .i32 ((bs.map u8).length : Nat))))]) (σ' := []) (by kernel_rfl) ?_
  rw [List.length_map, iconv_i32_nat]
  refine .semH (o := (opOf (cgo 19 [false] [.code B16])).getD default) (v := .row 0) (σ' := [.row 1 ((le4 (BitVec.ofNat 32 bs.length)).map u8) false]) (by kernel_rfl) (by kernel_rfl) (T' := cgo 20 [false] [.code B16]) (by kernel_rfl) (fun k => sem_data (x := .func 58) (args := #[.const (.slice none 0 0), .tmp 10]) (ts := #[22, 21]) (first := []) (cap := []) F58 (put_pure [] (BitVec.ofNat 32 bs.length) (by simp)) (by kernel_rfl) (by kernel_rfl) (by kernel_rfl) (by kernel_rfl) (by kernel_rfl) []) ?_
  refine .seg 1 [11, 12] (T' := cgo 21 [false] [.code B16]) (tm' := mk 19 [(11, .row 0), (12, .d (.list 1 (bs.map u8)))]) (σ' := [.row 1 ((le4 (BitVec.ofNat 32 bs.length)).map u8) false]) (by kernel_rfl) ?_
  refine .opH (o := (opOf (cgo 21 [false] [.code B16])).getD default) (by kernel_rfl) (by kernel_rfl) (by kernel_rfl) (T' := cgo 22 [false] [.code B16]) (by kernel_rfl) (appRow_ok (s := .tmp 11) (x := .tmp 12) (t := 22) (t2 := 22) (l := 0) (sz := 1) (by' := 1) (xs := (le4 (BitVec.ofNat 32 bs.length)).map u8) (ys := bs.map u8) (mv := false) (by kernel_rfl) (by kernel_rfl) (by kernel_rfl) (by kernel_rfl) (by kernel_rfl) (by kernel_rfl) (by simp [le4]; omega) (by simp [le4, maxLen]; omega)) ?_
  refine .seg 6 [14, 15] (T' := cgo 28 [false] [.code B16]) (tm' := mk 19 [(14, .row 0), (15, .row 0)]) (σ' := [.row 1 ((le4 (BitVec.ofNat 32 bs.length)).map u8 ++ bs.map u8) true]) (by kernel_rfl) ?_
  rw [← List.map_append]
  refine .semH (o := (opOf (cgo 28 [false] [.code B16])).getD default) (v := .d (u32 (crc (bare bs)))) (σ' := [.row 1 ((bare bs).map u8) true]) (by kernel_rfl) (by kernel_rfl) (T' := cgo 29 [false] [.code B16]) (by kernel_rfl) (fun k => sem_look (x := .func 59) (args := #[.tmp 15]) (ts := #[22]) (first := []) (cap := []) (σ0 := []) F59 (crc_pure (bare bs) (by simp [bare, le4]; omega)) (by kernel_rfl) (by kernel_rfl) (by kernel_rfl) (by kernel_rfl) (by kernel_rfl)) ?_
  refine .seg 1 [14, 17] (T' := cgo 30 [false] [.code B16]) (tm' := mk 19 [(14, .row 0), (17, .d (.int .i32 (iconv .i32 (crc (bare bs)).toNat)))]) (σ' := [.row 1 ((bare bs).map u8) true]) (by kernel_rfl) ?_
  rw [iconv_i32_u32]
  refine .semH (o := (opOf (cgo 30 [false] [.code B16])).getD default) (v := .row 1) (σ' := [.row 1 ((bare bs).map u8) true, .row 1 ((frame bs).map u8) false]) (by kernel_rfl) (by kernel_rfl) (T' := cgo 31 [false] [.code B16]) (by kernel_rfl) (fun k => sem_look (x := .func 58) (args := #[.tmp 14, .tmp 17]) (ts := #[22, 21]) (first := []) (cap := []) F58 (put_pure (bare bs) (crc (bare bs)) (by simp [bare, le4]; omega)) (by kernel_rfl) (by kernel_rfl) (by kernel_rfl) (by kernel_rfl) (sc_row _ _)) ?_
  refine .seg 3 [2, 3] (T' := cgo 34 [false] [.code B16]) (tm' := mk 19 [(2, .row 1), (3, .d (.int .i64 (0)))]) (σ' := [.row 1 ((bare bs).map u8) true, .row 1 ((frame bs).map u8) false]) (by kernel_rfl) ?_
  refine .sub [1] ((mk 19 [(2, .row 0), (3, .d (.int .i64 (0)))])) [.row 1 ((frame bs).map u8) false] none [] ⟨rfl, rfl, rfl⟩ rfl ⟨by simp, rfl⟩ rfl ⟨rfl, rfl⟩ ⟨rfl, rfl⟩ ?_
  exact .retH F16 (by kernel_rfl) (by kernel_rfl) (⟨rfl, rfl⟩)

noncomputable def B19 : Code := (Try.f19.body).getD .skip
theorem F19 : Fnc Try.prog 19 Try.f19 B19 := ⟨Try.func19, by kernel_rfl, by kernel_rfl⟩
theorem rframe_pure (bs : List UInt8) (hlen : bs.length ≤ 140737488355000) : CallsA Try.prog 19 [.d (.list 1 (bs.map u8))] [] fun r σ' => r = .ret (.row 0) ∧ σ' = [.row 1 ((frame bs).map u8) true] := by
  refine CallsA.start F19 (tm := (mk 27 [(0, .d (.list 1 (bs.map u8)))])) (by kernel_rfl) ?_
  refine .seg 9 [0, 7] (T' := cgo 9 [] [.code B19]) (tm' := mk 27 [(0, .d (.list 1 (bs.map u8))), (7, .d (.int .i32 (iconv .i32 ((bs.map u8).length : Nat))))]) (σ' := []) (by kernel_rfl) ?_
  rw [List.length_map, iconv_i32_nat]
  refine .semH (o := (opOf (cgo 9 [] [.code B19])).getD default) (v := .row 0) (σ' := [.row 1 ((le4 (BitVec.ofNat 32 bs.length)).map u8) false]) (by kernel_rfl) (by kernel_rfl) (T' := cgo 10 [] [.code B19]) (by kernel_rfl) (fun k => sem_data (x := .func 62) (args := #[.tmp 7]) (ts := #[21]) (first := []) (cap := []) F62 (rput_pure (BitVec.ofNat 32 bs.length)) (by kernel_rfl) (by kernel_rfl) (by kernel_rfl) (by kernel_rfl) (by kernel_rfl) []) ?_
  refine .seg 1 [8, 9] (T' := cgo 11 [] [.code B19]) (tm' := mk 27 [(8, .row 0), (9, .d (.list 1 (bs.map u8)))]) (σ' := [.row 1 ((le4 (BitVec.ofNat 32 bs.length)).map u8) false]) (by kernel_rfl) ?_
  refine .opH (o := (opOf (cgo 11 [] [.code B19])).getD default) (by kernel_rfl) (by kernel_rfl) (by kernel_rfl) (T' := cgo 12 [] [.code B19]) (by kernel_rfl) (appRow_ok (s := .tmp 8) (x := .tmp 9) (t := 22) (t2 := 22) (l := 0) (sz := 1) (by' := 1) (xs := (le4 (BitVec.ofNat 32 bs.length)).map u8) (ys := bs.map u8) (mv := false) (by kernel_rfl) (by kernel_rfl) (by kernel_rfl) (by kernel_rfl) (by kernel_rfl) (by kernel_rfl) (by simp [le4]; omega) (by simp [le4, maxLen]; omega)) ?_
  refine .seg 5 [3, 11] (T' := cgo 17 [] [.code B19]) (tm' := mk 27 [(3, .row 0), (11, .row 0)]) (σ' := [.row 1 ((le4 (BitVec.ofNat 32 bs.length)).map u8 ++ bs.map u8) true]) (by kernel_rfl) ?_
  rw [← List.map_append]
  refine .semH (o := (opOf (cgo 17 [] [.code B19])).getD default) (v := .d (u32 (crc (bare bs)))) (σ' := [.row 1 ((bare bs).map u8) true]) (by kernel_rfl) (by kernel_rfl) (T' := cgo 18 [] [.code B19]) (by kernel_rfl) (fun k => sem_look (x := .func 63) (args := #[.tmp 11]) (ts := #[22]) (first := []) (cap := []) (σ0 := []) F63 (rcrc_pure (bare bs) (by simp [bare, le4]; omega)) (by kernel_rfl) (by kernel_rfl) (by kernel_rfl) (by kernel_rfl) (by kernel_rfl)) ?_
  refine .seg 17 [13, 25] (T' := cgo 35 [] [.code B19]) (tm' := mk 27 [(13, .row 0), (25, .row 1)]) (σ' := [.row 1 ((bare bs).map u8) true, .row 1 [.int .u8 (iconv .u8 (crc (bare bs)).toNat), .int .u8 (iconv .u8 (ishr .u32 (crc (bare bs)).toNat ((8 * 1 : Nat) : Int))), .int .u8 (iconv .u8 (ishr .u32 (crc (bare bs)).toNat ((8 * 2 : Nat) : Int))), .int .u8 (iconv .u8 (ishr .u32 (crc (bare bs)).toNat ((8 * 3 : Nat) : Int)))] false]) (by kernel_rfl) ?_
  rw [iconv_byt0, iconv_byt, iconv_byt, iconv_byt]
  refine .opH (o := (opOf (cgo 35 [] [.code B19])).getD default) (by kernel_rfl) (by kernel_rfl) (by kernel_rfl) (T' := cgo 36 [] [.code B19]) (by kernel_rfl) (appRow_ok (s := .tmp 13) (x := .tmp 25) (t := 22) (t2 := 22) (l := 0) (sz := 1) (by' := 1) (xs := (bare bs).map u8) (ys := (le4 (crc (bare bs))).map u8) (mv := true) (by kernel_rfl) (by kernel_rfl) (by kernel_rfl) (by kernel_rfl) (by kernel_rfl) (by kernel_rfl) (by simp [bare, le4]; omega) (by simp [bare, le4, maxLen]; omega)) ?_
  refine .seg 2 [2] (T' := cgo 38 [] [.code B19]) (tm' := mk 27 [(2, .row 0)]) (σ' := [.row 1 ((bare bs).map u8 ++ (le4 (crc (bare bs))).map u8) true, .row 1 ((le4 (crc (bare bs))).map u8) false]) (by kernel_rfl) ?_
  rw [← List.map_append]
  refine .sub [0] ((mk 27 [(2, .row 0)])) [.row 1 ((frame bs).map u8) true] none [] ⟨rfl, rfl, rfl⟩ rfl ⟨by simp, rfl⟩ rfl ⟨rfl, rfl⟩ ⟨rfl, rfl⟩ ?_
  exact .retH F19 (by kernel_rfl) (by kernel_rfl) (⟨rfl, rfl⟩)
end Go.Proofs.Ytoelkgbeefoplaa

