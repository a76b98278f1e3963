/- A walk of WalBack. -/
import Derived.Test.YtoelkgbeefoplaaPlainB
namespace Go.Proofs.Ytoelkgbeefoplaa
open Go Go.Br Go.Proofs

theorem allOf_split (l : List (List UInt8)) (i : Nat) : (allOf (l.take i)).length ≤ (allOf l).length := by
  have e : allOf l = allOf (l.take i) ++ allOf (l.drop i) := by
    unfold allOf
    rw [← List.flatten_append, ← List.map_append, List.take_append_drop]
  rw [e, List.length_append]; omega
noncomputable def B4 : Code := (Try.f4.body).getD .skip
theorem F4 : Fnc Try.prog 4 Try.f4 B4 := ⟨Try.func4, by kernel_rfl, by kernel_rfl⟩
section
variable {Q : AE → Store → Prop}
theorem ll4 (l : List (List UInt8)) (L1 L2 : D) (hl : l.length < 9223372036854775807) (hr : ∀ r ∈ l, r.length ≤ 65536) (hs : (allOf l).length ≤ 1099511627776)
    (hk : ∀ mv, AW Try.prog 4 none 0 ((cgo 38 [false] [.code B4])) ((mk 97 [(0, .d (lsD l)), (1, .d (L1)), (2, .d (L2)), (7, .row 0)])) [.row 1 ((allOf l).map u8) mv] [] Q) : ∀ (m i : Nat) (mv : Bool), i + m = l.length →
    AW Try.prog 4 none 0 ((cgo 32 [] [.code B4])) ((mk 97 [(0, .d (lsD l)), (1, .d (L1)), (2, .d (L2)), (7, .row 0), (24, .d (lsD l)), (25, .d (.int .i64 (l.length))), (26, .d (.int .i64 (i)))])) [.row 1 ((allOf (l.take i)).map u8) mv] [] Q := by
  intro m
  induction m with
  | zero =>
    intro i mv hi
    obtain rfl : i = l.length := by omega
    rw [List.take_length]
    refine .seg 5 [0, 1, 2, 7, 27] (T' := cgo 37 [] [.code B4]) (tm' := mk 97 [(0, .d (lsD l)), (1, .d (L1)), (2, .d (L2)), (7, .row 0), (27, .d (.bool (decide ((l.length : Int) < l.length))))]) (σ' := [.row 1 ((allOf l).map u8) mv]) (by kernel_rfl) ?_
    refine .ifH (b := decide ((l.length : Int) < l.length)) (by kernel_rfl) (by kernel_rfl) (T1 := cgo 38 [true] [.code B4]) (T2 := cgo 38 [false] [.code B4]) (by kernel_rfl) (by kernel_rfl) (fun h => absurd h (by simp)) (fun _ => ?_)
    refine .keepT [0, 1, 2, 7] (tm' := (mk 97 [(0, .d (lsD l)), (1, .d (L1)), (2, .d (L2)), (7, .row 0)])) (by kernel_rfl) ?_
    exact hk mv
  | succ m ih =>
    intro i mv hi
    have h1 : i < l.length := by omega
    have hstep : allOf (l.take (i + 1)) = allOf (l.take i) ++ frame (l.getD i []) := by
      unfold allOf
      rw [List.take_succ_eq_append_getElem h1, List.map_append, List.flatten_append]
      simp only [List.map_cons, List.map_nil, List.flatten_cons, List.flatten_nil, List.append_nil, List.getD_eq_getElem?_getD, List.getElem?_eq_getElem h1, Option.getD_some]
    have hle := allOf_split l (i + 1)
    have hlen : (allOf (l.take i)).length + (frame (l.getD i [])).length ≤ 1099511627776 := by
      rw [hstep, List.length_append] at hle
      omega
    have hri : (l.getD i []).length ≤ 65536 := hr _ (by rw [List.getD_eq_getElem?_getD, List.getElem?_eq_getElem h1]; simp)
    refine .seg 5 [0, 1, 2, 7, 24, 25, 26, 27] (T' := cgo 37 [] [.code B4]) (tm' := mk 97 [(0, .d (lsD l)), (1, .d (L1)), (2, .d (L2)), (7, .row 0), (24, .d (lsD l)), (25, .d (.int .i64 (l.length))), (26, .d (.int .i64 (i))), (27, .d (.bool (decide ((i : Int) < l.length))))]) (σ' := [.row 1 ((allOf (l.take i)).map u8) mv]) (by kernel_rfl) ?_
    refine .ifH (b := decide ((i : Int) < l.length)) (by kernel_rfl) (by kernel_rfl) (T1 := cgo 38 [true] [.code B4]) (T2 := cgo 38 [false] [.code B4]) (by kernel_rfl) (by kernel_rfl) (fun _ => ?_) (fun h => absurd h (by simp; omega))
    refine .seg 5 [0, 1, 2, 7, 24, 25, 26] (T' := cgo 43 [true] [.code B4]) (tm' := mk 97 [(0, .d (lsD l)), (1, .d (L1)), (2, .d (L2)), (7, .row 0), (24, .d (lsD l)), (25, .d (.int .i64 (l.length))), (26, .d (.int .i64 (i)))]) (σ' := [.row 1 ((allOf (l.take i)).map u8) mv]) (by kernel_rfl) ?_
    refine .opH (o := (opOf (cgo 43 [true] [.code B4])).getD default) (by kernel_rfl) (by kernel_rfl) (by kernel_rfl) (T' := cgo 44 [true] [.code B4]) (by kernel_rfl) (ixData_ok (t := 26) (x := .tmp 24) (i := .tmp 26) (sz := 1) (xs := l.map bsD) (k := .i64) (n := i) (by kernel_rfl) (by kernel_rfl) (by kernel_rfl) (by kernel_rfl) (by omega) (bsD_get h1)) ?_
    refine .seg 6 [0, 1, 2, 7, 24, 25, 26, 31] (T' := cgo 50 [true] [.code B4]) (tm' := mk 97 [(0, .d (lsD l)), (1, .d (L1)), (2, .d (L2)), (7, .row 0), (24, .d (lsD l)), (25, .d (.int .i64 (l.length))), (26, .d (.int .i64 (i))), (31, .d (bsD (l.getD i [])))]) (σ' := [.row 1 ((allOf (l.take i)).map u8) mv]) (by kernel_rfl) ?_
    refine .semH (o := (opOf (cgo 50 [true] [.code B4])).getD default) (v := .tuple [.row 1, .d (i64 0)]) (σ' := [.row 1 ((allOf (l.take i)).map u8) mv, .row 1 ((frame (l.getD i [])).map u8) false]) (by kernel_rfl) (by kernel_rfl) (T' := cgo 51 [true] [.code B4]) (by kernel_rfl) (fun k => sem_data (x := .func 16) (args := #[.tmp 31]) (ts := #[22]) (first := []) (cap := []) F16 (frame_pure (l.getD i []) hri) (by kernel_rfl) (by kernel_rfl) (by kernel_rfl) (by kernel_rfl) (by kernel_rfl) [.row 1 ((allOf (l.take i)).map u8) mv]) ?_
    refine .seg 17 [0, 1, 2, 24, 25, 26, 37, 38] (T' := cgo 68 [true, false] [.code B4]) (tm' := mk 97 [(0, .d (lsD l)), (1, .d (L1)), (2, .d (L2)), (24, .d (lsD l)), (25, .d (.int .i64 (l.length))), (26, .d (.int .i64 (i))), (37, .row 0), (38, .row 1)]) (σ' := [.row 1 ((allOf (l.take i)).map u8) mv, .row 1 ((frame (l.getD i [])).map u8) false]) (by kernel_rfl) ?_
    refine .opH (o := (opOf (cgo 68 [true, false] [.code B4])).getD default) (by kernel_rfl) (by kernel_rfl) (by kernel_rfl) (T' := cgo 69 [true, false] [.code B4]) (by kernel_rfl) (appRow_ok (s := .tmp 37) (x := .tmp 38) (t := 22) (t2 := 22) (l := 0) (sz := 1) (by' := 1) (xs := (allOf (l.take i)).map u8) (ys := (frame (l.getD i [])).map u8) (mv := mv) (by kernel_rfl) (by kernel_rfl) (by kernel_rfl) (by kernel_rfl) (by kernel_rfl) (by kernel_rfl) (by simp only [List.length_map]; omega) (by simp only [List.length_map, maxLen]; omega)) ?_
    refine .seg 8 [0, 1, 2, 7, 24, 25, 26] (T' := cgo 32 [] [.code B4]) (tm' := mk 97 [(0, .d (lsD l)), (1, .d (L1)), (2, .d (L2)), (7, .row 0), (24, .d (lsD l)), (25, .d (.int .i64 (l.length))), (26, .d (.int .i64 (iadd .i64 i 1)))]) (σ' := [.row 1 ((allOf (l.take i)).map u8 ++ (frame (l.getD i [])).map u8) true, .row 1 ((frame (l.getD i [])).map u8) false]) (by kernel_rfl) ?_
    rw [iadd_i64 (by omega) (by omega), ← List.map_append, ← hstep]
    refine .sub [0] ((mk 97 [(0, .d (lsD l)), (1, .d (L1)), (2, .d (L2)), (7, .row 0), (24, .d (lsD l)), (25, .d (.int .i64 (l.length))), (26, .d (.int .i64 ((i : Int) + 1)))])) [.row 1 ((allOf (l.take (i + 1))).map u8) true] none [] ⟨rfl, rfl, rfl⟩ rfl ⟨by simp, rfl⟩ rfl ⟨rfl, rfl⟩ ⟨rfl, rfl⟩ ?_
    exact ih (i + 1) true (by omega)
end
end Go.Proofs.Ytoelkgbeefoplaa

