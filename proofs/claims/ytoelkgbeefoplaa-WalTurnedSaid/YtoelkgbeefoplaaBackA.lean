/- The frames of some records, a short row of short records, and what begins a row: walks of All, cut and Begins. -/
import Derived.Test.YtoelkgbeefoplaaLawA
namespace Go.Proofs.Ytoelkgbeefoplaa
open Go Go.Br Go.Proofs

def lsD (l : List (List UInt8)) : D := .list 1 (l.map bsD)
def allOf (l : List (List UInt8)) : List UInt8 := (l.map frame).flatten
theorem frame_length (r : List UInt8) : (frame r).length = r.length + 8 := by
  simp [frame, bare, le4]
noncomputable def B24 : Code := (Try.f24.body).getD .skip
theorem F24 : Fnc Try.prog 24 Try.f24 B24 := ⟨Try.func24, by kernel_rfl, by kernel_rfl⟩
theorem ll24 (l : List (List UInt8)) (hl : l.length < 9223372036854775807) (hs : (allOf l).length ≤ 1099511627776) : ∀ (m i : Nat) (mv : Bool), i + m = l.length →
    AW Try.prog 24 none 0 ((cgo 17 [] [.code B24])) ((mk 18 [(3, .row 0), (6, .d (lsD l)), (7, .d (.int .i64 (l.length))), (8, .d (.int .i64 (i)))])) [.row 1 ((allOf (l.take i)).map u8) mv] [] fun r _ => r = .ret (.d (bsD (allOf l))) := by
  intro m
  induction m with
  | zero =>
    intro i mv hi
    obtain rfl : i = l.length := by omega
    rw [List.take_length]
    refine .seg 5 [3, 9] (T' := cgo 22 [] [.code B24]) (tm' := mk 18 [(3, .row 0), (9, .d (.bool (decide ((l.length : Int) < l.length))))]) (σ' := [.row 1 ((allOf l).map u8) mv]) (by kernel_rfl) ?_
    refine .ifH (b := decide ((l.length : Int) < l.length)) (by kernel_rfl) (by kernel_rfl) (T1 := cgo 23 [true] [.code B24]) (T2 := cgo 23 [false] [.code B24]) (by kernel_rfl) (by kernel_rfl) (fun h => absurd h (by simp)) (fun _ => ?_)
    refine .seg 6 [2] (T' := cgo 29 [false] [.code B24]) (tm' := mk 18 [(2, .row 0)]) (σ' := [.row 1 ((allOf l).map u8) mv]) (by kernel_rfl) ?_
    refine .freeze 0 (sz := 1) (xs := (allOf l).map u8) (mv := mv) rfl ?_
    exact .retH F24 (by kernel_rfl) (by kernel_rfl) rfl
  | succ m ih =>
    intro i mv hi
    have h1 : i < l.length := by omega
    have hstep : allOf (l.take (i + 1)) = allOf (l.take i) ++ frame (l.getD i []) := by
      unfold allOf
      rw [List.take_succ_eq_append_getElem h1, List.map_append, List.flatten_append]
      simp only [List.map_cons, List.map_nil, List.flatten_cons, List.flatten_nil, List.append_nil, List.getD_eq_getElem?_getD, List.getElem?_eq_getElem h1, Option.getD_some]
    have hle : (allOf (l.take (i + 1))).length ≤ (allOf l).length := by
      have e : allOf l = allOf (l.take (i + 1)) ++ allOf (l.drop (i + 1)) := by
        unfold allOf
        rw [← List.flatten_append, ← List.map_append, List.take_append_drop]
      rw [e, List.length_append]; omega
    have hlen : (allOf (l.take i)).length + (frame (l.getD i [])).length ≤ 1099511627776 := by
      rw [hstep, List.length_append] at hle
      omega
    have hri : (l.getD i []).length ≤ 1099511627776 := by rw [frame_length] at hlen; omega
    refine .seg 5 [3, 6, 7, 8, 9] (T' := cgo 22 [] [.code B24]) (tm' := mk 18 [(3, .row 0), (6, .d (lsD l)), (7, .d (.int .i64 (l.length))), (8, .d (.int .i64 (i))), (9, .d (.bool (decide ((i : Int) < l.length))))]) (σ' := [.row 1 ((allOf (l.take i)).map u8) mv]) (by kernel_rfl) ?_
    refine .ifH (b := decide ((i : Int) < l.length)) (by kernel_rfl) (by kernel_rfl) (T1 := cgo 23 [true] [.code B24]) (T2 := cgo 23 [false] [.code B24]) (by kernel_rfl) (by kernel_rfl) (fun _ => ?_) (fun h => absurd h (by simp; omega))
    refine .seg 5 [3, 6, 7, 8] (T' := cgo 28 [true] [.code B24]) (tm' := mk 18 [(3, .row 0), (6, .d (lsD l)), (7, .d (.int .i64 (l.length))), (8, .d (.int .i64 (i)))]) (σ' := [.row 1 ((allOf (l.take i)).map u8) mv]) (by kernel_rfl) ?_
    refine .opH (o := (opOf (cgo 28 [true] [.code B24])).getD default) (by kernel_rfl) (by kernel_rfl) (by kernel_rfl) (T' := cgo 29 [true] [.code B24]) (by kernel_rfl) (ixData_ok (t := 26) (x := .tmp 6) (i := .tmp 8) (sz := 1) (xs := l.map bsD) (k := .i64) (n := i) (by kernel_rfl) (by kernel_rfl) (by kernel_rfl) (by kernel_rfl) (by omega) (bsD_get h1)) ?_
    refine .seg 6 [6, 7, 8, 12, 13] (T' := cgo 35 [true] [.code B24]) (tm' := mk 18 [(6, .d (lsD l)), (7, .d (.int .i64 (l.length))), (8, .d (.int .i64 (i))), (12, .row 0), (13, .d (bsD (l.getD i [])))]) (σ' := [.row 1 ((allOf (l.take i)).map u8) mv]) (by kernel_rfl) ?_
    refine .semH (o := (opOf (cgo 35 [true] [.code B24])).getD default) (v := .d (bsD (frame (l.getD i [])))) (σ' := [.row 1 ((allOf (l.take i)).map u8) mv]) (by kernel_rfl) (by kernel_rfl) (T' := cgo 36 [true] [.code B24]) (by kernel_rfl) (fun k => sem_data0 (x := .func 19) (args := #[.tmp 13]) (ts := #[22]) (first := []) (cap := []) F19 (rframe_data (l.getD i []) (by omega)) (by kernel_rfl) (by kernel_rfl) (by kernel_rfl) (by kernel_rfl) (by kernel_rfl) (by kernel_rfl) _) ?_
    refine .opH (o := (opOf (cgo 36 [true] [.code B24])).getD default) (by kernel_rfl) (by kernel_rfl) (by kernel_rfl) (T' := cgo 37 [true] [.code B24]) (by kernel_rfl) (appRow_ok (s := .tmp 12) (x := .tmp 14) (t := 22) (t2 := 22) (l := 0) (sz := 1) (by' := 1) (xs := (allOf (l.take i)).map u8) (ys := (frame (l.getD i [])).map u8) (mv := mv) (by kernel_rfl) (by kernel_rfl) (by kernel_rfl) (by kernel_rfl) (by kernel_rfl) (by kernel_rfl) (by simp only [List.length_map]; omega) (by simp only [List.length_map, maxLen]; omega)) ?_
    refine .seg 8 [3, 6, 7, 8] (T' := cgo 17 [] [.code B24]) (tm' := mk 18 [(3, .row 0), (6, .d (lsD l)), (7, .d (.int .i64 (l.length))), (8, .d (.int .i64 (iadd .i64 i 1)))]) (σ' := [.row 1 ((allOf (l.take i)).map u8 ++ (frame (l.getD i [])).map u8) true]) (by kernel_rfl) ?_
    rw [iadd_i64 (by omega) (by omega), ← List.map_append, ← hstep]
    exact ih (i + 1) true (by omega)
theorem all_pure (l : List (List UInt8)) (hl : l.length < 9223372036854775807) (hs : (allOf l).length ≤ 1099511627776) : Br.Pure Try.prog 24 [.d (lsD l)] (.d (bsD (allOf l))) := by
  refine CallsA.pure ?_ rfl
  refine CallsA.start F24 (tm := (mk 18 [(0, .d (lsD l))])) (by kernel_rfl) ?_
  refine .seg 17 [3, 6, 7, 8] (T' := cgo 17 [] [.code B24]) (tm' := mk 18 [(3, .nils), (6, .d (lsD l)), (7, .d (.int .i64 (((l.map bsD).length : Nat)))), (8, .d (.int .i64 (0)))]) (σ' := []) (by kernel_rfl) ?_
  rw [List.length_map]
  refine .virtT 3 1 rfl ?_
  refine .keepT [3, 6, 7, 8] (tm' := (mk 18 [(3, .row 0), (6, .d (lsD l)), (7, .d (.int .i64 (l.length))), (8, .d (.int .i64 (((0 : Nat) : Int))))])) (by kernel_rfl) ?_
  exact ll24 l hl hs l.length 0 false (by omega)

def cutg : Nat → List (List UInt8) → List (List UInt8)
  | _, [] => []
  | i, r :: rs => if i < 30 ∧ r.length ≤ 300 then r :: cutg (i + 1) rs else cutg (i + 1) rs
noncomputable def B22 : Code := (Try.f22.body).getD .skip
theorem F22 : Fnc Try.prog 22 Try.f22 B22 := ⟨Try.func22, by kernel_rfl, by kernel_rfl⟩
theorem lc22 (l : List (List UInt8)) (hl : l.length ≤ 9223372036854775807) : ∀ (m i : Nat) (acc : List (List UInt8)) (mv : Bool), i + m = l.length → acc.length ≤ i →
    AW Try.prog 22 none 0 ((cgo 17 [] [.code B22])) ((mk 26 [(3, .row 0), (6, .d (lsD l)), (7, .d (.int .i64 (l.length))), (8, .d (.int .i64 (i)))])) [.row 1 (acc.map bsD) mv] [] fun r _ => r = .ret (.d (lsD (acc ++ cutg i (l.drop i)))) := by
  intro m
  induction m with
  | zero =>
    intro i acc mv hi ha
    obtain rfl : i = l.length := by omega
    rw [List.drop_length]
    refine .seg 5 [3, 9] (T' := cgo 22 [] [.code B22]) (tm' := mk 26 [(3, .row 0), (9, .d (.bool (decide ((l.length : Int) < l.length))))]) (σ' := [.row 1 (acc.map bsD) mv]) (by kernel_rfl) ?_
    refine .ifH (b := decide ((l.length : Int) < l.length)) (by kernel_rfl) (by kernel_rfl) (T1 := cgo 23 [true] [.code B22]) (T2 := cgo 23 [false] [.code B22]) (by kernel_rfl) (by kernel_rfl) (fun h => absurd h (by simp)) (fun _ => ?_)
    refine .seg 6 [2] (T' := cgo 29 [false] [.code B22]) (tm' := mk 26 [(2, .row 0)]) (σ' := [.row 1 (acc.map bsD) mv]) (by kernel_rfl) ?_
    refine .freeze 0 (sz := 1) (xs := acc.map bsD) (mv := mv) rfl ?_
    refine .retH F22 (v := .d (lsD acc)) (by kernel_rfl) (by kernel_rfl) ?_
    simp [cutg]
  | succ m ih =>
    intro i acc mv hi ha
    have h1 : i < l.length := by omega
    have hd : l.drop i = l.getD i [] :: l.drop (i + 1) := by
      rw [List.drop_eq_getElem_cons h1]
      simp [h1]
    rw [hd]
    refine .seg 5 [3, 6, 7, 8, 9] (T' := cgo 22 [] [.code B22]) (tm' := mk 26 [(3, .row 0), (6, .d (lsD l)), (7, .d (.int .i64 (l.length))), (8, .d (.int .i64 (i))), (9, .d (.bool (decide ((i : Int) < l.length))))]) (σ' := [.row 1 (acc.map bsD) mv]) (by kernel_rfl) ?_
    refine .ifH (b := decide ((i : Int) < l.length)) (by kernel_rfl) (by kernel_rfl) (T1 := cgo 23 [true] [.code B22]) (T2 := cgo 23 [false] [.code B22]) (by kernel_rfl) (by kernel_rfl) (fun _ => ?_) (fun h => absurd h (by simp; omega))
    refine .seg 6 [3, 6, 7, 8, 10] (T' := cgo 29 [true] [.code B22]) (tm' := mk 26 [(3, .row 0), (6, .d (lsD l)), (7, .d (.int .i64 (l.length))), (8, .d (.int .i64 (i))), (10, .d (.int .i64 (i)))]) (σ' := [.row 1 (acc.map bsD) mv]) (by kernel_rfl) ?_
    refine .opH (o := (opOf (cgo 29 [true] [.code B22])).getD default) (by kernel_rfl) (by kernel_rfl) (by kernel_rfl) (T' := cgo 30 [true] [.code B22]) (by kernel_rfl) (ixData_ok (t := 26) (x := .tmp 6) (i := .tmp 8) (sz := 1) (xs := l.map bsD) (k := .i64) (n := i) (by kernel_rfl) (by kernel_rfl) (by kernel_rfl) (by kernel_rfl) (by omega) (bsD_get h1)) ?_
    refine .seg 9 [3, 5, 6, 7, 8, 15] (T' := cgo 39 [true] [.code B22]) (tm' := mk 26 [(3, .row 0), (5, .d (bsD (l.getD i []))), (6, .d (lsD l)), (7, .d (.int .i64 (l.length))), (8, .d (.int .i64 (i))), (15, .d (.bool (decide ((i : Int) < 30))))]) (σ' := [.row 1 (acc.map bsD) mv]) (by kernel_rfl) ?_
    by_cases h30 : i < 30
    case neg =>
      rw [decide_eq_false (show ¬ (i : Int) < 30 by omega), cutg, if_neg (by omega)]
      refine .seg 13 [3, 6, 7, 8] (T' := cgo 17 [] [.code B22]) (tm' := mk 26 [(3, .row 0), (6, .d (lsD l)), (7, .d (.int .i64 (l.length))), (8, .d (.int .i64 (iadd .i64 i 1)))]) (σ' := [.row 1 (acc.map bsD) mv]) (by kernel_rfl) ?_
      rw [iadd_i64 (by omega) (by omega)]
      exact ih (i + 1) acc mv (by omega) (by omega)
    rw [decide_eq_true (show (i : Int) < 30 by omega)]
    refine .seg 5 [3, 5, 6, 7, 8, 19] (T' := cgo 44 [true] [.code B22]) (tm' := mk 26 [(3, .row 0), (5, .d (bsD (l.getD i []))), (6, .d (lsD l)), (7, .d (.int .i64 (l.length))), (8, .d (.int .i64 (i))), (19, .d (.bool (decide ((((l.getD i []).map u8).length : Int) ≤ 300))))]) (σ' := [.row 1 (acc.map bsD) mv]) (by kernel_rfl) ?_
    rw [List.length_map]
    by_cases h3 : (l.getD i []).length ≤ 300
    case neg =>
      rw [decide_eq_false (show ¬ ((l.getD i []).length : Int) ≤ 300 by omega), cutg, if_neg (by omega)]
      refine .seg 8 [3, 6, 7, 8] (T' := cgo 17 [] [.code B22]) (tm' := mk 26 [(3, .row 0), (6, .d (lsD l)), (7, .d (.int .i64 (l.length))), (8, .d (.int .i64 (iadd .i64 i 1)))]) (σ' := [.row 1 (acc.map bsD) mv]) (by kernel_rfl) ?_
      rw [iadd_i64 (by omega) (by omega)]
      exact ih (i + 1) acc mv (by omega) (by omega)
    rw [decide_eq_true (show ((l.getD i []).length : Int) ≤ 300 by omega), cutg, if_pos ⟨h30, h3⟩]
    refine .seg 5 [6, 7, 8, 20, 22] (T' := cgo 49 [true, true] [.code B22]) (tm' := mk 26 [(6, .d (lsD l)), (7, .d (.int .i64 (l.length))), (8, .d (.int .i64 (i))), (20, .row 0), (22, .row 1)]) (σ' := [.row 1 (acc.map bsD) mv, .row 1 [bsD (l.getD i [])] false]) (by kernel_rfl) ?_
    refine .opH (o := (opOf (cgo 49 [true, true] [.code B22])).getD default) (by kernel_rfl) (by kernel_rfl) (by kernel_rfl) (T' := cgo 50 [true, true] [.code B22]) (by kernel_rfl) (appRow_ok (s := .tmp 20) (x := .tmp 22) (t := 26) (t2 := 26) (l := 0) (sz := 1) (by' := 24) (xs := acc.map bsD) (ys := [bsD (l.getD i [])]) (mv := mv) (by kernel_rfl) (by kernel_rfl) (by kernel_rfl) (by kernel_rfl) (by kernel_rfl) (by kernel_rfl) (by simp; omega) (by simp [maxLen]; omega)) ?_
    refine .seg 8 [3, 6, 7, 8] (T' := cgo 17 [] [.code B22]) (tm' := mk 26 [(3, .row 0), (6, .d (lsD l)), (7, .d (.int .i64 (l.length))), (8, .d (.int .i64 (iadd .i64 i 1)))]) (σ' := [.row 1 (acc.map bsD ++ [bsD (l.getD i [])]) true, .row 1 [bsD (l.getD i [])] false]) (by kernel_rfl) ?_
    rw [iadd_i64 (by omega) (by omega), show acc.map bsD ++ [bsD (l.getD i [])] = (acc ++ [l.getD i []]).map bsD by simp]
    refine .sub [0] ((mk 26 [(3, .row 0), (6, .d (lsD l)), (7, .d (.int .i64 (l.length))), (8, .d (.int .i64 ((i : Int) + 1)))])) [.row 1 ((acc ++ [l.getD i []]).map bsD) true] none [] ⟨rfl, rfl, rfl⟩ rfl ⟨by simp, rfl⟩ rfl ⟨rfl, rfl⟩ ⟨rfl, rfl⟩ ?_
    refine (ih (i + 1) (acc ++ [l.getD i []]) true (by omega) (by simp; omega)).mono ?_
    rintro r σ' rfl
    simp
theorem cut_pure (l : List (List UInt8)) (hl : l.length ≤ 9223372036854775807) : Br.Pure Try.prog 22 [.d (lsD l)] (.d (lsD (cutg 0 l))) := by
  refine CallsA.pure ?_ rfl
  refine CallsA.start F22 (tm := (mk 26 [(0, .d (lsD l))])) (by kernel_rfl) ?_
  refine .seg 17 [3, 6, 7, 8] (T' := cgo 17 [] [.code B22]) (tm' := mk 26 [(3, .nils), (6, .d (lsD l)), (7, .d (.int .i64 (((l.map bsD).length : Nat)))), (8, .d (.int .i64 (0)))]) (σ' := []) (by kernel_rfl) ?_
  rw [List.length_map]
  refine .virtT 3 1 rfl ?_
  refine .keepT [3, 6, 7, 8] (tm' := (mk 26 [(3, .row 0), (6, .d (lsD l)), (7, .d (.int .i64 (l.length))), (8, .d (.int .i64 (((0 : Nat) : Int))))])) (by kernel_rfl) ?_
  have := lc22 l hl l.length 0 [] false (by omega) (by simp)
  simpa using this

noncomputable def B23 : Code := (Try.f23.body).getD .skip
theorem F23 : Fnc Try.prog 23 Try.f23 B23 := ⟨Try.func23, by kernel_rfl, by kernel_rfl⟩
theorem begins_pure (a b : List (List UInt8)) (ha : a.length < 9223372036854775807) : Br.Pure Try.prog 23 [.d (lsD a), .d (lsD b)] (.d (.bool (decide (b.length ≤ a.length ∧ a.take b.length = b)))) := by
  refine CallsA.start F23 (tm := (mk 18 [(0, .d (lsD a)), (1, .d (lsD b))])) (by kernel_rfl) ?_
  refine .seg 12 [0, 1, 10] (T' := cgo 12 [] [.code B23]) (tm' := mk 18 [(0, .d (lsD a)), (1, .d (lsD b)), (10, .d (.bool (decide (((b.map bsD).length : Int) ≤ ((a.map bsD).length : Nat)))))]) (σ' := []) (by kernel_rfl) ?_
  rw [List.length_map, List.length_map]
  by_cases h : b.length ≤ a.length
  case neg =>
    rw [decide_eq_false (show ¬ (b.length : Int) ≤ (a.length : Nat) by omega), decide_eq_false (show ¬ (b.length ≤ a.length ∧ a.take b.length = b) from fun x => h x.1)]
    refine .seg 9 [4] (T' := cgo 21 [] [.code B23]) (tm' := mk 18 [(4, .d (.bool (false)))]) (σ' := []) (by kernel_rfl) ?_
    exact .retH F23 (by kernel_rfl) (by kernel_rfl) (⟨rfl, rfl⟩)
  rw [decide_eq_true (show (b.length : Int) ≤ (a.length : Nat) by omega)]
  refine .seg 3 [1, 10, 11, 13] (T' := cgo 15 [] [.code B23]) (tm' := mk 18 [(1, .d (lsD b)), (10, .d (.bool (true))), (11, .d (lsD a)), (13, .d (.int .i64 (((b.map bsD).length : Nat))))]) (σ' := []) (by kernel_rfl) ?_
  refine .opH (o := (opOf (cgo 15 [] [.code B23])).getD default) (by kernel_rfl) (by kernel_rfl) (by kernel_rfl) (T' := cgo 16 [] [.code B23]) (by kernel_rfl) (slData_ok (t := 26) (x := .tmp 11) (lo := none) (hi := some (.tmp 13)) (sz := 1) (xs := a.map bsD) 0 (b.map bsD).length (by kernel_rfl) (by kernel_rfl) (by kernel_rfl) rfl ⟨.i64, ((b.map bsD).length : Nat), by kernel_rfl, Int.natCast_nonneg _, Int.toNat_natCast _⟩ (by omega) (by simp; omega)) ?_
  rw [List.drop_zero, List.length_map, ← List.map_take]
  refine .seg 1 [10, 14, 15] (T' := cgo 17 [] [.code B23]) (tm' := mk 18 [(10, .d (.bool (true))), (14, .d (lsD (a.take b.length))), (15, .d (lsD b))]) (σ' := []) (by kernel_rfl) ?_
  refine .semH (o := (opOf (cgo 17 [] [.code B23])).getD default) (v := .d (.bool (decide (a.take b.length = b)))) (σ' := []) (by kernel_rfl) (by kernel_rfl) (T' := cgo 18 [] [.code B23]) (by kernel_rfl) (fun k => sem_data0 (x := .func 20) (args := #[.tmp 14, .tmp 15]) (ts := #[26, 26]) (first := []) (cap := []) F20 (same_pure (a.take b.length) b (by simp; omega)) (by kernel_rfl) (by kernel_rfl) (by kernel_rfl) (by kernel_rfl) (by kernel_rfl) (by kernel_rfl) []) ?_
  refine .seg 3 [4] (T' := cgo 21 [] [.code B23]) (tm' := mk 18 [(4, .d (.bool (decide (a.take b.length = b))))]) (σ' := []) (by kernel_rfl) ?_
  have e : decide (b.length ≤ a.length ∧ a.take b.length = b) = decide (a.take b.length = b) := by simp [h]
  rw [e]
  exact .retH F23 (by kernel_rfl) (by kernel_rfl) (⟨rfl, rfl⟩)
end Go.Proofs.Ytoelkgbeefoplaa

