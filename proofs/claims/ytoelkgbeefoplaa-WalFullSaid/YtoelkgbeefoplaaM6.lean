/- Texts of this proof, part 6: WalJ. -/
import Derived.Test.YtoelkgbeefoplaaM5
set_option linter.unusedSimpArgs false
set_option linter.unusedVariables false
set_option linter.constructorNameAsVariable false
namespace Go.Proofs.Ytoelkgbeefoplaa
open Go Go.Br Go.Proofs
theorem lo13 (k : Nat) (q : Int) (hq0 : 0 ≤ q) (hq1 : q ≤ 3000) (rs : List (List UInt8)) (hl : rs.length ≤ 30) (hr : ∀ r ∈ rs, r.length ≤ 300) : ∀ (m i : Nat) (d : Dk) (M : Nat) (acc : List (List UInt8)), i + m = rs.length → Lone d k (allOf acc) → d.quota = q → d.Ok M → M + m + 100 ≤ 50000 → (∀ r ∈ acc, r.length ≤ 300) → acc.length ≤ i → ((allOf acc).length : Int) ≤ q →
    AW Try.prog 13 none 0 (cgo 51 [false] [Item.code B13]) (mk 134 [(1, .d (.int .i64 q)), (4, .d (.bool false)), (5, .ptr 0 0 0), (6, .ptr 6 0 0), (9, .row 7), (33, .d (.list 1 (rs.map bsD))), (34, .d (.int .i64 (rs.length : Nat))), (35, .d (.int .i64 (i : Nat)))]) (SF (acc.length : Nat) ((allOf acc).length : Nat) 0 d true ++ [.row 1 (acc.map bsD) true]) [] fun r _ => r = .ret (.d (.bool true)) := by
  intro m
  induction m with
  | zero =>
    intro i d M acc hi hd hdq hk hM ha hal hfit
    have hi : i = rs.length := by omega
    subst hi
    exact en13 d k M q acc rs hd hdq hk (by omega) hq0 hq1 ha (by omega) hfit
  | succ m ih =>
    intro i d M acc hi hd hdq hk hM ha hal hfit
    obtain ⟨r, hri⟩ := get_some (l := rs) (i := i) (by omega)
    have hrl := hr r (List.mem_of_getElem? hri)
    have hfl := frame_length r
    have hA := allOf_le 300 acc ha
    have hA2 : (allOf acc).length ≤ 10000 := by
      have : acc.length * (300 + 8) ≤ 30 * (300 + 8) := Nat.mul_le_mul_right _ (by omega)
      omega
    obtain ⟨a1, a2, a3⟩ := hd.add (bs := r) (by omega) (by omega)
    have a4 := addL_ok (x := logX) (bs := r) hk (by omega)
    have hx : logX.size < 1000000000 := by decide
    have hx2 : (⟨#[108, 111, 103]⟩ : ByteArray).size < 1000000000 := by decide
    have hM5 : M + 5 ≤ 50000 := by omega
    rw [hdq] at a1 a2
    by_cases hf : ((allOf acc).length : Int) + (frame r).length ≤ q
    · rw [if_pos hf] at a1 a2
      rw [← allOf_snoc] at a2
      have ih1 := ih (i + 1) _ (M + 1) (acc ++ [r]) (by omega) a2 (a3.trans hdq) a4 (by omega) (by
        intro x hx
        rcases List.mem_append.1 hx with h1 | h1
        · exact ha x h1
        · rw [List.mem_singleton.1 h1]; exact hrl) (by simp; omega) (by rw [allOf_snoc, List.length_append]; omega)
      have hq65 : ∀ x ∈ acc, x.length ≤ 65536 := fun x hx => by have := ha x hx; omega
      have hq66 : acc.length < 10000 := by omega
      clear ih hA hd a2 a3 a4 hr ha
      refine .sg0 5 [1, 4, 5, 6, 9, 33, 34, 35, 36] (cgo 56 [false] [.code B13]) [(36, .d (.bool (decide ((↑i : Int) < (↑rs.length : Int)))))] ?_
      refine .if' (decide ((↑i : Int) < (↑rs.length : Int))) (cgo 57 [false, true] [.code B13]) (cgo 57 [false, false] [.code B13]) (fun h1 => ?_) (fun h1 => ?_)
      · simp only [bsX] at h1
        refine .sg0 5 [1, 4, 5, 6, 9, 33, 34, 35, 36] (cgo 62 [false, true] [.code B13]) [] ?_
        refine .op' (cgo 63 [false, true] [.code B13]) (ixData_ok (t := 26) (x := (.tmp 33)) (i := (.tmp 35)) (k := IntKind.i64) (n := (↑i : Int)) (sz := 1) (xs := List.map bsD rs) (d := bsD r) (by kernel_rfl) (by kernel_rfl) (by kernel_rfl) (by kernel_rfl) (by omega) (map_get hri)) ?_
        refine .sg0 7 [1, 4, 5, 6, 9, 11, 33, 34, 35, 36, 37, 38, 39, 40] (cgo 70 [false, true] [.code B13]) [(11, .d (.list 1 (List.map u8 r))), (38, .d (.list 1 (List.map u8 r))), (39, .ptr 6 0 0), (40, .d (.list 1 (List.map u8 r)))] ?_
        refine .ca [6, 0, 1, 2, 3, 4, 5] (cgo 71 [false, true] [.code B13]) F52 (spec_52a (acc.length : Nat) ((allOf acc).length : Nat) logX d M hk hM5 hx r (by omega) (by omega) (by omega) (by omega) (by omega) a1) ?_
        rintro r0 s0 ⟨rfl, rfl⟩
        refine ⟨_, rfl, ?_⟩
        clear a1
        refine .sg0 5 [1, 4, 5, 6, 9, 11, 12, 33, 34, 35, 36, 37, 38, 39, 40, 41, 42] (cgo 76 [false, true] [.code B13]) [(12, .d (.int .i64 0)), (42, .row 7)] ?_
        refine .ca [7] (cgo 77 [false, true] [.code B13]) F24 (@spec_24b (acc) (by assumption) (by assumption)) ?_
        rintro r0 s0 ⟨rfl, rfl⟩
        refine ⟨_, rfl, ?_⟩
        refine .sg0 14 [1, 4, 5, 6, 9, 11, 12, 13, 33, 34, 35, 36, 37, 38, 39, 40, 41, 42, 43, 44, 45, 46, 47, 48, 49, 50, 51, 52] (cgo 91 [false, true] [.code B13]) [(13, .d (.bool (decide (IntKind.i64.wrap (IntKind.i64.wrap ((↑(List.map u8 (allOf acc)).length : Int) + (↑(List.map u8 r).length : Int)) + 8) ≤ q)))), (44, .d (.int .i64 (↑(List.map u8 (allOf acc)).length : Int))), (45, .d (.list 1 (List.map u8 r))), (46, .d (.int .i64 (↑(List.map u8 r).length : Int))), (47, .d (.int .i64 (IntKind.i64.wrap ((↑(List.map u8 (allOf acc)).length : Int) + (↑(List.map u8 r).length : Int))))), (48, .d (.int .i64 (IntKind.i64.wrap (IntKind.i64.wrap ((↑(List.map u8 (allOf acc)).length : Int) + (↑(List.map u8 r).length : Int)) + 8)))), (49, .d (.int .i64 q)), (50, .d (.bool (decide (IntKind.i64.wrap (IntKind.i64.wrap ((↑(List.map u8 (allOf acc)).length : Int) + (↑(List.map u8 r).length : Int)) + 8) ≤ q)))), (51, .d (.bool (decide (IntKind.i64.wrap (IntKind.i64.wrap ((↑(List.map u8 (allOf acc)).length : Int) + (↑(List.map u8 r).length : Int)) + 8) ≤ q)))), (52, .d (.bool (decide (IntKind.i64.wrap (IntKind.i64.wrap ((↑(List.map u8 (allOf acc)).length : Int) + (↑(List.map u8 r).length : Int)) + 8) ≤ q))))] ?_
        simp only [List.length_map]
        simp (disch := omega) only [wrap_i64, wrap_u64s, wrap_u32s, wrap_u8s, wrap_i32s, iadd_i64, isub_i64, irem_n, iquo_n, tdiv_nn, tmod_nn]
        rcases Bool.eq_false_or_eq_true (decide ((↑(allOf acc).length : Int) + (↑r.length : Int) + 8 ≤ q)) with h2 | h2
        · rw [h2]
          simp only [bsX] at h2
          refine .sg 23 [1, 4, 5, 6, 9, 11, 12, 13, 33, 34, 35, 36, 37, 38, 39, 40, 41, 42, 43, 44, 45, 46, 47, 48, 49, 50, 51, 52, 53, 54, 55, 56, 57, 58, 59, 60, 61, 62, 63, 64, 65, 66, 67] (cgo 114 [false, true, false, true] [.code B13]) [(53, .d (.int .i64 0)), (54, .d (.bool false)), (55, .d (.bool false)), (56, .d (.bool false)), (57, .d (.bool true)), (58, .d (.bool false)), (59, .d (.bool false)), (60, .tuple []), (61, .tuple []), (62, .d (.bool false)), (63, .d (.bool false)), (64, .d (.bool true)), (65, .row 7), (66, .d (.list 1 (List.map u8 r))), (67, .row 8)] [(8, .row 1 [D.list 1 (List.map u8 r)] false)] ?_
          simp only [List.length_map]
          refine .op' (cgo 115 [false, true, false, true] [.code B13]) (appRow_ok (s := (.tmp 65)) (x := (.tmp 67)) (t := 26) (t2 := 26) (sz := 1) (by' := 24) (ys := [D.list 1 (List.map u8 r)]) (l := 7) (xs := List.map bsD acc) (mv := true) (by kernel_rfl) (by kernel_rfl) (by kernel_rfl) (by kernel_rfl) (by kernel_rfl) (by kernel_rfl) (by simp <;> omega) (by first | (simp [maxLen] <;> omega) | omega)) ?_
          refine .sg0 7 [1, 4, 5, 6, 9, 11, 12, 13, 33, 34, 35, 36, 37, 38, 39, 40, 41, 43, 44, 45, 46, 47, 48, 49, 50, 51, 52, 53, 54, 55, 56, 57, 58, 59, 60, 61, 62, 63, 64, 66, 67, 68, 69] (cgo 122 [false, true, false, true] [.code B13]) [(9, .row 7), (35, .d (.int .i64 (IntKind.i64.wrap ((↑i : Int) + 1)))), (69, .d (.int .i64 (IntKind.i64.wrap ((↑i : Int) + 1))))] ?_
          simp only [List.length_map]
          simp (disch := omega) only [wrap_i64, wrap_u64s, wrap_u32s, wrap_u8s, wrap_i32s, iadd_i64, isub_i64, irem_n, iquo_n, tdiv_nn, tmod_nn]
          rw [show ((acc.length : Nat) : Int) + 1 = ((acc ++ [r]).length : Nat) by simp]
          rw [show (((allOf acc).length : Nat) : Int) + ((frame r).length : Int) = ((allOf (acc ++ [r])).length : Nat) by rw [allOf_snoc, List.length_append]; omega]
          rw [show List.map bsD acc ++ [D.list 1 (List.map u8 r)] = List.map bsD (acc ++ [r]) by simp [bsD]]
          refine .kp [1, 4, 5, 6, 9, 33, 34, 35] ?_
          refine .su [0, 1, 2, 3, 4, 5, 6, 7] (mk 134 [(1, .d (.int .i64 q)), (4, .d (.bool false)), (5, .ptr 0 0 0), (6, .ptr 6 0 0), (9, .row 7), (33, .d (.list 1 (rs.map bsD))), (34, .d (.int .i64 (rs.length : Nat))), (35, .d (.int .i64 ((i + 1 : Nat) : Int)))]) (SF ((acc ++ [r]).length : Nat) ((allOf (acc ++ [r])).length : Nat) 0 (addL d logX r) true ++ [.row 1 ((acc ++ [r]).map bsD) true]) ?_
          exact .seg 1 [1, 4, 5, 6, 9, 33, 34, 35] (by kernel_rfl) ih1
        · rw [h2]
          simp only [bsX] at h2
          omega
      · simp only [bsX] at h1
        omega
    · rw [if_neg hf] at a1 a2
      have ih1 := ih (i + 1) _ (M + 1) acc (by omega) a2 (a3.trans hdq) a4 (by omega) ha (by omega) hfit
      have hq65 : ∀ x ∈ acc, x.length ≤ 65536 := fun x hx => by have := ha x hx; omega
      have hq66 : acc.length < 10000 := by omega
      clear ih hA hd a2 a3 a4 hr ha
      refine .sg0 5 [1, 4, 5, 6, 9, 33, 34, 35, 36] (cgo 56 [false] [.code B13]) [(36, .d (.bool (decide ((↑i : Int) < (↑rs.length : Int)))))] ?_
      refine .if' (decide ((↑i : Int) < (↑rs.length : Int))) (cgo 57 [false, true] [.code B13]) (cgo 57 [false, false] [.code B13]) (fun h1 => ?_) (fun h1 => ?_)
      · simp only [bsX] at h1
        refine .sg0 5 [1, 4, 5, 6, 9, 33, 34, 35, 36] (cgo 62 [false, true] [.code B13]) [] ?_
        refine .op' (cgo 63 [false, true] [.code B13]) (ixData_ok (t := 26) (x := (.tmp 33)) (i := (.tmp 35)) (k := IntKind.i64) (n := (↑i : Int)) (sz := 1) (xs := List.map bsD rs) (d := bsD r) (by kernel_rfl) (by kernel_rfl) (by kernel_rfl) (by kernel_rfl) (by omega) (map_get hri)) ?_
        refine .sg0 7 [1, 4, 5, 6, 9, 11, 33, 34, 35, 36, 37, 38, 39, 40] (cgo 70 [false, true] [.code B13]) [(11, .d (.list 1 (List.map u8 r))), (38, .d (.list 1 (List.map u8 r))), (39, .ptr 6 0 0), (40, .d (.list 1 (List.map u8 r)))] ?_
        refine .ca [6, 0, 1, 2, 3, 4, 5] (cgo 71 [false, true] [.code B13]) F52 (spec_52a2 (acc.length : Nat) ((allOf acc).length : Nat) logX d M hk hM5 hx r (by omega) (by omega) (by omega) (by omega) (by omega) a1) ?_
        rintro r0 s0 ⟨rfl, rfl⟩
        refine ⟨_, rfl, ?_⟩
        clear a1
        refine .sg0 5 [1, 4, 5, 6, 9, 11, 12, 33, 34, 35, 36, 37, 38, 39, 40, 41, 42] (cgo 76 [false, true] [.code B13]) [(12, .d (.int .i64 4)), (42, .row 7)] ?_
        refine .ca [7] (cgo 77 [false, true] [.code B13]) F24 (@spec_24b (acc) (by assumption) (by assumption)) ?_
        rintro r0 s0 ⟨rfl, rfl⟩
        refine ⟨_, rfl, ?_⟩
        refine .sg0 14 [1, 4, 5, 6, 9, 11, 12, 13, 33, 34, 35, 36, 37, 38, 39, 40, 41, 42, 43, 44, 45, 46, 47, 48, 49, 50, 51, 52] (cgo 91 [false, true] [.code B13]) [(13, .d (.bool (decide (IntKind.i64.wrap (IntKind.i64.wrap ((↑(List.map u8 (allOf acc)).length : Int) + (↑(List.map u8 r).length : Int)) + 8) ≤ q)))), (44, .d (.int .i64 (↑(List.map u8 (allOf acc)).length : Int))), (45, .d (.list 1 (List.map u8 r))), (46, .d (.int .i64 (↑(List.map u8 r).length : Int))), (47, .d (.int .i64 (IntKind.i64.wrap ((↑(List.map u8 (allOf acc)).length : Int) + (↑(List.map u8 r).length : Int))))), (48, .d (.int .i64 (IntKind.i64.wrap (IntKind.i64.wrap ((↑(List.map u8 (allOf acc)).length : Int) + (↑(List.map u8 r).length : Int)) + 8)))), (49, .d (.int .i64 q)), (50, .d (.bool (decide (IntKind.i64.wrap (IntKind.i64.wrap ((↑(List.map u8 (allOf acc)).length : Int) + (↑(List.map u8 r).length : Int)) + 8) ≤ q)))), (51, .d (.bool (decide (IntKind.i64.wrap (IntKind.i64.wrap ((↑(List.map u8 (allOf acc)).length : Int) + (↑(List.map u8 r).length : Int)) + 8) ≤ q)))), (52, .d (.bool (decide (IntKind.i64.wrap (IntKind.i64.wrap ((↑(List.map u8 (allOf acc)).length : Int) + (↑(List.map u8 r).length : Int)) + 8) ≤ q))))] ?_
        simp only [List.length_map]
        simp (disch := omega) only [wrap_i64, wrap_u64s, wrap_u32s, wrap_u8s, wrap_i32s, iadd_i64, isub_i64, irem_n, iquo_n, tdiv_nn, tmod_nn]
        rcases Bool.eq_false_or_eq_true (decide ((↑(allOf acc).length : Int) + (↑r.length : Int) + 8 ≤ q)) with h2 | h2
        · rw [h2]
          simp only [bsX] at h2
          omega
        · rw [h2]
          simp only [bsX] at h2
          refine .sg0 25 [1, 4, 5, 6, 9, 11, 12, 13, 33, 34, 35, 36, 37, 38, 39, 40, 41, 42, 43, 44, 45, 46, 47, 48, 49, 50, 51, 52, 53, 54, 55, 56, 57, 58, 59, 60, 61, 62, 63, 64, 69] (cgo 116 [false, true, false, false] [.code B13]) [(35, .d (.int .i64 (IntKind.i64.wrap ((↑i : Int) + 1)))), (53, .tuple []), (54, .tuple []), (55, .d (.bool false)), (56, .d (.bool false)), (57, .d (.bool false)), (58, .d (.bool true)), (59, .d (.bool true)), (60, .d (.int .i64 4)), (61, .d (.bool false)), (62, .d (.bool false)), (63, .d (.bool false)), (64, .d (.bool false)), (69, .d (.int .i64 (IntKind.i64.wrap ((↑i : Int) + 1))))] ?_
          simp only [List.length_map]
          simp (disch := omega) only [wrap_i64, wrap_u64s, wrap_u32s, wrap_u8s, wrap_i32s, iadd_i64, isub_i64, irem_n, iquo_n, tdiv_nn, tmod_nn]
          refine .kp [1, 4, 5, 6, 9, 33, 34, 35] ?_
          refine .su [0, 1, 2, 3, 4, 5, 6, 7] (mk 134 [(1, .d (.int .i64 q)), (4, .d (.bool false)), (5, .ptr 0 0 0), (6, .ptr 6 0 0), (9, .row 7), (33, .d (.list 1 (rs.map bsD))), (34, .d (.int .i64 (rs.length : Nat))), (35, .d (.int .i64 ((i + 1 : Nat) : Int)))]) (SF (acc.length : Nat) ((allOf acc).length : Nat) 0 (addL d logX r) true ++ [.row 1 (acc.map bsD) true]) ?_
          exact .seg 1 [1, 4, 5, 6, 9, 33, 34, 35] (by kernel_rfl) ih1
      · simp only [bsX] at h1
        omega
theorem sj13 (d : Dk) (k : Nat) (q : Int) (hd : Lone d k []) (hdq : d.quota = q) (hk : d.Ok 5) (hq0 : 0 ≤ q) (hq1 : q ≤ 3000) (l : List (List UInt8)) (hl : l.length ≤ maxLen) :
    AW Try.prog 13 none 0 (cgo 21 [] [Item.code B13]) (mk 134 [(0, .d (.list 1 (l.map bsD))), (1, .d (.int .i64 q)), (4, .d (.bool false)), (5, .ptr 0 0 0), (26, .tuple [.ptr 6 0 0, .d (.list 1 []), .d (.int .i64 0)])]) (SF 0 0 0 d true) [] fun r _ => r = .ret (.d (.bool true)) := by
  have hl2 : l.length ≤ 9223372036854775807 := by simp only [maxLen] at hl; omega
  have hc1 := cutg_len l 0
  have hc2 := cutg_le l 0
  refine .sg0 24 [0, 1, 4, 5, 6, 9, 32] (cgo 45 [false] [.code B13]) [(6, .ptr 6 0 0), (9, .nils), (32, .d (.list 1 (List.map bsD l)))] ?_
  refine .semH (o := (opOf (cgo 45 [false] [Item.code B13])).getD default) (v := .d (.list 1 (List.map bsD (cutg 0 l)))) (σ' := [.cells [.row 1, .ptr 2 0 0, .ep 2 (D.agg [D.list 1 (List.map strD d.sk), D.list 1 (List.map intD d.sv)]) 0, .row 5, .d (.int .i64 d.quota), .d (.bool d.full), .d (.bool d.off), .d (.int .i64 d.stop), .d (.int .i64 d.calls)], .row 2 (List.map fileD d.files) true, .cells [.row 3, .row 4], .row 1 (List.map strD d.nk) true, .row 1 (List.map intD d.nv) true, .row 3 (List.map chD d.ch) true, .cells [.d (.int .i64 0), .d (.int .i64 0), .d (.int .i64 0), .ptr 0 0 0, .d (.str logX)]]) (by kernel_rfl) (by kernel_rfl) (T' := cgo 46 [false] [Item.code B13]) (by kernel_rfl) (fun kz => sem_data0 (x := (.func 22)) (args := #[(.tmp 32)]) (ts := #[26]) (first := []) (cap := []) (ds := [.d (.list 1 (List.map bsD l))]) (v := .d (.list 1 (List.map bsD (cutg 0 l)))) F22 (@spec_22 (l) (by assumption)) (by kernel_rfl) (by kernel_rfl) (by kernel_rfl) (by kernel_rfl) (by kernel_rfl) (by kernel_rfl) _) ?_
  refine .seg 4 [1, 4, 5, 6, 9, 33, 34, 35] (T' := cgo 50 [false] [.code B13]) (tm' := mk 134 [(1, .d (.int .i64 q)), (4, .d (.bool false)), (5, .ptr 0 0 0), (6, .ptr 6 0 0), (9, .nils), (33, .d (.list 1 (List.map bsD (cutg 0 l)))), (34, .d (.int .i64 (↑(List.map bsD (cutg 0 l)).length : Int))), (35, .d (.int .i64 0))]) (σ' := [.cells [.row 1, .ptr 2 0 0, .ep 2 (D.agg [D.list 1 (List.map strD d.sk), D.list 1 (List.map intD d.sv)]) 0, .row 5, .d (.int .i64 d.quota), .d (.bool d.full), .d (.bool d.off), .d (.int .i64 d.stop), .d (.int .i64 d.calls)], .row 2 (List.map fileD d.files) true, .cells [.row 3, .row 4], .row 1 (List.map strD d.nk) true, .row 1 (List.map intD d.nv) true, .row 3 (List.map chD d.ch) true, .cells [.d (.int .i64 0), .d (.int .i64 0), .d (.int .i64 0), .ptr 0 0 0, .d (.str logX)]]) (by kernel_rfl) ?_
  simp only [List.length_map]
  refine .virtT 9 1 (by kernel_rfl) ?_
  refine .raise 7 rfl rfl ?_
  exact .seg 1 [1, 4, 5, 6, 9, 33, 34, 35] (by kernel_rfl) (lo13 k q hq0 hq1 (cutg 0 l) (by omega) hc2 (cutg 0 l).length 0 d 5 [] (by omega) hd hdq hk (by omega) (by simp) (by simp) (by simpa [allOf] using hq0))
theorem st13 (d : Dk) (q : Int) (hd : d = Dk.new q) (hq0 : 0 ≤ q) (hq1 : q ≤ 3000) (l : List (List UInt8)) (hl : l.length ≤ maxLen) :
    AW Try.prog 13 none 0 (cgo 20 [] [Item.code B13]) (mk 134 [(0, .d (.list 1 (l.map bsD))), (1, .d (.int .i64 q)), (4, .d (.bool false)), (5, .ptr 0 0 0), (25, .ptr 0 0 0)]) (SD d true) [] fun r _ => r = .ret (.d (.bool true)) := by
  have k1 : d.Ok 0 := hd ▸ Dk.new_ok (by omega)
  have k2 : d.off = false := by rw [hd]; rfl
  have k3 : look d.nk d.nv ⟨#[108, 111, 103]⟩ = none := by rw [hd]; simp [look, Dk.new]
  have k4 : makeE d ⟨#[108, 111, 103]⟩ = 0 := by rw [hd]; exact new_e q
  have g1 : mayName ⟨#[108, 111, 103]⟩ = true := by decide +kernel
  have g2 : mayName (⟨#[108, 111, 103]⟩ ++ tmpX) = true := by decide +kernel
  have g3 : (⟨#[108, 111, 103]⟩ : ByteArray).size < 1000 := by decide
  have k5 : (makeL d ⟨#[108, 111, 103]⟩).Ok 5 := by
    have h1 := Dk.createD_ok (Dk.begun_ok k1 (by omega)) (by omega) ⟨#[108, 111, 103]⟩
    have h2 := Dk.syncDirD_ok (Dk.begun_ok h1 (by omega))
    unfold makeL
    split
    · exact h1.mono (by omega) (by omega)
    · exact h2.mono (by omega) (by omega)
  have k6 : Lone (makeL d ⟨#[108, 111, 103]⟩) 0 [] ∧ (makeL d ⟨#[108, 111, 103]⟩).quota = q := by
    have := Lone.new q
    rw [hd]
    exact ⟨this.1, this.2.trans (if_neg (by omega))⟩
  clear hd
  refine .ca [0, 1, 2, 3, 4, 5] (cgo 21 [] [.code B13]) F51 (@spec_51 (d) (0) (by assumption) (by omega) (ByteArray.mk #[108, 111, 103]) (by assumption) (by assumption) (by assumption) (by assumption) (by assumption) (by assumption)) ?_
  rintro r0 s0 ⟨rfl, rfl⟩
  refine ⟨_, rfl, ?_⟩
  exact .goes [0, 1, 4, 5, 26] (by kernel_rfl) (by kernel_rfl) (by kernel_rfl) (sj13 _ 0 q k6.1 k6.2 k5 hq0 hq1 l hl)
theorem spec_13 (l : List (List UInt8)) (room : Int) (hl : l.length ≤ maxLen) (hr : ∀ r ∈ l, r.length ≤ maxLen) (h0 : -9223372036854775808 ≤ room) (h1 : room < 9223372036854775808) : Br.Pure Try.prog 13 [.d (lsD l), .d (.int .i64 room)] (.d (.bool true)) := by
  refine CallsA.pure ?_ rfl
  refine CallsA.start F13 (tm := mk (Try.f13.ntmps) [(0, .d (lsD l)), (1, .d (.int .i64 room))]) (by kernel_rfl) ?_
  have hq0 : 0 ≤ (if (if 3000 < room then 3000 else room) > 0 then if 3000 < room then 3000 else room else 0) := by split <;> omega
  have hq1 : (if (if 3000 < room then 3000 else room) > 0 then if 3000 < room then 3000 else room else 0) ≤ 3000 := by split <;> split <;> omega
  refine .sg0 14 [0, 1, 4, 22] (cgo 14 [] [.code B13]) [(1, .d (.int .i64 (if (if 3000 < room then 3000 else room) > 0 then if 3000 < room then 3000 else room else 0))), (4, .d (.bool false)), (22, .d (.int .i64 (if (if 3000 < room then 3000 else room) > 0 then if 3000 < room then 3000 else room else 0)))] ?_
  refine .ca [] (cgo 15 [] [.code B13]) F25 (@spec_25 (if (if 3000 < room then 3000 else room) > 0 then if 3000 < room then 3000 else room else 0)) ?_
  rintro r0 s0 ⟨rfl, rfl⟩
  refine ⟨_, rfl, ?_⟩
  exact .seg 5 [0, 1, 4, 5, 25] (by kernel_rfl) (st13 _ _ rfl hq0 hq1 l hl)
end Go.Proofs.Ytoelkgbeefoplaa
