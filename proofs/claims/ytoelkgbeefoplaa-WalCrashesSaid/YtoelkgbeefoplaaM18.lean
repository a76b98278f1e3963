/- Texts of this proof, part 18: WalU, WalQ. -/
import Derived.Test.YtoelkgbeefoplaaM17
set_option linter.unusedSimpArgs false
set_option linter.unusedVariables false
set_option linter.constructorNameAsVariable false
namespace Go.Proofs.Ytoelkgbeefoplaa
open Go Go.Br Go.Proofs
open List (map)
theorem spec_53b (c s : Int) (x : ByteArray) (d : Dk) (N : Nat) (h : d.Ok N) (hN : N + 5 ≤ 50000) (hx : x.size < 1000000000) (he : d.begun.err true [x] = 5) :
    CallsA Try.prog 53 [.ptr 0 0 0] (SL c s 0 x d false) fun r σ' => r = .ret (.d (.int .i64 5)) ∧ σ' = SL c s 5 x (d.begun.syncD x) true := by
  have h1 := spec_53 c s x d N h hN hx
  rw [he] at h1
  exact h1
theorem spec_54b (c s : Int) (x : ByteArray) (d : Dk) (N : Nat) (h : d.Ok N) (rs : List (List UInt8)) (hrs : ∀ r ∈ rs, r.length ≤ 65536) (hl : rs.length < 10000) (hN : N + rs.length + 20 ≤ 50000) (hx : x.size < 1000) (he : (writeR x (rs.map frame) d).1 = 5) (hb : (writeR x (rs.map frame) d).2.1 = 5) :
    CallsA Try.prog 54 [.ptr 0 0 0, .d (.list 1 (rs.map bsD))] (SL c s 0 x d false) fun r σ' => r = .ret (.d (.int .i64 5)) ∧ σ' = SL c s 5 x (writeR x (rs.map frame) d).2.2 true := by
  have h1 := spec_54 c s x d N h rs hrs hl hN hx
  have e : resetR c s x rs d = (5, c, s, 5, (writeR x (rs.map frame) d).2.2) := by simp [resetR, he, hb]
  rw [e] at h1
  exact h1
theorem kd3 (dir : Int) (keep : List Int) (o : LOp) (h3 : o.kind % 5 = 3) (l : List LOp) (i : Nat) (hi : i < 40) (d : Dk) (k s M : Nat) (all other : List (List UInt8)) (sure : Nat) (hd : Pre d k (allOf all) s) (hk : d.Ok M) (hM : M + 70 ≤ 50000) (hal : all.length < 40) {Q : AE → Store → Prop}
    (g1 : Pre (d.begun.syncD logX) k (allOf all) (allOf all).length → AW Try.prog 15 none 0 (cgo 66 [false, false] [Item.code B15]) (TG l (i + 1) all other all.length false []) (SG dir keep (all.length : Nat) ((allOf all).length : Nat) 0 (d.begun.syncD logX) true) [] Q)
    (g2 : (d.begun.syncD logX).off = true → Pre (d.begun.syncD logX) k (allOf all) s → AW Try.prog 15 none 0 (cgo 118 [false, false, true, true, false] [Item.code B15]) (EG dir keep all other sure false) (SG dir keep (all.length : Nat) ((allOf all).length : Nat) 5 (d.begun.syncD logX) true) [] Q) :
    AW Try.prog 15 none 0 (cgo 105 [false, false, true, false] [Item.code B15]) (TG l i all other sure false [(16, .ptr 8 0 0), (62, .d (.int .u64 (o.kind % 5 : Nat)))]) (SG dir keep (all.length : Nat) ((allOf all).length : Nat) 0 d true ++ [.cells [.d (.int .u64 o.kind), .d (bsD o.b), .d (.int .u64 o.n)]]) [] Q := by
  have hx : logX.size < 1000000000 := by decide
  refine .sg0 6 [5, 6, 7, 8, 11, 12, 13, 14, 16, 45, 46, 47, 62, 78, 79] (cgo 111 [false, false, true, false] [.code B15]) [(78, .d (.bool ((↑(o.kind % 5) : Int) == 3))), (79, .d (.bool ((↑(o.kind % 5) : Int) == 3)))] ?_
  refine .if' ((↑(o.kind % 5) : Int) == 3) (cgo 112 [false, false, true, false, true] [.code B15]) (cgo 112 [false, false, true, false, false] [.code B15]) (fun h1 => ?_) (fun h1 => ?_)
  · simp only [bsX] at h1
    refine .sg0 3 [5, 6, 7, 8, 11, 12, 13, 14, 16, 45, 46, 47, 62, 78, 79, 80] (cgo 115 [false, false, true, false, true] [.code B15]) [(80, .ptr 7 0 0)] ?_
    obtain ⟨b0, b1⟩ := hd.begun.sync
    rcases Bool.eq_false_or_eq_true d.begun.off with ho | ho
    · skip
      obtain ⟨o1, o2⟩ := b0 ho
      have g2 := g2 (by rw [o2]; exact ho) (by rw [o2]; exact hd.begun)
      refine .ca [7, 0, 1, 2, 3, 4, 5] (cgo 116 [false, false, true, false, true] [.code B15]) F53 (spec_53b (all.length : Nat) ((allOf all).length : Nat) logX d M hk (by omega) hx o1) ?_
      rintro r0 s0 ⟨rfl, rfl⟩
      refine ⟨_, rfl, ?_⟩
      clear g1 b0 b1 ho
      generalize d.begun.syncD logX = d' at *
      refine .sg0 8 [5, 6, 7, 8, 11, 12, 13, 14, 16, 45, 46, 47, 62, 78, 79, 80, 81, 82, 107] (cgo 124 [false, false, true, false, true, false] [.code B15]) [(82, .d (.bool false)), (107, .ptr 7 0 0)] ?_
      refine .ca [7, 0, 1, 2, 3, 4, 5] (cgo 125 [false, false, true, false, true, false] [.code B15]) F55 (@spec_55 ((↑all.length : Int)) ((↑(allOf all).length : Int)) (5) (logX) (d')) ?_
      rintro r0 s0 ⟨rfl, rfl⟩
      refine ⟨_, rfl, ?_⟩
      refine .sg0 8 [5, 6, 7, 8, 11, 12, 13, 14, 111] (cgo 133 [false, false, true, false, true, false, true] [.code B15]) [(111, .ptr 7 0 0)] ?_
      refine .ca [7, 0, 1, 2, 3, 4, 5] (cgo 134 [false, false, true, false, true, false, true] [.code B15]) F55 (@spec_55 ((↑all.length : Int)) ((↑(allOf all).length : Int)) (5) (logX) (d')) ?_
      rintro r1 s1 ⟨rfl, rfl⟩
      refine ⟨_, rfl, ?_⟩
      refine .sg0 15 [5, 6, 7, 11, 12, 13, 14, 121, 122] (cgo 149 [false, false, true, false, true, false, true, false] [.code B15]) [(121, .ptr 0 0 0), (122, .d (.agg [D.int IntKind.i64 dir, D.list 1 (map intD keep)]))] ?_
      refine .su [0, 1, 2, 3, 4, 5, 6, 7] (EG dir keep all other sure false) (SG dir keep (all.length : Nat) ((allOf all).length : Nat) 5 d' true) ?_
      exact .goes [5, 6, 7, 11, 12, 13, 14, 121, 122] (by kernel_rfl) (by kernel_rfl) rfl g2
    · skip
      obtain ⟨o1, o2⟩ := b1 ho
      have g1 := g1 o2
      refine .ca [7, 0, 1, 2, 3, 4, 5] (cgo 116 [false, false, true, false, true] [.code B15]) F53 (spec_53a (all.length : Nat) ((allOf all).length : Nat) logX d M hk (by omega) hx o1) ?_
      rintro r0 s0 ⟨rfl, rfl⟩
      refine ⟨_, rfl, ?_⟩
      clear g2 b0 b1 ho o1 o2
      generalize d.begun.syncD logX = d' at *
      refine .sg0 12 [5, 6, 7, 8, 11, 12, 13, 14, 16, 45, 46, 47, 62, 78, 79, 80, 81, 82, 83, 84, 107] (cgo 128 [false, false, true, false, true, true] [.code B15]) [(13, .d (.int .i64 (↑(map bsD all).length : Int))), (82, .d (.bool true)), (83, .d (.list 1 (map bsD all))), (84, .d (.int .i64 (↑(map bsD all).length : Int))), (107, .ptr 7 0 0)] ?_
      simp only [List.length_map]
      refine .ca [7, 0, 1, 2, 3, 4, 5] (cgo 129 [false, false, true, false, true, true] [.code B15]) F55 (@spec_55 ((↑all.length : Int)) ((↑(allOf all).length : Int)) (0) (logX) (d')) ?_
      rintro r0 s0 ⟨rfl, rfl⟩
      refine ⟨_, rfl, ?_⟩
      refine .sg0 9 [5, 6, 7, 8, 11, 12, 13, 14, 16, 45, 46, 47, 62, 78, 79, 80, 81, 82, 83, 84, 107, 108, 109, 110] (cgo 138 [false, false, true, false, true, true, false] [.code B15]) [(47, .d (.int .i64 (IntKind.i64.wrap ((↑i : Int) + 1)))), (109, .d (.bool false)), (110, .d (.int .i64 (IntKind.i64.wrap ((↑i : Int) + 1))))] ?_
      simp (disch := omega) only [wrap_i64, wrap_u64s, wrap_u32s, wrap_u8s, wrap_i32s, iadd_i64, isub_i64, irem_n, iquo_n, tdiv_nn, tmod_nn]
      refine .kp [5, 6, 7, 8, 11, 12, 13, 14, 45, 46, 47] ?_
      refine .su [0, 1, 2, 3, 4, 5, 6, 7] (TG l (i + 1) all other all.length false []) (SG dir keep (all.length : Nat) ((allOf all).length : Nat) 0 d' true) ?_
      exact .seg 1 [5, 6, 7, 8, 11, 12, 13, 14, 45, 46, 47] (by kernel_rfl) g1
  · simp only [bsX] at h1
    omega
theorem kd4 (dir : Int) (keep : List Int) (o : LOp) (ho : o.fits) (h4 : o.kind % 5 = 4) (l : List LOp) (i : Nat) (hi : i < 40) (d : Dk) (k s M : Nat) (all other : List (List UInt8)) (sure : Nat) (hd : Pre d k (allOf all) s) (hk : d.Ok M) (hM : M + 70 ≤ 50000) (hal : all.length < 40) (hr : ∀ r ∈ all, r.length ≤ 300) (rs : List (List UInt8)) (hrs : rs = all.drop (o.n % (all.length + 1))) {Q : AE → Store → Prop}
    (g1 : ∀ j, Pre (writeR logX (rs.map frame) d).2.2 j (allOf rs) (allOf rs).length → AW Try.prog 15 none 0 (cgo 66 [false, false] [Item.code B15]) (TG l (i + 1) rs rs rs.length false []) (SG dir keep (rs.length : Nat) ((allOf rs).length : Nat) 0 (writeR logX (rs.map frame) d).2.2 true) [] Q)
    (g2 : Fail (writeR logX (rs.map frame) d).2.2 k (allOf all) s (allOf rs) → AW Try.prog 15 none 0 (cgo 118 [false, false, true, true, false] [Item.code B15]) (EG dir keep all rs sure true) (SG dir keep (all.length : Nat) ((allOf all).length : Nat) 5 (writeR logX (rs.map frame) d).2.2 true) [] Q) :
    AW Try.prog 15 none 0 (cgo 105 [false, false, true, false] [Item.code B15]) (TG l i all other sure false [(16, .ptr 8 0 0), (62, .d (.int .u64 (o.kind % 5 : Nat)))]) (SG dir keep (all.length : Nat) ((allOf all).length : Nat) 0 d true ++ [.cells [.d (.int .u64 o.kind), .d (bsD o.b), .d (.int .u64 o.n)]]) [] Q := by
  have hx : logX.size < 1000000000 := by decide
  obtain ⟨f1, f2, f3⟩ := ho
  refine .sg0 6 [5, 6, 7, 8, 11, 12, 13, 14, 16, 45, 46, 47, 62, 78, 79] (cgo 111 [false, false, true, false] [.code B15]) [(78, .d (.bool ((↑(o.kind % 5) : Int) == 3))), (79, .d (.bool ((↑(o.kind % 5) : Int) == 3)))] ?_
  refine .if' ((↑(o.kind % 5) : Int) == 3) (cgo 112 [false, false, true, false, true] [.code B15]) (cgo 112 [false, false, true, false, false] [.code B15]) (fun h1 => ?_) (fun h1 => ?_)
  · simp only [bsX] at h1
    omega
  · simp only [bsX] at h1
    refine .sg0 5 [5, 6, 7, 8, 11, 12, 13, 14, 16, 45, 46, 47, 62, 78, 79, 85, 86] (cgo 117 [false, false, true, false, false] [.code B15]) [(85, .d (.bool ((↑(o.kind % 5) : Int) == 4))), (86, .d (.bool ((↑(o.kind % 5) : Int) == 4)))] ?_
    refine .if' ((↑(o.kind % 5) : Int) == 4) (cgo 118 [false, false, true, false, false, true] [.code B15]) (cgo 118 [false, false, true, false, false, false] [.code B15]) (fun h2 => ?_) (fun h2 => ?_)
    · simp only [bsX] at h2
      refine .sg0 8 [5, 6, 7, 8, 11, 12, 13, 14, 16, 45, 46, 47, 62, 78, 79, 85, 86, 87, 88, 89, 90, 91, 92] (cgo 126 [false, false, true, false, false, true] [.code B15]) [(87, .ptr 8 0 2), (88, .d (.int .u64 (↑o.n : Int))), (89, .d (.list 1 (map bsD all))), (90, .d (.int .i64 (↑(map bsD all).length : Int))), (91, .d (.int .i64 (IntKind.i64.wrap ((↑(map bsD all).length : Int) + 1)))), (92, .d (.int .u64 (IntKind.u64.wrap (IntKind.i64.wrap ((↑(map bsD all).length : Int) + 1)))))] ?_
      simp only [List.length_map]
      simp (disch := omega) only [wrap_i64, wrap_u64s, wrap_u32s, wrap_u8s, wrap_i32s, iadd_i64, isub_i64, irem_n, iquo_n, tdiv_nn, tmod_nn]
      refine .sg0 6 [5, 6, 7, 8, 11, 12, 13, 14, 16, 17, 45, 46, 47, 62, 78, 79, 85, 86, 87, 88, 89, 90, 91, 92, 93, 94] (cgo 132 [false, false, true, false, false, true] [.code B15]) [(17, .d (.int .i64 (IntKind.i64.wrap ((↑o.n : Int).tmod ((↑all.length : Int) + 1))))), (93, .d (.int .u64 ((↑o.n : Int).tmod ((↑all.length : Int) + 1)))), (94, .d (.int .i64 (IntKind.i64.wrap ((↑o.n : Int).tmod ((↑all.length : Int) + 1)))))] ?_
      simp (disch := omega) only [wrap_i64, wrap_u64s, wrap_u32s, wrap_u8s, wrap_i32s, iadd_i64, isub_i64, irem_n, iquo_n, tdiv_nn, tmod_nn]
      have e5 : ((o.n : Int) % ((all.length : Int) + 1)) = ((o.n % (all.length + 1) : Nat) : Int) := by rw [Int.natCast_emod]; rfl
      have hq : o.n % (all.length + 1) ≤ all.length := by have := Nat.mod_lt o.n (show 0 < all.length + 1 by omega); omega
      rw [e5]
      clear e5
      generalize o.n % (all.length + 1) = q at *
      rw [wrap_i64 (by omega) (by omega)]
      refine .op' (cgo 133 [false, false, true, false, false, true] [.code B15]) (build0_ok (t := 26) (e := 22) (sz := 1) (sz' := 1) (by kernel_rfl) (by kernel_rfl) (by kernel_rfl)) ?_
      refine .sg0 2 [5, 6, 7, 8, 11, 12, 13, 14, 16, 17, 45, 46, 47, 62, 78, 79, 85, 86, 87, 88, 89, 90, 91, 92, 93, 94, 95, 96, 97] (cgo 135 [false, false, true, false, false, true] [.code B15]) [(96, .d (.list 1 (map bsD all))), (97, .d (.int .i64 (↑q : Int)))] ?_
      refine .op' (cgo 136 [false, false, true, false, false, true] [.code B15]) (slData_ok (t := 26) (x := (.tmp 96)) (lo := (some (.tmp 97))) (hi := none) (sz := 1) (xs := map bsD all) (q) ((map bsD all).length) (by kernel_rfl) (by kernel_rfl) (by kernel_rfl) (bnd_some (k := IntKind.i64) (i := (↑q : Int)) (by kernel_rfl) (by omega) (by rfl)) rfl (by simp <;> omega) (by omega)) ?_
      simp only [List.take_length, List.drop_zero, ← List.map_take, ← List.map_drop]
      refine .virtE 95 1 (by kernel_rfl) ?_
      refine .op' (cgo 137 [false, false, true, false, false, true] [.code B15]) (appRow_ok (s := (.tmp 95)) (x := (.tmp 98)) (t := 26) (t2 := 26) (sz := 1) (by' := 24) (ys := map bsD (List.drop q (List.take (map bsD all).length all))) (l := 9) (xs := []) (mv := false) (by kernel_rfl) (by kernel_rfl) (by kernel_rfl) (by kernel_rfl) (by kernel_rfl) (by kernel_rfl) (by simp <;> omega) (by first | (simp [maxLen] <;> omega) | omega)) ?_
      refine .sg0 6 [5, 6, 7, 8, 11, 12, 13, 14, 16, 17, 45, 46, 47, 62, 78, 79, 85, 86, 87, 88, 89, 90, 91, 92, 93, 94, 96, 97, 98, 99, 100, 101] (cgo 143 [false, false, true, false, false, true] [.code B15]) [(12, .row 9), (100, .ptr 7 0 0), (101, .row 9)] ?_
      simp only [List.length_map]
      refine .freeze 9 (sz := 1) (xs := [] ++ map bsD (List.drop q (List.take all.length all))) (mv := true) (by kernel_rfl) ?_
      rw [show ([] : List D) ++ List.map bsD (List.drop q (List.take all.length all)) = rs.map bsD by rw [hrs, List.take_length, List.nil_append]]
      have hfl : (rs.map frame).flatten = allOf rs := rfl
      have hr5 : ∀ r ∈ rs, r.length ≤ 300 := fun r h => hr r (by rw [hrs] at h; exact List.mem_of_mem_drop h)
      have hr6 : ∀ r ∈ rs, r.length ≤ 65536 := fun r h => by have := hr5 r h; omega
      have hrl : rs.length ≤ all.length := by rw [hrs, List.length_drop]; omega
      have hA := allOf_le 300 all hr
      have hB := allOf_le 300 rs hr5
      have hgd : (good rs : Int) = ((allOf rs).length : Nat) := by rw [good_all]
      rcases writeR_pre hd (rs.map frame) (by rw [hfl]; omega) with ⟨o1, o2, j, o3⟩ | ⟨o1, o2, o3⟩
      · have g1 := g1 j (by rw [hfl] at o3; exact o3)
        refine .ca [7, 0, 1, 2, 3, 4, 5] (cgo 144 [false, false, true, false, false, true] [.code B15]) F54 (spec_54a (all.length : Nat) ((allOf all).length : Nat) logX d M hk rs hr6 (by omega) (by omega) (by decide) o1 o2) ?_
        rintro r0 s0 ⟨rfl, rfl⟩
        refine ⟨_, rfl, ?_⟩
        rw [hgd]
        clear g2 o1 o2 o3 hrs hr5 hr6 hA hB hfl hgd
        generalize (writeR logX (rs.map frame) d).2.2 = d' at *
        refine .sg0 17 [5, 6, 7, 8, 11, 12, 13, 14, 16, 17, 45, 46, 47, 62, 78, 79, 85, 86, 87, 88, 89, 90, 91, 92, 93, 94, 96, 97, 98, 99, 100, 101, 102, 103, 104, 105, 106, 107] (cgo 161 [false, false, true, false, false, true, true] [.code B15]) [(11, .d (.list 1 (map bsD rs))), (13, .d (.int .i64 (↑(map bsD rs).length : Int))), (103, .d (.bool true)), (104, .d (.list 1 (map bsD rs))), (105, .d (.list 1 (map bsD rs))), (106, .d (.int .i64 (↑(map bsD rs).length : Int))), (107, .ptr 7 0 0)] ?_
        simp only [List.length_map]
        refine .ca [7, 0, 1, 2, 3, 4, 5] (cgo 162 [false, false, true, false, false, true, true] [.code B15]) F55 (@spec_55 ((↑rs.length : Int)) ((↑(allOf rs).length : Int)) (0) (logX) (d')) ?_
        rintro r0 s0 ⟨rfl, rfl⟩
        refine ⟨_, rfl, ?_⟩
        refine .sg0 9 [5, 6, 7, 8, 11, 12, 13, 14, 16, 17, 45, 46, 47, 62, 78, 79, 85, 86, 87, 88, 89, 90, 91, 92, 93, 94, 96, 97, 98, 99, 100, 101, 102, 103, 104, 105, 106, 107, 108, 109, 110] (cgo 171 [false, false, true, false, false, true, true, false] [.code B15]) [(47, .d (.int .i64 (IntKind.i64.wrap ((↑i : Int) + 1)))), (109, .d (.bool false)), (110, .d (.int .i64 (IntKind.i64.wrap ((↑i : Int) + 1))))] ?_
        simp only [List.length_map]
        simp (disch := omega) only [wrap_i64, wrap_u64s, wrap_u32s, wrap_u8s, wrap_i32s, iadd_i64, isub_i64, irem_n, iquo_n, tdiv_nn, tmod_nn]
        refine .kp [5, 6, 7, 8, 11, 12, 13, 14, 45, 46, 47] ?_
        refine .su [0, 1, 2, 3, 4, 5, 6, 7] (TG l (i + 1) rs rs rs.length false []) (SG dir keep (rs.length : Nat) ((allOf rs).length : Nat) 0 d' true) ?_
        exact .seg 1 [5, 6, 7, 8, 11, 12, 13, 14, 45, 46, 47] (by kernel_rfl) g1
      · have g2 := g2 (by rw [hfl] at o3; exact o3)
        refine .ca [7, 0, 1, 2, 3, 4, 5] (cgo 144 [false, false, true, false, false, true] [.code B15]) F54 (spec_54b (all.length : Nat) ((allOf all).length : Nat) logX d M hk rs hr6 (by omega) (by omega) (by decide) o1 o2) ?_
        rintro r0 s0 ⟨rfl, rfl⟩
        refine ⟨_, rfl, ?_⟩
        clear g1 o1 o2 o3 hrs hr5 hr6 hA hB hfl hgd
        generalize (writeR logX (rs.map frame) d).2.2 = d' at *
        refine .sg0 10 [5, 6, 7, 8, 11, 12, 13, 14, 16, 17, 45, 46, 47, 62, 78, 79, 85, 86, 87, 88, 89, 90, 91, 92, 93, 94, 96, 97, 98, 99, 100, 101, 102, 103, 107] (cgo 154 [false, false, true, false, false, true, false] [.code B15]) [(14, .d (.bool true)), (103, .d (.bool false)), (107, .ptr 7 0 0)] ?_
        simp only [List.length_map]
        refine .ca [7, 0, 1, 2, 3, 4, 5] (cgo 155 [false, false, true, false, false, true, false] [.code B15]) F55 (@spec_55 ((↑all.length : Int)) ((↑(allOf all).length : Int)) (5) (logX) (d')) ?_
        rintro r0 s0 ⟨rfl, rfl⟩
        refine ⟨_, rfl, ?_⟩
        refine .sg0 8 [5, 6, 7, 8, 11, 12, 13, 14, 111] (cgo 163 [false, false, true, false, false, true, false, true] [.code B15]) [(111, .ptr 7 0 0)] ?_
        refine .ca [7, 0, 1, 2, 3, 4, 5] (cgo 164 [false, false, true, false, false, true, false, true] [.code B15]) F55 (@spec_55 ((↑all.length : Int)) ((↑(allOf all).length : Int)) (5) (logX) (d')) ?_
        rintro r1 s1 ⟨rfl, rfl⟩
        refine ⟨_, rfl, ?_⟩
        refine .sg0 15 [5, 6, 7, 11, 12, 13, 14, 121, 122] (cgo 179 [false, false, true, false, false, true, false, true, false] [.code B15]) [(121, .ptr 0 0 0), (122, .d (.agg [D.int IntKind.i64 dir, D.list 1 (map intD keep)]))] ?_
        refine .su [0, 1, 2, 3, 4, 5, 6, 7] (EG dir keep all rs sure true) (SG dir keep (all.length : Nat) ((allOf all).length : Nat) 5 d' true) ?_
        exact .goes [5, 6, 7, 11, 12, 13, 14, 121, 122] (by kernel_rfl) (by kernel_rfl) rfl g2
    · simp only [bsX] at h2
      omega
end Go.Proofs.Ytoelkgbeefoplaa
namespace Go.Proofs.Ytoelkgbeefoplaa
open Go Go.Br Go.Proofs
open List (map)
theorem ex15 (dir : Int) (keep : List Int) (d : Dk) (all other : List (List UInt8)) (sure : Nat) {Q : AE → Store → Prop} (hend : AW Try.prog 15 none 0 (cgo 118 [false, false, true, true, false] [Item.code B15]) (EG dir keep all other sure false) (SG dir keep (all.length : Nat) ((allOf all).length : Nat) 0 d true) [] Q) :
    AW Try.prog 15 none 0 (cgo 77 [false, false, false] [Item.code B15]) (mk 212 [(5, .ptr 6 0 0), (6, .d (.bool false)), (7, .ptr 0 0 0), (8, .ptr 7 0 0), (11, .d (.list 1 (all.map bsD))), (12, .d (.list 1 (other.map bsD))), (13, .d (.int .i64 (sure : Nat))), (14, .d (.bool false)), (111, .ptr 7 0 0)]) (SG dir keep (all.length : Nat) ((allOf all).length : Nat) 0 d true) [] Q := by
  refine .ca [7, 0, 1, 2, 3, 4, 5] (cgo 78 [false, false, false] [.code B15]) F55 (@spec_55 ((↑all.length : Int)) ((↑(allOf all).length : Int)) (0) (logX) (d)) ?_
  rintro r1 s1 ⟨rfl, rfl⟩
  refine ⟨_, rfl, ?_⟩
  refine .sg0 3 [5, 6, 7, 8, 11, 12, 13, 14, 111, 112, 113, 114, 115] (cgo 81 [false, false, false] [.code B15]) [(113, .d (.bool true)), (114, .d (.bool true)), (115, .ptr 7 0 0)] ?_
  refine .ca [7, 0, 1, 2, 3, 4, 5] (cgo 82 [false, false, false] [.code B15]) F56 (@spec_56 ((↑all.length : Int)) ((↑(allOf all).length : Int)) (0) (logX) (d)) ?_
  rintro r2 s2 ⟨rfl, rfl⟩
  refine ⟨_, rfl, ?_⟩
  refine .sg0 5 [5, 6, 7, 11, 12, 13, 14, 120] (cgo 87 [false, false, false] [.code B15]) [(120, .d (.bool ((↑all.length : Int) != (↑(map bsD all).length : Int))))] ?_
  simp only [List.length_map]
  refine .if' ((↑all.length : Int) != (↑all.length : Int)) (cgo 88 [false, false, false, true] [.code B15]) (cgo 88 [false, false, false, false] [.code B15]) (fun h4 => ?_) (fun h4 => ?_)
  · simp only [bsX] at h4
    simp_all
  · simp only [bsX] at h4
    refine .sg0 5 [5, 6, 7, 11, 12, 13, 14, 121, 122] (cgo 93 [false, false, false, false] [.code B15]) [(121, .ptr 0 0 0), (122, .d (.agg [D.int IntKind.i64 dir, D.list 1 (map intD keep)]))] ?_
    refine .su [0, 1, 2, 3, 4, 5, 6, 7] (EG dir keep all other sure false) (SG dir keep (all.length : Nat) ((allOf all).length : Nat) 0 d true) ?_
    exact .goes [5, 6, 7, 11, 12, 13, 14, 121, 122] (by kernel_rfl) (by kernel_rfl) rfl hend
theorem lo15 (dir : Int) (keep : List Int) (hkl : keep.length ≤ 300) (hkv : ∀ v ∈ keep, -9223372036854775808 ≤ v ∧ v < 9223372036854775808) (l : List LOp) (hl : l.length ≤ maxLen) (hfit : ∀ o ∈ l, o.fits) : ∀ (m i : Nat) (d : Dk) (k s M : Nat) (all other : List (List UInt8)) (sure : Nat), i + m = l.length → Pre d k (allOf all) s → d.Ok M → M ≤ 5 + 70 * i → i ≤ 40 → all.length ≤ i → (∀ r ∈ all, r.length ≤ 300) → other.length ≤ 40 → (∀ r ∈ other, r.length ≤ 300) → (allOf (all.take sure)).length ≤ s → sure ≤ all.length →
    AW Try.prog 15 none 0 (cgo 66 [false, false] [Item.code B15]) (TG l i all other sure false []) (SG dir keep (all.length : Nat) ((allOf all).length : Nat) 0 d true) [] fun r _ => r = .ret (.d (.bool true)) := by
  have hl2 : l.length ≤ 9223372036854775807 := by simp only [maxLen] at hl; omega
  intro m
  induction m with
  | zero =>
    intro i d k s M all other sure him hd hk hM hi hal hr hol hor hs hsu
    have hend := en15 dir keep hkl hkv d M s all other sure false (all.length : Nat) ((allOf all).length : Nat) 0 (fun dir keep => by obtain ⟨n, h⟩ := crash_pre hd dir keep; exact .inl ⟨n, h⟩) hk (by omega) (by omega) hr hol hor hs hsu
    clear hd hk hr hor hs
    refine .sg0 5 [5, 6, 7, 8, 11, 12, 13, 14, 45, 46, 47, 48] (cgo 71 [false, false] [.code B15]) [(48, .d (.bool (decide ((↑i : Int) < (↑l.length : Int)))))] ?_
    refine .if' (decide ((↑i : Int) < (↑l.length : Int))) (cgo 72 [false, false, true] [.code B15]) (cgo 72 [false, false, false] [.code B15]) (fun h1 => ?_) (fun h1 => ?_)
    · simp only [bsX] at h1
      omega
    · simp only [bsX] at h1
      refine .sg0 5 [5, 6, 7, 8, 11, 12, 13, 14, 111] (cgo 77 [false, false, false] [.code B15]) [(111, .ptr 7 0 0)] ?_
      refine .su [0, 1, 2, 3, 4, 5, 6, 7] (mk 212 [(5, .ptr 6 0 0), (6, .d (.bool false)), (7, .ptr 0 0 0), (8, .ptr 7 0 0), (11, .d (.list 1 (all.map bsD))), (12, .d (.list 1 (other.map bsD))), (13, .d (.int .i64 (sure : Nat))), (14, .d (.bool false)), (111, .ptr 7 0 0)]) (SG dir keep (all.length : Nat) ((allOf all).length : Nat) 0 d true) ?_
      exact .goes [5, 6, 7, 8, 11, 12, 13, 14, 111] (by kernel_rfl) (by kernel_rfl) rfl (ex15 dir keep d all other sure hend)
  | succ m ih =>
    intro i d k s M all other sure him hd hk hM hi hal hr hol hor hs hsu
    have hend := en15 dir keep hkl hkv d M s all other sure false (all.length : Nat) ((allOf all).length : Nat) 0 (fun dir keep => by obtain ⟨n, h⟩ := crash_pre hd dir keep; exact .inl ⟨n, h⟩) hk (by omega) (by omega) hr hol hor hs hsu
    obtain ⟨o, hoi⟩ := get_some (l := l) (i := i) (by omega)
    have hof := hfit o (List.mem_of_getElem? hoi)
    obtain ⟨f1, f2, f3⟩ := hof
    have hmain : o.b.length ≤ 300 → i < 40 → AW Try.prog 15 none 0 (cgo 105 [false, false, true, false] [Item.code B15]) (TG l i all other sure false [(16, .ptr 8 0 0), (62, .d (.int .u64 (o.kind % 5 : Nat)))]) (SG dir keep (all.length : Nat) ((allOf all).length : Nat) 0 d true ++ [.cells [.d (.int .u64 o.kind), .d (bsD o.b), .d (.int .u64 o.n)]]) [] fun r _ => r = .ret (.d (.bool true)) := by
      intro hb h40
      have hpre : ∀ {d : Dk} {k s : Nat}, Pre d k (allOf all) s → Fin d all other s false := fun hd dir keep => by obtain ⟨n, h⟩ := crash_pre hd dir keep; exact .inl ⟨n, h⟩
      by_cases h3 : o.kind % 5 = 3
      · have k1 := Dk.syncD_ok (Dk.begun_ok hk (by omega)) logX
        refine kd3 dir keep o h3 l i h40 d k s M all other sure hd hk (by omega) (by omega) (fun g => ?_) (fun _ g => ?_)
        · exact ih (i + 1) _ k _ (M + 1) all other all.length (by omega) g k1 (by omega) (by omega) (by omega) hr hol hor (by rw [List.take_length]; exact Nat.le_refl _) (Nat.le_refl _)
        · exact en15 dir keep hkl hkv _ (M + 1) s all other sure false _ _ 5 (hpre g) k1 (by omega) (by omega) hr hol hor hs hsu
      · by_cases h4 : o.kind % 5 = 4
        · have q1 : (all.drop (o.n % (all.length + 1))).length ≤ all.length := by rw [List.length_drop]; omega
          have q2 : ∀ r ∈ all.drop (o.n % (all.length + 1)), r.length ≤ 300 := fun r h => hr r (List.mem_of_mem_drop h)
          have q3 := kd4 dir keep o (hfit o (List.mem_of_getElem? hoi)) h4 l i h40 d k s M all other sure hd hk (by omega) (by omega) hr _ rfl (Q := fun r _ => r = .ret (.d (.bool true)))
          generalize all.drop (o.n % (all.length + 1)) = rs at q1 q2 q3
          have k1 := writeR_ok (x := logX) (fs := rs.map frame) hk (by rw [List.length_map]; omega)
          rw [List.length_map] at k1
          have hB := allOf_le 300 rs q2
          refine q3 (fun j g => ?_) (fun g => ?_)
          · exact ih (i + 1) _ j _ _ rs rs rs.length (by omega) g k1 (by omega) (by omega) (by omega) q2 (by omega) q2 (by rw [List.take_length]; exact Nat.le_refl _) (Nat.le_refl _)
          · refine en15 dir keep hkl hkv _ _ s all rs sure true _ _ 5 (fun dir keep => ?_) k1 (by omega) (by omega) hr (by omega) q2 hs hsu
            rcases crash_fail g (by omega) dir keep with h | h
            · exact .inl h
            · exact .inr ⟨rfl, h⟩
        · have k1 := addL_ok (x := logX) (bs := o.b) hk (by omega)
          refine kdA dir keep o h3 h4 hb l i h40 d k s M all other sure hd hk (by omega) (by omega) hr (fun g => ?_) (fun _ g => ?_)
          · refine ih (i + 1) _ k s (M + 1) (all ++ [o.b]) other sure (by omega) g k1 (by omega) (by omega) (by simp; omega) ?_ hol hor ?_ (by simp; omega)
            · intro r h
              rw [List.mem_append, List.mem_singleton] at h
              rcases h with h | rfl
              · exact hr r h
              · exact hb
            · rw [List.take_append_of_le_length hsu]; exact hs
          · exact en15 dir keep hkl hkv _ (M + 1) s all other sure false _ _ 5 (hpre g) k1 (by omega) (by omega) hr hol hor hs hsu
    clear ih hd hk hr hor hs
    refine .sg0 5 [5, 6, 7, 8, 11, 12, 13, 14, 45, 46, 47, 48] (cgo 71 [false, false] [.code B15]) [(48, .d (.bool (decide ((↑i : Int) < (↑l.length : Int)))))] ?_
    refine .if' (decide ((↑i : Int) < (↑l.length : Int))) (cgo 72 [false, false, true] [.code B15]) (cgo 72 [false, false, false] [.code B15]) (fun h1 => ?_) (fun h1 => ?_)
    · simp only [bsX] at h1
      refine .sg0 6 [5, 6, 7, 8, 11, 12, 13, 14, 45, 46, 47, 48, 49] (cgo 78 [false, false, true] [.code B15]) [(49, .d (.int .i64 (↑i : Int)))] ?_
      refine .op' (cgo 79 [false, false, true] [.code B15]) (ixData_ok (t := 92) (x := (.tmp 45)) (i := (.tmp 47)) (k := IntKind.i64) (n := (↑i : Int)) (sz := 3) (xs := map lopD l) (d := lopD o) (by kernel_rfl) (by kernel_rfl) (by kernel_rfl) (by kernel_rfl) (by omega) (map_get hoi)) ?_
      refine .sg 11 [5, 6, 7, 8, 11, 12, 13, 14, 15, 16, 45, 46, 47, 48, 49, 50, 51, 52, 53, 54] (cgo 90 [false, false, true] [.code B15]) [(15, .d (.int .i64 (↑i : Int))), (16, .ptr 8 0 0), (51, .d (.agg [D.int IntKind.u64 (↑o.kind : Int), D.list 1 (map u8 o.b), D.int IntKind.u64 (↑o.n : Int)])), (52, .d (.int .i64 (↑i : Int))), (53, .d (.bool (decide ((↑i : Int) ≥ 40)))), (54, .d (.bool (decide ((↑i : Int) ≥ 40))))] [(8, .cells [.d (.int .u64 (↑o.kind : Int)), .d (.list 1 (map u8 o.b)), .d (.int .u64 (↑o.n : Int))])] ?_
      rcases Bool.eq_false_or_eq_true (decide ((↑i : Int) ≥ 40)) with h2 | h2
      · rw [h2]
        simp only [bsX] at h2
        refine .sg0 12 [5, 6, 7, 8, 11, 12, 13, 14, 111] (cgo 102 [false, false, true, true] [.code B15]) [(111, .ptr 7 0 0)] ?_
        refine .su [0, 1, 2, 3, 4, 5, 6, 7] (mk 212 [(5, .ptr 6 0 0), (6, .d (.bool false)), (7, .ptr 0 0 0), (8, .ptr 7 0 0), (11, .d (.list 1 (all.map bsD))), (12, .d (.list 1 (other.map bsD))), (13, .d (.int .i64 (sure : Nat))), (14, .d (.bool false)), (111, .ptr 7 0 0)]) (SG dir keep (all.length : Nat) ((allOf all).length : Nat) 0 d true) ?_
        exact .goes [5, 6, 7, 8, 11, 12, 13, 14, 111] (by kernel_rfl) (by kernel_rfl) rfl (ex15 dir keep d all other sure hend)
      · rw [h2]
        simp only [bsX] at h2
        refine .sg0 6 [5, 6, 7, 8, 11, 12, 13, 14, 15, 16, 45, 46, 47, 48, 49, 50, 51, 52, 53, 54, 55, 56, 57, 58, 59] (cgo 96 [false, false, true] [.code B15]) [(55, .ptr 8 0 1), (56, .d (.list 1 (map u8 o.b))), (57, .d (.int .i64 (↑(map u8 o.b).length : Int))), (58, .d (.bool (decide ((↑(map u8 o.b).length : Int) > 300)))), (59, .d (.bool (decide ((↑(map u8 o.b).length : Int) > 300))))] ?_
        simp only [List.length_map]
        refine .if' (decide ((↑o.b.length : Int) > 300)) (cgo 97 [false, false, true, true] [.code B15]) (cgo 97 [false, false, true, false] [.code B15]) (fun h4 => ?_) (fun h4 => ?_)
        · simp only [bsX] at h4
          refine .sg0 5 [5, 6, 7, 8, 11, 12, 13, 14, 111] (cgo 102 [false, false, true, true] [.code B15]) [(111, .ptr 7 0 0)] ?_
          refine .su [0, 1, 2, 3, 4, 5, 6, 7] (mk 212 [(5, .ptr 6 0 0), (6, .d (.bool false)), (7, .ptr 0 0 0), (8, .ptr 7 0 0), (11, .d (.list 1 (all.map bsD))), (12, .d (.list 1 (other.map bsD))), (13, .d (.int .i64 (sure : Nat))), (14, .d (.bool false)), (111, .ptr 7 0 0)]) (SG dir keep (all.length : Nat) ((allOf all).length : Nat) 0 d true) ?_
          exact .goes [5, 6, 7, 8, 11, 12, 13, 14, 111] (by kernel_rfl) (by kernel_rfl) rfl (ex15 dir keep d all other sure hend)
        · simp only [bsX] at h4
          refine .sg0 8 [5, 6, 7, 8, 11, 12, 13, 14, 15, 16, 45, 46, 47, 48, 49, 50, 51, 52, 53, 54, 55, 56, 57, 58, 59, 60, 61, 62] (cgo 105 [false, false, true, false] [.code B15]) [(60, .ptr 8 0 0), (61, .d (.int .u64 (↑o.kind : Int))), (62, .d (.int .u64 ((↑o.kind : Int).tmod 5)))] ?_
          simp (disch := omega) only [wrap_i64, wrap_u64s, wrap_u32s, wrap_u8s, wrap_i32s, iadd_i64, isub_i64, irem_n, iquo_n, tdiv_nn, tmod_nn]
          have hmain := hmain (by omega) (by omega)
          refine .kp [5, 6, 7, 8, 11, 12, 13, 14, 16, 45, 46, 47, 62] ?_
          refine .su [0, 1, 2, 3, 4, 5, 6, 7, 8] (TG l i all other sure false [(16, .ptr 8 0 0), (62, .d (.int .u64 (o.kind % 5 : Nat)))]) (SG dir keep (all.length : Nat) ((allOf all).length : Nat) 0 d true ++ [.cells [.d (.int .u64 o.kind), .d (bsD o.b), .d (.int .u64 o.n)]]) ?_
          exact hmain
    · simp only [bsX] at h1
      omega
theorem sj15 (d : Dk) (k : Nat) (hd : Pre d k [] 0) (hon : d.On) (hk : d.Ok 5) (l : List LOp) (stop dir : Int) (keep : List Int) (hl : l.length ≤ maxLen) (hs0 : -9223372036854775808 ≤ stop) (hs1 : stop < 9223372036854775808) (hkl : keep.length ≤ 300) (hfit : ∀ o ∈ l, o.fits) (hkv : ∀ v ∈ keep, -9223372036854775808 ≤ v ∧ v < 9223372036854775808) :
    AW Try.prog 15 none 0 (cgo 24 [false] [Item.code B15]) (mk 212 [(0, .d (.list 3 (l.map lopD))), (1, .d (.int .i64 stop)), (5, .ptr 6 0 0), (6, .d (.bool false)), (7, .ptr 0 0 0), (35, .tuple [.ptr 7 0 0, .d (.list 1 []), .d (.int .i64 0)])]) (SG dir keep 0 0 0 d true) [] fun r _ => r = .ret (.d (.bool true)) := by
  refine .sg0 31 [0, 1, 5, 6, 7, 8, 11, 12, 13, 14, 41, 42, 43] (cgo 55 [false, false] [.code B15]) [(8, .ptr 7 0 0), (11, .nils), (12, .nils), (13, .d (.int .i64 0)), (14, .d (.bool false)), (41, .ptr 0 0 0), (42, .d (.int .i64 stop)), (43, .d (.int .i64 (if 0 > stop then 0 else stop)))] ?_
  refine .ca [0, 1, 2, 3, 4, 5] (cgo 56 [false, false] [.code B15]) F40 (@spec_40 (d) (if 0 > stop then 0 else stop)) ?_
  rintro r0 s0 ⟨rfl, rfl⟩
  refine ⟨_, rfl, ?_⟩
  refine .sg0 9 [5, 6, 7, 8, 11, 12, 13, 14, 45, 46, 47] (cgo 65 [false, false] [.code B15]) [(45, .d (.list 3 (map lopD l))), (46, .d (.int .i64 (↑(map lopD l).length : Int))), (47, .d (.int .i64 0))] ?_
  simp only [List.length_map]
  refine .coerce [0, 0, 0, 0, 0, 0, 0, 0, 0, 0, 0, 26, 26] ?_
  have hd' : ∀ x y : Int, Pre { d with stop := x, calls := y } k [] 0 := fun x y => ⟨hd.nk, hd.nv, hd.sk, hd.sv, hd.ch, hd.fk, hd.sl, hd.q⟩
  exact .seg 1 [5, 6, 7, 8, 11, 12, 13, 14, 45, 46, 47] (by kernel_rfl) (lo15 dir keep hkl hkv l hl hfit l.length 0 { d with stop := if -1 > (if 0 > stop then 0 else stop) then -1 else (if 0 > stop then 0 else stop) } k 0 5 [] [] 0 (by omega) (hd' _ _) (Dk.stop_ok hk _ (by split <;> omega)) (by omega) (by omega) (by simp) (by simp) (by simp) (by simp) (by simp [allOf]) (by simp))
theorem st15 (d : Dk) (hd : d = Dk.new 1048576) (l : List LOp) (stop dir : Int) (keep : List Int) (hl : l.length ≤ maxLen) (hs0 : -9223372036854775808 ≤ stop) (hs1 : stop < 9223372036854775808) (hkl : keep.length ≤ 300) (hfit : ∀ o ∈ l, o.fits) (hkv : ∀ v ∈ keep, -9223372036854775808 ≤ v ∧ v < 9223372036854775808) :
    AW Try.prog 15 none 0 (cgo 23 [false] [Item.code B15]) (mk 212 [(0, .d (.list 3 (l.map lopD))), (1, .d (.int .i64 stop)), (5, .ptr 6 0 0), (6, .d (.bool false)), (7, .ptr 0 0 0), (34, .ptr 0 0 0)]) (SD d true ++ [.cells [.d (.int .i64 dir), .d (.list 1 (keep.map intD))]]) [] fun r _ => r = .ret (.d (.bool true)) := by
  have k1 : d.Ok 0 := hd ▸ Dk.new_ok (by omega)
  have k2 : d.off = false := by rw [hd]; rfl
  have k3 : look d.nk d.nv logX = none := by rw [hd]; simp [look, Dk.new]
  have k4 : makeE d logX = 0 := by rw [hd]; exact new_e _
  have g2 : mayName (logX ++ tmpX) = true := by rw [logX_tmp]; exact may_tmp
  have g3 : logX.size < 1000 := by decide
  have k5 : (makeL d logX).Ok 5 := by
    have h1 := Dk.createD_ok (Dk.begun_ok k1 (by omega)) (by omega) logX
    have h2 := Dk.syncDirD_ok (Dk.begun_ok h1 (by omega))
    unfold makeL
    split
    · exact h1.mono (by omega) (by omega)
    · exact h2.mono (by omega) (by omega)
  have k6 : Pre (makeL d logX) 0 [] 0 ∧ (makeL d logX).On := by
    rw [hd, new_lone]
    exact ⟨⟨rfl, rfl, rfl, rfl, rfl, rfl, Nat.le_refl _, rfl⟩, ⟨rfl, rfl⟩⟩
  refine .ca [0, 1, 2, 3, 4, 5] (cgo 24 [false] [.code B15]) F51 (spec_51 d 0 k1 (by omega) logX g3 may_log g2 k2 k3 k4) ?_
  rintro r0 s0 ⟨rfl, rfl⟩
  refine ⟨_, rfl, ?_⟩
  refine .kp [0, 1, 5, 6, 7, 35] ?_
  exact .su [0, 1, 2, 3, 4, 5, 6, 7] _ (SG dir keep 0 0 0 (makeL d logX) true) (sj15 _ 0 k6.1 k6.2 k5 l stop dir keep hl hs0 hs1 hkl hfit hkv)
theorem spec_15 (l : List LOp) (stop dir : Int) (keep : List Int) (hl : l.length ≤ maxLen) (hs0 : -9223372036854775808 ≤ stop) (hs1 : stop < 9223372036854775808) (hfit : ∀ o ∈ l, o.fits) (hkv : ∀ v ∈ keep, -9223372036854775808 ≤ v ∧ v < 9223372036854775808) : Br.Pure Try.prog 15 [.d (.list 3 (l.map lopD)), .d (.int .i64 stop), .d (.agg [.int .i64 dir, .list 1 (keep.map intD)])] (.d (.bool true)) := by
  refine CallsA.pure ?_ rfl
  refine CallsA.start F15 (tm := mk (Try.f15.ntmps) [(0, .d (.list 3 (l.map lopD))), (1, .d (.int .i64 stop)), (2, .d (.agg [.int .i64 dir, .list 1 (keep.map intD)]))]) (by kernel_rfl) ?_
  refine .sg 13 [0, 1, 5, 6, 30] (cgo 13 [] [.code B15]) [(5, .ptr 0 0 0), (6, .d (.bool false)), (30, .d (.bool (decide ((↑(map intD keep).length : Int) > 300))))] [(0, .cells [.d (.int .i64 dir), .d (.list 1 (map intD keep))])] ?_
  simp only [List.length_map]
  refine .if' (decide ((↑keep.length : Int) > 300)) (cgo 14 [true] [.code B15]) (cgo 14 [false] [.code B15]) (fun h1 => ?_) (fun h1 => ?_)
  · simp only [bsX] at h1
    refine .sg0 2 [0, 1, 5, 6] (cgo 16 [true] [.code B15]) [] ?_
    refine .semH (o := (opOf (cgo 16 [true] [Item.code B15])).getD default) (v := .d (.bool true)) (by kernel_rfl) (by kernel_rfl) (T' := cgo 17 [true] [Item.code B15]) (by kernel_rfl) (fun kz => sem_data0 (x := (.func 21)) (args := #[]) (ts := #[]) (first := []) (cap := []) (ds := []) (v := .d (.bool true)) F21 (@spec_21) (by kernel_rfl) (by kernel_rfl) (by kernel_rfl) (by kernel_rfl) (by kernel_rfl) (by kernel_rfl) _) ?_
    refine .sg0 1 [0, 1, 5, 6, 31] (cgo 18 [true] [.code B15]) [(6, .d (.bool true))] ?_
    refine .sg0 1 [0, 1, 5, 6] (cgo 19 [true] [.code B15]) [] ?_
    refine .kp [6] ?_
    refine .su [] (mk 212 [(6, .d (.bool true))]) [] ?_
    refine .retH F15 (v := V.d (D.bool true)) (by kernel_rfl) (by kernel_rfl) ?_
    exact rfl
  · simp only [bsX] at h1
    refine .sg0 3 [0, 1, 5, 6] (cgo 17 [false] [.code B15]) [] ?_
    refine .ca [] (cgo 18 [false] [.code B15]) F25 (@spec_25 (1048576)) ?_
    rintro r1 s1 ⟨rfl, rfl⟩
    refine ⟨_, rfl, ?_⟩
    refine .sg0 5 [0, 1, 5, 6, 7, 34] (cgo 23 [false] [.code B15]) [(7, .ptr 1 0 0), (34, .ptr 1 0 0)] ?_
    exact .su [1, 2, 3, 4, 5, 6, 0] _ (SD (Dk.new 1048576) true ++ [.cells [.d (.int .i64 dir), .d (.list 1 (keep.map intD))]]) (st15 _ rfl l stop dir keep hl hs0 hs1 (by omega) hfit hkv)
end Go.Proofs.Ytoelkgbeefoplaa
