/- Texts of this proof, part 4: DiskF, CloneA, EachA, CopyA, CheckA, UsedA, TurnK, OpsA, OpsB, OpsC, CopyB, OpsD, TurnB, TurnD, TurnC, WalA, WalB, WalC, WalF, WalN. -/
import Derived.Test.YtoelkgbeefoplaaM3
set_option linter.unusedSimpArgs false
set_option linter.unusedVariables false
set_option linter.constructorNameAsVariable false
namespace Go.Proofs.Ytoelkgbeefoplaa
open Go Go.Br Go.Proofs
theorem emptyStr (g : ByteArray) : g.toList = (ByteArray.mk #[]).toList ↔ g.size = 0 := by
  rw [Go.ByteArray.toList_eq, Go.ByteArray.toList_eq]
  cases g with
  | mk a =>
    have h : (ByteArray.mk a).size = a.size := rfl
    rw [h]
    cases hd : a.toList with
    | nil => have : a.size = 0 := by rw [← Array.length_toList, hd]; rfl
             simp [this]
    | cons x l => have : a.size ≠ 0 := by rw [← Array.length_toList, hd]; simp
                  simp [this]
noncomputable def B71 : Code := (Try.f71.body).getD .skip
theorem F71 : Fnc Try.prog 71 Try.f71 B71 := ⟨Try.func71, by kernel_rfl, by kernel_rfl⟩
theorem spec_71 (ks : List ByteArray) (V2 : List Int) (g n : ByteArray) (k : Int) (hr : Rising ks) (hl : ks.length < 999990) (hv : V2.length = ks.length) :
    CallsA Try.prog 71 [.ptr 0 0 0, .d (.agg [.str g, .str n, .int .i64 k])] [.cells [.row 1, .row 2], .row 1 (ks.map strD) false, .row 1 (V2.map intD) false] fun r σ' => r = .ret (.tuple []) ∧ σ' = [.cells [.row 1, .row 2], .row 1 ((kapply ks V2 g n k).1.map strD) true, .row 1 ((kapply ks V2 g n k).2.map intD) true] := by
  refine CallsA.start F71 (tm := mk (Try.f71.ntmps) [(0, .ptr 0 0 0), (1, .d (.agg [.str g, .str n, .int .i64 k]))]) (by kernel_rfl) ?_
  have e1 := emptyStr g
  have e2 := emptyStr n
  have d1 := @kdrop_rising ks V2 g hr
  have d2 := @kdrop_len ks V2 g hv
  have d3 := @kdrop_le ks V2 g
  refine .sg 11 [0, 3, 6] (cgo 11 [] [.code B71]) [(3, .ptr 3 0 0), (6, .d (.bool !g.toList == (ByteArray.mk #[]).toList))] [(3, .cells [.d (.str g), .d (.str n), .d (.int .i64 k)])] ?_
  refine .if' (!g.toList == (ByteArray.mk #[]).toList) (cgo 12 [true] [.code B71]) (cgo 12 [false] [.code B71]) (fun h1 => ?_) (fun h1 => ?_)
  · simp only [bsX] at h1
    refine .sg0 4 [0, 3, 7, 8, 9] (cgo 16 [true] [.code B71]) [(7, .ptr 0 0 0), (8, .ptr 3 0 0), (9, .d (.str g))] ?_
    refine .ca [0, 1, 2] (cgo 17 [true] [.code B71]) F96 (@spec_96 (ks) (g) (V2) (by assumption) (by omega) (by assumption)) ?_
    rintro r1 s1 ⟨rfl, rfl⟩
    refine ⟨_, rfl, ?_⟩
    refine .sg0 7 [0, 3, 13] (cgo 24 [true] [.code B71]) [(13, .d (.bool !n.toList == (ByteArray.mk #[]).toList))] ?_
    refine .if' (!n.toList == (ByteArray.mk #[]).toList) (cgo 25 [true, true] [.code B71]) (cgo 25 [true, false] [.code B71]) (fun h3 => ?_) (fun h3 => ?_)
    · simp only [bsX] at h3
      refine .sg0 6 [0, 3, 14, 15, 16, 17, 18] (cgo 31 [true, true] [.code B71]) [(14, .ptr 0 0 0), (15, .ptr 3 0 1), (16, .d (.str n)), (17, .ptr 3 0 2), (18, .d (.int .i64 k))] ?_
      refine .ca [0, 1, 2] (cgo 32 [true, true] [.code B71]) F76 (@spec_76 ((kdrop ks V2 g).fst) (n) ((kdrop ks V2 g).snd) (k) (by assumption) (by omega) (by assumption)) ?_
      rintro r3 s3 ⟨rfl, rfl⟩
      refine ⟨_, rfl, ?_⟩
      refine .sg0 1 [] (cgo 33 [true, true] [.code B71]) [] ?_
      refine .kp [] ?_
      refine .su [0, 1, 2] (mk 20 []) [O.cells [V.row 1, V.row 2], O.row 1 (List.map strD (kput (kdrop ks V2 g).fst (kdrop ks V2 g).snd n k).fst) true, O.row 1 (List.map intD (kput (kdrop ks V2 g).fst (kdrop ks V2 g).snd n k).snd) true] ?_
      refine .retH F71 (v := V.tuple []) (by kernel_rfl) (by kernel_rfl) ?_
      simp_all [kapply]
    · simp only [bsX] at h3
      refine .sg0 1 [] (cgo 26 [true, false] [.code B71]) [] ?_
      refine .kp [] ?_
      refine .su [0, 1, 2] (mk 20 []) [O.cells [V.row 1, V.row 2], O.row 1 (List.map strD (kdrop ks V2 g).fst) true, O.row 1 (List.map intD (kdrop ks V2 g).snd) true] ?_
      refine .retH F71 (v := V.tuple []) (by kernel_rfl) (by kernel_rfl) ?_
      simp_all [kapply]
  · simp only [bsX] at h1
    refine .sg0 7 [0, 3, 13] (cgo 19 [false] [.code B71]) [(13, .d (.bool !n.toList == (ByteArray.mk #[]).toList))] ?_
    refine .if' (!n.toList == (ByteArray.mk #[]).toList) (cgo 20 [false, true] [.code B71]) (cgo 20 [false, false] [.code B71]) (fun h5 => ?_) (fun h5 => ?_)
    · simp only [bsX] at h5
      refine .sg0 6 [0, 3, 14, 15, 16, 17, 18] (cgo 26 [false, true] [.code B71]) [(14, .ptr 0 0 0), (15, .ptr 3 0 1), (16, .d (.str n)), (17, .ptr 3 0 2), (18, .d (.int .i64 k))] ?_
      refine .ca [0, 1, 2] (cgo 27 [false, true] [.code B71]) F76 (@spec_76 (ks) (n) (V2) (k) (by assumption) (by omega) (by assumption)) ?_
      rintro r5 s5 ⟨rfl, rfl⟩
      refine ⟨_, rfl, ?_⟩
      refine .sg0 1 [] (cgo 28 [false, true] [.code B71]) [] ?_
      refine .kp [] ?_
      refine .su [0, 1, 2] (mk 20 []) [O.cells [V.row 1, V.row 2], O.row 1 (List.map strD (kput ks V2 n k).fst) true, O.row 1 (List.map intD (kput ks V2 n k).snd) true] ?_
      refine .retH F71 (v := V.tuple []) (by kernel_rfl) (by kernel_rfl) ?_
      simp_all [kapply]
    · simp only [bsX] at h5
      refine .sg0 1 [] (cgo 21 [false, false] [.code B71]) [] ?_
      refine .raises [1, 2] ?_
      refine .kp [] ?_
      refine .su [0, 1, 2] (mk 20 []) [O.cells [V.row 1, V.row 2], O.row 1 (List.map strD ks) true, O.row 1 (List.map intD V2) true] ?_
      refine .retH F71 (v := V.tuple []) (by kernel_rfl) (by kernel_rfl) ?_
      simp_all [kapply]
end Go.Proofs.Ytoelkgbeefoplaa
namespace Go.Proofs.Ytoelkgbeefoplaa
open Go Go.Br Go.Proofs
noncomputable def B110 : Code := (Try.f110.body).getD .skip
theorem F110 : Fnc Try.prog 110 Try.f110 B110 := ⟨Try.func110, by kernel_rfl, by kernel_rfl⟩
theorem spec_110b (xs : List D) (off n : Nat) (c : Option Nat) (hn : off + n ≤ xs.length) (hlen : xs.length ≤ 1000000) : CallsA Try.prog 110 [.sl 0 off n c] [.row 1 xs false] fun r σ' => r = .ret (.d (.list 1 ((xs.drop off).take n))) ∧ σ' = [.row 1 xs false] := by
  refine CallsA.start F110 (tm := (mk 8 [(0, .sl 0 off n c)])) (by kernel_rfl) ?_
  refine .seg 8 [0, 3] (T' := cgo 8 [] [.code B110]) (tm' := mk 8 [(0, .sl 0 off n c), (3, .sl 0 off n c)]) (σ' := [.row 1 xs false]) (by kernel_rfl) ?_
  refine .anyH (o := (opOf (cgo 8 [] [.code B110])).getD default) (by kernel_rfl) (by kernel_rfl) (by kernel_rfl) (T' := (cgo 9 [] [.code B110])) (by kernel_rfl) (nilEqC_ok (x := .tmp 3) (y := .const (.slice none 0 0)) (t := 66) (ty := 66) (sz := 1) (xs := (xs.drop off).take n) (neg := false) (by kernel_rfl) (by kernel_rfl) (by kernel_rfl) (by kernel_rfl) (by kernel_rfl)) ?_
  rintro v ⟨b, rfl, hb⟩
  cases b with
  | true =>
    have h0 : (xs.drop off).take n = [] := hb rfl
    refine .seg 6 [2] (T' := cgo 15 [true] [.code B110]) (tm' := mk 8 [(2, .nils)]) (σ' := [.row 1 xs false]) (by kernel_rfl) ?_
    refine .coerce [66, 66, 66] ?_
    exact .retH (v := .d (.list 1 [])) F110 (by kernel_rfl) (by kernel_rfl) ⟨by rw [h0], rfl⟩
  | false =>
    refine .seg 5 [0] (T' := cgo 14 [false] [.code B110]) (tm' := mk 8 [(0, .sl 0 off n c)]) (σ' := [.row 1 xs false]) (by kernel_rfl) ?_
    refine .opH (o := (opOf (cgo 14 [false] [.code B110])).getD default) (by kernel_rfl) (by kernel_rfl) (by kernel_rfl) (T' := cgo 15 [false] [.code B110]) (by kernel_rfl) (build0_ok (t := 66) (e := 9) (sz := 1) (sz' := 1) (by kernel_rfl) (by kernel_rfl) (by kernel_rfl)) ?_
    refine .seg 1 [5, 6] (T' := cgo 16 [false] [.code B110]) (tm' := mk 8 [(5, .ex 1 []), (6, .sl 0 off n c)]) (σ' := [.row 1 xs false]) (by kernel_rfl) ?_
    generalize hys : (xs.drop off).take n = ys
    have hl : ys.length ≤ 1000000 := by rw [← hys]; simp; omega
    have hc : cont [.row 1 xs false] (.sl 0 off n c) = some (1, ys) := by rw [← hys]; rfl
    cases ys with
    | nil =>
      refine .opH (o := (opOf (cgo 16 [false] [.code B110])).getD default) (by kernel_rfl) (by kernel_rfl) (by kernel_rfl) (T' := cgo 17 [false] [.code B110]) (by kernel_rfl) (appNone_ok (s := .tmp 5) (x := .tmp 6) (t := 66) (t2 := 66) (sz := 1) (by' := 16) (xs := []) (by kernel_rfl) (by kernel_rfl) hc (by kernel_rfl) (by kernel_rfl)) ?_
      refine .seg 2 [2] (T' := cgo 19 [false] [.code B110]) (tm' := mk 8 [(2, .ex 1 [])]) (σ' := [.row 1 xs false]) (by kernel_rfl) ?_
      refine .coerce [66, 66, 66] ?_
      exact .retH (v := .d (.list 1 [])) F110 (by kernel_rfl) (by kernel_rfl) ⟨rfl, rfl⟩
    | cons b bs =>
      refine .opH (o := (opOf (cgo 16 [false] [.code B110])).getD default) (by kernel_rfl) (by kernel_rfl) (by kernel_rfl) (T' := cgo 17 [false] [.code B110]) (by kernel_rfl) (appEx_ok (s := .tmp 5) (x := .tmp 6) (t := 66) (t2 := 66) (sz := 1) (by' := 16) (xs := []) (ys := b :: bs) (by kernel_rfl) (by kernel_rfl) hc (by kernel_rfl) (by kernel_rfl) (by simp) (by simp at hl ⊢; omega) (by simp [maxLen] at hl ⊢; omega)) ?_
      refine .seg 2 [2] (T' := cgo 19 [false] [.code B110]) (tm' := mk 8 [(2, .row 1)]) (σ' := [.row 1 xs false, .row 1 (b :: bs) false]) (by kernel_rfl) ?_
      refine .freeze 1 (sz := 1) (xs := b :: bs) (mv := false) rfl ?_
      refine .sub [0] ((mk 8 [(2, .d (.list 1 (b :: bs)))])) [.row 1 xs false] none [] ⟨rfl, rfl, rfl⟩ rfl ⟨by simp, rfl⟩ rfl ⟨rfl, rfl⟩ ⟨rfl, rfl⟩ ?_
      exact .retH F110 (by kernel_rfl) (by kernel_rfl) (⟨rfl, rfl⟩)
noncomputable def B111 : Code := (Try.f111.body).getD .skip
theorem F111 : Fnc Try.prog 111 Try.f111 B111 := ⟨Try.func111, by kernel_rfl, by kernel_rfl⟩
theorem spec_111b (xs : List D) (off n : Nat) (c : Option Nat) (hn : off + n ≤ xs.length) (hlen : xs.length ≤ 1000000) : CallsA Try.prog 111 [.sl 0 off n c] [.row 1 xs false] fun r σ' => r = .ret (.d (.list 1 ((xs.drop off).take n))) ∧ σ' = [.row 1 xs false] := by
  refine CallsA.start F111 (tm := (mk 8 [(0, .sl 0 off n c)])) (by kernel_rfl) ?_
  refine .seg 8 [0, 3] (T' := cgo 8 [] [.code B111]) (tm' := mk 8 [(0, .sl 0 off n c), (3, .sl 0 off n c)]) (σ' := [.row 1 xs false]) (by kernel_rfl) ?_
  refine .anyH (o := (opOf (cgo 8 [] [.code B111])).getD default) (by kernel_rfl) (by kernel_rfl) (by kernel_rfl) (T' := (cgo 9 [] [.code B111])) (by kernel_rfl) (nilEqC_ok (x := .tmp 3) (y := .const (.slice none 0 0)) (t := 46) (ty := 46) (sz := 1) (xs := (xs.drop off).take n) (neg := false) (by kernel_rfl) (by kernel_rfl) (by kernel_rfl) (by kernel_rfl) (by kernel_rfl)) ?_
  rintro v ⟨b, rfl, hb⟩
  cases b with
  | true =>
    have h0 : (xs.drop off).take n = [] := hb rfl
    refine .seg 6 [2] (T' := cgo 15 [true] [.code B111]) (tm' := mk 8 [(2, .nils)]) (σ' := [.row 1 xs false]) (by kernel_rfl) ?_
    refine .coerce [46, 46, 46] ?_
    exact .retH (v := .d (.list 1 [])) F111 (by kernel_rfl) (by kernel_rfl) ⟨by rw [h0], rfl⟩
  | false =>
    refine .seg 5 [0] (T' := cgo 14 [false] [.code B111]) (tm' := mk 8 [(0, .sl 0 off n c)]) (σ' := [.row 1 xs false]) (by kernel_rfl) ?_
    refine .opH (o := (opOf (cgo 14 [false] [.code B111])).getD default) (by kernel_rfl) (by kernel_rfl) (by kernel_rfl) (T' := cgo 15 [false] [.code B111]) (by kernel_rfl) (build0_ok (t := 46) (e := 3) (sz := 1) (sz' := 1) (by kernel_rfl) (by kernel_rfl) (by kernel_rfl)) ?_
    refine .seg 1 [5, 6] (T' := cgo 16 [false] [.code B111]) (tm' := mk 8 [(5, .ex 1 []), (6, .sl 0 off n c)]) (σ' := [.row 1 xs false]) (by kernel_rfl) ?_
    generalize hys : (xs.drop off).take n = ys
    have hl : ys.length ≤ 1000000 := by rw [← hys]; simp; omega
    have hc : cont [.row 1 xs false] (.sl 0 off n c) = some (1, ys) := by rw [← hys]; rfl
    cases ys with
    | nil =>
      refine .opH (o := (opOf (cgo 16 [false] [.code B111])).getD default) (by kernel_rfl) (by kernel_rfl) (by kernel_rfl) (T' := cgo 17 [false] [.code B111]) (by kernel_rfl) (appNone_ok (s := .tmp 5) (x := .tmp 6) (t := 46) (t2 := 46) (sz := 1) (by' := 8) (xs := []) (by kernel_rfl) (by kernel_rfl) hc (by kernel_rfl) (by kernel_rfl)) ?_
      refine .seg 2 [2] (T' := cgo 19 [false] [.code B111]) (tm' := mk 8 [(2, .ex 1 [])]) (σ' := [.row 1 xs false]) (by kernel_rfl) ?_
      refine .coerce [46, 46, 46] ?_
      exact .retH (v := .d (.list 1 [])) F111 (by kernel_rfl) (by kernel_rfl) ⟨rfl, rfl⟩
    | cons b bs =>
      refine .opH (o := (opOf (cgo 16 [false] [.code B111])).getD default) (by kernel_rfl) (by kernel_rfl) (by kernel_rfl) (T' := cgo 17 [false] [.code B111]) (by kernel_rfl) (appEx_ok (s := .tmp 5) (x := .tmp 6) (t := 46) (t2 := 46) (sz := 1) (by' := 8) (xs := []) (ys := b :: bs) (by kernel_rfl) (by kernel_rfl) hc (by kernel_rfl) (by kernel_rfl) (by simp) (by simp at hl ⊢; omega) (by simp [maxLen] at hl ⊢; omega)) ?_
      refine .seg 2 [2] (T' := cgo 19 [false] [.code B111]) (tm' := mk 8 [(2, .row 1)]) (σ' := [.row 1 xs false, .row 1 (b :: bs) false]) (by kernel_rfl) ?_
      refine .freeze 1 (sz := 1) (xs := b :: bs) (mv := false) rfl ?_
      refine .sub [0] ((mk 8 [(2, .d (.list 1 (b :: bs)))])) [.row 1 xs false] none [] ⟨rfl, rfl, rfl⟩ rfl ⟨by simp, rfl⟩ rfl ⟨rfl, rfl⟩ ⟨rfl, rfl⟩ ?_
      exact .retH F111 (by kernel_rfl) (by kernel_rfl) (⟨rfl, rfl⟩)
end Go.Proofs.Ytoelkgbeefoplaa
namespace Go.Proofs.Ytoelkgbeefoplaa
open Go Go.Br Go.Proofs
noncomputable def B72 : Code := (Try.f72.body).getD .skip
theorem F72 : Fnc Try.prog 72 Try.f72 B72 := ⟨Try.func72, by kernel_rfl, by kernel_rfl⟩
noncomputable def B97 : Code := (Try.f97.body).getD .skip
theorem F97 : Fnc Try.prog 97 Try.f97 B97 := ⟨Try.func97, by kernel_rfl, by kernel_rfl⟩
noncomputable def B98 : Code := (Try.f98.body).getD .skip
theorem F98 : Fnc Try.prog 98 Try.f98 B98 := ⟨Try.func98, by kernel_rfl, by kernel_rfl⟩
noncomputable def B109 : Code := (Try.f109.body).getD .skip
theorem F109 : Fnc Try.prog 109 Try.f109 B109 := ⟨Try.func109, by kernel_rfl, by kernel_rfl⟩
theorem spec_98 : Br.Pure Try.prog 98 [] (.d (.int .i64 0)) := by
  refine CallsA.start F98 (tm := mk (Try.f98.ntmps) []) (by kernel_rfl) ?_
  refine .seg 8 [0] (T' := cgo 8 [] [.code B98]) (tm' := mk 1 [(0, .d (.int .i64 0))]) (σ' := []) (by kernel_rfl) ?_
  refine .retH F98 (v := V.d (D.int IntKind.i64 0)) (by kernel_rfl) (by kernel_rfl) ?_
  exact ⟨rfl, rfl⟩
theorem spec_97 (ks V2 : List D) : CallsA Try.prog 97 [.ptr 0 0 0, .fn (.func 98) [] []] [.cells [.row 1, .row 2], .row 1 ks false, .row 1 V2 false] fun r σ' => r = .ret (.fn (.func 109) [] [.ptr 3 0 0, .ptr 4 0 0]) ∧ σ' = [.cells [.row 1, .row 2], .row 1 ks false, .row 1 V2 false, .cells [.ptr 0 0 0], .cells [.fn (.func 98) [] []]] := by
  refine CallsA.start F97 (tm := mk (Try.f97.ntmps) [(0, .ptr 0 0 0), (1, .fn (.func 98) [] [])]) (by kernel_rfl) ?_
  refine .seg 11 [4] (T' := cgo 11 [] [.code B97]) (tm' := mk 6 [(4, .fn (Fn.func 109) [] [.ptr 3 0 0, .ptr 4 0 0])]) (σ' := [.cells [.row 1, .row 2], .row 1 ks false, .row 1 V2 false, .cells [.ptr 0 0 0], .cells [.fn (Fn.func 98) [] []]]) (by kernel_rfl) ?_
  refine .retH F97 (v := V.fn (Fn.func 109) [] [V.ptr 3 0 0, V.ptr 4 0 0]) (by kernel_rfl) (by kernel_rfl) ?_
  exact ⟨rfl, rfl⟩
theorem spec_72 (ks V2 : List D) : CallsA Try.prog 72 [.ptr 0 0 0] [.cells [.row 1, .row 2], .row 1 ks false, .row 1 V2 false] fun r σ' => r = .ret (.fn (.func 109) [] [.ptr 3 0 0, .ptr 4 0 0]) ∧ σ' = [.cells [.row 1, .row 2], .row 1 ks false, .row 1 V2 false, .cells [.ptr 0 0 0], .cells [.fn (.func 98) [] []]] := by
  refine CallsA.start F72 (tm := mk (Try.f72.ntmps) [(0, .ptr 0 0 0)]) (by kernel_rfl) ?_
  refine .sg0 7 [0, 2, 3] (cgo 7 [] [.code B72]) [(2, .d (.raw Value.nilFunc)), (3, .ptr 0 0 0)] ?_
  refine .ca [0, 1, 2] (cgo 8 [] [.code B72]) F97 (@spec_97 (ks) (V2)) ?_
  rintro r0 s0 ⟨rfl, rfl⟩
  refine ⟨_, rfl, ?_⟩
  refine .seg 2 [2] (T' := cgo 10 [] [.code B72]) (tm' := mk 5 [(2, .fn (Fn.func 109) [] [.ptr 3 0 0, .ptr 4 0 0])]) (σ' := [.cells [.row 1, .row 2], .row 1 ks false, .row 1 V2 false, .cells [.ptr 0 0 0], .cells [.fn (Fn.func 98) [] []]]) (by kernel_rfl) ?_
  refine .retH F72 (v := V.fn (Fn.func 109) [] [V.ptr 3 0 0, V.ptr 4 0 0]) (by kernel_rfl) (by kernel_rfl) ?_
  exact ⟨rfl, rfl⟩
end Go.Proofs.Ytoelkgbeefoplaa
namespace Go.Proofs.Ytoelkgbeefoplaa
open Go Go.Br Go.Proofs
noncomputable def B69 : Code := (Try.f69.body).getD .skip
theorem F69 : Fnc Try.prog 69 Try.f69 B69 := ⟨Try.func69, by kernel_rfl, by kernel_rfl⟩
noncomputable def R69 : List Item := [.code (rfAs (cgo 18 [] [Item.code B69])), .beginRound, .code (rfBd (cgo 18 [] [Item.code B69]))]
noncomputable def S69 (ks : List ByteArray) (V2 : List Int) (i : Nat) (st : LoopState) : Store :=
  [.cells [.row 1, .row 2], .row 1 (ks.map strD) false, .row 1 (V2.map intD) false, .cells [.row 7, .row 8], .cells [.ptr 3 0 0], .cells [.ptr 0 0 0], .cells [.fn (.func 98) [] []], .row 1 ((ks.take i).map strD) true, .row 1 ((V2.take i).map intD) true, .defd,
    lp (cgo 18 [] [Item.code B69]) 69 (mk 17 [(2, V.d (D.raw (Value.pointer none))), (3, V.ptr 4 0 0), (9, V.fn (Fn.func 109) [] [V.ptr 5 0 0, V.ptr 6 0 0])]) st]
theorem body69 (ks : List ByteArray) (V2 : List Int) (hr : Rising ks) (hl : ks.length < 60000) (hv : V2.length = ks.length) (i : Nat) (x : ByteArray) (v : Int) (hx : ks[i]? = some x) (hy : V2[i]? = some v) :
    AW Try.prog 69 (some 10) 11 R69 (mk 17 [(2, V.d (D.raw (Value.pointer none))), (3, V.ptr 4 0 0), (9, V.fn (Fn.func 109) [] [V.ptr 5 0 0, V.ptr 6 0 0]), (10, .d (.str x)), (11, .d (.int .i64 v))]) (S69 ks V2 i .ready) [] fun a σ' => a = .ret (.d (.bool true)) ∧ σ' = S69 ks V2 (i + 1) .ready := by
  refine .at (T' := cgo 0 [] R69) rfl ?_
  have hi := (List.getElem?_eq_some_iff.1 hx).1
  have hk : kput (ks.take i) (V2.take i) x v = (ks.take (i + 1), V2.take (i + 1)) := by
    obtain ⟨_, rfl⟩ := List.getElem?_eq_some_iff.1 hx
    obtain ⟨_, rfl⟩ := List.getElem?_eq_some_iff.1 hy
    exact kput_next hr hv i hi
  have hr2 : Rising (ks.take i) := List.Pairwise.sublist (List.take_sublist _ _) hr
  have hl2 : (ks.take i).length < 1000000 := by simp; omega
  have hv2 : (V2.take i).length = (ks.take i).length := by simp [hv]
  refine .sg0 7 [2, 3, 4, 5, 9, 10, 11] (cgo 7 [] R69) [(4, .d (.str x)), (5, .d (.int .i64 v))] ?_
  refine .beginL (T0 := cgo 18 [] [Item.code B69]) (fn := 69) (tml := (mk 17 [(2, V.d (D.raw (Value.pointer none))), (3, V.ptr 4 0 0), (9, V.fn (Fn.func 109) [] [V.ptr 5 0 0, V.ptr 6 0 0])])) (by kernel_rfl) (T' := cgo 8 [] R69) (by kernel_rfl) (σ' := [.cells [.row 1, .row 2], .row 1 (List.map strD ks) false, .row 1 (List.map intD V2) false, .cells [.row 7, .row 8], .cells [.ptr 3 0 0], .cells [.ptr 0 0 0], .cells [.fn (Fn.func 98) [] []], .row 1 (List.map strD (List.take i ks)) true, .row 1 (List.map intD (List.take i V2)) true, .defd, lp (cgo 18 [] [Item.code B69]) 69 (mk 17 [(2, .d (.raw (Value.pointer none))), (3, .ptr 4 0 0), (9, .fn (Fn.func 109) [] [.ptr 5 0 0, .ptr 6 0 0])]) LoopState.busy]) (by kernel_rfl) (by kernel_rfl) ?_
  refine .sg0 5 [2, 3, 4, 5, 12, 13, 14] (cgo 13 [] R69) [(12, .ptr 3 0 0), (13, .d (.str x)), (14, .d (.int .i64 v))] ?_
  refine .ca [3, 7, 8] (cgo 14 [] R69) F76 (@spec_76 (List.take i ks) (x) (List.take i V2) (v) (by assumption) (by assumption) (by assumption)) ?_
  rintro r0 s0 ⟨rfl, rfl⟩
  refine ⟨_, rfl, ?_⟩
  refine .sg 2 [2] (cgo 16 [] R69) [] [(10, lp (cgo 18 [] [Item.code B69]) 69 (mk 17 [(2, .d (.raw (Value.pointer none))), (3, .ptr 4 0 0), (9, .fn (Fn.func 109) [] [.ptr 5 0 0, .ptr 6 0 0])]) LoopState.busy)] ?_
  refine .roundEndL (T0 := cgo 18 [] [Item.code B69]) (fn := 69) (tml := (mk 17 [(2, V.d (D.raw (Value.pointer none))), (3, V.ptr 4 0 0), (9, V.fn (Fn.func 109) [] [V.ptr 5 0 0, V.ptr 6 0 0])])) (st := LoopState.busy) (by kernel_rfl) (by kernel_rfl) (σ' := [.cells [.row 1, .row 2], .row 1 (List.map strD ks) false, .row 1 (List.map intD V2) false, .cells [.row 7, .row 8], .cells [.ptr 3 0 0], .cells [.ptr 0 0 0], .cells [.fn (Fn.func 98) [] []], .row 1 (List.map strD (kput (List.take i ks) (List.take i V2) x v).fst) true, .row 1 (List.map intD (kput (List.take i ks) (List.take i V2) x v).snd) true, .defd, lp (cgo 18 [] [Item.code B69]) 69 (mk 17 [(2, .d (.raw (Value.pointer none))), (3, .ptr 4 0 0), (9, .fn (Fn.func 109) [] [.ptr 5 0 0, .ptr 6 0 0])]) LoopState.ready]) (by kernel_rfl) ?_
  simp_all [S69]
theorem lo69 (ks : List ByteArray) (V2 : List Int) (hr : Rising ks) (hl : ks.length < 60000) (hv : V2.length = ks.length) : ∀ (m i : Nat), i + m = (ks).length →
    AW Try.prog 109 none 11 (cgo 24 [false] [Item.code B109]) (mk 43 [(0, V.yield 10), (5, V.d (.list 1 ((ks).map strD))), (6, V.d (.list 1 ((V2).map intD))), (27, V.d (.int .i64 ((ks).length : Nat))), (28, V.d (.int .i64 (i : Nat)))]) (S69 ks V2 i .ready) [] fun r σ' => r = .ret (.tuple []) ∧ σ' = S69 ks V2 (ks).length .ready := by
  intro m
  induction m with
  | zero =>
    intro i hi
    have hi : i = (ks).length := by omega
    subst hi
    refine .sg0 5 [0, 5, 6, 27, 28, 29] (cgo 29 [false] [.code B109]) [(29, .d (.bool (decide ((↑ks.length : Int) < (↑ks.length : Int)))))] ?_
    refine .if' (decide ((↑ks.length : Int) < (↑ks.length : Int))) (cgo 30 [false, true] [.code B109]) (cgo 30 [false, false] [.code B109]) (fun h1 => ?_) (fun h1 => ?_)
    · simp only [bsX] at h1
      omega
    · simp only [bsX] at h1
      refine .seg 1 [] (T' := cgo 31 [false, false] [.code B109]) (tm' := mk 43 []) (σ' := [.cells [.row 1, .row 2], .row 1 (List.map strD ks) false, .row 1 (List.map intD V2) false, .cells [.row 7, .row 8], .cells [.ptr 3 0 0], .cells [.ptr 0 0 0], .cells [.fn (Fn.func 98) [] []], .row 1 (List.map strD (List.take ks.length ks)) true, .row 1 (List.map intD (List.take ks.length V2)) true, .defd, lp (cgo 18 [] [.code B69]) 69 (mk 17 [(2, .d (.raw (Value.pointer none))), (3, .ptr 4 0 0), (9, .fn (Fn.func 109) [] [.ptr 5 0 0, .ptr 6 0 0])]) LoopState.ready]) (by kernel_rfl) ?_
      refine .retH F109 (v := V.tuple []) (by kernel_rfl) (by kernel_rfl) ?_
      exact ⟨rfl, rfl⟩
  | succ m ih =>
    intro i hi
    obtain ⟨x, hx⟩ := get_some (l := ks) (i := i) (by omega)
    obtain ⟨v, hy⟩ := get_some (l := V2) (i := i) (by omega)
    have hYi := body69 ks V2 hr hl hv i x v hx hy
    refine .sg0 5 [0, 5, 6, 27, 28, 29] (cgo 29 [false] [.code B109]) [(29, .d (.bool (decide ((↑i : Int) < (↑ks.length : Int)))))] ?_
    refine .if' (decide ((↑i : Int) < (↑ks.length : Int))) (cgo 30 [false, true] [.code B109]) (cgo 30 [false, false] [.code B109]) (fun h1 => ?_) (fun h1 => ?_)
    · simp only [bsX] at h1
      refine .sg0 9 [0, 5, 6, 7, 27, 28, 29, 30] (cgo 39 [false, true] [.code B109]) [(7, .d (.int .i64 (↑i : Int))), (30, .d (.int .i64 (↑i : Int)))] ?_
      refine .dr (cgo 40 [false, true] [.code B109]) [(31, .yield 10), (32, .d (.list 1 (List.map strD ks))), (33, .d (.int .i64 (↑i : Int))), (34, .ep 1 (D.str x) 0), (35, .d (.str x)), (36, .d (.list 1 (List.map intD V2))), (37, .d (.int .i64 (↑i : Int))), (38, .ep 1 (D.int IntKind.i64 v) 0), (39, .d (.int .i64 v)), (40, .d (.bool true)), (41, .d (.bool false))] [(7, .row 1 (List.map strD (List.take (i + 1) ks)) true), (8, .row 1 (List.map intD (List.take (i + 1) V2)) true)] (fun kz L hL => ?_) ?_
      · refine ⟨[⟨[], [], [], [10], [10], [], true, false⟩, ⟨[], [], [], [], [], [], true, false⟩, ⟨[], [], [], [], [], [], true, false⟩, ⟨[], [], [], [], [], [], true, false⟩, ⟨[], [], [], [], [], [], true, false⟩, ⟨[], [], [], [], [], [], true, false⟩, ⟨[], [], [], [], [], [], true, false⟩, ⟨[], [], [], [], [], [], true, false⟩, ⟨[], [], [], [], [], [], true, false⟩, ⟨[], [], [], [], [], [], false, true⟩, ⟨[], [], [], [], [], [], true, false⟩], run_amongF hL _ [] [0, 1, 2, 3, 4, 5, 6, 7, 8, 9, 10] (by intro p hp; cases hp) (by kernel_rfl) ?_⟩
        refine Run.ap [0, 1, 2] [(31, .yield 10), (32, .d (.list 1 (List.map strD ks))), (33, .d (.int .i64 (↑i : Int)))] [] ?_
        refine Run.one (StepF.look (o := ((drawOf (cgo 39 [false, true] [.code B109]))[3]?).getD default) (v := .ep 1 (D.str x) 0) [(.tmp 32), (.tmp 33)] (by kernel_rfl) rfl (by kernel_rfl) (by kernel_rfl) (by kernel_rfl) (by kernel_rfl) (by kernel_rfl) (fun tm' σ2 hv hr => ixData_ok (t := 66) (x := (.tmp 32)) (i := (.tmp 33)) (k := IntKind.i64) (n := (↑i : Int)) (sz := 1) (xs := List.map strD ks) (d := strD x) (by kernel_rfl) (by rw [hv _ (by simp)]; kernel_rfl) (by rw [hv _ (by simp)]; kernel_rfl) (by kernel_rfl) (by omega) (map_get hx))) ?_
        refine Run.ap [4, 5, 6] [(35, .d (.str x)), (36, .d (.list 1 (List.map intD V2))), (37, .d (.int .i64 (↑i : Int)))] [] ?_
        refine Run.one (StepF.look (o := ((drawOf (cgo 39 [false, true] [.code B109]))[7]?).getD default) (v := .ep 1 (D.int IntKind.i64 v) 0) [(.tmp 36), (.tmp 37)] (by kernel_rfl) rfl (by kernel_rfl) (by kernel_rfl) (by kernel_rfl) (by kernel_rfl) (by kernel_rfl) (fun tm' σ2 hv hr => ixData_ok (t := 46) (x := (.tmp 36)) (i := (.tmp 37)) (k := IntKind.i64) (n := (↑i : Int)) (sz := 1) (xs := List.map intD V2) (d := intD v) (by kernel_rfl) (by rw [hv _ (by simp)]; kernel_rfl) (by rw [hv _ (by simp)]; kernel_rfl) (by kernel_rfl) (by omega) (map_get hy))) ?_
        refine Run.ap [8] [(39, .d (.int .i64 v))] [] ?_
        refine Run.one (s1 := (mk 43 [(0, .yield 10), (5, .d (.list 1 (List.map strD ks))), (6, .d (.list 1 (List.map intD V2))), (7, .d (.int .i64 (↑i : Int))), (27, .d (.int .i64 (↑ks.length : Int))), (28, .d (.int .i64 (↑i : Int))), (29, .d (.bool (decide ((↑i : Int) < (↑ks.length : Int))))), (30, .d (.int .i64 (↑i : Int))), (31, .yield 10), (32, .d (.list 1 (List.map strD ks))), (33, .d (.int .i64 (↑i : Int))), (34, .ep 1 (D.str x) 0), (35, .d (.str x)), (36, .d (.list 1 (List.map intD V2))), (37, .d (.int .i64 (↑i : Int))), (38, .ep 1 (D.int IntKind.i64 v) 0), (39, .d (.int .i64 v)), (40, .d (.bool true))], [.cells [.row 1, .row 2], .row 1 (List.map strD ks) false, .row 1 (List.map intD V2) false, .cells [.row 7, .row 8], .cells [.ptr 3 0 0], .cells [.ptr 0 0 0], .cells [.fn (Fn.func 98) [] []], .row 1 (List.map strD (List.take (i + 1) ks)) true, .row 1 (List.map intD (List.take (i + 1) V2)) true, .defd, lp (cgo 18 [] [Item.code B69]) 69 (mk 17 [(2, .d (.raw (Value.pointer none))), (3, .ptr 4 0 0), (9, .fn (Fn.func 109) [] [.ptr 5 0 0, .ptr 6 0 0])]) LoopState.ready])) (StepF.all (o := ((drawOf (cgo 39 [false, true] [Item.code B109]))[9]?).getD default) (by kernel_rfl) (by kernel_rfl) fun rest hn => AW.yieldD (T0 := cgo 18 [] [Item.code B69]) (x := (.tmp 31)) (args := #[(.tmp 35), (.tmp 39)]) (ts := #[9, 3]) (l := 10) (st := LoopState.ready) (fn := 69) (tml := (mk 17 [(2, .d (.raw (Value.pointer none))), (3, .ptr 4 0 0), (9, .fn (Fn.func 109) [] [.ptr 5 0 0, .ptr 6 0 0])])) (R := R69) (o := ((drawOf (cgo 39 [false, true] [Item.code B109]))[9]?).getD default) (N := 11) (by kernel_rfl) (by kernel_rfl) (by kernel_rfl) (by kernel_rfl) (by kernel_rfl) (by kernel_rfl) (by kernel_rfl) (by kernel_rfl) (by kernel_rfl) hYi (by rintro r s ⟨rfl, rfl⟩; exact ⟨_, rfl, AW.as (by kernel_rfl) (by kernel_rfl) hn⟩)) ?_
        exact Run.fin
      refine .seg 7 [0, 5, 6, 7, 27, 28, 29, 30, 31, 32, 33, 34, 35, 36, 37, 38, 39, 40, 41, 42] (T' := cgo 47 [false, true, false] [.code B109]) (tm' := mk 43 [(0, .yield 10), (5, .d (.list 1 (List.map strD ks))), (6, .d (.list 1 (List.map intD V2))), (7, .d (.int .i64 (↑i : Int))), (27, .d (.int .i64 (↑ks.length : Int))), (28, .d (.int .i64 (IntKind.i64.wrap ((↑i : Int) + 1)))), (29, .d (.bool (decide ((↑i : Int) < (↑ks.length : Int))))), (30, .d (.int .i64 (↑i : Int))), (31, .yield 10), (32, .d (.list 1 (List.map strD ks))), (33, .d (.int .i64 (↑i : Int))), (34, .ep 1 (D.str x) 0), (35, .d (.str x)), (36, .d (.list 1 (List.map intD V2))), (37, .d (.int .i64 (↑i : Int))), (38, .ep 1 (D.int IntKind.i64 v) 0), (39, .d (.int .i64 v)), (40, .d (.bool true)), (41, .d (.bool false)), (42, .d (.int .i64 (IntKind.i64.wrap ((↑i : Int) + 1))))]) (σ' := [.cells [.row 1, .row 2], .row 1 (List.map strD ks) false, .row 1 (List.map intD V2) false, .cells [.row 7, .row 8], .cells [.ptr 3 0 0], .cells [.ptr 0 0 0], .cells [.fn (Fn.func 98) [] []], .row 1 (List.map strD (List.take (i + 1) ks)) true, .row 1 (List.map intD (List.take (i + 1) V2)) true, .defd, lp (cgo 18 [] [.code B69]) 69 (mk 17 [(2, .d (.raw (Value.pointer none))), (3, .ptr 4 0 0), (9, .fn (Fn.func 109) [] [.ptr 5 0 0, .ptr 6 0 0])]) LoopState.ready]) (by kernel_rfl) ?_
      simp (disch := omega) only [wrap_i64, wrap_u64s, wrap_u32s, wrap_u8s, wrap_i32s, iadd_i64, isub_i64, irem_n, iquo_n, tdiv_nn, tmod_nn]
      exact .seg 1 [0, 5, 6, 27, 28] (by kernel_rfl) (ih (i + 1) (by omega))
    · simp only [bsX] at h1
      omega
theorem it69 (ks : List ByteArray) (V2 : List Int) (hr : Rising ks) (hl : ks.length < 60000) (hv : V2.length = ks.length) : CallsA Try.prog 109 [.yield 10, .ptr 5 0 0, .ptr 6 0 0] (S69 ks V2 0 .ready) fun r σ' => r = .ret (.tuple []) ∧ σ' = S69 ks V2 (ks).length .ready := by
  refine CallsA.start F109 (tm := mk (Try.f109.ntmps) [(0, .yield 10), (1, .ptr 5 0 0), (2, .ptr 6 0 0)]) (by kernel_rfl) ?_
  refine .sg0 11 [0, 1, 2, 10] (cgo 11 [false] [.code B109]) [(10, .fn (Fn.func 98) [] [])] ?_
  refine .semH (o := (opOf (cgo 11 [false] [Item.code B109])).getD default) (v := .d (.int .i64 0)) (σ' := [.cells [.row 1, .row 2], .row 1 (List.map strD ks) false, .row 1 (List.map intD V2) false, .cells [.row 7, .row 8], .cells [.ptr 3 0 0], .cells [.ptr 0 0 0], .cells [.fn (Fn.func 98) [] []], .row 1 [] true, .row 1 [] true, .defd, lp (cgo 18 [] [Item.code B69]) 69 (mk 17 [(2, .d (.raw (Value.pointer none))), (3, .ptr 4 0 0), (9, .fn (Fn.func 109) [] [.ptr 5 0 0, .ptr 6 0 0])]) LoopState.ready]) (by kernel_rfl) (by kernel_rfl) (T' := cgo 12 [false] [Item.code B109]) (by kernel_rfl) (fun kz => sem_data0 (x := (.tmp 10)) (args := #[]) (ts := #[]) (first := []) (cap := []) (ds := []) (v := .d (.int .i64 0)) F98 (@spec_98) (by kernel_rfl) (by kernel_rfl) (by kernel_rfl) (by kernel_rfl) (by kernel_rfl) (by kernel_rfl) _) ?_
  refine .sg0 3 [0, 1, 4] (cgo 15 [false] [.code B109]) [(4, .d (.int .i64 0))] ?_
  refine .dr (cgo 16 [false] [.code B109]) [(5, .d (.list 1 (List.take ((List.map strD ks).length - 0) (List.drop 0 (List.map strD ks))))), (6, .d (.list 1 (List.take ((List.map intD V2).length - 0) (List.drop 0 (List.map intD V2))))), (12, .ptr 0 0 0), (13, .ptr 0 0 0), (14, .ptr 0 0 0), (15, .row 1), (16, .d (.int .i64 0)), (17, .sl 1 0 ((List.map strD ks).length - 0) none), (18, .d (.list 1 (List.take ((List.map strD ks).length - 0) (List.drop 0 (List.map strD ks))))), (19, .ptr 0 0 0), (20, .ptr 0 0 0), (21, .ptr 0 0 1), (22, .row 2), (23, .d (.int .i64 0)), (24, .sl 2 0 ((List.map intD V2).length - 0) none), (25, .d (.list 1 (List.take ((List.map intD V2).length - 0) (List.drop 0 (List.map intD V2)))))] [] (fun kz L hL => ?_) ?_
  · refine ⟨[⟨[5], [], [], [0], [5, 0], [], true, false⟩, ⟨[], [], [], [0], [0], [0], true, false⟩, ⟨[], [], [], [0], [0], [0], true, false⟩, ⟨[0], [], [], [1], [0, 1, 2], [], true, false⟩, ⟨[], [], [], [], [], [], true, false⟩, ⟨[1], [], [], [1], [1], [], true, false⟩, ⟨[1], [1], [], [], [1], [], true, false⟩, ⟨[5], [], [], [0], [5, 0], [], true, false⟩, ⟨[], [], [], [0], [0], [0], true, false⟩, ⟨[], [], [], [0], [0], [0], true, false⟩, ⟨[0], [], [], [2], [0, 1, 2], [], true, false⟩, ⟨[], [], [], [], [], [], true, false⟩, ⟨[2], [], [], [2], [2], [], true, false⟩, ⟨[2], [], [], [], [2], [], true, false⟩, ⟨[], [], [], [], [], [], true, false⟩, ⟨[], [], [], [], [], [], true, false⟩], run_amongF hL _ [] [0, 1, 2, 3, 4, 5, 7, 8, 9, 10, 11, 12, 6, 13, 14, 15] (by intro p hp; cases hp) (by kernel_rfl) ?_⟩
    refine Run.ap [0, 1, 2, 3, 4] [(12, .ptr 0 0 0), (13, .ptr 0 0 0), (14, .ptr 0 0 0), (15, .row 1), (16, .d (.int .i64 0))] [] ?_
    refine Run.one (StepF.look (o := ((drawOf (cgo 15 [false] [.code B109]))[5]?).getD default) (v := .sl 1 0 ((List.map strD ks).length - 0) none) [(.tmp 15), (.tmp 16)] (by kernel_rfl) rfl (by kernel_rfl) (by kernel_rfl) (by kernel_rfl) (by kernel_rfl) (by kernel_rfl) (fun tm' σ2 hv hr => slRow_ok (t := 66) (x := (.tmp 15)) (lo := (some (.tmp 16))) (hi := none) (lc := 1) (sz := 1) (xs := List.map strD ks) (mv := false) (0) ((List.map strD ks).length) (by kernel_rfl) (by rw [hv _ (by simp)]; kernel_rfl) ((hr _ (inK_iff.1 (by kernel_rfl))).trans (by kernel_rfl)) (by kernel_rfl) (bnd_some (k := IntKind.i64) (i := 0) (by rw [hv _ (by simp)]; kernel_rfl) (by omega) (by rfl)) rfl (by omega) (by omega))) ?_
    refine Run.ap [7, 8, 9, 10, 11] [(19, .ptr 0 0 0), (20, .ptr 0 0 0), (21, .ptr 0 0 1), (22, .row 2), (23, .d (.int .i64 0))] [] ?_
    refine Run.one (StepF.look (o := ((drawOf (cgo 15 [false] [.code B109]))[12]?).getD default) (v := .sl 2 0 ((List.map intD V2).length - 0) none) [(.tmp 22), (.tmp 23)] (by kernel_rfl) rfl (by kernel_rfl) (by kernel_rfl) (by kernel_rfl) (by kernel_rfl) (by kernel_rfl) (fun tm' σ2 hv hr => slRow_ok (t := 46) (x := (.tmp 22)) (lo := (some (.tmp 23))) (hi := none) (lc := 2) (sz := 1) (xs := List.map intD V2) (mv := false) (0) ((List.map intD V2).length) (by kernel_rfl) (by rw [hv _ (by simp)]; kernel_rfl) ((hr _ (inK_iff.1 (by kernel_rfl))).trans (by kernel_rfl)) (by kernel_rfl) (bnd_some (k := IntKind.i64) (i := 0) (by rw [hv _ (by simp)]; kernel_rfl) (by omega) (by rfl)) rfl (by omega) (by omega))) ?_
    refine Run.one (StepF.call (o := ((drawOf (cgo 15 [false] [.code B109]))[6]?).getD default) (x := (.func 110)) (args := #[(.tmp 17)]) (ts := #[66]) (first := []) (cap := []) [1] [.sl 0 0 ((List.map strD ks).length - 0) none] [.row 1 (List.map strD ks) false] [.row 1 (List.map strD ks) false] (v := .d (.list 1 (List.take ((List.map strD ks).length - 0) (List.drop 0 (List.map strD ks))))) (by kernel_rfl) rfl (by kernel_rfl) (by kernel_rfl) F110 (@spec_110b (List.map strD ks) (0) ((List.map strD ks).length - 0) (none) (by omega) (by simp <;> omega)) (by kernel_rfl) (by kernel_rfl) (by kernel_rfl) (by kernel_rfl) ⟨rfl, rfl, by kernel_rfl⟩ (by kernel_rfl) (by kernel_rfl) (by kernel_rfl) (by kernel_rfl) (by kernel_rfl) rfl rfl) ?_
    refine Run.one (StepF.callLook (o := ((drawOf (cgo 15 [false] [.code B109]))[13]?).getD default) (x := (.func 111)) (args := #[(.tmp 24)]) (ts := #[46]) (first := []) (cap := []) [2] [.sl 0 0 ((List.map intD V2).length - 0) none] [.row 1 (List.map intD V2) false] (v := .d (.list 1 (List.take ((List.map intD V2).length - 0) (List.drop 0 (List.map intD V2))))) (by kernel_rfl) rfl (by kernel_rfl) (by kernel_rfl) F111 (@spec_111b (List.map intD V2) (0) ((List.map intD V2).length - 0) (none) (by omega) (by simp <;> omega)) (by kernel_rfl) (by kernel_rfl) (by kernel_rfl) (by kernel_rfl) ⟨rfl, rfl, by kernel_rfl⟩ (by kernel_rfl) (by kernel_rfl) (by kernel_rfl) (by kernel_rfl) (by kernel_rfl)) ?_
    exact Run.fin
  refine .seg 7 [0, 5, 6, 27, 28] (T' := cgo 23 [false] [.code B109]) (tm' := mk 43 [(0, .yield 10), (5, .d (.list 1 (List.take ((List.map strD ks).length - 0) (List.drop 0 (List.map strD ks))))), (6, .d (.list 1 (List.take ((List.map intD V2).length - 0) (List.drop 0 (List.map intD V2))))), (27, .d (.int .i64 (↑(List.take ((List.map strD ks).length - 0) (List.drop 0 (List.map strD ks))).length : Int))), (28, .d (.int .i64 0))]) (σ' := [.cells [.row 1, .row 2], .row 1 (List.map strD ks) false, .row 1 (List.map intD V2) false, .cells [.row 7, .row 8], .cells [.ptr 3 0 0], .cells [.ptr 0 0 0], .cells [.fn (Fn.func 98) [] []], .row 1 [] true, .row 1 [] true, .defd, lp (cgo 18 [] [.code B69]) 69 (mk 17 [(2, .d (.raw (Value.pointer none))), (3, .ptr 4 0 0), (9, .fn (Fn.func 109) [] [.ptr 5 0 0, .ptr 6 0 0])]) LoopState.ready]) (by kernel_rfl) ?_
  simp only [List.length_map]
  rw [show List.take ((ks).length - 0) (List.drop 0 (List.map strD (ks))) = List.map strD (ks) by rw [Nat.sub_zero, List.drop_zero, List.take_of_length_le (by simp)], show List.take ((V2).length - 0) (List.drop 0 (List.map intD (V2))) = List.map intD (V2) by rw [Nat.sub_zero, List.drop_zero, List.take_of_length_le (by simp)], List.length_map]
  exact .seg 1 [0, 5, 6, 27, 28] (by kernel_rfl) (lo69 ks V2 hr hl hv (ks).length 0 (by omega))
theorem spec_69 (ks : List ByteArray) (V2 : List Int) (hr : Rising ks) (hl : ks.length < 60000) (hv : V2.length = ks.length) :
    CallsA Try.prog 69 [.ptr 0 0 0] [.cells [.row 1, .row 2], .row 1 (ks.map strD) false, .row 1 (V2.map intD) false] fun r σ' => r = .ret (.ptr 3 0 0) ∧ σ' = [.cells [.row 1, .row 2], .row 1 (ks.map strD) false, .row 1 (V2.map intD) false, .cells [.row 4, .row 5], .row 1 (ks.map strD) true, .row 1 (V2.map intD) true] := by
  refine CallsA.start F69 (tm := mk (Try.f69.ntmps) [(0, .ptr 0 0 0)]) (by kernel_rfl) ?_
  refine .sg 15 [0, 2, 3, 8] (cgo 15 [] [.code B69]) [(2, .d (.raw (Value.pointer none))), (3, .ptr 4 0 0), (8, .ptr 0 0 0)] [(3, .cells [.ex 1 [], .ex 1 []]), (4, .cells [.ptr 3 0 0])] ?_
  refine .ca [0, 1, 2] (cgo 16 [] [.code B69]) F72 (@spec_72 (List.map strD ks) (List.map intD V2)) ?_
  rintro r0 s0 ⟨rfl, rfl⟩
  refine ⟨_, rfl, ?_⟩
  refine .seg 2 [2, 3, 9] (T' := cgo 18 [] [.code B69]) (tm' := mk 17 [(2, .d (.raw (Value.pointer none))), (3, .ptr 4 0 0), (9, .fn (Fn.func 109) [] [.ptr 5 0 0, .ptr 6 0 0])]) (σ' := [.cells [.row 1, .row 2], .row 1 (List.map strD ks) false, .row 1 (List.map intD V2) false, .cells [.ex 1 [], .ex 1 []], .cells [.ptr 3 0 0], .cells [.ptr 0 0 0], .cells [.fn (Fn.func 98) [] []]]) (by kernel_rfl) ?_
  refine .virtX 3 0 1 rfl rfl ?_
  refine .virtX 3 1 1 rfl rfl ?_
  refine .raise 7 rfl rfl ?_
  refine .raise 8 rfl rfl ?_
  refine .rangeH (first := []) (cap := [.ptr 5 0 0, .ptr 6 0 0]) (List.range 11) [.yield 10, .ptr 5 0 0, .ptr 6 0 0] (S69 ks V2 0 .ready) F109 (by kernel_rfl) (T' := cgo 19 [] [Item.code B69]) (by kernel_rfl) (by kernel_rfl) (it69 ks V2 hr hl hv) (by kernel_rfl) (by kernel_rfl) (by refine ⟨rfl, by kernel_rfl, ?_⟩; kernel_rfl) ?_
  rintro r σc' ⟨rfl, rfl⟩
  refine ⟨.tuple [], .ready, (mk 17 [(2, V.d (D.raw (Value.pointer none))), (3, V.ptr 4 0 0), (9, V.fn (Fn.func 109) [] [V.ptr 5 0 0, V.ptr 6 0 0])]), rfPs (cgo 18 [] [Item.code B69]), rfAs (cgo 18 [] [Item.code B69]), rfBd (cgo 18 [] [Item.code B69]), 69, rfl, by simp, by kernel_rfl, ?_⟩
  have e1 : ks.take ks.length = ks := List.take_length
  have e2 : V2.take ks.length = V2 := by rw [← hv]; exact List.take_length
  refine .seg 6 [2] (T' := cgo 25 [] [.code B69]) (tm' := mk 17 [(2, .ptr 3 0 0)]) (σ' := [.cells [.row 1, .row 2], .row 1 (List.map strD ks) false, .row 1 (List.map intD V2) false, .cells [.row 7, .row 8], .cells [.ptr 3 0 0], .cells [.ptr 0 0 0], .cells [.fn (Fn.func 98) [] []], .row 1 (List.map strD (List.take ks.length ks)) true, .row 1 (List.map intD (List.take ks.length V2)) true, .defd, lp (cgo 18 [] [.code B69]) 69 (mk 17 [(2, .d (.raw (Value.pointer none))), (3, .ptr 4 0 0), (9, .fn (Fn.func 109) [] [.ptr 5 0 0, .ptr 6 0 0])]) LoopState.exhausted]) (by kernel_rfl) ?_
  refine .retX (v := V.ptr 3 0 0) [0, 1, 2, 3, 7, 8] (V.ptr 3 0 0) F69 (by kernel_rfl) ⟨by kernel_rfl, by kernel_rfl⟩ (σ1 := [O.cells [V.row 1, V.row 2], O.row 1 (List.map strD ks) false, O.row 1 (List.map intD V2) false, O.cells [V.row 7, V.row 8], O.cells [V.ptr 3 0 0], O.cells [V.ptr 0 0 0], O.cells [V.fn (Fn.func 98) [] []], O.row 1 (List.map strD (List.take ks.length ks)) true, O.row 1 (List.map intD (List.take ks.length V2)) true, O.dead, lp (cgo 18 [] [Item.code B69]) 69 (mk 17 [(2, V.d (D.raw (Value.pointer none))), (3, V.ptr 4 0 0), (9, V.fn (Fn.func 109) [] [V.ptr 5 0 0, V.ptr 6 0 0])]) LoopState.exhausted]) (by kernel_rfl) (by kernel_rfl) (σ2 := [O.cells [V.row 1, V.row 2], O.row 1 (List.map strD ks) false, O.row 1 (List.map intD V2) false, O.cells [V.row 4, V.row 5], O.row 1 (List.map strD (List.take ks.length ks)) true, O.row 1 (List.map intD (List.take ks.length V2)) true]) ⟨rfl, rfl, by kernel_rfl⟩ (by kernel_rfl) ⟨by simp, by kernel_rfl⟩ (by kernel_rfl) ?_
  simp_all
end Go.Proofs.Ytoelkgbeefoplaa
namespace Go.Proofs.Ytoelkgbeefoplaa
open Go Go.Br Go.Proofs
noncomputable def B64 : Code := (Try.f64.body).getD .skip
theorem F64 : Fnc Try.prog 64 Try.f64 B64 := ⟨Try.func64, by kernel_rfl, by kernel_rfl⟩
theorem lo64 (b : Dk) (N : Nat) (h : b.Ok N) (there : Bool) (names : List ByteArray) (hn : names ≠ []) (hs : ∀ s ∈ names, s.size < 1000000000) (hn2 : names.length < 1000000) (ho : b.off = false) : ∀ (m i : Nat), i + m = names.length → (∀ s ∈ names.take i, mayName s = true) →
    AW Try.prog 64 none 7 (cgo 22 [false] [Item.code B64]) (mk 35 [(0, V.ptr 0 0 0), (1, V.d (D.bool there)), (2, V.row 6), (14, V.row 6), (15, V.d (D.int IntKind.i64 (names.length : Nat))), (16, V.d (D.int IntKind.i64 (i : Nat)))]) (SD b false ++ [.row 1 (names.map strD) false]) [] fun r σ' => r = .ret (.d (.int .i64 (b.err there names))) ∧ σ' = SD b false ++ [.row 1 (names.map strD) false] := by
  have q1 := h.nr
  have q2 := h.nl
  have q3 := h.nkl
  have q4 := h.nb
  have q5 : ∀ x k, look b.nk b.nv x = some k → 0 ≤ k ∧ k < b.files.length := fun x k hk => h.nn k (look_mem hk)
  intro m
  induction m with
  | zero =>
    intro i hi hm
    have hi : i = names.length := by omega
    subst hi
    rw [List.take_length] at hm
    have hal : names.all mayName = true := List.all_eq_true.2 hm
    have h0 : 0 < names.length := List.length_pos_iff.2 hn
    obtain ⟨x, hx⟩ := get_some (l := names) (i := 0) h0
    have hd : names.headD default = x := by
      cases names with
      | nil => simp at h0
      | cons a l => simpa using hx
    have q6 := q5 x
    cases hk : look b.nk b.nv x with
    | none =>
      refine .sg0 5 [0, 1, 2, 14, 15, 16, 17] (cgo 27 [false] [.code B64]) [(17, .d (.bool (decide ((↑names.length : Int) < (↑names.length : Int)))))] ?_
      refine .if' (decide ((↑names.length : Int) < (↑names.length : Int))) (cgo 28 [false, true] [.code B64]) (cgo 28 [false, false] [.code B64]) (fun h1 => ?_) (fun h1 => ?_)
      · simp only [bsX] at h1
        omega
      · simp only [bsX] at h1
        refine .sg0 6 [0, 2, 24] (cgo 34 [false, false] [.code B64]) [(24, .d (.bool there))] ?_
        refine .if' (there) (cgo 35 [false, false, true] [.code B64]) (cgo 35 [false, false, false] [.code B64]) (fun h2 => ?_) (fun h2 => ?_)
        · refine .sg0 4 [0, 2, 26, 27] (cgo 39 [false, false, true] [.code B64]) [(26, .ptr 0 0 0), (27, .row 6)] ?_
          refine .op' (cgo 40 [false, false, true] [.code B64]) (ixRow_ok (t := 66) (x := (.tmp 27)) (i := (.const (Value.int IntKind.i64 0))) (k := IntKind.i64) (n := 0) (l := 6) (sz := 1) (xs := List.map strD names) (mv := false) (by kernel_rfl) (by kernel_rfl) (by kernel_rfl) (by kernel_rfl) (by kernel_rfl) (by omega) (by simp <;> omega)) ?_
          refine .op' (cgo 41 [false, false, true] [.code B64]) (ldRow_ok (t := 9) (x := (.tmp 28)) (l := 6) (i := 0) (s := 0) (sz := 1) (xs := List.map strD names) (mv := false) (d := strD x) (v := .d (.str x)) (by kernel_rfl) (by kernel_rfl) (by kernel_rfl) (map_get hx) (by kernel_rfl)) ?_
          refine .ca [0, 1, 2, 3, 4, 5] (cgo 42 [false, false, true] [.code B64]) F65 (@spec_65 (b) (x) (none) (by assumption) (by assumption) (by assumption) (by omega) (by assumption)) ?_
          rintro r2 s2 ⟨rfl, rfl⟩
          refine ⟨_, rfl, ?_⟩
          refine .seg 16 [6] (T' := cgo 58 [false, false, true, true] [.code B64]) (tm' := mk 35 [(6, .d (.int .i64 3))]) (σ' := [.cells [.row 1, .ptr 2 0 0, .ep 2 (D.agg [D.list 1 (List.map strD b.sk), D.list 1 (List.map intD b.sv)]) 0, .row 5, .d (.int .i64 b.quota), .d (.bool b.full), .d (.bool b.off), .d (.int .i64 b.stop), .d (.int .i64 b.calls)], .row 2 (List.map fileD b.files) false, .cells [.row 3, .row 4], .row 1 (List.map strD b.nk) false, .row 1 (List.map intD b.nv) false, .row 3 (List.map chD b.ch) false, .row 1 (List.map strD names) false]) (by kernel_rfl) ?_
          refine .retH F64 (v := V.d (D.int IntKind.i64 3)) (by kernel_rfl) (by kernel_rfl) ?_
          simp_all [Dk.err, SD, dirD]
        · refine .seg 5 [6] (T' := cgo 40 [false, false, false] [.code B64]) (tm' := mk 35 [(6, .d (.int .i64 0))]) (σ' := [.cells [.row 1, .ptr 2 0 0, .ep 2 (D.agg [D.list 1 (List.map strD b.sk), D.list 1 (List.map intD b.sv)]) 0, .row 5, .d (.int .i64 b.quota), .d (.bool b.full), .d (.bool b.off), .d (.int .i64 b.stop), .d (.int .i64 b.calls)], .row 2 (List.map fileD b.files) false, .cells [.row 3, .row 4], .row 1 (List.map strD b.nk) false, .row 1 (List.map intD b.nv) false, .row 3 (List.map chD b.ch) false, .row 1 (List.map strD names) false]) (by kernel_rfl) ?_
          refine .retH F64 (v := V.d (D.int IntKind.i64 0)) (by kernel_rfl) (by kernel_rfl) ?_
          simp_all [Dk.err, SD, dirD]
    | some k =>
      refine .sg0 5 [0, 1, 2, 14, 15, 16, 17] (cgo 27 [false] [.code B64]) [(17, .d (.bool (decide ((↑names.length : Int) < (↑names.length : Int)))))] ?_
      refine .if' (decide ((↑names.length : Int) < (↑names.length : Int))) (cgo 28 [false, true] [.code B64]) (cgo 28 [false, false] [.code B64]) (fun h1 => ?_) (fun h1 => ?_)
      · simp only [bsX] at h1
        omega
      · simp only [bsX] at h1
        refine .sg0 6 [0, 2, 24] (cgo 34 [false, false] [.code B64]) [(24, .d (.bool there))] ?_
        refine .if' (there) (cgo 35 [false, false, true] [.code B64]) (cgo 35 [false, false, false] [.code B64]) (fun h2 => ?_) (fun h2 => ?_)
        · refine .sg0 4 [0, 2, 26, 27] (cgo 39 [false, false, true] [.code B64]) [(26, .ptr 0 0 0), (27, .row 6)] ?_
          refine .op' (cgo 40 [false, false, true] [.code B64]) (ixRow_ok (t := 66) (x := (.tmp 27)) (i := (.const (Value.int IntKind.i64 0))) (k := IntKind.i64) (n := 0) (l := 6) (sz := 1) (xs := List.map strD names) (mv := false) (by kernel_rfl) (by kernel_rfl) (by kernel_rfl) (by kernel_rfl) (by kernel_rfl) (by omega) (by simp <;> omega)) ?_
          refine .op' (cgo 41 [false, false, true] [.code B64]) (ldRow_ok (t := 9) (x := (.tmp 28)) (l := 6) (i := 0) (s := 0) (sz := 1) (xs := List.map strD names) (mv := false) (d := strD x) (v := .d (.str x)) (by kernel_rfl) (by kernel_rfl) (by kernel_rfl) (map_get hx) (by kernel_rfl)) ?_
          refine .ca [0, 1, 2, 3, 4, 5] (cgo 42 [false, false, true] [.code B64]) F65 (@spec_65 (b) (x) (some k) (by assumption) (by assumption) (by assumption) (by omega) (by assumption)) ?_
          rintro r2 s2 ⟨rfl, rfl⟩
          refine ⟨_, rfl, ?_⟩
          refine .seg 17 [6] (T' := cgo 59 [false, false, true, false] [.code B64]) (tm' := mk 35 [(6, .d (.int .i64 0))]) (σ' := [.cells [.row 1, .ptr 2 0 0, .ep 2 (D.agg [D.list 1 (List.map strD b.sk), D.list 1 (List.map intD b.sv)]) 0, .row 5, .d (.int .i64 b.quota), .d (.bool b.full), .d (.bool b.off), .d (.int .i64 b.stop), .d (.int .i64 b.calls)], .row 2 (List.map fileD b.files) false, .cells [.row 3, .row 4], .row 1 (List.map strD b.nk) false, .row 1 (List.map intD b.nv) false, .row 3 (List.map chD b.ch) false, .row 1 (List.map strD names) false]) (by kernel_rfl) ?_
          refine .retH F64 (v := V.d (D.int IntKind.i64 0)) (by kernel_rfl) (by kernel_rfl) ?_
          simp_all [Dk.err, SD, dirD]
        · refine .seg 5 [6] (T' := cgo 40 [false, false, false] [.code B64]) (tm' := mk 35 [(6, .d (.int .i64 0))]) (σ' := [.cells [.row 1, .ptr 2 0 0, .ep 2 (D.agg [D.list 1 (List.map strD b.sk), D.list 1 (List.map intD b.sv)]) 0, .row 5, .d (.int .i64 b.quota), .d (.bool b.full), .d (.bool b.off), .d (.int .i64 b.stop), .d (.int .i64 b.calls)], .row 2 (List.map fileD b.files) false, .cells [.row 3, .row 4], .row 1 (List.map strD b.nk) false, .row 1 (List.map intD b.nv) false, .row 3 (List.map chD b.ch) false, .row 1 (List.map strD names) false]) (by kernel_rfl) ?_
          refine .retH F64 (v := V.d (D.int IntKind.i64 0)) (by kernel_rfl) (by kernel_rfl) ?_
          simp_all [Dk.err, SD, dirD]
  | succ m ih =>
    intro i hi hm
    obtain ⟨x, hx⟩ := get_some (l := names) (i := i) (by omega)
    have hxs : x.size < 9223372036854775807 := by have := hs x (List.mem_of_getElem? hx); omega
    have hno : mayName x = false → b.err there names = 1 := fun e => by
      have : names.all mayName = false := by
        rw [List.all_eq_false]
        exact ⟨x, List.mem_of_getElem? hx, by simp [e]⟩
      unfold Dk.err
      rw [if_neg (by simp [ho]), if_neg (by rw [this]; simp)]
    have hyes : mayName x = true → ∀ s ∈ names.take (i + 1), mayName s = true := fun e s hsm => by
      obtain ⟨hi', rfl⟩ := List.getElem?_eq_some_iff.1 hx
      rw [List.take_succ_eq_append_getElem hi'] at hsm
      rcases List.mem_append.1 hsm with h1 | h1
      · exact hm s h1
      · rw [List.mem_singleton.1 h1]; exact e
    refine .sg0 5 [0, 1, 2, 14, 15, 16, 17] (cgo 27 [false] [.code B64]) [(17, .d (.bool (decide ((↑i : Int) < (↑names.length : Int)))))] ?_
    refine .if' (decide ((↑i : Int) < (↑names.length : Int))) (cgo 28 [false, true] [.code B64]) (cgo 28 [false, false] [.code B64]) (fun h1 => ?_) (fun h1 => ?_)
    · simp only [bsX] at h1
      refine .sg0 5 [0, 1, 2, 14, 15, 16, 17] (cgo 33 [false, true] [.code B64]) [] ?_
      refine .op' (cgo 34 [false, true] [.code B64]) (ixRow_ok (t := 66) (x := (.tmp 14)) (i := (.tmp 16)) (k := IntKind.i64) (n := (↑i : Int)) (l := 6) (sz := 1) (xs := List.map strD names) (mv := false) (by kernel_rfl) (by kernel_rfl) (by kernel_rfl) (by kernel_rfl) (by kernel_rfl) (by omega) (by simp <;> omega)) ?_
      refine .op' (cgo 35 [false, true] [.code B64]) (ldRow_ok (t := 9) (x := (.tmp 18)) (l := 6) (i := (↑i : Int).toNat) (s := 0) (sz := 1) (xs := List.map strD names) (mv := false) (d := strD x) (v := .d (.str x)) (by kernel_rfl) (by kernel_rfl) (by kernel_rfl) (map_get hx) (by kernel_rfl)) ?_
      refine .sg0 5 [0, 1, 2, 8, 14, 15, 16, 17, 18, 19, 20] (cgo 40 [false, true] [.code B64]) [(8, .d (.str x)), (20, .d (.str x))] ?_
      refine .semH (o := (opOf (cgo 40 [false, true] [Item.code B64])).getD default) (v := .d (.bool (mayName x))) (σ' := [.cells [.row 1, .ptr 2 0 0, .ep 2 (D.agg [D.list 1 (List.map strD b.sk), D.list 1 (List.map intD b.sv)]) 0, .row 5, .d (.int .i64 b.quota), .d (.bool b.full), .d (.bool b.off), .d (.int .i64 b.stop), .d (.int .i64 b.calls)], .row 2 (List.map fileD b.files) false, .cells [.row 3, .row 4], .row 1 (List.map strD b.nk) false, .row 1 (List.map intD b.nv) false, .row 3 (List.map chD b.ch) false, .row 1 (List.map strD names) false]) (by kernel_rfl) (by kernel_rfl) (T' := cgo 41 [false, true] [Item.code B64]) (by kernel_rfl) (fun kz => sem_data0 (x := (.func 28)) (args := #[(.tmp 20)]) (ts := #[9]) (first := []) (cap := []) (ds := [.d (.str x)]) (v := .d (.bool (mayName x))) F28 (@spec_28 (x) (by assumption)) (by kernel_rfl) (by kernel_rfl) (by kernel_rfl) (by kernel_rfl) (by kernel_rfl) (by kernel_rfl) _) ?_
      refine .sg0 2 [0, 1, 2, 8, 14, 15, 16, 17, 18, 19, 20, 21, 22] (cgo 43 [false, true] [.code B64]) [(22, .d (.bool !mayName x))] ?_
      refine .if' (!mayName x) (cgo 44 [false, true, true] [.code B64]) (cgo 44 [false, true, false] [.code B64]) (fun h2 => ?_) (fun h2 => ?_)
      · simp only [bsX] at h2
        refine .seg 4 [0, 1, 2, 6, 8, 14, 15, 16, 17, 18, 19, 20, 21, 22] (T' := cgo 48 [false, true, true] [.code B64]) (tm' := mk 35 [(0, .ptr 0 0 0), (1, .d (.bool there)), (2, .row 6), (6, .d (.int .i64 1)), (8, .d (.str x)), (14, .row 6), (15, .d (.int .i64 (↑names.length : Int))), (16, .d (.int .i64 (↑i : Int))), (17, .d (.bool (decide ((↑i : Int) < (↑names.length : Int))))), (18, .ptr 6 (↑i : Int).toNat 0), (19, .d (.str x)), (20, .d (.str x)), (21, .d (.bool (mayName x))), (22, .d (.bool !mayName x))]) (σ' := [.cells [.row 1, .ptr 2 0 0, .ep 2 (D.agg [D.list 1 (List.map strD b.sk), D.list 1 (List.map intD b.sv)]) 0, .row 5, .d (.int .i64 b.quota), .d (.bool b.full), .d (.bool b.off), .d (.int .i64 b.stop), .d (.int .i64 b.calls)], .row 2 (List.map fileD b.files) false, .cells [.row 3, .row 4], .row 1 (List.map strD b.nk) false, .row 1 (List.map intD b.nv) false, .row 3 (List.map chD b.ch) false, .row 1 (List.map strD names) false]) (by kernel_rfl) ?_
        refine .retH F64 (v := V.d (D.int IntKind.i64 1)) (by kernel_rfl) (by kernel_rfl) ?_
        simp_all [SD, dirD]
      · simp only [bsX] at h2
        refine .seg 6 [0, 1, 2, 8, 14, 15, 16, 17, 18, 19, 20, 21, 22, 23] (T' := cgo 50 [false, true, false] [.code B64]) (tm' := mk 35 [(0, .ptr 0 0 0), (1, .d (.bool there)), (2, .row 6), (8, .d (.str x)), (14, .row 6), (15, .d (.int .i64 (↑names.length : Int))), (16, .d (.int .i64 (IntKind.i64.wrap ((↑i : Int) + 1)))), (17, .d (.bool (decide ((↑i : Int) < (↑names.length : Int))))), (18, .ptr 6 (↑i : Int).toNat 0), (19, .d (.str x)), (20, .d (.str x)), (21, .d (.bool (mayName x))), (22, .d (.bool !mayName x)), (23, .d (.int .i64 (IntKind.i64.wrap ((↑i : Int) + 1))))]) (σ' := [.cells [.row 1, .ptr 2 0 0, .ep 2 (D.agg [D.list 1 (List.map strD b.sk), D.list 1 (List.map intD b.sv)]) 0, .row 5, .d (.int .i64 b.quota), .d (.bool b.full), .d (.bool b.off), .d (.int .i64 b.stop), .d (.int .i64 b.calls)], .row 2 (List.map fileD b.files) false, .cells [.row 3, .row 4], .row 1 (List.map strD b.nk) false, .row 1 (List.map intD b.nv) false, .row 3 (List.map chD b.ch) false, .row 1 (List.map strD names) false]) (by kernel_rfl) ?_
        simp (disch := omega) only [wrap_i64, wrap_u64s, wrap_u32s, wrap_u8s, wrap_i32s, iadd_i64, isub_i64, irem_n, iquo_n, tdiv_nn, tmod_nn]
        exact .seg 1 [0, 1, 2, 14, 15, 16] (by kernel_rfl) (ih (i + 1) (by omega) (hyes (by assumption)))
    · simp only [bsX] at h1
      omega
theorem check64 (d : Dk) (N : Nat) (h : d.Ok N) (there : Bool) (names : List ByteArray) (hn : names ≠ []) (hs : ∀ s ∈ names, s.size < 1000000000) (hn2 : names.length < 1000000) (hN : N + 1 ≤ 50000) :
    CallsA Try.prog 64 [.ptr 0 0 0, .d (.bool there), .row 6] (SD d false ++ [.row 1 (names.map strD) false]) fun r σ' => r = .ret (.d (.int .i64 (d.begun.err there names))) ∧ σ' = SD d.begun false ++ [.row 1 (names.map strD) false] := by
  have hc := h.c0
  have hc' := h.cl
  have hs1 := h.s0
  have hs2 := h.s1
  refine CallsA.start F64 (tm := mk (Try.f64.ntmps) [(0, .ptr 0 0 0), (1, .d (.bool there)), (2, .row 6)]) (by kernel_rfl) ?_
  have hk := Dk.begun_ok h hN
  refine .sg0 8 [0, 1, 2, 6, 11] (cgo 8 [] [.code B64]) [(6, .d (.int .i64 0)), (11, .ptr 0 0 0)] ?_
  refine .ca [0, 1, 2, 3, 4, 5] (cgo 9 [] [.code B64]) F94 (@spec_94 (d) (by assumption) (by omega) (by assumption) (by assumption)) ?_
  rintro r0 s0 ⟨rfl, rfl⟩
  refine ⟨_, rfl, ?_⟩
  refine .sg0 2 [0, 1, 2, 6, 13] (cgo 11 [] [.code B64]) [(13, .d (.bool !!d.begun.off))] ?_
  refine .if' (!!d.begun.off) (cgo 12 [true] [.code B64]) (cgo 12 [false] [.code B64]) (fun h2 => ?_) (fun h2 => ?_)
  · simp only [bsX] at h2
    refine .seg 4 [0, 1, 2, 6] (T' := cgo 16 [true] [.code B64]) (tm' := mk 35 [(0, .ptr 0 0 0), (1, .d (.bool there)), (2, .row 6), (6, .d (.int .i64 5))]) (σ' := [.cells [.row 1, .ptr 2 0 0, .ep 2 (D.agg [D.list 1 (List.map strD d.begun.sk), D.list 1 (List.map intD d.begun.sv)]) 0, .row 5, .d (.int .i64 d.begun.quota), .d (.bool d.begun.full), .d (.bool d.begun.off), .d (.int .i64 d.begun.stop), .d (.int .i64 d.begun.calls)], .row 2 (List.map fileD d.begun.files) false, .cells [.row 3, .row 4], .row 1 (List.map strD d.begun.nk) false, .row 1 (List.map intD d.begun.nv) false, .row 3 (List.map chD d.begun.ch) false, .row 1 (List.map strD names) false]) (by kernel_rfl) ?_
    refine .retH F64 (v := V.d (D.int IntKind.i64 5)) (by kernel_rfl) (by kernel_rfl) ?_
    simp_all [Dk.err, SD, dirD]
  · simp only [bsX] at h2
    refine .seg 9 [0, 1, 2, 6, 14, 15, 16] (T' := cgo 21 [false] [.code B64]) (tm' := mk 35 [(0, .ptr 0 0 0), (1, .d (.bool there)), (2, .row 6), (6, .d (.int .i64 0)), (14, .row 6), (15, .d (.int .i64 (↑(List.map strD names).length : Int))), (16, .d (.int .i64 0))]) (σ' := [.cells [.row 1, .ptr 2 0 0, .ep 2 (D.agg [D.list 1 (List.map strD d.begun.sk), D.list 1 (List.map intD d.begun.sv)]) 0, .row 5, .d (.int .i64 d.begun.quota), .d (.bool d.begun.full), .d (.bool d.begun.off), .d (.int .i64 d.begun.stop), .d (.int .i64 d.begun.calls)], .row 2 (List.map fileD d.begun.files) false, .cells [.row 3, .row 4], .row 1 (List.map strD d.begun.nk) false, .row 1 (List.map intD d.begun.nv) false, .row 3 (List.map chD d.begun.ch) false, .row 1 (List.map strD names) false]) (by kernel_rfl) ?_
    simp only [List.length_map]
    exact .seg 1 [0, 1, 2, 14, 15, 16] (by kernel_rfl) (lo64 d.begun (N + 1) hk there names hn hs hn2 (by simp_all) names.length 0 (by omega) (by simp))
theorem spec_64b (d : Dk) (N : Nat) (h : d.Ok N) (there : Bool) (names : List ByteArray) (ds : List D) (hds : ds = names.map strD) (hn : names ≠ []) (hs : ∀ s ∈ names, s.size < 1000000000) (hn2 : names.length < 1000000) (hN : N + 1 ≤ 50000) :
    CallsA Try.prog 64 [.ptr 0 0 0, .d (.bool there), .row 6] (SD d false ++ [.row 1 ds false]) fun r σ' => r = .ret (.d (.int .i64 (d.begun.err there names))) ∧ σ' = SD d.begun false ++ [.row 1 ds false] := by
  subst hds
  exact check64 d N h there names hn hs hn2 hN
theorem lo64n (b : Dk) (ho : b.off = false) :
    AW Try.prog 64 none 6 (cgo 22 [false] [Item.code B64]) (mk 35 [(0, V.ptr 0 0 0), (1, V.d (D.bool false)), (2, V.d (D.list 1 [])), (14, V.d (D.list 1 [])), (15, V.d (D.int IntKind.i64 0)), (16, V.d (D.int IntKind.i64 0))]) (SD b false) [] fun r σ' => r = .ret (.d (.int .i64 (b.err false []))) ∧ σ' = SD b false := by
  have e2 : b.err false [] = 0 := by simp [Dk.err, ho]
  refine .seg 18 [6] (T' := cgo 40 [false, false, false] [.code B64]) (tm' := mk 35 [(6, .d (.int .i64 0))]) (σ' := [.cells [.row 1, .ptr 2 0 0, .ep 2 (D.agg [D.list 1 (List.map strD b.sk), D.list 1 (List.map intD b.sv)]) 0, .row 5, .d (.int .i64 b.quota), .d (.bool b.full), .d (.bool b.off), .d (.int .i64 b.stop), .d (.int .i64 b.calls)], .row 2 (List.map fileD b.files) false, .cells [.row 3, .row 4], .row 1 (List.map strD b.nk) false, .row 1 (List.map intD b.nv) false, .row 3 (List.map chD b.ch) false]) (by kernel_rfl) ?_
  refine .retH F64 (v := V.d (D.int IntKind.i64 0)) (by kernel_rfl) (by kernel_rfl) ?_
  simp_all [SD, dirD]
theorem spec_64 (d : Dk) (N : Nat) (h : d.Ok N) (hN : N + 1 ≤ 50000) :
    CallsA Try.prog 64 [.ptr 0 0 0, .d (.bool false), .d (.list 1 [])] (SD d false) fun r σ' => r = .ret (.d (.int .i64 (d.begun.err false []))) ∧ σ' = SD d.begun false := by
  have hc := h.c0
  have hc' := h.cl
  have hs1 := h.s0
  have hs2 := h.s1
  refine CallsA.start F64 (tm := mk (Try.f64.ntmps) [(0, .ptr 0 0 0), (1, .d (.bool false)), (2, .d (.list 1 []))]) (by kernel_rfl) ?_
  have e1 : d.begun.off = true → d.begun.err false [] = 5 := fun e => by simp [Dk.err, e]
  refine .sg0 8 [0, 1, 2, 6, 11] (cgo 8 [] [.code B64]) [(6, .d (.int .i64 0)), (11, .ptr 0 0 0)] ?_
  refine .ca [0, 1, 2, 3, 4, 5] (cgo 9 [] [.code B64]) F94 (@spec_94 (d) (by assumption) (by omega) (by assumption) (by assumption)) ?_
  rintro r0 s0 ⟨rfl, rfl⟩
  refine ⟨_, rfl, ?_⟩
  refine .sg0 2 [0, 1, 2, 6, 13] (cgo 11 [] [.code B64]) [(13, .d (.bool !!d.begun.off))] ?_
  refine .if' (!!d.begun.off) (cgo 12 [true] [.code B64]) (cgo 12 [false] [.code B64]) (fun h2 => ?_) (fun h2 => ?_)
  · simp only [bsX] at h2
    refine .seg 4 [0, 1, 2, 6] (T' := cgo 16 [true] [.code B64]) (tm' := mk 35 [(0, .ptr 0 0 0), (1, .d (.bool false)), (2, .d (.list 1 [])), (6, .d (.int .i64 5))]) (σ' := [.cells [.row 1, .ptr 2 0 0, .ep 2 (D.agg [D.list 1 (List.map strD d.begun.sk), D.list 1 (List.map intD d.begun.sv)]) 0, .row 5, .d (.int .i64 d.begun.quota), .d (.bool d.begun.full), .d (.bool d.begun.off), .d (.int .i64 d.begun.stop), .d (.int .i64 d.begun.calls)], .row 2 (List.map fileD d.begun.files) false, .cells [.row 3, .row 4], .row 1 (List.map strD d.begun.nk) false, .row 1 (List.map intD d.begun.nv) false, .row 3 (List.map chD d.begun.ch) false]) (by kernel_rfl) ?_
    refine .retH F64 (v := V.d (D.int IntKind.i64 5)) (by kernel_rfl) (by kernel_rfl) ?_
    simp_all [SD, dirD]
  · simp only [bsX] at h2
    refine .seg 9 [0, 1, 2, 6, 14, 15, 16] (T' := cgo 21 [false] [.code B64]) (tm' := mk 35 [(0, .ptr 0 0 0), (1, .d (.bool false)), (2, .d (.list 1 [])), (6, .d (.int .i64 0)), (14, .d (.list 1 [])), (15, .d (.int .i64 0)), (16, .d (.int .i64 0))]) (σ' := [.cells [.row 1, .ptr 2 0 0, .ep 2 (D.agg [D.list 1 (List.map strD d.begun.sk), D.list 1 (List.map intD d.begun.sv)]) 0, .row 5, .d (.int .i64 d.begun.quota), .d (.bool d.begun.full), .d (.bool d.begun.off), .d (.int .i64 d.begun.stop), .d (.int .i64 d.begun.calls)], .row 2 (List.map fileD d.begun.files) false, .cells [.row 3, .row 4], .row 1 (List.map strD d.begun.nk) false, .row 1 (List.map intD d.begun.nv) false, .row 3 (List.map chD d.begun.ch) false]) (by kernel_rfl) ?_
    exact .seg 1 [0, 1, 2, 14, 15, 16] (by kernel_rfl) (lo64n d.begun (by simp_all))
end Go.Proofs.Ytoelkgbeefoplaa
namespace Go.Proofs.Ytoelkgbeefoplaa
open Go Go.Br Go.Proofs
end Go.Proofs.Ytoelkgbeefoplaa
namespace Go.Proofs.Ytoelkgbeefoplaa
open Go Go.Br Go.Proofs
noncomputable def B67 : Code := (Try.f67.body).getD .skip
theorem F67 : Fnc Try.prog 67 Try.f67 B67 := ⟨Try.func67, by kernel_rfl, by kernel_rfl⟩
theorem spec_67 (fs : List D) (su : D) (ch : List D) (nk : List ByteArray) (nv : List Int) (q s c : Int) (fu off : Bool) (g n : ByteArray) (k : Int) (h1 : Rising nk) (h2 : nv.length = nk.length) (h3 : nk.length < 60000) (h4 : ch.length < 60000) :
    CallsA Try.prog 67 [.ptr 0 0 0, .d (.agg [.str g, .str n, .int .i64 k])] [.cells [.row 1, .ptr 2 0 0, .ep 2 su 0, .row 5, .d (.int .i64 q), .d (.bool fu), .d (.bool off), .d (.int .i64 s), .d (.int .i64 c)], .row 2 fs false, .cells [.row 3, .row 4], .row 1 (nk.map strD) false, .row 1 (nv.map intD) false, .row 3 ch false] fun r σ' => r = .ret (.tuple []) ∧ σ' = [.cells [.row 1, .ptr 2 0 0, .ep 2 su 0, .row 5, .d (.int .i64 q), .d (.bool fu), .d (.bool off), .d (.int .i64 s), .d (.int .i64 c)], .row 2 fs false, .cells [.row 3, .row 4], .row 1 ((kapply nk nv g n k).1.map strD) true, .row 1 ((kapply nk nv g n k).2.map intD) true, .row 3 (ch ++ [.agg [.str g, .str n, .int .i64 k]]) true] := by
  refine CallsA.start F67 (tm := mk (Try.f67.ntmps) [(0, .ptr 0 0 0), (1, .d (.agg [.str g, .str n, .int .i64 k]))]) (by kernel_rfl) ?_
  refine .sg 5 [0, 3] (cgo 5 [] [.code B67]) [(3, .ptr 6 0 0)] [(6, .cells [.d (.str g), .d (.str n), .d (.int .i64 k)])] ?_
  refine .dr (cgo 6 [] [.code B67]) [(4, .ptr 0 0 0), (5, .ptr 0 0 0), (6, .ptr 0 0 1), (7, .ptr 2 0 0), (8, .d (.agg [D.str g, D.str n, D.int IntKind.i64 k])), (9, .tuple [])] [(3, .row 1 (List.map strD (kapply nk nv g n k).fst) true), (4, .row 1 (List.map intD (kapply nk nv g n k).snd) true)] (fun kz L hL => ?_) ?_
  · refine ⟨[⟨[], [], [], [0], [0], [], true, false⟩, ⟨[], [], [], [0], [0], [0], true, false⟩, ⟨[], [], [], [0], [0], [0], true, false⟩, ⟨[0], [], [], [2], [0, 1, 2, 5], [], true, false⟩, ⟨[6], [], [], [], [6], [], true, false⟩, ⟨[2, 3, 4], [2, 3, 4], [3, 4], [3, 4], [2, 3, 4], [], true, false⟩], run_amongF hL _ [] [0, 1, 2, 3, 4, 5] (by intro p hp; cases hp) (by kernel_rfl) ?_⟩
    refine Run.ap [0, 1, 2, 3, 4] [(4, .ptr 0 0 0), (5, .ptr 0 0 0), (6, .ptr 0 0 1), (7, .ptr 2 0 0), (8, .d (.agg [D.str g, D.str n, D.int IntKind.i64 k]))] [] ?_
    refine Run.one (StepF.call (o := ((drawOf (cgo 5 [] [.code B67]))[5]?).getD default) (x := (.func 71)) (args := #[(.tmp 7), (.tmp 8)]) (ts := #[102, 117]) (first := []) (cap := []) [2, 3, 4] [.ptr 0 0 0, .d (.agg [D.str g, D.str n, D.int IntKind.i64 k])] [.cells [.row 1, .row 2], .row 1 (List.map strD nk) false, .row 1 (List.map intD nv) false] [.cells [.row 1, .row 2], .row 1 (List.map strD (kapply nk nv g n k).fst) true, .row 1 (List.map intD (kapply nk nv g n k).snd) true] (v := .tuple []) (by kernel_rfl) rfl (by kernel_rfl) (by kernel_rfl) F71 (@spec_71 (nk) (nv) (g) (n) (k) (by assumption) (by omega) (by assumption)) (by kernel_rfl) (by kernel_rfl) (by kernel_rfl) (by kernel_rfl) ⟨rfl, rfl, by kernel_rfl⟩ (by kernel_rfl) (by kernel_rfl) (by kernel_rfl) (by kernel_rfl) (by kernel_rfl) rfl rfl) ?_
    exact Run.fin
  refine .newVirt 3 ?_
  refine .dr (cgo 7 [] [.code B67]) [(10, .ptr 0 0 0), (11, .ptr 0 0 0), (12, .ptr 0 0 0), (13, .ptr 0 0 3), (15, .d (.agg [D.str g, D.str n, D.int IntKind.i64 k])), (16, .row 7), (17, .row 5), (18, .ptr 0 0 0), (19, .ptr 0 0 3)] [(5, .row 3 (ch ++ [D.agg [D.str g, D.str n, D.int IntKind.i64 k]]) true), (7, .row 3 [D.agg [D.str g, D.str n, D.int IntKind.i64 k]] true)] (fun kz L hL => ?_) ?_
  · refine ⟨[⟨[], [], [], [0], [0], [], true, false⟩, ⟨[], [], [], [0], [0], [], true, false⟩, ⟨[], [], [], [0], [0], [0], true, false⟩, ⟨[], [], [], [0], [0], [0], true, false⟩, ⟨[0], [], [], [5], [0, 1, 2, 5], [], true, false⟩, ⟨[6], [], [], [], [6], [], true, false⟩, ⟨[7], [7], [7], [7], [], [], true, false⟩, ⟨[5, 7], [5], [5], [5], [5, 7], [], true, false⟩, ⟨[], [], [], [0], [0], [0], true, false⟩, ⟨[], [], [], [0], [0], [0], true, false⟩, ⟨[0], [0], [], [1, 2, 5], [0, 5, 1, 2], [], false, false⟩], run_amongF hL _ [] [0, 1, 2, 3, 4, 5, 6, 7, 8, 9, 10] (by intro p hp; cases hp) (by kernel_rfl) ?_⟩
    refine Run.ap [0, 1, 2, 3, 4, 5] [(10, .ptr 0 0 0), (11, .ptr 0 0 0), (12, .ptr 0 0 0), (13, .ptr 0 0 3), (14, .row 5), (15, .d (.agg [D.str g, D.str n, D.int IntKind.i64 k]))] [] ?_
    refine Run.one (StepF.build (o := ((drawOf (cgo 6 [] [.code B67]))[6]?).getD default) (t := 106) (len := 1) (parts := #[(0, (.tmp 15))]) (l := 7) (ds := [D.agg [D.str g, D.str n, D.int IntKind.i64 k]]) (sz := 3) (mv := false) (by kernel_rfl) rfl (by kernel_rfl) (by kernel_rfl) (by kernel_rfl) (by kernel_rfl) (by kernel_rfl) (by kernel_rfl) (by kernel_rfl) (by kernel_rfl)) ?_
    refine Run.one (StepF.moves (o := ((drawOf (cgo 6 [] [.code B67]))[7]?).getD default) (v := .row 5) [(.tmp 14), (.tmp 16)] 5 (.row 3 (ch ++ [D.agg [D.str g, D.str n, D.int IntKind.i64 k]]) true) (by kernel_rfl) rfl (by kernel_rfl) (by kernel_rfl) (by kernel_rfl) (by kernel_rfl) (by kernel_rfl) (by kernel_rfl) (fun tm' σ2 hv hr => appRow_ok (s := (.tmp 14)) (x := (.tmp 16)) (t := 106) (t2 := 106) (sz := 3) (by' := 40) (ys := [D.agg [D.str g, D.str n, D.int IntKind.i64 k]]) (l := 5) (xs := ch) (mv := false) (by kernel_rfl) (by rw [hv _ (by simp)]; kernel_rfl) ((hr _ (inK_iff.1 (by kernel_rfl))).trans (by kernel_rfl)) (by rw [hv _ (by simp)]; exact (cont_at fun l hl => hr l (subB_in (by kernel_rfl) hl)).trans (by kernel_rfl)) (by kernel_rfl) (by kernel_rfl) (by simp <;> omega) (by first | (simp [maxLen] <;> omega) | omega))) ?_
    exact Run.fin
  refine .kp [] ?_
  refine .su [0, 1, 2, 3, 4, 5] (mk 20 []) [.cells [.row 1, .ptr 2 0 0, .ep 2 su 0, .row 5, .d (.int .i64 q), .d (.bool fu), .d (.bool off), .d (.int .i64 s), .d (.int .i64 c)], .row 2 fs false, .cells [.row 3, .row 4], .row 1 (List.map strD (kapply nk nv g n k).fst) true, .row 1 (List.map intD (kapply nk nv g n k).snd) true, .row 3 (ch ++ [D.agg [D.str g, D.str n, D.int IntKind.i64 k]]) true] ?_
  refine .retH F67 (v := V.tuple []) (by kernel_rfl) (by kernel_rfl) ?_
  exact ⟨rfl, rfl⟩
end Go.Proofs.Ytoelkgbeefoplaa
namespace Go.Proofs.Ytoelkgbeefoplaa
open Go Go.Br Go.Proofs
noncomputable def B26 : Code := (Try.f26.body).getD .skip
theorem F26 : Fnc Try.prog 26 Try.f26 B26 := ⟨Try.func26, by kernel_rfl, by kernel_rfl⟩
theorem spec_26 (d : Dk) (N : Nat) (h : d.Ok N) (hN : N + 2 ≤ 50000) (x : ByteArray) (hx : x.size < 1000000000) :
    CallsA Try.prog 26 [.ptr 0 0 0, .d (.str x)] (SD d false) fun r σ' => r = .ret (.d (.int .i64 (d.begun.createE x))) ∧ σ' = SD (d.begun.createD x) true := by
  refine CallsA.start F26 (tm := mk (Try.f26.ntmps) [(0, .ptr 0 0 0), (1, .d (.str x))]) (by kernel_rfl) ?_
  have hk := Dk.begun_ok h (by omega : N + 1 ≤ 50000)
  have q1 := hk.nr
  have q2 := hk.nl
  have q3 := hk.nkl
  have q4 := hk.nb
  have q7 := hk.chl
  have q8 := hk.fl
  have q5 : ∀ k, look d.begun.nk d.begun.nv x = some k → 0 ≤ k ∧ k < d.begun.files.length := fun k hk' => hk.nn k (look_mem hk')
  have hn1 : [D.str x] = List.map strD [x] := rfl
  cases hl : look d.begun.nk d.begun.nv x with
  | none =>
    refine .sg 10 [0, 1, 4, 8, 9, 10] (cgo 10 [] [.code B26]) [(4, .d (.int .i64 0)), (8, .ptr 0 0 0), (9, .d (.str x)), (10, .row 6)] [(6, .row 1 [D.str x] false)] ?_
    refine .ca [0, 1, 2, 3, 4, 5, 6] (cgo 11 [] [.code B26]) F64 (@spec_64b (d) (N) (by assumption) (false) ([x]) ([D.str x]) (by assumption) (by simp; done) (by simp <;> omega) (by simp; done) (by assumption)) ?_
    rintro r0 s0 ⟨rfl, rfl⟩
    refine ⟨_, rfl, ?_⟩
    refine .sg0 7 [0, 1, 4, 5, 13] (cgo 18 [] [.code B26]) [(5, .d (.int .i64 (d.begun.err false [x]))), (13, .d (.bool (d.begun.err false [x] != 0)))] ?_
    refine .if' (d.begun.err false [x] != 0) (cgo 19 [true] [.code B26]) (cgo 19 [false] [.code B26]) (fun h2 => ?_) (fun h2 => ?_)
    · simp only [bsX] at h2
      refine .sg0 5 [0, 1, 4] (cgo 24 [true] [.code B26]) [(4, .d (.int .i64 (d.begun.err false [x])))] ?_
      refine .raises [1, 3, 4, 5] ?_
      refine .kp [4] ?_
      refine .su [0, 1, 2, 3, 4, 5] (mk 51 [(4, .d (.int .i64 (d.begun.err false [x])))]) [.cells [.row 1, .ptr 2 0 0, .ep 2 (D.agg [D.list 1 (List.map strD d.begun.sk), D.list 1 (List.map intD d.begun.sv)]) 0, .row 5, .d (.int .i64 d.begun.quota), .d (.bool d.begun.full), .d (.bool d.begun.off), .d (.int .i64 d.begun.stop), .d (.int .i64 d.begun.calls)], .row 2 (List.map fileD d.begun.files) true, .cells [.row 3, .row 4], .row 1 (List.map strD d.begun.nk) true, .row 1 (List.map intD d.begun.nv) true, .row 3 (List.map chD d.begun.ch) true] ?_
      refine .retH F26 (v := V.d (D.int IntKind.i64 (d.begun.err false [x]))) (by kernel_rfl) (by kernel_rfl) ?_
      simp_all [SD, dirD, Dk.createE, Dk.createD, Dk.turn, fileD, chD, bsD, noName, i64]
    · simp only [bsX] at h2
      refine .sg0 6 [0, 1, 4, 16, 17] (cgo 25 [false] [.code B26]) [(16, .ptr 0 0 0), (17, .d (.str x))] ?_
      refine .ca [0, 1, 2, 3, 4, 5] (cgo 26 [false] [.code B26]) F65 (@spec_65 (d.begun) (x) (none) (by assumption) (by assumption) (by assumption) (by omega) (by assumption)) ?_
      rintro r2 s2 ⟨rfl, rfl⟩
      refine ⟨_, rfl, ?_⟩
      refine .sg0 15 [0, 1, 4, 7, 21, 22, 23, 24, 25, 26, 27] (cgo 41 [false] [.code B26]) [(7, .d (.bool false)), (21, .d (.bool false)), (22, .d (.bool true)), (23, .d (.bool true)), (24, .ptr 0 0 0), (25, .ptr 0 0 0), (26, .ptr 0 0 1), (27, .ptr 2 0 0)] ?_
      refine .ca [2, 3, 4] (cgo 42 [false] [.code B26]) F66 (@spec_66 (d.begun.nk) (d.begun.nv)) ?_
      rintro r3 s3 ⟨rfl, rfl⟩
      refine ⟨_, rfl, ?_⟩
      refine .sg0 3 [0, 1, 4, 30] (cgo 45 [false] [.code B26]) [(30, .d (.bool (decide ((↑d.begun.nk.length : Int) ≥ 1024))))] ?_
      refine .if' (decide ((↑d.begun.nk.length : Int) ≥ 1024)) (cgo 46 [false, true] [.code B26]) (cgo 46 [false, false] [.code B26]) (fun h5 => ?_) (fun h5 => ?_)
      · simp only [bsX] at h5
        refine .sg0 4 [0, 1, 4] (cgo 50 [false, true] [.code B26]) [(4, .d (.int .i64 2))] ?_
        refine .raises [1, 3, 4, 5] ?_
        refine .kp [4] ?_
        refine .su [0, 1, 2, 3, 4, 5] (mk 51 [(4, .d (.int .i64 2))]) [.cells [.row 1, .ptr 2 0 0, .ep 2 (D.agg [D.list 1 (List.map strD d.begun.sk), D.list 1 (List.map intD d.begun.sv)]) 0, .row 5, .d (.int .i64 d.begun.quota), .d (.bool d.begun.full), .d (.bool d.begun.off), .d (.int .i64 d.begun.stop), .d (.int .i64 d.begun.calls)], .row 2 (List.map fileD d.begun.files) true, .cells [.row 3, .row 4], .row 1 (List.map strD d.begun.nk) true, .row 1 (List.map intD d.begun.nv) true, .row 3 (List.map chD d.begun.ch) true] ?_
        refine .retH F26 (v := V.d (D.int IntKind.i64 2)) (by kernel_rfl) (by kernel_rfl) ?_
        have e : d.begun.createE x = 2 := by simp [Dk.createE, h2, hl]; omega
        have e' : d.begun.createD x = d.begun := by simp [Dk.createD, e]
        exact ⟨by rw [e], by rw [e']; rfl⟩
      · simp only [bsX] at h5
        refine .sg 10 [0, 1, 4, 31, 32, 33, 34, 35, 36, 37] (cgo 56 [false, false] [.code B26]) [(31, .ptr 0 0 0), (32, .ptr 0 0 0), (33, .ptr 0 0 0), (34, .ptr 0 0 0), (35, .row 1), (36, .agg [.ex 1 [], .d (.int .i64 0)]), (37, .row 7)] [(7, .row 2 [D.agg [D.list 1 [], D.int IntKind.i64 0]] false)] ?_
        refine .op' (cgo 57 [false, false] [.code B26]) (appRow_ok (s := (.tmp 35)) (x := (.tmp 37)) (t := 105) (t2 := 105) (sz := 2) (by' := 32) (ys := [D.agg [D.list 1 [], D.int IntKind.i64 0]]) (l := 1) (xs := List.map fileD d.begun.files) (mv := false) (by kernel_rfl) (by kernel_rfl) (by kernel_rfl) (by kernel_rfl) (by kernel_rfl) (by kernel_rfl) (by simp <;> omega) (by first | (simp [maxLen] <;> omega) | omega)) ?_
        refine .sg 15 [0, 1, 4, 41, 42, 43, 44, 45, 46, 47, 48, 49] (cgo 72 [false, false] [.code B26]) [(41, .ptr 0 0 0), (42, .d (.str x)), (43, .ptr 0 0 0), (44, .ptr 0 0 0), (45, .ptr 0 0 0), (46, .row 1), (47, .d (.int .i64 (↑(List.map fileD d.begun.files ++ [D.agg [D.list 1 [], D.int IntKind.i64 0]]).length : Int))), (48, .d (.int .i64 (IntKind.i64.wrap ((↑(List.map fileD d.begun.files ++ [D.agg [D.list 1 [], D.int IntKind.i64 0]]).length : Int) - 1)))), (49, .d (.agg [D.str (ByteArray.mk #[]), D.str x, D.int IntKind.i64 (IntKind.i64.wrap ((↑(List.map fileD d.begun.files ++ [D.agg [D.list 1 [], D.int IntKind.i64 0]]).length : Int) - 1))]))] [(0, .cells [.row 1, .ptr 2 0 0, .ep 2 (D.agg [D.list 1 (List.map strD d.begun.sk), D.list 1 (List.map intD d.begun.sv)]) 0, .row 5, .d (.int .i64 d.begun.quota), .d (.bool d.begun.full), .d (.bool d.begun.off), .d (.int .i64 d.begun.stop), .d (.int .i64 d.begun.calls)])] ?_
        refine .ca [0, 1, 2, 3, 4, 5] (cgo 73 [false, false] [.code B26]) F67 (@spec_67 (List.map fileD d.begun.files ++ [D.agg [D.list 1 [], D.int IntKind.i64 0]]) (D.agg [D.list 1 (List.map strD d.begun.sk), D.list 1 (List.map intD d.begun.sv)]) (List.map chD d.begun.ch) (d.begun.nk) (d.begun.nv) (d.begun.quota) (d.begun.stop) (d.begun.calls) (d.begun.full) (d.begun.off) (ByteArray.mk #[]) (x) (IntKind.i64.wrap ((↑(List.map fileD d.begun.files ++ [D.agg [D.list 1 [], D.int IntKind.i64 0]]).length : Int) - 1)) (by assumption) (by assumption) (by omega) (by simp <;> omega)) ?_
        rintro r5 s5 ⟨rfl, rfl⟩
        refine ⟨_, rfl, ?_⟩
        refine .sg0 5 [4] (cgo 78 [false, false] [.code B26]) [] ?_
        refine .kp [4] ?_
        refine .su [0, 1, 2, 3, 4, 5] (mk 51 [(4, .d (.int .i64 0))]) [.cells [.row 1, .ptr 2 0 0, .ep 2 (D.agg [D.list 1 (List.map strD d.begun.sk), D.list 1 (List.map intD d.begun.sv)]) 0, .row 5, .d (.int .i64 d.begun.quota), .d (.bool d.begun.full), .d (.bool d.begun.off), .d (.int .i64 d.begun.stop), .d (.int .i64 d.begun.calls)], .row 2 (List.map fileD d.begun.files ++ [D.agg [D.list 1 [], D.int IntKind.i64 0]]) true, .cells [.row 3, .row 4], .row 1 (List.map strD (kapply d.begun.nk d.begun.nv (ByteArray.mk #[]) x (IntKind.i64.wrap ((↑(List.map fileD d.begun.files ++ [D.agg [D.list 1 [], D.int IntKind.i64 0]]).length : Int) - 1))).fst) true, .row 1 (List.map intD (kapply d.begun.nk d.begun.nv (ByteArray.mk #[]) x (IntKind.i64.wrap ((↑(List.map fileD d.begun.files ++ [D.agg [D.list 1 [], D.int IntKind.i64 0]]).length : Int) - 1))).snd) true, .row 3 (List.map chD d.begun.ch ++ [D.agg [D.str (ByteArray.mk #[]), D.str x, D.int IntKind.i64 (IntKind.i64.wrap ((↑(List.map fileD d.begun.files ++ [D.agg [D.list 1 [], D.int IntKind.i64 0]]).length : Int) - 1))]]) true] ?_
        refine .retH F26 (v := V.d (D.int IntKind.i64 0)) (by kernel_rfl) (by kernel_rfl) ?_
        have e : d.begun.createE x = 0 := by simp [Dk.createE, h2, hl]; omega
        have hw : IntKind.i64.wrap (((List.map fileD d.begun.files ++ [D.agg [D.list 1 [], D.int IntKind.i64 0]]).length : Int) - 1) = (d.begun.files.length : Int) := by rw [wrap_i64 (by simp <;> omega) (by simp <;> omega)]; simp
        rw [hw]
        exact ⟨by rw [e], by simp [SD, dirD, Dk.createD, e, Dk.turn, fileD, chD, bsD, noName, i64]⟩
  | some k =>
    refine .sg 10 [0, 1, 4, 8, 9, 10] (cgo 10 [] [.code B26]) [(4, .d (.int .i64 0)), (8, .ptr 0 0 0), (9, .d (.str x)), (10, .row 6)] [(6, .row 1 [D.str x] false)] ?_
    refine .ca [0, 1, 2, 3, 4, 5, 6] (cgo 11 [] [.code B26]) F64 (@spec_64b (d) (N) (by assumption) (false) ([x]) ([D.str x]) (by assumption) (by simp; done) (by simp <;> omega) (by simp; done) (by assumption)) ?_
    rintro r0 s0 ⟨rfl, rfl⟩
    refine ⟨_, rfl, ?_⟩
    refine .sg0 7 [0, 1, 4, 5, 13] (cgo 18 [] [.code B26]) [(5, .d (.int .i64 (d.begun.err false [x]))), (13, .d (.bool (d.begun.err false [x] != 0)))] ?_
    refine .if' (d.begun.err false [x] != 0) (cgo 19 [true] [.code B26]) (cgo 19 [false] [.code B26]) (fun h2 => ?_) (fun h2 => ?_)
    · simp only [bsX] at h2
      refine .sg0 5 [0, 1, 4] (cgo 24 [true] [.code B26]) [(4, .d (.int .i64 (d.begun.err false [x])))] ?_
      refine .raises [1, 3, 4, 5] ?_
      refine .kp [4] ?_
      refine .su [0, 1, 2, 3, 4, 5] (mk 51 [(4, .d (.int .i64 (d.begun.err false [x])))]) [.cells [.row 1, .ptr 2 0 0, .ep 2 (D.agg [D.list 1 (List.map strD d.begun.sk), D.list 1 (List.map intD d.begun.sv)]) 0, .row 5, .d (.int .i64 d.begun.quota), .d (.bool d.begun.full), .d (.bool d.begun.off), .d (.int .i64 d.begun.stop), .d (.int .i64 d.begun.calls)], .row 2 (List.map fileD d.begun.files) true, .cells [.row 3, .row 4], .row 1 (List.map strD d.begun.nk) true, .row 1 (List.map intD d.begun.nv) true, .row 3 (List.map chD d.begun.ch) true] ?_
      refine .retH F26 (v := V.d (D.int IntKind.i64 (d.begun.err false [x]))) (by kernel_rfl) (by kernel_rfl) ?_
      simp_all [SD, dirD, Dk.createE, Dk.createD, Dk.turn, fileD, chD, bsD, noName, i64]
    · simp only [bsX] at h2
      refine .sg0 6 [0, 1, 4, 16, 17] (cgo 25 [false] [.code B26]) [(16, .ptr 0 0 0), (17, .d (.str x))] ?_
      refine .ca [0, 1, 2, 3, 4, 5] (cgo 26 [false] [.code B26]) F65 (@spec_65 (d.begun) (x) (some k) (by assumption) (by assumption) (by assumption) (by omega) (by assumption)) ?_
      rintro r2 s2 ⟨rfl, rfl⟩
      refine ⟨_, rfl, ?_⟩
      refine .sg 30 [0, 1, 4, 31, 32, 33, 34, 35, 36, 37] (cgo 56 [false, false] [.code B26]) [(31, .ptr 0 0 0), (32, .ptr 0 0 0), (33, .ptr 0 0 0), (34, .ptr 0 0 0), (35, .row 1), (36, .agg [.ex 1 [], .d (.int .i64 0)]), (37, .row 7)] [(7, .row 2 [D.agg [D.list 1 [], D.int IntKind.i64 0]] false)] ?_
      refine .op' (cgo 57 [false, false] [.code B26]) (appRow_ok (s := (.tmp 35)) (x := (.tmp 37)) (t := 105) (t2 := 105) (sz := 2) (by' := 32) (ys := [D.agg [D.list 1 [], D.int IntKind.i64 0]]) (l := 1) (xs := List.map fileD d.begun.files) (mv := false) (by kernel_rfl) (by kernel_rfl) (by kernel_rfl) (by kernel_rfl) (by kernel_rfl) (by kernel_rfl) (by simp <;> omega) (by first | (simp [maxLen] <;> omega) | omega)) ?_
      refine .sg 15 [0, 1, 4, 41, 42, 43, 44, 45, 46, 47, 48, 49] (cgo 72 [false, false] [.code B26]) [(41, .ptr 0 0 0), (42, .d (.str x)), (43, .ptr 0 0 0), (44, .ptr 0 0 0), (45, .ptr 0 0 0), (46, .row 1), (47, .d (.int .i64 (↑(List.map fileD d.begun.files ++ [D.agg [D.list 1 [], D.int IntKind.i64 0]]).length : Int))), (48, .d (.int .i64 (IntKind.i64.wrap ((↑(List.map fileD d.begun.files ++ [D.agg [D.list 1 [], D.int IntKind.i64 0]]).length : Int) - 1)))), (49, .d (.agg [D.str (ByteArray.mk #[]), D.str x, D.int IntKind.i64 (IntKind.i64.wrap ((↑(List.map fileD d.begun.files ++ [D.agg [D.list 1 [], D.int IntKind.i64 0]]).length : Int) - 1))]))] [(0, .cells [.row 1, .ptr 2 0 0, .ep 2 (D.agg [D.list 1 (List.map strD d.begun.sk), D.list 1 (List.map intD d.begun.sv)]) 0, .row 5, .d (.int .i64 d.begun.quota), .d (.bool d.begun.full), .d (.bool d.begun.off), .d (.int .i64 d.begun.stop), .d (.int .i64 d.begun.calls)])] ?_
      refine .ca [0, 1, 2, 3, 4, 5] (cgo 73 [false, false] [.code B26]) F67 (@spec_67 (List.map fileD d.begun.files ++ [D.agg [D.list 1 [], D.int IntKind.i64 0]]) (D.agg [D.list 1 (List.map strD d.begun.sk), D.list 1 (List.map intD d.begun.sv)]) (List.map chD d.begun.ch) (d.begun.nk) (d.begun.nv) (d.begun.quota) (d.begun.stop) (d.begun.calls) (d.begun.full) (d.begun.off) (ByteArray.mk #[]) (x) (IntKind.i64.wrap ((↑(List.map fileD d.begun.files ++ [D.agg [D.list 1 [], D.int IntKind.i64 0]]).length : Int) - 1)) (by assumption) (by assumption) (by omega) (by simp <;> omega)) ?_
      rintro r3 s3 ⟨rfl, rfl⟩
      refine ⟨_, rfl, ?_⟩
      refine .sg0 5 [4] (cgo 78 [false, false] [.code B26]) [] ?_
      refine .kp [4] ?_
      refine .su [0, 1, 2, 3, 4, 5] (mk 51 [(4, .d (.int .i64 0))]) [.cells [.row 1, .ptr 2 0 0, .ep 2 (D.agg [D.list 1 (List.map strD d.begun.sk), D.list 1 (List.map intD d.begun.sv)]) 0, .row 5, .d (.int .i64 d.begun.quota), .d (.bool d.begun.full), .d (.bool d.begun.off), .d (.int .i64 d.begun.stop), .d (.int .i64 d.begun.calls)], .row 2 (List.map fileD d.begun.files ++ [D.agg [D.list 1 [], D.int IntKind.i64 0]]) true, .cells [.row 3, .row 4], .row 1 (List.map strD (kapply d.begun.nk d.begun.nv (ByteArray.mk #[]) x (IntKind.i64.wrap ((↑(List.map fileD d.begun.files ++ [D.agg [D.list 1 [], D.int IntKind.i64 0]]).length : Int) - 1))).fst) true, .row 1 (List.map intD (kapply d.begun.nk d.begun.nv (ByteArray.mk #[]) x (IntKind.i64.wrap ((↑(List.map fileD d.begun.files ++ [D.agg [D.list 1 [], D.int IntKind.i64 0]]).length : Int) - 1))).snd) true, .row 3 (List.map chD d.begun.ch ++ [D.agg [D.str (ByteArray.mk #[]), D.str x, D.int IntKind.i64 (IntKind.i64.wrap ((↑(List.map fileD d.begun.files ++ [D.agg [D.list 1 [], D.int IntKind.i64 0]]).length : Int) - 1))]]) true] ?_
      refine .retH F26 (v := V.d (D.int IntKind.i64 0)) (by kernel_rfl) (by kernel_rfl) ?_
      have e : d.begun.createE x = 0 := by simp [Dk.createE, h2, hl]
      have hw : IntKind.i64.wrap (((List.map fileD d.begun.files ++ [D.agg [D.list 1 [], D.int IntKind.i64 0]]).length : Int) - 1) = (d.begun.files.length : Int) := by rw [wrap_i64 (by simp <;> omega) (by simp <;> omega)]; simp
      rw [hw]
      exact ⟨by rw [e], by simp [SD, dirD, Dk.createD, e, Dk.turn, fileD, chD, bsD, noName, i64]⟩
end Go.Proofs.Ytoelkgbeefoplaa
namespace Go.Proofs.Ytoelkgbeefoplaa
open Go Go.Br Go.Proofs
end Go.Proofs.Ytoelkgbeefoplaa
namespace Go.Proofs.Ytoelkgbeefoplaa
open Go Go.Br Go.Proofs
end Go.Proofs.Ytoelkgbeefoplaa
namespace Go.Proofs.Ytoelkgbeefoplaa
open Go Go.Br Go.Proofs
end Go.Proofs.Ytoelkgbeefoplaa
namespace Go.Proofs.Ytoelkgbeefoplaa
open Go Go.Br Go.Proofs
noncomputable def B33 : Code := (Try.f33.body).getD .skip
theorem F33 : Fnc Try.prog 33 Try.f33 B33 := ⟨Try.func33, by kernel_rfl, by kernel_rfl⟩
noncomputable def B27 : Code := (Try.f27.body).getD .skip
theorem F27 : Fnc Try.prog 27 Try.f27 B27 := ⟨Try.func27, by kernel_rfl, by kernel_rfl⟩
noncomputable def B25 : Code := (Try.f25.body).getD .skip
theorem F25 : Fnc Try.prog 25 Try.f25 B25 := ⟨Try.func25, by kernel_rfl, by kernel_rfl⟩
theorem spec_61 (bs : List UInt8) (hlen : bs.length ≤ 140737488355000) : Br.Pure Try.prog 61 [.d (bsD bs)] (.d (bsD bs)) := clone_pure bs hlen
theorem spec_33 (d : Dk) (N : Nat) (h : d.Ok N) (hN : N + 2 ≤ 50000) :
    CallsA Try.prog 33 [.ptr 0 0 0] (SD d false) fun r σ' => r = .ret (.d (.int .i64 (d.begun.err false []))) ∧ σ' = SD d.begun.syncDirD true := by
  refine CallsA.start F33 (tm := mk (Try.f33.ntmps) [(0, .ptr 0 0 0)]) (by kernel_rfl) ?_
  have hk := Dk.begun_ok h (by omega : N + 1 ≤ 50000)
  have q1 := hk.nr
  have q2 := hk.nl
  have q3 := hk.nkl
  have q4 := hk.nb
  refine .sg0 8 [0, 2, 4] (cgo 8 [] [.code B33]) [(2, .d (.int .i64 0)), (4, .ptr 0 0 0)] ?_
  refine .ca [0, 1, 2, 3, 4, 5] (cgo 9 [] [.code B33]) F64 (@spec_64 (d) (N) (by assumption) (by assumption)) ?_
  rintro r0 s0 ⟨rfl, rfl⟩
  refine ⟨_, rfl, ?_⟩
  refine .sg0 7 [0, 2, 3, 7] (cgo 16 [] [.code B33]) [(3, .d (.int .i64 (d.begun.err false []))), (7, .d (.bool (d.begun.err false [] != 0)))] ?_
  refine .if' (d.begun.err false [] != 0) (cgo 17 [true] [.code B33]) (cgo 17 [false] [.code B33]) (fun h2 => ?_) (fun h2 => ?_)
  · simp only [bsX] at h2
    refine .seg 5 [0, 2] (T' := cgo 22 [true] [.code B33]) (tm' := mk 20 [(0, .ptr 0 0 0), (2, .d (.int .i64 (d.begun.err false [])))]) (σ' := [.cells [.row 1, .ptr 2 0 0, .ep 2 (D.agg [D.list 1 (List.map strD d.begun.sk), D.list 1 (List.map intD d.begun.sv)]) 0, .row 5, .d (.int .i64 d.begun.quota), .d (.bool d.begun.full), .d (.bool d.begun.off), .d (.int .i64 d.begun.stop), .d (.int .i64 d.begun.calls)], .row 2 (List.map fileD d.begun.files) false, .cells [.row 3, .row 4], .row 1 (List.map strD d.begun.nk) false, .row 1 (List.map intD d.begun.nv) false, .row 3 (List.map chD d.begun.ch) false]) (by kernel_rfl) ?_
    refine .raise 1 rfl rfl ?_
    refine .raise 3 rfl rfl ?_
    refine .raise 4 rfl rfl ?_
    refine .raise 5 rfl rfl ?_
    refine .retH F33 (v := V.d (D.int IntKind.i64 (d.begun.err false []))) (by kernel_rfl) (by kernel_rfl) ?_
    have e : d.begun.off = true := by
      cases ho : d.begun.off with
      | true => rfl
      | false => simp_all [Dk.err]
    exact ⟨rfl, by simp [SD, dirD, Dk.syncDirD, e]⟩
  · simp only [bsX] at h2
    refine .sg0 9 [0, 2, 9, 10, 11, 12, 13, 14] (cgo 26 [false] [.code B33]) [(9, .ptr 0 0 0), (10, .ptr 0 0 0), (11, .ptr 0 0 0), (12, .ptr 0 0 0), (13, .ptr 0 0 1), (14, .ptr 2 0 0)] ?_
    refine .ca [2, 3, 4] (cgo 27 [false] [.code B33]) F69 (@spec_69 (d.begun.nk) (d.begun.nv) (by assumption) (by omega) (by assumption)) ?_
    rintro r2 s2 ⟨rfl, rfl⟩
    refine ⟨_, rfl, ?_⟩
    refine .seg 11 [2] (T' := cgo 38 [false] [.code B33]) (tm' := mk 20 [(2, .d (.int .i64 0))]) (σ' := [.cells [.row 1, .ptr 2 0 0, .ptr 6 0 0, .ex 3 [], .d (.int .i64 d.begun.quota), .d (.bool d.begun.full), .d (.bool d.begun.off), .d (.int .i64 d.begun.stop), .d (.int .i64 d.begun.calls)], .row 2 (List.map fileD d.begun.files) false, .cells [.row 3, .row 4], .row 1 (List.map strD d.begun.nk) false, .row 1 (List.map intD d.begun.nv) false, .row 3 (List.map chD d.begun.ch) false, .cells [.row 7, .row 8], .row 1 (List.map strD d.begun.nk) true, .row 1 (List.map intD d.begun.nv) true]) (by kernel_rfl) ?_
    refine .freeze 7 (sz := 1) (xs := List.map strD d.begun.nk) (mv := true) (by kernel_rfl) ?_
    refine .freeze 8 (sz := 1) (xs := List.map intD d.begun.nv) (mv := true) (by kernel_rfl) ?_
    refine .freezeC 6 (cs0 := [.d (.list 1 (List.map strD d.begun.nk)), .d (.list 1 (List.map intD d.begun.nv))]) (ds := [D.list 1 (List.map strD d.begun.nk), D.list 1 (List.map intD d.begun.nv)]) (by kernel_rfl) (by kernel_rfl) ?_
    refine .virtX 0 3 3 rfl rfl ?_
    refine .raises [1, 3, 4, 9] ?_
    refine .subM [0, 1, 2, 3, 4, 9] (mk 20 [(2, .d (.int .i64 0))]) [.cells [.row 1, .ptr 2 0 0, .ep 2 (dirD d.begun.nk d.begun.nv) 0, .row 5, .d (.int .i64 d.begun.quota), .d (.bool d.begun.full), .d (.bool d.begun.off), .d (.int .i64 d.begun.stop), .d (.int .i64 d.begun.calls)], .row 2 (List.map fileD d.begun.files) true, .cells [.row 3, .row 4], .row 1 (List.map strD d.begun.nk) true, .row 1 (List.map intD d.begun.nv) true, .row 3 [] true] none [] ⟨rfl, rfl, by kernel_rfl⟩ (by kernel_rfl) ⟨Nat.le_of_ble_eq_true (by kernel_rfl), by kernel_rfl⟩ (by kernel_rfl) ⟨by kernel_rfl, by kernel_rfl⟩ ⟨rfl, rfl⟩ ?_
    refine .retH F33 (v := V.d (D.int IntKind.i64 0)) (by kernel_rfl) (by kernel_rfl) ?_
    have e : d.begun.off = false := by
      cases ho : d.begun.off with
      | false => rfl
      | true => simp_all [Dk.err]
    have e2 : d.begun.err false [] = 0 := by simp [Dk.err, e]
    exact ⟨by rw [e2], by simp [SD, Dk.syncDirD, e]⟩
theorem spec_27 (d : Dk) (N : Nat) (h : d.Ok N) (x : ByteArray) :
    CallsA Try.prog 27 [.ptr 0 0 0, .d (.str x)] (SD d false) fun r σ' => r = .ret (.tuple [.d (if (look d.nk d.nv x).isSome then bsD (d.file (d.num x)).1 else .list 1 []), .d (.int .i64 (if (look d.nk d.nv x).isSome then 0 else 3))]) ∧ σ' = SD d false := by
  refine CallsA.start F27 (tm := mk (Try.f27.ntmps) [(0, .ptr 0 0 0), (1, .d (.str x))]) (by kernel_rfl) ?_
  have q1 := h.nr
  have q2 := h.nl
  have q3 := h.nkl
  have q4 := h.nb
  have q5 : ∀ k, look d.nk d.nv x = some k → 0 ≤ k ∧ k < d.files.length := fun k hk' => h.nn k (look_mem hk')
  cases hl : look d.nk d.nv x with
  | none =>
    refine .sg0 9 [0, 1, 4, 5, 9, 10] (cgo 9 [] [.code B27]) [(4, .nils), (5, .d (.int .i64 0)), (9, .ptr 0 0 0), (10, .d (.str x))] ?_
    refine .ca [0, 1, 2, 3, 4, 5] (cgo 10 [] [.code B27]) F65 (@spec_65 (d) (x) (none) (by assumption) (by assumption) (by assumption) (by omega) (by assumption)) ?_
    rintro r0 s0 ⟨rfl, rfl⟩
    refine ⟨_, rfl, ?_⟩
    refine .sg0 18 [4, 5, 6] (cgo 28 [true] [.code B27]) [(5, .d (.int .i64 3)), (6, .d (.raw (Value.pointer none)))] ?_
    refine .coerce [0, 0, 0, 0, 22, 23] ?_
    refine .retH F27 (v := V.tuple [V.d (D.list 1 []), V.d (D.int IntKind.i64 3)]) (by kernel_rfl) (by kernel_rfl) ?_
    exact ⟨rfl, rfl⟩
  | some k =>
    have q6 := q5 k hl
    have q61 := q6.1
    have hlt : k.toNat < d.files.length := by omega
    obtain ⟨f, hf⟩ := get_some (l := d.files) (i := k.toNat) hlt
    have hm := h.fs f (List.mem_of_getElem? hf)
    have hfile : d.file (d.num x) = f := by simp [Dk.file, Dk.num, hl, List.getD_eq_getElem?_getD, hf]
    have hfb : bsD f.1 = D.list 1 (List.map u8 f.1) := rfl
    refine .sg0 9 [0, 1, 4, 5, 9, 10] (cgo 9 [] [.code B27]) [(4, .nils), (5, .d (.int .i64 0)), (9, .ptr 0 0 0), (10, .d (.str x))] ?_
    refine .ca [0, 1, 2, 3, 4, 5] (cgo 10 [] [.code B27]) F65 (@spec_65 (d) (x) (some k) (by assumption) (by assumption) (by assumption) (by omega) (by assumption)) ?_
    rintro r0 s0 ⟨rfl, rfl⟩
    refine ⟨_, rfl, ?_⟩
    refine .sg0 19 [4, 5, 6, 16, 17, 18] (cgo 29 [false] [.code B27]) [(6, .ptr 1 k.toNat 0), (16, .ptr 1 k.toNat 0), (17, .ptr 1 k.toNat 0), (18, .ptr 1 k.toNat 0)] ?_
    refine .op' (cgo 30 [false] [.code B27]) (ldRow_ok (t := 22) (x := (.tmp 18)) (l := 1) (i := k.toNat) (s := 0) (sz := 2) (xs := List.map fileD d.files) (mv := false) (d := fileD f) (v := .d (.list 1 (List.map u8 f.fst))) (by kernel_rfl) (by kernel_rfl) (by kernel_rfl) (map_get hf) (by kernel_rfl)) ?_
    refine .semH (o := (opOf (cgo 30 [false] [Item.code B27])).getD default) (v := .d (.list 1 (List.map u8 f.fst))) (σ' := [.cells [.row 1, .ptr 2 0 0, .ep 2 (D.agg [D.list 1 (List.map strD d.sk), D.list 1 (List.map intD d.sv)]) 0, .row 5, .d (.int .i64 d.quota), .d (.bool d.full), .d (.bool d.off), .d (.int .i64 d.stop), .d (.int .i64 d.calls)], .row 2 (List.map fileD d.files) false, .cells [.row 3, .row 4], .row 1 (List.map strD d.nk) false, .row 1 (List.map intD d.nv) false, .row 3 (List.map chD d.ch) false]) (by kernel_rfl) (by kernel_rfl) (T' := cgo 31 [false] [Item.code B27]) (by kernel_rfl) (fun kz => sem_data0 (x := (.func 61)) (args := #[(.tmp 19)]) (ts := #[22]) (first := []) (cap := []) (ds := [.d (.list 1 (List.map u8 f.fst))]) (v := .d (.list 1 (List.map u8 f.fst))) F61 (@spec_61 (f.fst) (by omega)) (by kernel_rfl) (by kernel_rfl) (by kernel_rfl) (by kernel_rfl) (by kernel_rfl) (by kernel_rfl) _) ?_
    refine .seg 3 [4, 5] (T' := cgo 34 [false] [.code B27]) (tm' := mk 21 [(4, .d (.list 1 (List.map u8 f.fst))), (5, .d (.int .i64 0))]) (σ' := [.cells [.row 1, .ptr 2 0 0, .ep 2 (D.agg [D.list 1 (List.map strD d.sk), D.list 1 (List.map intD d.sv)]) 0, .row 5, .d (.int .i64 d.quota), .d (.bool d.full), .d (.bool d.off), .d (.int .i64 d.stop), .d (.int .i64 d.calls)], .row 2 (List.map fileD d.files) false, .cells [.row 3, .row 4], .row 1 (List.map strD d.nk) false, .row 1 (List.map intD d.nv) false, .row 3 (List.map chD d.ch) false]) (by kernel_rfl) ?_
    refine .retH F27 (v := V.tuple [V.d (D.list 1 (List.map u8 f.fst)), V.d (D.int IntKind.i64 0)]) (by kernel_rfl) (by kernel_rfl) ?_
    simp_all [SD, dirD]
theorem spec_25 (q : Int) : CallsA Try.prog 25 [.d (.int .i64 q)] [] fun r σ' => r = .ret (.ptr 0 0 0) ∧ σ' = SD (Dk.new q) true := by
  refine CallsA.start F25 (tm := mk (Try.f25.ntmps) [(0, .d (.int .i64 q))]) (by kernel_rfl) ?_
  refine .seg 16 [2] (T' := cgo 16 [] [.code B25]) (tm' := mk 11 [(2, .ptr 2 0 0)]) (σ' := [.cells [.ex 1 [], .ex 1 []], .cells [.ex 1 [], .ex 1 []], .cells [.ex 2 [], .ptr 0 0 0, .ptr 1 0 0, .ex 3 [], .d (.int .i64 (if 0 > q then 0 else q)), .d (.bool false), .d (.bool false), .d (.int .i64 (-1)), .d (.int .i64 0)]]) (by kernel_rfl) ?_
  refine .virtX 2 0 2 rfl rfl ?_
  refine .virtX 2 3 3 rfl rfl ?_
  refine .virtX 0 0 1 rfl rfl ?_
  refine .virtX 0 1 1 rfl rfl ?_
  refine .freezeC 1 (cs0 := [V.ex 1 [], V.ex 1 []]) (ds := [D.list 1 [], D.list 1 []]) (by kernel_rfl) (by kernel_rfl) ?_
  refine .raises [3, 4, 5, 6] ?_
  refine .su [2, 3, 0, 5, 6, 4] (mk 11 [(2, .ptr 0 0 0)]) (SD (Dk.new q) true) ?_
  refine .retH F25 (v := V.ptr 0 0 0) (by kernel_rfl) (by kernel_rfl) ?_
  exact ⟨rfl, rfl⟩
end Go.Proofs.Ytoelkgbeefoplaa
namespace Go.Proofs.Ytoelkgbeefoplaa
open Go Go.Br Go.Proofs
def flip (bs : List UInt8) (j b : Nat) : List UInt8 := bs.set j (bs.getD j 0 ^^^ (1 <<< UInt8.ofNat b))
def turn (A o N : Nat) (P : BitVec 32) : Nat → Nat → List UInt8 → Bool → List UInt8 × Bool
  | 0, _, row, tn => (row, tn)
  | m + 1, i, row, tn => if o + i < N then (if P.getLsbD i then turn A o N P m (i + 1) (flip row (A + 4 + (o + i) / 8) ((o + i) % 8)) true else turn A o N P m (i + 1) row tn) else (row, tn)
section
variable {Q : AE → Store → Prop} {k : Nat}
end
end Go.Proofs.Ytoelkgbeefoplaa
namespace Go.Proofs.Ytoelkgbeefoplaa
open Go Go.Br Go.Proofs
end Go.Proofs.Ytoelkgbeefoplaa
namespace Go.Proofs.Ytoelkgbeefoplaa
open Go Go.Br Go.Proofs
theorem spec_21 : Br.Pure Try.prog 21 [] (.d (.bool true)) := lives_pure
end Go.Proofs.Ytoelkgbeefoplaa
namespace Go.Proofs.Ytoelkgbeefoplaa
open Go Go.Br Go.Proofs
def SL (c s b : Int) (x : ByteArray) (d : Dk) (m : Bool) : Store := [.cells [.d (.int .i64 c), .d (.int .i64 s), .d (.int .i64 b), .ptr 1 0 0, .d (.str x)], .cells [.row 2, .ptr 3 0 0, .ep 2 (dirD d.sk d.sv) 0, .row 6, .d (.int .i64 d.quota), .d (.bool d.full), .d (.bool d.off), .d (.int .i64 d.stop), .d (.int .i64 d.calls)],
  .row 2 (d.files.map fileD) m, .cells [.row 4, .row 5], .row 1 (d.nk.map strD) m, .row 1 (d.nv.map intD) m, .row 3 (d.ch.map chD) m]
def nilP : V := .d (.raw (.pointer none))
noncomputable def B55 : Code := (Try.f55.body).getD .skip
theorem F55 : Fnc Try.prog 55 Try.f55 B55 := ⟨Try.func55, by kernel_rfl, by kernel_rfl⟩
noncomputable def B56 : Code := (Try.f56.body).getD .skip
theorem F56 : Fnc Try.prog 56 Try.f56 B56 := ⟨Try.func56, by kernel_rfl, by kernel_rfl⟩
noncomputable def B57 : Code := (Try.f57.body).getD .skip
theorem F57 : Fnc Try.prog 57 Try.f57 B57 := ⟨Try.func57, by kernel_rfl, by kernel_rfl⟩
noncomputable def B52 : Code := (Try.f52.body).getD .skip
theorem F52 : Fnc Try.prog 52 Try.f52 B52 := ⟨Try.func52, by kernel_rfl, by kernel_rfl⟩
noncomputable def B53 : Code := (Try.f53.body).getD .skip
theorem F53 : Fnc Try.prog 53 Try.f53 B53 := ⟨Try.func53, by kernel_rfl, by kernel_rfl⟩
noncomputable def B54 : Code := (Try.f54.body).getD .skip
theorem F54 : Fnc Try.prog 54 Try.f54 B54 := ⟨Try.func54, by kernel_rfl, by kernel_rfl⟩
theorem spec_55 (c s b : Int) (x : ByteArray) (d : Dk) : CallsA Try.prog 55 [.ptr 0 0 0] (SL c s b x d false) fun r σ' => r = .ret (.d (.int .i64 b)) ∧ σ' = SL c s b x d false := by
  refine CallsA.start F55 (tm := mk (Try.f55.ntmps) [(0, .ptr 0 0 0)]) (by kernel_rfl) ?_
  refine .seg 21 [2] (T' := cgo 21 [false] [.code B55]) (tm' := mk 10 [(2, .d (.int .i64 b))]) (σ' := [.cells [.d (.int .i64 c), .d (.int .i64 s), .d (.int .i64 b), .ptr 1 0 0, .d (.str x)], .cells [.row 2, .ptr 3 0 0, .ep 2 (D.agg [D.list 1 (List.map strD d.sk), D.list 1 (List.map intD d.sv)]) 0, .row 6, .d (.int .i64 d.quota), .d (.bool d.full), .d (.bool d.off), .d (.int .i64 d.stop), .d (.int .i64 d.calls)], .row 2 (List.map fileD d.files) false, .cells [.row 4, .row 5], .row 1 (List.map strD d.nk) false, .row 1 (List.map intD d.nv) false, .row 3 (List.map chD d.ch) false]) (by kernel_rfl) ?_
  refine .retH F55 (v := V.d (D.int IntKind.i64 b)) (by kernel_rfl) (by kernel_rfl) ?_
  exact ⟨rfl, rfl⟩
theorem spec_55c : Br.Pure Try.prog 55 [nilP] (.d (.int .i64 5)) := by
  refine CallsA.start F55 (tm := mk (Try.f55.ntmps) [(0, nilP)]) (by kernel_rfl) ?_
  refine .seg 15 [0, 2] (T' := cgo 15 [true] [.code B55]) (tm' := mk 10 [(0, .d (.raw (Value.pointer none))), (2, .d (.int .i64 5))]) (σ' := []) (by kernel_rfl) ?_
  refine .retH F55 (v := V.d (D.int IntKind.i64 5)) (by kernel_rfl) (by kernel_rfl) ?_
  exact ⟨rfl, rfl⟩
theorem spec_56c : Br.Pure Try.prog 56 [nilP] (.d (.int .i64 0)) := by
  refine CallsA.start F56 (tm := mk (Try.f56.ntmps) [(0, nilP)]) (by kernel_rfl) ?_
  refine .seg 15 [0, 2] (T' := cgo 15 [true] [.code B56]) (tm' := mk 10 [(0, .d (.raw (Value.pointer none))), (2, .d (.int .i64 0))]) (σ' := []) (by kernel_rfl) ?_
  refine .retH F56 (v := V.d (D.int IntKind.i64 0)) (by kernel_rfl) (by kernel_rfl) ?_
  exact ⟨rfl, rfl⟩
theorem spec_57c : Br.Pure Try.prog 57 [nilP] (.d (.int .i64 0)) := by
  refine CallsA.start F57 (tm := mk (Try.f57.ntmps) [(0, nilP)]) (by kernel_rfl) ?_
  refine .seg 15 [0, 2] (T' := cgo 15 [true] [.code B57]) (tm' := mk 10 [(0, .d (.raw (Value.pointer none))), (2, .d (.int .i64 0))]) (σ' := []) (by kernel_rfl) ?_
  refine .retH F57 (v := V.d (D.int IntKind.i64 0)) (by kernel_rfl) (by kernel_rfl) ?_
  exact ⟨rfl, rfl⟩
theorem spec_41c : Br.Pure Try.prog 41 [nilP] (.d (.bool true)) := by
  refine CallsA.start F41 (tm := mk (Try.f41.ntmps) [(0, nilP)]) (by kernel_rfl) ?_
  refine .seg 16 [2] (T' := cgo 16 [] [.code B41]) (tm' := mk 11 [(2, .d (.bool true))]) (σ' := []) (by kernel_rfl) ?_
  refine .retH F41 (v := V.d (D.bool true)) (by kernel_rfl) (by kernel_rfl) ?_
  exact ⟨rfl, rfl⟩
theorem spec_52c (ds : List D) : Br.Pure Try.prog 52 [nilP, .d (.list 1 ds)] (.d (.int .i64 5)) := by
  refine CallsA.start F52 (tm := mk (Try.f52.ntmps) [(0, nilP), (1, .d (.list 1 ds))]) (by kernel_rfl) ?_
  refine .sg0 8 [0, 1, 4, 9] (cgo 8 [] [.code B52]) [(4, .d (.int .i64 0)), (9, .d (.raw (Value.pointer none)))] ?_
  refine .semH (o := (opOf (cgo 8 [] [Item.code B52])).getD default) (v := .d (.int .i64 5)) (σ' := []) (by kernel_rfl) (by kernel_rfl) (T' := cgo 9 [] [Item.code B52]) (by kernel_rfl) (fun kz => sem_data0 (x := (.func 55)) (args := #[(.tmp 9)]) (ts := #[85]) (first := []) (cap := []) (ds := [.d (.raw (Value.pointer none))]) (v := .d (.int .i64 5)) F55 (@spec_55c) (by kernel_rfl) (by kernel_rfl) (by kernel_rfl) (by kernel_rfl) (by kernel_rfl) (by kernel_rfl) _) ?_
  refine .seg 13 [0, 1, 4] (T' := cgo 22 [true] [.code B52]) (tm' := mk 64 [(0, .d (.raw (Value.pointer none))), (1, .d (.list 1 ds)), (4, .d (.int .i64 5))]) (σ' := []) (by kernel_rfl) ?_
  refine .retH F52 (v := V.d (D.int IntKind.i64 5)) (by kernel_rfl) (by kernel_rfl) ?_
  exact ⟨rfl, rfl⟩
theorem spec_53c : Br.Pure Try.prog 53 [nilP] (.d (.int .i64 5)) := by
  refine CallsA.start F53 (tm := mk (Try.f53.ntmps) [(0, nilP)]) (by kernel_rfl) ?_
  refine .sg0 8 [0, 2, 4] (cgo 8 [] [.code B53]) [(2, .d (.int .i64 0)), (4, .d (.raw (Value.pointer none)))] ?_
  refine .semH (o := (opOf (cgo 8 [] [Item.code B53])).getD default) (v := .d (.int .i64 5)) (σ' := []) (by kernel_rfl) (by kernel_rfl) (T' := cgo 9 [] [Item.code B53]) (by kernel_rfl) (fun kz => sem_data0 (x := (.func 55)) (args := #[(.tmp 4)]) (ts := #[85]) (first := []) (cap := []) (ds := [.d (.raw (Value.pointer none))]) (v := .d (.int .i64 5)) F55 (@spec_55c) (by kernel_rfl) (by kernel_rfl) (by kernel_rfl) (by kernel_rfl) (by kernel_rfl) (by kernel_rfl) _) ?_
  refine .seg 13 [0, 2] (T' := cgo 22 [true] [.code B53]) (tm' := mk 22 [(0, .d (.raw (Value.pointer none))), (2, .d (.int .i64 5))]) (σ' := []) (by kernel_rfl) ?_
  refine .retH F53 (v := V.d (D.int IntKind.i64 5)) (by kernel_rfl) (by kernel_rfl) ?_
  exact ⟨rfl, rfl⟩
theorem spec_54c (ds : V) : Br.Pure Try.prog 54 [nilP, ds] (.d (.int .i64 5)) := by
  refine CallsA.start F54 (tm := mk (Try.f54.ntmps) [(0, nilP), (1, ds)]) (by kernel_rfl) ?_
  refine .sg0 8 [0, 1, 4, 13] (cgo 8 [] [.code B54]) [(4, .d (.int .i64 0)), (13, .d (.raw (Value.pointer none)))] ?_
  refine .semH (o := (opOf (cgo 8 [] [Item.code B54])).getD default) (v := .d (.int .i64 5)) (σ' := []) (by kernel_rfl) (by kernel_rfl) (T' := cgo 9 [] [Item.code B54]) (by kernel_rfl) (fun kz => sem_data0 (x := (.func 55)) (args := #[(.tmp 13)]) (ts := #[85]) (first := []) (cap := []) (ds := [.d (.raw (Value.pointer none))]) (v := .d (.int .i64 5)) F55 (@spec_55c) (by kernel_rfl) (by kernel_rfl) (by kernel_rfl) (by kernel_rfl) (by kernel_rfl) (by kernel_rfl) _) ?_
  refine .seg 13 [0, 1, 4] (T' := cgo 22 [true] [.code B54]) (tm' := mk 58 [(0, .d (.raw (Value.pointer none))), (1, ds), (4, .d (.int .i64 5))]) (σ' := []) (by kernel_rfl) ?_
  refine .retH F54 (v := V.d (D.int IntKind.i64 5)) (by kernel_rfl) (by kernel_rfl) ?_
  exact ⟨rfl, rfl⟩
end Go.Proofs.Ytoelkgbeefoplaa
namespace Go.Proofs.Ytoelkgbeefoplaa
open Go Go.Br Go.Proofs
def makeE (d : Dk) (x : ByteArray) : Int := if d.begun.createE x ≠ 0 then d.begun.createE x else (d.begun.createD x).begun.err false []
def makeL (d : Dk) (x : ByteArray) : Dk := if d.begun.createE x ≠ 0 then d.begun.createD x else (d.begun.createD x).begun.syncDirD
noncomputable def B87 : Code := (Try.f87.body).getD .skip
theorem F87 : Fnc Try.prog 87 Try.f87 B87 := ⟨Try.func87, by kernel_rfl, by kernel_rfl⟩
theorem spec_87 (c s b : Int) (x : ByteArray) (d : Dk) (N : Nat) (h : d.Ok N) (hN : N + 5 ≤ 50000) (hx : x.size < 1000000000) : CallsA Try.prog 87 [.ptr 0 0 0] (SL c s b x d false) fun r σ' => r = .ret (.d (.int .i64 (makeE d x))) ∧ σ' = SL c s b x (makeL d x) true := by
  refine CallsA.start F87 (tm := mk (Try.f87.ntmps) [(0, .ptr 0 0 0)]) (by kernel_rfl) ?_
  have h1 := Dk.createD_ok (Dk.begun_ok h (by omega)) (by omega) x
  refine .sg0 6 [0, 2] (cgo 6 [] [.code B87]) [(2, .d (.int .i64 0))] ?_
  refine .dr (cgo 7 [] [.code B87]) [(3, .d (.int .i64 (d.begun.createE x))), (4, .ptr 0 0 0), (5, .ptr 0 0 0), (6, .ptr 0 0 3), (7, .ptr 1 0 0), (8, .ptr 0 0 0), (9, .ptr 0 0 0), (10, .ptr 0 0 4), (11, .d (.str x)), (12, .d (.int .i64 (d.begun.createE x)))] [(1, .cells [.row 2, .ptr 3 0 0, .ep 2 (D.agg [D.list 1 (List.map strD (d.begun.createD x).sk), D.list 1 (List.map intD (d.begun.createD x).sv)]) 0, .row 6, .d (.int .i64 (d.begun.createD x).quota), .d (.bool (d.begun.createD x).full), .d (.bool (d.begun.createD x).off), .d (.int .i64 (d.begun.createD x).stop), .d (.int .i64 (d.begun.createD x).calls)]), (2, .row 2 (List.map fileD (d.begun.createD x).files) true), (4, .row 1 (List.map strD (d.begun.createD x).nk) true), (5, .row 1 (List.map intD (d.begun.createD x).nv) true), (6, .row 3 (List.map chD (d.begun.createD x).ch) true)] (fun kz L hL => ?_) ?_
  · refine ⟨[⟨[], [], [], [0], [0], [], true, false⟩, ⟨[], [], [], [0], [0], [0], true, false⟩, ⟨[], [], [], [0], [0], [0], true, false⟩, ⟨[0], [], [], [1], [0, 1], [], true, false⟩, ⟨[], [], [], [0], [0], [], true, false⟩, ⟨[], [], [], [0], [0], [0], true, false⟩, ⟨[], [], [], [0], [0], [0], true, false⟩, ⟨[0], [], [], [], [0, 1], [], true, false⟩, ⟨[1, 2, 3, 4, 5, 6], [1, 2, 3, 4, 5, 6], [2, 4, 5, 6], [2, 3, 6, 4, 5], [1, 2, 3, 6, 4, 5], [], true, false⟩, ⟨[], [], [], [], [], [], true, false⟩], run_amongF hL _ [] [0, 1, 2, 3, 4, 5, 6, 7, 8, 9] (by intro p hp; cases hp) (by kernel_rfl) ?_⟩
    refine Run.ap [0, 1, 2, 3, 4, 5, 6, 7] [(4, .ptr 0 0 0), (5, .ptr 0 0 0), (6, .ptr 0 0 3), (7, .ptr 1 0 0), (8, .ptr 0 0 0), (9, .ptr 0 0 0), (10, .ptr 0 0 4), (11, .d (.str x))] [] ?_
    refine Run.one (StepF.call (o := ((drawOf (cgo 6 [] [.code B87]))[8]?).getD default) (x := (.func 26)) (args := #[(.tmp 7), (.tmp 11)]) (ts := #[40, 9]) (first := []) (cap := []) [1, 2, 3, 4, 5, 6] [.ptr 0 0 0, .d (.str x)] [.cells [.row 1, .ptr 2 0 0, .ep 2 (D.agg [D.list 1 (List.map strD d.sk), D.list 1 (List.map intD d.sv)]) 0, .row 5, .d (.int .i64 d.quota), .d (.bool d.full), .d (.bool d.off), .d (.int .i64 d.stop), .d (.int .i64 d.calls)], .row 2 (List.map fileD d.files) false, .cells [.row 3, .row 4], .row 1 (List.map strD d.nk) false, .row 1 (List.map intD d.nv) false, .row 3 (List.map chD d.ch) false] [.cells [.row 1, .ptr 2 0 0, .ep 2 (dirD (d.begun.createD x).sk (d.begun.createD x).sv) 0, .row 5, .d (.int .i64 (d.begun.createD x).quota), .d (.bool (d.begun.createD x).full), .d (.bool (d.begun.createD x).off), .d (.int .i64 (d.begun.createD x).stop), .d (.int .i64 (d.begun.createD x).calls)], .row 2 (List.map fileD (d.begun.createD x).files) true, .cells [.row 3, .row 4], .row 1 (List.map strD (d.begun.createD x).nk) true, .row 1 (List.map intD (d.begun.createD x).nv) true, .row 3 (List.map chD (d.begun.createD x).ch) true] (v := .d (.int .i64 (d.begun.createE x))) (by kernel_rfl) rfl (by kernel_rfl) (by kernel_rfl) F26 (@spec_26 (d) (N) (by assumption) (by omega) (x) (by assumption)) (by kernel_rfl) (by kernel_rfl) (by kernel_rfl) (by kernel_rfl) ⟨rfl, rfl, by kernel_rfl⟩ (by kernel_rfl) (by kernel_rfl) (by kernel_rfl) (by kernel_rfl) (by kernel_rfl) rfl rfl) ?_
    exact Run.fin
  refine .sg0 5 [0, 2, 3, 14] (cgo 12 [] [.code B87]) [(14, .d (.bool (d.begun.createE x != 0)))] ?_
  refine .if' (d.begun.createE x != 0) (cgo 13 [true] [.code B87]) (cgo 13 [false] [.code B87]) (fun h4 => ?_) (fun h4 => ?_)
  · simp only [bsX] at h4
    refine .seg 5 [0, 2] (T' := cgo 18 [true] [.code B87]) (tm' := mk 21 [(0, .ptr 0 0 0), (2, .d (.int .i64 (d.begun.createE x)))]) (σ' := [.cells [.d (.int .i64 c), .d (.int .i64 s), .d (.int .i64 b), .ptr 1 0 0, .d (.str x)], .cells [.row 2, .ptr 3 0 0, .ep 2 (D.agg [D.list 1 (List.map strD (d.begun.createD x).sk), D.list 1 (List.map intD (d.begun.createD x).sv)]) 0, .row 6, .d (.int .i64 (d.begun.createD x).quota), .d (.bool (d.begun.createD x).full), .d (.bool (d.begun.createD x).off), .d (.int .i64 (d.begun.createD x).stop), .d (.int .i64 (d.begun.createD x).calls)], .row 2 (List.map fileD (d.begun.createD x).files) true, .cells [.row 4, .row 5], .row 1 (List.map strD (d.begun.createD x).nk) true, .row 1 (List.map intD (d.begun.createD x).nv) true, .row 3 (List.map chD (d.begun.createD x).ch) true]) (by kernel_rfl) ?_
    refine .retH F87 (v := V.d (D.int IntKind.i64 (d.begun.createE x))) (by kernel_rfl) (by kernel_rfl) ?_
    simp_all [SL, dirD, makeE, makeL]
  · simp only [bsX] at h4
    refine .sg0 7 [0, 2, 16, 17, 18, 19] (cgo 20 [false] [.code B87]) [(16, .ptr 0 0 0), (17, .ptr 0 0 0), (18, .ptr 0 0 3), (19, .ptr 1 0 0)] ?_
    refine .ca [1, 2, 3, 4, 5, 6] (cgo 21 [false] [.code B87]) F33 (@spec_33 (d.begun.createD x) (N + 1 + 1) (by assumption) (by omega)) ?_
    rintro r4 s4 ⟨rfl, rfl⟩
    refine ⟨_, rfl, ?_⟩
    refine .seg 2 [2] (T' := cgo 23 [false] [.code B87]) (tm' := mk 21 [(2, .d (.int .i64 ((d.begun.createD x).begun.err false [])))]) (σ' := [.cells [.d (.int .i64 c), .d (.int .i64 s), .d (.int .i64 b), .ptr 1 0 0, .d (.str x)], .cells [.row 2, .ptr 3 0 0, .ep 2 (D.agg [D.list 1 (List.map strD (d.begun.createD x).begun.syncDirD.sk), D.list 1 (List.map intD (d.begun.createD x).begun.syncDirD.sv)]) 0, .row 6, .d (.int .i64 (d.begun.createD x).begun.syncDirD.quota), .d (.bool (d.begun.createD x).begun.syncDirD.full), .d (.bool (d.begun.createD x).begun.syncDirD.off), .d (.int .i64 (d.begun.createD x).begun.syncDirD.stop), .d (.int .i64 (d.begun.createD x).begun.syncDirD.calls)], .row 2 (List.map fileD (d.begun.createD x).begun.syncDirD.files) true, .cells [.row 4, .row 5], .row 1 (List.map strD (d.begun.createD x).begun.syncDirD.nk) true, .row 1 (List.map intD (d.begun.createD x).begun.syncDirD.nv) true, .row 3 (List.map chD (d.begun.createD x).begun.syncDirD.ch) true]) (by kernel_rfl) ?_
    refine .retH F87 (v := V.d (D.int IntKind.i64 ((d.begun.createD x).begun.err false []))) (by kernel_rfl) (by kernel_rfl) ?_
    simp_all [SL, dirD, makeE, makeL]
end Go.Proofs.Ytoelkgbeefoplaa
namespace Go.Proofs.Ytoelkgbeefoplaa
open Go Go.Br Go.Proofs
def tmpX : ByteArray := ⟨#[46, 116, 109, 112]⟩
noncomputable def B51 : Code := (Try.f51.body).getD .skip
theorem F51 : Fnc Try.prog 51 Try.f51 B51 := ⟨Try.func51, by kernel_rfl, by kernel_rfl⟩
theorem spec_27a2 (d : Dk) (N : Nat) (h : d.Ok N) (x : ByteArray) (hl : look d.nk d.nv x = none) :
    CallsA Try.prog 27 [.ptr 0 0 0, .d (.str x)] (SD d false) fun r σ' => r = .ret (.tuple [.d (.list 1 []), .d (.int .i64 3)]) ∧ σ' = SD d false := by
  have hc := spec_27 d N h x
  rw [hl] at hc
  exact hc
theorem spec_51 (d : Dk) (N : Nat) (h : d.Ok N) (hN : N + 5 ≤ 50000) (x : ByteArray) (hx : x.size < 1000) (hm1 : mayName x = true) (hm2 : mayName (x ++ tmpX) = true) (ho : d.off = false) (hl : look d.nk d.nv x = none) (he : makeE d x = 0) :
    CallsA Try.prog 51 [.ptr 0 0 0, .d (.str x)] (SD d false) fun r σ' => r = .ret (.tuple [.ptr 6 0 0, .d (.list 1 []), .d (.int .i64 0)]) ∧ σ' = SD (makeL d x) true ++ [.cells [.d (.int .i64 0), .d (.int .i64 0), .d (.int .i64 0), .ptr 0 0 0, .d (.str x)]] := by
  refine CallsA.start F51 (tm := mk (Try.f51.ntmps) [(0, .ptr 0 0 0), (1, .d (.str x))]) (by kernel_rfl) ?_
  have hs : (⟨#[46, 116, 109, 112]⟩ : ByteArray).size = 4 := rfl
  have hx1 : (x ++ tmpX).size = x.size + 4 := by simp [tmpX, hs]
  simp only [tmpX] at *
  refine .sg0 10 [0, 1, 4, 5, 6, 14] (cgo 10 [] [.code B51]) [(4, .d (.raw (Value.pointer none))), (5, .nils), (6, .d (.int .i64 0)), (14, .d (.str x))] ?_
  refine .semH (o := (opOf (cgo 10 [] [Item.code B51])).getD default) (v := .d (.bool (mayName x))) (σ' := [.cells [.row 1, .ptr 2 0 0, .ep 2 (D.agg [D.list 1 (List.map strD d.sk), D.list 1 (List.map intD d.sv)]) 0, .row 5, .d (.int .i64 d.quota), .d (.bool d.full), .d (.bool d.off), .d (.int .i64 d.stop), .d (.int .i64 d.calls)], .row 2 (List.map fileD d.files) false, .cells [.row 3, .row 4], .row 1 (List.map strD d.nk) false, .row 1 (List.map intD d.nv) false, .row 3 (List.map chD d.ch) false]) (by kernel_rfl) (by kernel_rfl) (T' := cgo 11 [] [Item.code B51]) (by kernel_rfl) (fun kz => sem_data0 (x := (.func 28)) (args := #[(.tmp 14)]) (ts := #[9]) (first := []) (cap := []) (ds := [.d (.str x)]) (v := .d (.bool (mayName x))) F28 (@spec_28 (x) (by omega)) (by kernel_rfl) (by kernel_rfl) (by kernel_rfl) (by kernel_rfl) (by kernel_rfl) (by kernel_rfl) _) ?_
  refine .sg0 2 [0, 1, 4, 5, 6, 14, 15, 16, 17] (cgo 13 [] [.code B51]) [(16, .d (.bool !mayName x)), (17, .d (.bool !mayName x))] ?_
  rcases Bool.eq_false_or_eq_true (!mayName x) with h1 | h1
  · rw [h1]
    simp only [bsX] at h1
    simp_all
  · rw [h1]
    simp only [bsX] at h1
    refine .sg0 1 [0, 1, 4, 5, 6, 14, 15, 16, 17, 18] (cgo 14 [] [.code B51]) [(18, .d (.str x))] ?_
    refine .op' (cgo 15 [] [.code B51]) (cat_ok (t := 9) (ty := 9) (x := (.tmp 18)) (y := (.const (Value.string (ByteArray.mk #[46, 116, 109, 112])))) (s := x) (u := ByteArray.mk #[46, 116, 109, 112]) (by kernel_rfl) (by kernel_rfl) (by kernel_rfl) (by omega)) ?_
    refine .semH (o := (opOf (cgo 15 [] [Item.code B51])).getD default) (v := .d (.bool (mayName (x ++ ByteArray.mk #[46, 116, 109, 112])))) (σ' := [.cells [.row 1, .ptr 2 0 0, .ep 2 (D.agg [D.list 1 (List.map strD d.sk), D.list 1 (List.map intD d.sv)]) 0, .row 5, .d (.int .i64 d.quota), .d (.bool d.full), .d (.bool d.off), .d (.int .i64 d.stop), .d (.int .i64 d.calls)], .row 2 (List.map fileD d.files) false, .cells [.row 3, .row 4], .row 1 (List.map strD d.nk) false, .row 1 (List.map intD d.nv) false, .row 3 (List.map chD d.ch) false]) (by kernel_rfl) (by kernel_rfl) (T' := cgo 16 [] [Item.code B51]) (by kernel_rfl) (fun kz => sem_data0 (x := (.func 28)) (args := #[(.tmp 19)]) (ts := #[9]) (first := []) (cap := []) (ds := [.d (.str (x ++ ByteArray.mk #[46, 116, 109, 112]))]) (v := .d (.bool (mayName (x ++ ByteArray.mk #[46, 116, 109, 112])))) F28 (@spec_28 (x ++ ByteArray.mk #[46, 116, 109, 112]) (by omega)) (by kernel_rfl) (by kernel_rfl) (by kernel_rfl) (by kernel_rfl) (by kernel_rfl) (by kernel_rfl) _) ?_
    refine .sg0 3 [0, 1, 4, 5, 6, 22] (cgo 19 [] [.code B51]) [(22, .d (.bool !mayName (x ++ ByteArray.mk #[46, 116, 109, 112])))] ?_
    refine .if' (!mayName (x ++ ByteArray.mk #[46, 116, 109, 112])) (cgo 20 [true] [.code B51]) (cgo 20 [false] [.code B51]) (fun h2 => ?_) (fun h2 => ?_)
    · simp only [bsX] at h2
      simp_all
    · simp only [bsX] at h2
      refine .sg0 5 [0, 1, 4, 5, 6, 23] (cgo 25 [false] [.code B51]) [(23, .ptr 0 0 0)] ?_
      refine .ca [0, 1, 2, 3, 4, 5] (cgo 26 [false] [.code B51]) F41 (@spec_41 (d)) ?_
      rintro r2 s2 ⟨rfl, rfl⟩
      refine ⟨_, rfl, ?_⟩
      refine .sg0 1 [0, 1, 4, 5, 6, 24] (cgo 27 [false] [.code B51]) [] ?_
      refine .if' (d.off) (cgo 28 [false, true] [.code B51]) (cgo 28 [false, false] [.code B51]) (fun h4 => ?_) (fun h4 => ?_)
      · simp_all
      · refine .sg 13 [0, 1, 4, 5, 6, 7, 30, 31] (cgo 41 [false, false] [.code B51]) [(7, .ptr 6 0 0), (30, .ptr 0 0 0), (31, .d (.str x))] [(6, .cells [.d (.int .i64 0), .d (.int .i64 0), .d (.int .i64 0), .ptr 0 0 0, .d (.str x)])] ?_
        refine .ca [0, 1, 2, 3, 4, 5] (cgo 42 [false, false] [.code B51]) F27 (@spec_27a2 (d) (N) (by assumption) (x) (by assumption)) ?_
        rintro r4 s4 ⟨rfl, rfl⟩
        refine ⟨_, rfl, ?_⟩
        refine .sg0 17 [4, 5, 6, 7, 8, 37] (cgo 59 [false, false, true] [.code B51]) [(8, .d (.list 1 [])), (37, .ptr 6 0 0)] ?_
        refine .ca [6, 0, 1, 2, 3, 4, 5] (cgo 60 [false, false, true] [.code B51]) F87 (@spec_87 (0) (0) (0) (x) (d) (N) (by assumption) (by assumption) (by omega)) ?_
        rintro r5 s5 ⟨rfl, rfl⟩
        refine ⟨_, rfl, ?_⟩
        refine .sg0 7 [4, 5, 6, 7, 8, 10, 40] (cgo 67 [false, false, true] [.code B51]) [(10, .d (.int .i64 (makeE d x))), (40, .d (.bool (makeE d x != 0)))] ?_
        refine .if' (makeE d x != 0) (cgo 68 [false, false, true, true] [.code B51]) (cgo 68 [false, false, true, false] [.code B51]) (fun h7 => ?_) (fun h7 => ?_)
        · simp only [bsX] at h7
          omega
        · simp only [bsX] at h7
          refine .sg0 8 [4, 5, 6, 7, 8] (cgo 76 [false, false, true, false] [.code B51]) [(4, .ptr 6 0 0)] ?_
          refine .coerce [0, 0, 0, 0, 85, 26, 23] ?_
          refine .retH F51 (v := V.tuple [V.ptr 6 0 0, V.d (D.list 1 []), V.d (D.int IntKind.i64 0)]) (by kernel_rfl) (by kernel_rfl) ?_
          exact ⟨rfl, rfl⟩
theorem spec_51c (d : Dk) (x : ByteArray) (hx : x.size < 1000) (hm : (mayName x && mayName (x ++ tmpX)) = false) :
    CallsA Try.prog 51 [.ptr 0 0 0, .d (.str x)] (SD d false) fun r σ' => r = .ret (.tuple [nilP, .d (.list 1 []), .d (.int .i64 1)]) ∧ σ' = SD d false := by
  refine CallsA.start F51 (tm := mk (Try.f51.ntmps) [(0, .ptr 0 0 0), (1, .d (.str x))]) (by kernel_rfl) ?_
  have hs : (⟨#[46, 116, 109, 112]⟩ : ByteArray).size = 4 := rfl
  have hx1 : (x ++ tmpX).size = x.size + 4 := by simp [tmpX, hs]
  simp only [tmpX] at *
  refine .sg0 10 [0, 1, 4, 5, 6, 14] (cgo 10 [] [.code B51]) [(4, .d (.raw (Value.pointer none))), (5, .nils), (6, .d (.int .i64 0)), (14, .d (.str x))] ?_
  refine .semH (o := (opOf (cgo 10 [] [Item.code B51])).getD default) (v := .d (.bool (mayName x))) (σ' := [.cells [.row 1, .ptr 2 0 0, .ep 2 (D.agg [D.list 1 (List.map strD d.sk), D.list 1 (List.map intD d.sv)]) 0, .row 5, .d (.int .i64 d.quota), .d (.bool d.full), .d (.bool d.off), .d (.int .i64 d.stop), .d (.int .i64 d.calls)], .row 2 (List.map fileD d.files) false, .cells [.row 3, .row 4], .row 1 (List.map strD d.nk) false, .row 1 (List.map intD d.nv) false, .row 3 (List.map chD d.ch) false]) (by kernel_rfl) (by kernel_rfl) (T' := cgo 11 [] [Item.code B51]) (by kernel_rfl) (fun kz => sem_data0 (x := (.func 28)) (args := #[(.tmp 14)]) (ts := #[9]) (first := []) (cap := []) (ds := [.d (.str x)]) (v := .d (.bool (mayName x))) F28 (@spec_28 (x) (by omega)) (by kernel_rfl) (by kernel_rfl) (by kernel_rfl) (by kernel_rfl) (by kernel_rfl) (by kernel_rfl) _) ?_
  refine .sg0 2 [0, 1, 4, 5, 6, 14, 15, 16, 17] (cgo 13 [] [.code B51]) [(16, .d (.bool !mayName x)), (17, .d (.bool !mayName x))] ?_
  rcases Bool.eq_false_or_eq_true (!mayName x) with h1 | h1
  · rw [h1]
    simp only [bsX] at h1
    refine .sg0 13 [0, 1, 4, 5, 6] (cgo 26 [true] [.code B51]) [(6, .d (.int .i64 1))] ?_
    refine .coerce [0, 0, 0, 0, 85, 26, 23] ?_
    refine .retH F51 (v := V.tuple [V.d (D.raw (Value.pointer none)), V.d (D.list 1 []), V.d (D.int IntKind.i64 1)]) (by kernel_rfl) (by kernel_rfl) ?_
    exact ⟨rfl, rfl⟩
  · rw [h1]
    simp only [bsX] at h1
    refine .sg0 1 [0, 1, 4, 5, 6, 14, 15, 16, 17, 18] (cgo 14 [] [.code B51]) [(18, .d (.str x))] ?_
    refine .op' (cgo 15 [] [.code B51]) (cat_ok (t := 9) (ty := 9) (x := (.tmp 18)) (y := (.const (Value.string (ByteArray.mk #[46, 116, 109, 112])))) (s := x) (u := ByteArray.mk #[46, 116, 109, 112]) (by kernel_rfl) (by kernel_rfl) (by kernel_rfl) (by omega)) ?_
    refine .semH (o := (opOf (cgo 15 [] [Item.code B51])).getD default) (v := .d (.bool (mayName (x ++ ByteArray.mk #[46, 116, 109, 112])))) (σ' := [.cells [.row 1, .ptr 2 0 0, .ep 2 (D.agg [D.list 1 (List.map strD d.sk), D.list 1 (List.map intD d.sv)]) 0, .row 5, .d (.int .i64 d.quota), .d (.bool d.full), .d (.bool d.off), .d (.int .i64 d.stop), .d (.int .i64 d.calls)], .row 2 (List.map fileD d.files) false, .cells [.row 3, .row 4], .row 1 (List.map strD d.nk) false, .row 1 (List.map intD d.nv) false, .row 3 (List.map chD d.ch) false]) (by kernel_rfl) (by kernel_rfl) (T' := cgo 16 [] [Item.code B51]) (by kernel_rfl) (fun kz => sem_data0 (x := (.func 28)) (args := #[(.tmp 19)]) (ts := #[9]) (first := []) (cap := []) (ds := [.d (.str (x ++ ByteArray.mk #[46, 116, 109, 112]))]) (v := .d (.bool (mayName (x ++ ByteArray.mk #[46, 116, 109, 112])))) F28 (@spec_28 (x ++ ByteArray.mk #[46, 116, 109, 112]) (by omega)) (by kernel_rfl) (by kernel_rfl) (by kernel_rfl) (by kernel_rfl) (by kernel_rfl) (by kernel_rfl) _) ?_
    refine .sg0 3 [0, 1, 4, 5, 6, 22] (cgo 19 [] [.code B51]) [(22, .d (.bool !mayName (x ++ ByteArray.mk #[46, 116, 109, 112])))] ?_
    refine .if' (!mayName (x ++ ByteArray.mk #[46, 116, 109, 112])) (cgo 20 [true] [.code B51]) (cgo 20 [false] [.code B51]) (fun h2 => ?_) (fun h2 => ?_)
    · simp only [bsX] at h2
      refine .sg0 6 [0, 1, 4, 5, 6] (cgo 26 [true] [.code B51]) [(6, .d (.int .i64 1))] ?_
      refine .coerce [0, 0, 0, 0, 85, 26, 23] ?_
      refine .retH F51 (v := V.tuple [V.d (D.raw (Value.pointer none)), V.d (D.list 1 []), V.d (D.int IntKind.i64 1)]) (by kernel_rfl) (by kernel_rfl) ?_
      exact ⟨rfl, rfl⟩
    · simp only [bsX] at h2
      simp_all
theorem spec_51d (x : ByteArray) (hx : x.size < 1000) (hm1 : mayName x = true) (hm2 : mayName (x ++ tmpX) = true) :
    CallsA Try.prog 51 [nilP, .d (.str x)] [] fun r σ' => r = .ret (.tuple [nilP, .d (.list 1 []), .d (.int .i64 5)]) ∧ σ' = [] := by
  refine CallsA.start F51 (tm := mk (Try.f51.ntmps) [(0, nilP), (1, .d (.str x))]) (by kernel_rfl) ?_
  have hs : (⟨#[46, 116, 109, 112]⟩ : ByteArray).size = 4 := rfl
  have hx1 : (x ++ tmpX).size = x.size + 4 := by simp [tmpX, hs]
  simp only [tmpX] at *
  refine .sg0 10 [0, 1, 4, 5, 6, 14] (cgo 10 [] [.code B51]) [(4, .d (.raw (Value.pointer none))), (5, .nils), (6, .d (.int .i64 0)), (14, .d (.str x))] ?_
  refine .semH (o := (opOf (cgo 10 [] [Item.code B51])).getD default) (v := .d (.bool (mayName x))) (σ' := []) (by kernel_rfl) (by kernel_rfl) (T' := cgo 11 [] [Item.code B51]) (by kernel_rfl) (fun kz => sem_data0 (x := (.func 28)) (args := #[(.tmp 14)]) (ts := #[9]) (first := []) (cap := []) (ds := [.d (.str x)]) (v := .d (.bool (mayName x))) F28 (@spec_28 (x) (by omega)) (by kernel_rfl) (by kernel_rfl) (by kernel_rfl) (by kernel_rfl) (by kernel_rfl) (by kernel_rfl) _) ?_
  refine .sg0 2 [0, 1, 4, 5, 6, 14, 15, 16, 17] (cgo 13 [] [.code B51]) [(16, .d (.bool !mayName x)), (17, .d (.bool !mayName x))] ?_
  rcases Bool.eq_false_or_eq_true (!mayName x) with h1 | h1
  · rw [h1]
    simp only [bsX] at h1
    simp_all
  · rw [h1]
    simp only [bsX] at h1
    refine .sg0 1 [0, 1, 4, 5, 6, 14, 15, 16, 17, 18] (cgo 14 [] [.code B51]) [(18, .d (.str x))] ?_
    refine .op' (cgo 15 [] [.code B51]) (cat_ok (t := 9) (ty := 9) (x := (.tmp 18)) (y := (.const (Value.string (ByteArray.mk #[46, 116, 109, 112])))) (s := x) (u := ByteArray.mk #[46, 116, 109, 112]) (by kernel_rfl) (by kernel_rfl) (by kernel_rfl) (by omega)) ?_
    refine .semH (o := (opOf (cgo 15 [] [Item.code B51])).getD default) (v := .d (.bool (mayName (x ++ ByteArray.mk #[46, 116, 109, 112])))) (σ' := []) (by kernel_rfl) (by kernel_rfl) (T' := cgo 16 [] [Item.code B51]) (by kernel_rfl) (fun kz => sem_data0 (x := (.func 28)) (args := #[(.tmp 19)]) (ts := #[9]) (first := []) (cap := []) (ds := [.d (.str (x ++ ByteArray.mk #[46, 116, 109, 112]))]) (v := .d (.bool (mayName (x ++ ByteArray.mk #[46, 116, 109, 112])))) F28 (@spec_28 (x ++ ByteArray.mk #[46, 116, 109, 112]) (by omega)) (by kernel_rfl) (by kernel_rfl) (by kernel_rfl) (by kernel_rfl) (by kernel_rfl) (by kernel_rfl) _) ?_
    refine .sg0 3 [0, 1, 4, 5, 6, 22] (cgo 19 [] [.code B51]) [(22, .d (.bool !mayName (x ++ ByteArray.mk #[46, 116, 109, 112])))] ?_
    refine .if' (!mayName (x ++ ByteArray.mk #[46, 116, 109, 112])) (cgo 20 [true] [.code B51]) (cgo 20 [false] [.code B51]) (fun h2 => ?_) (fun h2 => ?_)
    · simp only [bsX] at h2
      simp_all
    · simp only [bsX] at h2
      refine .sg0 5 [0, 1, 4, 5, 6, 23] (cgo 25 [false] [.code B51]) [(23, .d (.raw (Value.pointer none)))] ?_
      refine .semH (o := (opOf (cgo 25 [false] [Item.code B51])).getD default) (v := .d (.bool true)) (σ' := []) (by kernel_rfl) (by kernel_rfl) (T' := cgo 26 [false] [Item.code B51]) (by kernel_rfl) (fun kz => sem_data0 (x := (.func 41)) (args := #[(.tmp 23)]) (ts := #[40]) (first := []) (cap := []) (ds := [.d (.raw (Value.pointer none))]) (v := .d (.bool true)) F41 (@spec_41c) (by kernel_rfl) (by kernel_rfl) (by kernel_rfl) (by kernel_rfl) (by kernel_rfl) (by kernel_rfl) _) ?_
      refine .sg0 8 [0, 1, 4, 5, 6] (cgo 34 [false, true] [.code B51]) [(6, .d (.int .i64 5))] ?_
      refine .coerce [0, 0, 0, 0, 85, 26, 23] ?_
      refine .retH F51 (v := V.tuple [V.d (D.raw (Value.pointer none)), V.d (D.list 1 []), V.d (D.int IntKind.i64 5)]) (by kernel_rfl) (by kernel_rfl) ?_
      exact ⟨rfl, rfl⟩
end Go.Proofs.Ytoelkgbeefoplaa
namespace Go.Proofs.Ytoelkgbeefoplaa
open Go Go.Br Go.Proofs
theorem spec_16 (bs : List UInt8) (hlen : bs.length ≤ 65536) : CallsA Try.prog 16 [.d (.list 1 (bs.map u8))] [] fun r σ' => r = .ret (.tuple [.row 0, .d (i64 0)]) ∧ σ' = [.row 1 ((frame bs).map u8) false] := frame_pure bs hlen
theorem spec_16c (ds : List D) (h : 65536 < ds.length) (h' : ds.length < 1000000000) : Br.Pure Try.prog 16 [.d (.list 1 ds)] (.tuple [.d (.list 1 []), .d (.int .i64 2)]) := by
  refine CallsA.start F16 (tm := mk (Try.f16.ntmps) [(0, .d (.list 1 ds))]) (by kernel_rfl) ?_
  refine .seg 12 [0, 2, 3, 7] (T' := cgo 12 [] [.code B16]) (tm' := mk 19 [(0, .d (.list 1 ds)), (2, V.nils), (3, .d (.int .i64 0)), (7, .d (.bool (decide ((↑ds.length : Int) > 65536))))]) (σ' := []) (by kernel_rfl) ?_
  refine .ifH (b := decide ((↑ds.length : Int) > 65536)) (by kernel_rfl) (by kernel_rfl) (T1 := cgo 13 [true] [Item.code B16]) (T2 := cgo 13 [false] [Item.code B16]) (by kernel_rfl) (by kernel_rfl) (fun h1 => ?_) (fun h1 => ?_)
  · simp only [bsX] at h1
    refine .seg 5 [0, 2, 3] (T' := cgo 18 [true] [.code B16]) (tm' := mk 19 [(0, .d (.list 1 ds)), (2, V.nils), (3, .d (.int .i64 2))]) (σ' := []) (by kernel_rfl) ?_
    refine .coerce [0, 0, 22, 23] ?_
    refine .retH F16 (v := V.tuple [V.d (D.list 1 []), V.d (D.int IntKind.i64 2)]) (by kernel_rfl) (by kernel_rfl) ?_
    exact ⟨rfl, rfl⟩
  · simp only [bsX] at h1
    omega
end Go.Proofs.Ytoelkgbeefoplaa
namespace Go.Proofs.Ytoelkgbeefoplaa
open Go Go.Br Go.Proofs
theorem spec_52 (c s : Int) (x : ByteArray) (d : Dk) (ds : List D) (h : 65536 < ds.length) (h' : ds.length < 1000000000) : CallsA Try.prog 52 [.ptr 0 0 0, .d (.list 1 ds)] (SL c s 0 x d false) fun r σ' => r = .ret (.d (.int .i64 2)) ∧ σ' = SL c s 0 x d false := by
  refine CallsA.start F52 (tm := mk (Try.f52.ntmps) [(0, .ptr 0 0 0), (1, .d (.list 1 ds))]) (by kernel_rfl) ?_
  refine .sg0 8 [0, 1, 4, 9] (cgo 8 [] [.code B52]) [(4, .d (.int .i64 0)), (9, .ptr 0 0 0)] ?_
  refine .ca [0, 1, 2, 3, 4, 5, 6] (cgo 9 [] [.code B52]) F55 (@spec_55 (c) (s) (0) (x) (d)) ?_
  rintro r0 s0 ⟨rfl, rfl⟩
  refine ⟨_, rfl, ?_⟩
  refine .sg0 12 [0, 1, 4, 15] (cgo 21 [false] [.code B52]) [(15, .d (.list 1 ds))] ?_
  refine .semH (o := (opOf (cgo 21 [false] [Item.code B52])).getD default) (v := .tuple [.d (.list 1 []), .d (.int .i64 2)]) (σ' := [.cells [.d (.int .i64 c), .d (.int .i64 s), .d (.int .i64 0), .ptr 1 0 0, .d (.str x)], .cells [.row 2, .ptr 3 0 0, .ep 2 (D.agg [D.list 1 (List.map strD d.sk), D.list 1 (List.map intD d.sv)]) 0, .row 6, .d (.int .i64 d.quota), .d (.bool d.full), .d (.bool d.off), .d (.int .i64 d.stop), .d (.int .i64 d.calls)], .row 2 (List.map fileD d.files) false, .cells [.row 4, .row 5], .row 1 (List.map strD d.nk) false, .row 1 (List.map intD d.nv) false, .row 3 (List.map chD d.ch) false]) (by kernel_rfl) (by kernel_rfl) (T' := cgo 22 [false] [Item.code B52]) (by kernel_rfl) (fun kz => sem_data0 (x := (.func 16)) (args := #[(.tmp 15)]) (ts := #[22]) (first := []) (cap := []) (ds := [.d (.list 1 ds)]) (v := .tuple [.d (.list 1 []), .d (.int .i64 2)]) F16 (@spec_16c (ds) (by assumption) (by assumption)) (by kernel_rfl) (by kernel_rfl) (by kernel_rfl) (by kernel_rfl) (by kernel_rfl) (by kernel_rfl) _) ?_
  refine .seg 18 [0, 4, 6] (T' := cgo 40 [false, true] [.code B52]) (tm' := mk 64 [(0, .ptr 0 0 0), (4, .d (.int .i64 2)), (6, .d (.list 1 []))]) (σ' := [.cells [.d (.int .i64 c), .d (.int .i64 s), .d (.int .i64 0), .ptr 1 0 0, .d (.str x)], .cells [.row 2, .ptr 3 0 0, .ep 2 (D.agg [D.list 1 (List.map strD d.sk), D.list 1 (List.map intD d.sv)]) 0, .row 6, .d (.int .i64 d.quota), .d (.bool d.full), .d (.bool d.off), .d (.int .i64 d.stop), .d (.int .i64 d.calls)], .row 2 (List.map fileD d.files) false, .cells [.row 4, .row 5], .row 1 (List.map strD d.nk) false, .row 1 (List.map intD d.nv) false, .row 3 (List.map chD d.ch) false]) (by kernel_rfl) ?_
  refine .retH F52 (v := V.d (D.int IntKind.i64 2)) (by kernel_rfl) (by kernel_rfl) ?_
  exact ⟨rfl, rfl⟩
noncomputable def B12 : Code := (Try.f12.body).getD .skip
theorem F12 : Fnc Try.prog 12 Try.f12 B12 := ⟨Try.func12, by kernel_rfl, by kernel_rfl⟩
theorem rep_u8 (m : Nat) : List.replicate m (D.int .u8 0) = (List.replicate m (0 : UInt8)).map u8 := by simp [u8]
theorem mk12 (d : Dk) (hd : d = Dk.new 1048576) (x : ByteArray) : d.Ok 0 ∧ d.off = false ∧ look d.nk d.nv x = none ∧ (mayName x = true → makeE d x = 0) := by
  subst hd
  refine ⟨Dk.new_ok (by decide), rfl, by simp [look, Dk.new], fun hm => ?_⟩
  have hb : (Dk.new 1048576).begun = { Dk.new 1048576 with calls := 1 } := rfl
  have e1 : (Dk.new 1048576).begun.createE x = 0 := by
    rw [hb]; simp [Dk.createE, Dk.err, Dk.new, hm]
  have f1 : ((Dk.new 1048576).begun.createD x).off = false := by unfold Dk.createD; split <;> rfl
  have f2 : ((Dk.new 1048576).begun.createD x).stop = -1 := by unfold Dk.createD; split <;> rfl
  have e2 : (((Dk.new 1048576).begun.createD x).begun).err false [] = 0 := by
    generalize (Dk.new 1048576).begun.createD x = c at f1 f2
    simp [Dk.err, Dk.begun, f1, f2]
  simp [makeE, e1, e2]
set_option maxHeartbeats 2000000 in
theorem td12a (x : ByteArray) (d : Dk) (k1 : d.Ok 0) (k2 : d.off = false) (k3 : look d.nk d.nv x = none) (bs : List UInt8) (hx : x.size ≤ 300) (hb : bs.length ≤ 300) (hm1 : mayName x = true) (hm2 : mayName (x ++ tmpX) = true) (k5 : makeE d x = 0) :
    AW Try.prog 12 none 0 (cgo 58 [false, false] [Item.code B12]) (mk 121 [(0, .d (.str x)), (2, .d (.list 1 (bs.map u8))), (6, .d (.bool false)), (49, .ptr 0 0 0)]) (SD d true) [] fun r _ => r = .ret (.d (.bool true)) := by
  have hs : (⟨#[46, 116, 109, 112]⟩ : ByteArray).size = 4 := rfl
  have hx1 : (x ++ (⟨#[46, 116, 109, 112]⟩ : ByteArray)).size = x.size + 4 := by simp [hs]
  have hx2 : (x ++ (⟨#[46, 116, 109, 112]⟩ : ByteArray)).size < 9223372036854775807 := by omega
  have hx3 : x.size < 9223372036854775807 := by omega
  have hx4 : x.size < 1000 := by omega
  have g1 : mayName ⟨#[108, 111, 103]⟩ = true := by decide +kernel
  have g2 : mayName (⟨#[108, 111, 103]⟩ ++ tmpX) = true := by decide +kernel
  have g3 : (⟨#[108, 111, 103]⟩ : ByteArray).size < 1000 := by decide
  have hm3 : mayName (x ++ ⟨#[46, 116, 109, 112]⟩) = true := hm2
  refine .sg0 1 [0, 2, 6, 49, 50] (cgo 59 [false, false] [.code B12]) [(50, .d (.str x))] ?_
  refine .ca [0, 1, 2, 3, 4, 5] (cgo 60 [false, false] [.code B12]) F51 (@spec_51 (d) (0) (by assumption) (by omega) (x) (by assumption) (by assumption) (by assumption) (by assumption) (by assumption) (by assumption)) ?_
  rintro r0 s0 ⟨rfl, rfl⟩
  refine ⟨_, rfl, ?_⟩
  refine .sg0 16 [0, 2, 6, 9, 10, 11, 12, 55] (cgo 76 [false, false] [.code B12]) [(9, .ptr 6 0 0), (10, .d (.list 1 [])), (11, .d (.int .i64 0)), (12, .d (.int .i64 0)), (55, .d (.str x))] ?_
  refine .semH (o := (opOf (cgo 76 [false, false] [Item.code B12])).getD default) (v := .d (.bool (mayName x))) (σ' := [.cells [.row 1, .ptr 2 0 0, .ep 2 (D.agg [D.list 1 (List.map strD (makeL d x).sk), D.list 1 (List.map intD (makeL d x).sv)]) 0, .row 5, .d (.int .i64 (makeL d x).quota), .d (.bool (makeL d x).full), .d (.bool (makeL d x).off), .d (.int .i64 (makeL d x).stop), .d (.int .i64 (makeL d x).calls)], .row 2 (List.map fileD (makeL d x).files) true, .cells [.row 3, .row 4], .row 1 (List.map strD (makeL d x).nk) true, .row 1 (List.map intD (makeL d x).nv) true, .row 3 (List.map chD (makeL d x).ch) true, .cells [.d (.int .i64 0), .d (.int .i64 0), .d (.int .i64 0), .ptr 0 0 0, .d (.str x)]]) (by kernel_rfl) (by kernel_rfl) (T' := cgo 77 [false, false] [Item.code B12]) (by kernel_rfl) (fun kz => sem_data0 (x := (.func 28)) (args := #[(.tmp 55)]) (ts := #[9]) (first := []) (cap := []) (ds := [.d (.str x)]) (v := .d (.bool (mayName x))) F28 (@spec_28 (x) (by assumption)) (by kernel_rfl) (by kernel_rfl) (by kernel_rfl) (by kernel_rfl) (by kernel_rfl) (by kernel_rfl) _) ?_
  refine .sg0 2 [0, 2, 6, 9, 10, 11, 12, 55, 56, 57, 58] (cgo 79 [false, false] [.code B12]) [(57, .d (.bool !mayName x)), (58, .d (.bool !mayName x))] ?_
  rcases Bool.eq_false_or_eq_true (!mayName x) with h2 | h2
  · rw [h2]
    simp only [bsX] at h2
    simp_all
  · rw [h2]
    simp only [bsX] at h2
    refine .sg0 1 [0, 2, 6, 9, 10, 11, 12, 55, 56, 57, 58, 59] (cgo 80 [false, false] [.code B12]) [(59, .d (.str x))] ?_
    refine .op' (cgo 81 [false, false] [.code B12]) (cat_ok (t := 9) (ty := 9) (x := (.tmp 59)) (y := (.const (Value.string (ByteArray.mk #[46, 116, 109, 112])))) (s := x) (u := ByteArray.mk #[46, 116, 109, 112]) (by kernel_rfl) (by kernel_rfl) (by kernel_rfl) (by omega)) ?_
    refine .semH (o := (opOf (cgo 81 [false, false] [Item.code B12])).getD default) (v := .d (.bool (mayName (x ++ ByteArray.mk #[46, 116, 109, 112])))) (σ' := [.cells [.row 1, .ptr 2 0 0, .ep 2 (D.agg [D.list 1 (List.map strD (makeL d x).sk), D.list 1 (List.map intD (makeL d x).sv)]) 0, .row 5, .d (.int .i64 (makeL d x).quota), .d (.bool (makeL d x).full), .d (.bool (makeL d x).off), .d (.int .i64 (makeL d x).stop), .d (.int .i64 (makeL d x).calls)], .row 2 (List.map fileD (makeL d x).files) true, .cells [.row 3, .row 4], .row 1 (List.map strD (makeL d x).nk) true, .row 1 (List.map intD (makeL d x).nv) true, .row 3 (List.map chD (makeL d x).ch) true, .cells [.d (.int .i64 0), .d (.int .i64 0), .d (.int .i64 0), .ptr 0 0 0, .d (.str x)]]) (by kernel_rfl) (by kernel_rfl) (T' := cgo 82 [false, false] [Item.code B12]) (by kernel_rfl) (fun kz => sem_data0 (x := (.func 28)) (args := #[(.tmp 60)]) (ts := #[9]) (first := []) (cap := []) (ds := [.d (.str (x ++ ByteArray.mk #[46, 116, 109, 112]))]) (v := .d (.bool (mayName (x ++ ByteArray.mk #[46, 116, 109, 112])))) F28 (@spec_28 (x ++ ByteArray.mk #[46, 116, 109, 112]) (by assumption)) (by kernel_rfl) (by kernel_rfl) (by kernel_rfl) (by kernel_rfl) (by kernel_rfl) (by kernel_rfl) _) ?_
    refine .sg0 3 [2, 6, 9, 10, 11, 12, 63] (cgo 85 [false, false] [.code B12]) [(63, .d (.bool !mayName (x ++ ByteArray.mk #[46, 116, 109, 112])))] ?_
    refine .if' (!mayName (x ++ ByteArray.mk #[46, 116, 109, 112])) (cgo 86 [false, false, true] [.code B12]) (cgo 86 [false, false, false] [.code B12]) (fun h3 => ?_) (fun h3 => ?_)
    · simp only [bsX] at h3
      simp_all
    · simp only [bsX] at h3
      refine .sg0 17 [2, 6, 9, 10, 11, 12, 64, 65, 66, 67, 68, 69, 70, 71, 72, 73, 74, 75, 76] (cgo 103 [false, false, false] [.code B12]) [(64, .d (.int .i64 0)), (65, .d (.int .i64 0)), (66, .d (.bool false)), (67, .d (.bool false)), (68, .d (.list 1 [])), (69, .d (.int .i64 0)), (70, .d (.bool false)), (71, .d (.bool false)), (72, .d (.bool false)), (73, .d (.int .i64 0)), (74, .d (.bool true)), (75, .d (.bool true)), (76, .ptr 6 0 0)] ?_
      refine .op' (cgo 104 [false, false, false] [.code B12]) (makeD_ok (t := 22) (l := (.const (Value.int IntKind.i64 65537))) (c := (.const (Value.int IntKind.i64 65537))) (e := 5) (z := (Value.int IntKind.u8 (0))) (dz := D.int IntKind.u8 0) (bytes := 1) (n := 65537) (kl := IntKind.i64) (kc := IntKind.i64) (by kernel_rfl) (by kernel_rfl) (by kernel_rfl) (by kernel_rfl) (by kernel_rfl) (by kernel_rfl) (by omega) (by first | (simp [maxLen] <;> omega) | omega)) ?_
      generalize hmk4 : List.replicate 65537 (D.int IntKind.u8 0) = mk4
      have lmk4 : mk4.length = 65537 := by rw [← hmk4]; exact List.length_replicate
      refine .ca [6, 0, 1, 2, 3, 4, 5] (cgo 105 [false, false, false] [.code B12]) F52 (@spec_52 (0) (0) (x) (makeL d x) (mk4) (by omega) (by omega)) ?_
      rintro r4 s4 ⟨rfl, rfl⟩
      refine ⟨_, rfl, ?_⟩
      refine .sg0 8 [2, 6] (cgo 113 [false, false, false, false] [.code B12]) [] ?_
      refine .ca [] (cgo 114 [false, false, false, false] [.code B12]) F51 (@spec_51d (ByteArray.mk #[108, 111, 103]) (by assumption) (by assumption) (by assumption)) ?_
      rintro r5 s5 ⟨rfl, rfl⟩
      refine ⟨_, rfl, ?_⟩
      refine .sg0 19 [2, 6, 15, 16, 87, 88, 89, 90, 91] (cgo 133 [false, false, false, false] [.code B12]) [(15, .d (.int .i64 5)), (16, .d (.raw (Value.pointer none))), (87, .d (.int .i64 5)), (88, .d (.bool true)), (89, .d (.bool true)), (90, .d (.raw (Value.pointer none))), (91, .d (.list 1 (List.map u8 bs)))] ?_
      refine .semH (o := (opOf (cgo 133 [false, false, false, false] [Item.code B12])).getD default) (v := .d (.int .i64 5)) (σ' := [.cells [.row 1, .ptr 2 0 0, .ep 2 (D.agg [D.list 1 (List.map strD (makeL d x).sk), D.list 1 (List.map intD (makeL d x).sv)]) 0, .row 5, .d (.int .i64 (makeL d x).quota), .d (.bool (makeL d x).full), .d (.bool (makeL d x).off), .d (.int .i64 (makeL d x).stop), .d (.int .i64 (makeL d x).calls)], .row 2 (List.map fileD (makeL d x).files) true, .cells [.row 3, .row 4], .row 1 (List.map strD (makeL d x).nk) true, .row 1 (List.map intD (makeL d x).nv) true, .row 3 (List.map chD (makeL d x).ch) true, .cells [.d (.int .i64 0), .d (.int .i64 0), .d (.int .i64 0), .ptr 0 0 0, .d (.str x)]]) (by kernel_rfl) (by kernel_rfl) (T' := cgo 134 [false, false, false, false] [Item.code B12]) (by kernel_rfl) (fun kz => sem_data0 (x := (.func 52)) (args := #[(.tmp 90), (.tmp 91)]) (ts := #[85, 22]) (first := []) (cap := []) (ds := [.d (.raw (Value.pointer none)), .d (.list 1 (List.map u8 bs))]) (v := .d (.int .i64 5)) F52 (@spec_52c (List.map u8 bs)) (by kernel_rfl) (by kernel_rfl) (by kernel_rfl) (by kernel_rfl) (by kernel_rfl) (by kernel_rfl) _) ?_
      refine .sg0 4 [2, 6, 15, 16, 87, 88, 89, 90, 91, 92, 93, 94, 95, 96] (cgo 138 [false, false, false, false] [.code B12]) [(93, .d (.bool true)), (94, .d (.bool true)), (95, .d (.bool true)), (96, .d (.raw (Value.pointer none)))] ?_
      refine .semH (o := (opOf (cgo 138 [false, false, false, false] [Item.code B12])).getD default) (v := .d (.int .i64 5)) (σ' := [.cells [.row 1, .ptr 2 0 0, .ep 2 (D.agg [D.list 1 (List.map strD (makeL d x).sk), D.list 1 (List.map intD (makeL d x).sv)]) 0, .row 5, .d (.int .i64 (makeL d x).quota), .d (.bool (makeL d x).full), .d (.bool (makeL d x).off), .d (.int .i64 (makeL d x).stop), .d (.int .i64 (makeL d x).calls)], .row 2 (List.map fileD (makeL d x).files) true, .cells [.row 3, .row 4], .row 1 (List.map strD (makeL d x).nk) true, .row 1 (List.map intD (makeL d x).nv) true, .row 3 (List.map chD (makeL d x).ch) true, .cells [.d (.int .i64 0), .d (.int .i64 0), .d (.int .i64 0), .ptr 0 0 0, .d (.str x)]]) (by kernel_rfl) (by kernel_rfl) (T' := cgo 139 [false, false, false, false] [Item.code B12]) (by kernel_rfl) (fun kz => sem_data0 (x := (.func 53)) (args := #[(.tmp 96)]) (ts := #[85]) (first := []) (cap := []) (ds := [.d (.raw (Value.pointer none))]) (v := .d (.int .i64 5)) F53 (@spec_53c) (by kernel_rfl) (by kernel_rfl) (by kernel_rfl) (by kernel_rfl) (by kernel_rfl) (by kernel_rfl) _) ?_
      refine .sg0 4 [2, 6, 15, 16, 87, 88, 89, 90, 91, 92, 93, 94, 95, 96, 97, 98, 99, 100, 101] (cgo 143 [false, false, false, false] [.code B12]) [(98, .d (.bool true)), (99, .d (.bool true)), (100, .d (.bool true)), (101, .d (.raw (Value.pointer none)))] ?_
      refine .semH (o := (opOf (cgo 143 [false, false, false, false] [Item.code B12])).getD default) (v := .d (.int .i64 5)) (σ' := [.cells [.row 1, .ptr 2 0 0, .ep 2 (D.agg [D.list 1 (List.map strD (makeL d x).sk), D.list 1 (List.map intD (makeL d x).sv)]) 0, .row 5, .d (.int .i64 (makeL d x).quota), .d (.bool (makeL d x).full), .d (.bool (makeL d x).off), .d (.int .i64 (makeL d x).stop), .d (.int .i64 (makeL d x).calls)], .row 2 (List.map fileD (makeL d x).files) true, .cells [.row 3, .row 4], .row 1 (List.map strD (makeL d x).nk) true, .row 1 (List.map intD (makeL d x).nv) true, .row 3 (List.map chD (makeL d x).ch) true, .cells [.d (.int .i64 0), .d (.int .i64 0), .d (.int .i64 0), .ptr 0 0 0, .d (.str x)]]) (by kernel_rfl) (by kernel_rfl) (T' := cgo 144 [false, false, false, false] [Item.code B12]) (by kernel_rfl) (fun kz => sem_data0 (x := (.func 54)) (args := #[(.tmp 101), (.const (Value.slice none 0 0))]) (ts := #[85, 26]) (first := []) (cap := []) (ds := [.d (.raw (Value.pointer none)), .d (.list 1 [])]) (v := .d (.int .i64 5)) F54 (@spec_54c (.d (.list 1 []))) (by kernel_rfl) (by kernel_rfl) (by kernel_rfl) (by kernel_rfl) (by kernel_rfl) (by kernel_rfl) _) ?_
      refine .sg0 4 [2, 6, 15, 16, 87, 88, 89, 90, 91, 92, 93, 94, 95, 96, 97, 98, 99, 100, 101, 102, 103, 104, 105, 106] (cgo 148 [false, false, false, false] [.code B12]) [(103, .d (.bool true)), (104, .d (.bool true)), (105, .d (.bool true)), (106, .d (.raw (Value.pointer none)))] ?_
      refine .semH (o := (opOf (cgo 148 [false, false, false, false] [Item.code B12])).getD default) (v := .d (.int .i64 5)) (σ' := [.cells [.row 1, .ptr 2 0 0, .ep 2 (D.agg [D.list 1 (List.map strD (makeL d x).sk), D.list 1 (List.map intD (makeL d x).sv)]) 0, .row 5, .d (.int .i64 (makeL d x).quota), .d (.bool (makeL d x).full), .d (.bool (makeL d x).off), .d (.int .i64 (makeL d x).stop), .d (.int .i64 (makeL d x).calls)], .row 2 (List.map fileD (makeL d x).files) true, .cells [.row 3, .row 4], .row 1 (List.map strD (makeL d x).nk) true, .row 1 (List.map intD (makeL d x).nv) true, .row 3 (List.map chD (makeL d x).ch) true, .cells [.d (.int .i64 0), .d (.int .i64 0), .d (.int .i64 0), .ptr 0 0 0, .d (.str x)]]) (by kernel_rfl) (by kernel_rfl) (T' := cgo 149 [false, false, false, false] [Item.code B12]) (by kernel_rfl) (fun kz => sem_data0 (x := (.func 55)) (args := #[(.tmp 106)]) (ts := #[85]) (first := []) (cap := []) (ds := [.d (.raw (Value.pointer none))]) (v := .d (.int .i64 5)) F55 (@spec_55c) (by kernel_rfl) (by kernel_rfl) (by kernel_rfl) (by kernel_rfl) (by kernel_rfl) (by kernel_rfl) _) ?_
      refine .sg0 4 [2, 6, 15, 16, 87, 88, 89, 90, 91, 92, 93, 94, 95, 96, 97, 98, 99, 100, 101, 102, 103, 104, 105, 106, 107, 108, 109, 110, 111] (cgo 153 [false, false, false, false] [.code B12]) [(108, .d (.bool true)), (109, .d (.bool true)), (110, .d (.bool true)), (111, .d (.raw (Value.pointer none)))] ?_
      refine .semH (o := (opOf (cgo 153 [false, false, false, false] [Item.code B12])).getD default) (v := .d (.int .i64 0)) (σ' := [.cells [.row 1, .ptr 2 0 0, .ep 2 (D.agg [D.list 1 (List.map strD (makeL d x).sk), D.list 1 (List.map intD (makeL d x).sv)]) 0, .row 5, .d (.int .i64 (makeL d x).quota), .d (.bool (makeL d x).full), .d (.bool (makeL d x).off), .d (.int .i64 (makeL d x).stop), .d (.int .i64 (makeL d x).calls)], .row 2 (List.map fileD (makeL d x).files) true, .cells [.row 3, .row 4], .row 1 (List.map strD (makeL d x).nk) true, .row 1 (List.map intD (makeL d x).nv) true, .row 3 (List.map chD (makeL d x).ch) true, .cells [.d (.int .i64 0), .d (.int .i64 0), .d (.int .i64 0), .ptr 0 0 0, .d (.str x)]]) (by kernel_rfl) (by kernel_rfl) (T' := cgo 154 [false, false, false, false] [Item.code B12]) (by kernel_rfl) (fun kz => sem_data0 (x := (.func 56)) (args := #[(.tmp 111)]) (ts := #[85]) (first := []) (cap := []) (ds := [.d (.raw (Value.pointer none))]) (v := .d (.int .i64 0)) F56 (@spec_56c) (by kernel_rfl) (by kernel_rfl) (by kernel_rfl) (by kernel_rfl) (by kernel_rfl) (by kernel_rfl) _) ?_
      refine .sg0 1 [2, 6, 15, 16, 87, 88, 89, 90, 91, 92, 93, 94, 95, 96, 97, 98, 99, 100, 101, 102, 103, 104, 105, 106, 107, 108, 109, 110, 111, 112, 113] (cgo 155 [false, false, false, false] [.code B12]) [(113, .d (.raw (Value.pointer none)))] ?_
      refine .semH (o := (opOf (cgo 155 [false, false, false, false] [Item.code B12])).getD default) (v := .d (.int .i64 0)) (σ' := [.cells [.row 1, .ptr 2 0 0, .ep 2 (D.agg [D.list 1 (List.map strD (makeL d x).sk), D.list 1 (List.map intD (makeL d x).sv)]) 0, .row 5, .d (.int .i64 (makeL d x).quota), .d (.bool (makeL d x).full), .d (.bool (makeL d x).off), .d (.int .i64 (makeL d x).stop), .d (.int .i64 (makeL d x).calls)], .row 2 (List.map fileD (makeL d x).files) true, .cells [.row 3, .row 4], .row 1 (List.map strD (makeL d x).nk) true, .row 1 (List.map intD (makeL d x).nv) true, .row 3 (List.map chD (makeL d x).ch) true, .cells [.d (.int .i64 0), .d (.int .i64 0), .d (.int .i64 0), .ptr 0 0 0, .d (.str x)]]) (by kernel_rfl) (by kernel_rfl) (T' := cgo 156 [false, false, false, false] [Item.code B12]) (by kernel_rfl) (fun kz => sem_data0 (x := (.func 57)) (args := #[(.tmp 113)]) (ts := #[85]) (first := []) (cap := []) (ds := [.d (.raw (Value.pointer none))]) (v := .d (.int .i64 0)) F57 (@spec_57c) (by kernel_rfl) (by kernel_rfl) (by kernel_rfl) (by kernel_rfl) (by kernel_rfl) (by kernel_rfl) _) ?_
      refine .sg0 4 [2, 6, 15, 16, 87, 88, 89, 90, 91, 92, 93, 94, 95, 96, 97, 98, 99, 100, 101, 102, 103, 104, 105, 106, 107, 108, 109, 110, 111, 112, 113, 114, 115, 116, 117, 118] (cgo 160 [false, false, false, false] [.code B12]) [(115, .d (.int .i64 0)), (116, .d (.bool true)), (117, .d (.bool true)), (118, .d (.bool true))] ?_
      simp only [List.length_map]
      refine .semH (o := (opOf (cgo 160 [false, false, false, false] [Item.code B12])).getD default) (v := .d (.bool true)) (σ' := [.cells [.row 1, .ptr 2 0 0, .ep 2 (D.agg [D.list 1 (List.map strD (makeL d x).sk), D.list 1 (List.map intD (makeL d x).sv)]) 0, .row 5, .d (.int .i64 (makeL d x).quota), .d (.bool (makeL d x).full), .d (.bool (makeL d x).off), .d (.int .i64 (makeL d x).stop), .d (.int .i64 (makeL d x).calls)], .row 2 (List.map fileD (makeL d x).files) true, .cells [.row 3, .row 4], .row 1 (List.map strD (makeL d x).nk) true, .row 1 (List.map intD (makeL d x).nv) true, .row 3 (List.map chD (makeL d x).ch) true, .cells [.d (.int .i64 0), .d (.int .i64 0), .d (.int .i64 0), .ptr 0 0 0, .d (.str x)]]) (by kernel_rfl) (by kernel_rfl) (T' := cgo 161 [false, false, false, false] [Item.code B12]) (by kernel_rfl) (fun kz => sem_data0 (x := (.func 21)) (args := #[]) (ts := #[]) (first := []) (cap := []) (ds := []) (v := .d (.bool true)) F21 (@spec_21) (by kernel_rfl) (by kernel_rfl) (by kernel_rfl) (by kernel_rfl) (by kernel_rfl) (by kernel_rfl) _) ?_
      refine .sg0 3 [6] (cgo 164 [false, false, false, false] [.code B12]) [(6, .d (.bool true))] ?_
      refine .kp [6] ?_
      refine .su [] (mk 121 [(6, .d (.bool true))]) [] ?_
      refine .retH F12 (v := V.d (D.bool true)) (by kernel_rfl) (by kernel_rfl) ?_
      exact rfl
set_option maxHeartbeats 2000000 in
theorem td12b (x : ByteArray) (d : Dk) (k1 : d.Ok 0) (k2 : d.off = false) (k3 : look d.nk d.nv x = none) (bs : List UInt8) (hx : x.size ≤ 300) (hb : bs.length ≤ 300) (hm : (mayName x && mayName (x ++ tmpX)) = false) :
    AW Try.prog 12 none 0 (cgo 58 [false, false] [Item.code B12]) (mk 121 [(0, .d (.str x)), (2, .d (.list 1 (bs.map u8))), (6, .d (.bool false)), (49, .ptr 0 0 0)]) (SD d true) [] fun r _ => r = .ret (.d (.bool true)) := by
  have hs : (⟨#[46, 116, 109, 112]⟩ : ByteArray).size = 4 := rfl
  have hx1 : (x ++ (⟨#[46, 116, 109, 112]⟩ : ByteArray)).size = x.size + 4 := by simp [hs]
  have hx2 : (x ++ (⟨#[46, 116, 109, 112]⟩ : ByteArray)).size < 9223372036854775807 := by omega
  have hx3 : x.size < 9223372036854775807 := by omega
  have hx4 : x.size < 1000 := by omega
  have g1 : mayName ⟨#[108, 111, 103]⟩ = true := by decide +kernel
  have g2 : mayName (⟨#[108, 111, 103]⟩ ++ tmpX) = true := by decide +kernel
  have g3 : (⟨#[108, 111, 103]⟩ : ByteArray).size < 1000 := by decide
  have hm3 : (mayName x && mayName (x ++ ⟨#[46, 116, 109, 112]⟩)) = false := hm
  refine .sg0 1 [0, 2, 6, 49, 50] (cgo 59 [false, false] [.code B12]) [(50, .d (.str x))] ?_
  refine .ca [0, 1, 2, 3, 4, 5] (cgo 60 [false, false] [.code B12]) F51 (@spec_51c (d) (x) (by assumption) (by assumption)) ?_
  rintro r0 s0 ⟨rfl, rfl⟩
  refine ⟨_, rfl, ?_⟩
  refine .sg0 16 [0, 2, 6, 9, 10, 11, 12, 55] (cgo 76 [false, false] [.code B12]) [(9, .d (.raw (Value.pointer none))), (10, .d (.list 1 [])), (11, .d (.int .i64 1)), (12, .d (.int .i64 0)), (55, .d (.str x))] ?_
  refine .semH (o := (opOf (cgo 76 [false, false] [Item.code B12])).getD default) (v := .d (.bool (mayName x))) (σ' := [.cells [.row 1, .ptr 2 0 0, .ep 2 (D.agg [D.list 1 (List.map strD d.sk), D.list 1 (List.map intD d.sv)]) 0, .row 5, .d (.int .i64 d.quota), .d (.bool d.full), .d (.bool d.off), .d (.int .i64 d.stop), .d (.int .i64 d.calls)], .row 2 (List.map fileD d.files) true, .cells [.row 3, .row 4], .row 1 (List.map strD d.nk) true, .row 1 (List.map intD d.nv) true, .row 3 (List.map chD d.ch) true]) (by kernel_rfl) (by kernel_rfl) (T' := cgo 77 [false, false] [Item.code B12]) (by kernel_rfl) (fun kz => sem_data0 (x := (.func 28)) (args := #[(.tmp 55)]) (ts := #[9]) (first := []) (cap := []) (ds := [.d (.str x)]) (v := .d (.bool (mayName x))) F28 (@spec_28 (x) (by assumption)) (by kernel_rfl) (by kernel_rfl) (by kernel_rfl) (by kernel_rfl) (by kernel_rfl) (by kernel_rfl) _) ?_
  refine .sg0 2 [0, 2, 6, 9, 10, 11, 12, 55, 56, 57, 58] (cgo 79 [false, false] [.code B12]) [(57, .d (.bool !mayName x)), (58, .d (.bool !mayName x))] ?_
  rcases Bool.eq_false_or_eq_true (!mayName x) with h2 | h2
  · rw [h2]
    simp only [bsX] at h2
    refine .sg0 36 [2, 6] (cgo 115 [false, false, true, false] [.code B12]) [] ?_
    refine .ca [] (cgo 116 [false, false, true, false] [.code B12]) F51 (@spec_51d (ByteArray.mk #[108, 111, 103]) (by assumption) (by assumption) (by assumption)) ?_
    rintro r2 s2 ⟨rfl, rfl⟩
    refine ⟨_, rfl, ?_⟩
    refine .sg0 19 [2, 6, 15, 16, 87, 88, 89, 90, 91] (cgo 135 [false, false, true, false] [.code B12]) [(15, .d (.int .i64 5)), (16, .d (.raw (Value.pointer none))), (87, .d (.int .i64 5)), (88, .d (.bool true)), (89, .d (.bool true)), (90, .d (.raw (Value.pointer none))), (91, .d (.list 1 (List.map u8 bs)))] ?_
    refine .semH (o := (opOf (cgo 135 [false, false, true, false] [Item.code B12])).getD default) (v := .d (.int .i64 5)) (σ' := [.cells [.row 1, .ptr 2 0 0, .ep 2 (D.agg [D.list 1 (List.map strD d.sk), D.list 1 (List.map intD d.sv)]) 0, .row 5, .d (.int .i64 d.quota), .d (.bool d.full), .d (.bool d.off), .d (.int .i64 d.stop), .d (.int .i64 d.calls)], .row 2 (List.map fileD d.files) true, .cells [.row 3, .row 4], .row 1 (List.map strD d.nk) true, .row 1 (List.map intD d.nv) true, .row 3 (List.map chD d.ch) true]) (by kernel_rfl) (by kernel_rfl) (T' := cgo 136 [false, false, true, false] [Item.code B12]) (by kernel_rfl) (fun kz => sem_data0 (x := (.func 52)) (args := #[(.tmp 90), (.tmp 91)]) (ts := #[85, 22]) (first := []) (cap := []) (ds := [.d (.raw (Value.pointer none)), .d (.list 1 (List.map u8 bs))]) (v := .d (.int .i64 5)) F52 (@spec_52c (List.map u8 bs)) (by kernel_rfl) (by kernel_rfl) (by kernel_rfl) (by kernel_rfl) (by kernel_rfl) (by kernel_rfl) _) ?_
    refine .sg0 4 [2, 6, 15, 16, 87, 88, 89, 90, 91, 92, 93, 94, 95, 96] (cgo 140 [false, false, true, false] [.code B12]) [(93, .d (.bool true)), (94, .d (.bool true)), (95, .d (.bool true)), (96, .d (.raw (Value.pointer none)))] ?_
    refine .semH (o := (opOf (cgo 140 [false, false, true, false] [Item.code B12])).getD default) (v := .d (.int .i64 5)) (σ' := [.cells [.row 1, .ptr 2 0 0, .ep 2 (D.agg [D.list 1 (List.map strD d.sk), D.list 1 (List.map intD d.sv)]) 0, .row 5, .d (.int .i64 d.quota), .d (.bool d.full), .d (.bool d.off), .d (.int .i64 d.stop), .d (.int .i64 d.calls)], .row 2 (List.map fileD d.files) true, .cells [.row 3, .row 4], .row 1 (List.map strD d.nk) true, .row 1 (List.map intD d.nv) true, .row 3 (List.map chD d.ch) true]) (by kernel_rfl) (by kernel_rfl) (T' := cgo 141 [false, false, true, false] [Item.code B12]) (by kernel_rfl) (fun kz => sem_data0 (x := (.func 53)) (args := #[(.tmp 96)]) (ts := #[85]) (first := []) (cap := []) (ds := [.d (.raw (Value.pointer none))]) (v := .d (.int .i64 5)) F53 (@spec_53c) (by kernel_rfl) (by kernel_rfl) (by kernel_rfl) (by kernel_rfl) (by kernel_rfl) (by kernel_rfl) _) ?_
    refine .sg0 4 [2, 6, 15, 16, 87, 88, 89, 90, 91, 92, 93, 94, 95, 96, 97, 98, 99, 100, 101] (cgo 145 [false, false, true, false] [.code B12]) [(98, .d (.bool true)), (99, .d (.bool true)), (100, .d (.bool true)), (101, .d (.raw (Value.pointer none)))] ?_
    refine .semH (o := (opOf (cgo 145 [false, false, true, false] [Item.code B12])).getD default) (v := .d (.int .i64 5)) (σ' := [.cells [.row 1, .ptr 2 0 0, .ep 2 (D.agg [D.list 1 (List.map strD d.sk), D.list 1 (List.map intD d.sv)]) 0, .row 5, .d (.int .i64 d.quota), .d (.bool d.full), .d (.bool d.off), .d (.int .i64 d.stop), .d (.int .i64 d.calls)], .row 2 (List.map fileD d.files) true, .cells [.row 3, .row 4], .row 1 (List.map strD d.nk) true, .row 1 (List.map intD d.nv) true, .row 3 (List.map chD d.ch) true]) (by kernel_rfl) (by kernel_rfl) (T' := cgo 146 [false, false, true, false] [Item.code B12]) (by kernel_rfl) (fun kz => sem_data0 (x := (.func 54)) (args := #[(.tmp 101), (.const (Value.slice none 0 0))]) (ts := #[85, 26]) (first := []) (cap := []) (ds := [.d (.raw (Value.pointer none)), .d (.list 1 [])]) (v := .d (.int .i64 5)) F54 (@spec_54c (.d (.list 1 []))) (by kernel_rfl) (by kernel_rfl) (by kernel_rfl) (by kernel_rfl) (by kernel_rfl) (by kernel_rfl) _) ?_
    refine .sg0 4 [2, 6, 15, 16, 87, 88, 89, 90, 91, 92, 93, 94, 95, 96, 97, 98, 99, 100, 101, 102, 103, 104, 105, 106] (cgo 150 [false, false, true, false] [.code B12]) [(103, .d (.bool true)), (104, .d (.bool true)), (105, .d (.bool true)), (106, .d (.raw (Value.pointer none)))] ?_
    refine .semH (o := (opOf (cgo 150 [false, false, true, false] [Item.code B12])).getD default) (v := .d (.int .i64 5)) (σ' := [.cells [.row 1, .ptr 2 0 0, .ep 2 (D.agg [D.list 1 (List.map strD d.sk), D.list 1 (List.map intD d.sv)]) 0, .row 5, .d (.int .i64 d.quota), .d (.bool d.full), .d (.bool d.off), .d (.int .i64 d.stop), .d (.int .i64 d.calls)], .row 2 (List.map fileD d.files) true, .cells [.row 3, .row 4], .row 1 (List.map strD d.nk) true, .row 1 (List.map intD d.nv) true, .row 3 (List.map chD d.ch) true]) (by kernel_rfl) (by kernel_rfl) (T' := cgo 151 [false, false, true, false] [Item.code B12]) (by kernel_rfl) (fun kz => sem_data0 (x := (.func 55)) (args := #[(.tmp 106)]) (ts := #[85]) (first := []) (cap := []) (ds := [.d (.raw (Value.pointer none))]) (v := .d (.int .i64 5)) F55 (@spec_55c) (by kernel_rfl) (by kernel_rfl) (by kernel_rfl) (by kernel_rfl) (by kernel_rfl) (by kernel_rfl) _) ?_
    refine .sg0 4 [2, 6, 15, 16, 87, 88, 89, 90, 91, 92, 93, 94, 95, 96, 97, 98, 99, 100, 101, 102, 103, 104, 105, 106, 107, 108, 109, 110, 111] (cgo 155 [false, false, true, false] [.code B12]) [(108, .d (.bool true)), (109, .d (.bool true)), (110, .d (.bool true)), (111, .d (.raw (Value.pointer none)))] ?_
    refine .semH (o := (opOf (cgo 155 [false, false, true, false] [Item.code B12])).getD default) (v := .d (.int .i64 0)) (σ' := [.cells [.row 1, .ptr 2 0 0, .ep 2 (D.agg [D.list 1 (List.map strD d.sk), D.list 1 (List.map intD d.sv)]) 0, .row 5, .d (.int .i64 d.quota), .d (.bool d.full), .d (.bool d.off), .d (.int .i64 d.stop), .d (.int .i64 d.calls)], .row 2 (List.map fileD d.files) true, .cells [.row 3, .row 4], .row 1 (List.map strD d.nk) true, .row 1 (List.map intD d.nv) true, .row 3 (List.map chD d.ch) true]) (by kernel_rfl) (by kernel_rfl) (T' := cgo 156 [false, false, true, false] [Item.code B12]) (by kernel_rfl) (fun kz => sem_data0 (x := (.func 56)) (args := #[(.tmp 111)]) (ts := #[85]) (first := []) (cap := []) (ds := [.d (.raw (Value.pointer none))]) (v := .d (.int .i64 0)) F56 (@spec_56c) (by kernel_rfl) (by kernel_rfl) (by kernel_rfl) (by kernel_rfl) (by kernel_rfl) (by kernel_rfl) _) ?_
    refine .sg0 1 [2, 6, 15, 16, 87, 88, 89, 90, 91, 92, 93, 94, 95, 96, 97, 98, 99, 100, 101, 102, 103, 104, 105, 106, 107, 108, 109, 110, 111, 112, 113] (cgo 157 [false, false, true, false] [.code B12]) [(113, .d (.raw (Value.pointer none)))] ?_
    refine .semH (o := (opOf (cgo 157 [false, false, true, false] [Item.code B12])).getD default) (v := .d (.int .i64 0)) (σ' := [.cells [.row 1, .ptr 2 0 0, .ep 2 (D.agg [D.list 1 (List.map strD d.sk), D.list 1 (List.map intD d.sv)]) 0, .row 5, .d (.int .i64 d.quota), .d (.bool d.full), .d (.bool d.off), .d (.int .i64 d.stop), .d (.int .i64 d.calls)], .row 2 (List.map fileD d.files) true, .cells [.row 3, .row 4], .row 1 (List.map strD d.nk) true, .row 1 (List.map intD d.nv) true, .row 3 (List.map chD d.ch) true]) (by kernel_rfl) (by kernel_rfl) (T' := cgo 158 [false, false, true, false] [Item.code B12]) (by kernel_rfl) (fun kz => sem_data0 (x := (.func 57)) (args := #[(.tmp 113)]) (ts := #[85]) (first := []) (cap := []) (ds := [.d (.raw (Value.pointer none))]) (v := .d (.int .i64 0)) F57 (@spec_57c) (by kernel_rfl) (by kernel_rfl) (by kernel_rfl) (by kernel_rfl) (by kernel_rfl) (by kernel_rfl) _) ?_
    refine .sg0 4 [2, 6, 15, 16, 87, 88, 89, 90, 91, 92, 93, 94, 95, 96, 97, 98, 99, 100, 101, 102, 103, 104, 105, 106, 107, 108, 109, 110, 111, 112, 113, 114, 115, 116, 117, 118] (cgo 162 [false, false, true, false] [.code B12]) [(115, .d (.int .i64 0)), (116, .d (.bool true)), (117, .d (.bool true)), (118, .d (.bool true))] ?_
    simp only [List.length_map]
    refine .semH (o := (opOf (cgo 162 [false, false, true, false] [Item.code B12])).getD default) (v := .d (.bool true)) (σ' := [.cells [.row 1, .ptr 2 0 0, .ep 2 (D.agg [D.list 1 (List.map strD d.sk), D.list 1 (List.map intD d.sv)]) 0, .row 5, .d (.int .i64 d.quota), .d (.bool d.full), .d (.bool d.off), .d (.int .i64 d.stop), .d (.int .i64 d.calls)], .row 2 (List.map fileD d.files) true, .cells [.row 3, .row 4], .row 1 (List.map strD d.nk) true, .row 1 (List.map intD d.nv) true, .row 3 (List.map chD d.ch) true]) (by kernel_rfl) (by kernel_rfl) (T' := cgo 163 [false, false, true, false] [Item.code B12]) (by kernel_rfl) (fun kz => sem_data0 (x := (.func 21)) (args := #[]) (ts := #[]) (first := []) (cap := []) (ds := []) (v := .d (.bool true)) F21 (@spec_21) (by kernel_rfl) (by kernel_rfl) (by kernel_rfl) (by kernel_rfl) (by kernel_rfl) (by kernel_rfl) _) ?_
    refine .sg0 3 [6] (cgo 166 [false, false, true, false] [.code B12]) [(6, .d (.bool true))] ?_
    refine .kp [6] ?_
    refine .su [] (mk 121 [(6, .d (.bool true))]) [] ?_
    refine .retH F12 (v := V.d (D.bool true)) (by kernel_rfl) (by kernel_rfl) ?_
    exact rfl
  · rw [h2]
    simp only [bsX] at h2
    refine .sg0 1 [0, 2, 6, 9, 10, 11, 12, 55, 56, 57, 58, 59] (cgo 80 [false, false] [.code B12]) [(59, .d (.str x))] ?_
    refine .op' (cgo 81 [false, false] [.code B12]) (cat_ok (t := 9) (ty := 9) (x := (.tmp 59)) (y := (.const (Value.string (ByteArray.mk #[46, 116, 109, 112])))) (s := x) (u := ByteArray.mk #[46, 116, 109, 112]) (by kernel_rfl) (by kernel_rfl) (by kernel_rfl) (by omega)) ?_
    refine .semH (o := (opOf (cgo 81 [false, false] [Item.code B12])).getD default) (v := .d (.bool (mayName (x ++ ByteArray.mk #[46, 116, 109, 112])))) (σ' := [.cells [.row 1, .ptr 2 0 0, .ep 2 (D.agg [D.list 1 (List.map strD d.sk), D.list 1 (List.map intD d.sv)]) 0, .row 5, .d (.int .i64 d.quota), .d (.bool d.full), .d (.bool d.off), .d (.int .i64 d.stop), .d (.int .i64 d.calls)], .row 2 (List.map fileD d.files) true, .cells [.row 3, .row 4], .row 1 (List.map strD d.nk) true, .row 1 (List.map intD d.nv) true, .row 3 (List.map chD d.ch) true]) (by kernel_rfl) (by kernel_rfl) (T' := cgo 82 [false, false] [Item.code B12]) (by kernel_rfl) (fun kz => sem_data0 (x := (.func 28)) (args := #[(.tmp 60)]) (ts := #[9]) (first := []) (cap := []) (ds := [.d (.str (x ++ ByteArray.mk #[46, 116, 109, 112]))]) (v := .d (.bool (mayName (x ++ ByteArray.mk #[46, 116, 109, 112])))) F28 (@spec_28 (x ++ ByteArray.mk #[46, 116, 109, 112]) (by assumption)) (by kernel_rfl) (by kernel_rfl) (by kernel_rfl) (by kernel_rfl) (by kernel_rfl) (by kernel_rfl) _) ?_
    refine .sg0 3 [2, 6, 9, 10, 11, 12, 63] (cgo 85 [false, false] [.code B12]) [(63, .d (.bool !mayName (x ++ ByteArray.mk #[46, 116, 109, 112])))] ?_
    refine .if' (!mayName (x ++ ByteArray.mk #[46, 116, 109, 112])) (cgo 86 [false, false, true] [.code B12]) (cgo 86 [false, false, false] [.code B12]) (fun h4 => ?_) (fun h4 => ?_)
    · simp only [bsX] at h4
      refine .sg0 29 [2, 6] (cgo 115 [false, false, true, false] [.code B12]) [] ?_
      refine .ca [] (cgo 116 [false, false, true, false] [.code B12]) F51 (@spec_51d (ByteArray.mk #[108, 111, 103]) (by assumption) (by assumption) (by assumption)) ?_
      rintro r4 s4 ⟨rfl, rfl⟩
      refine ⟨_, rfl, ?_⟩
      refine .sg0 19 [2, 6, 15, 16, 87, 88, 89, 90, 91] (cgo 135 [false, false, true, false] [.code B12]) [(15, .d (.int .i64 5)), (16, .d (.raw (Value.pointer none))), (87, .d (.int .i64 5)), (88, .d (.bool true)), (89, .d (.bool true)), (90, .d (.raw (Value.pointer none))), (91, .d (.list 1 (List.map u8 bs)))] ?_
      refine .semH (o := (opOf (cgo 135 [false, false, true, false] [Item.code B12])).getD default) (v := .d (.int .i64 5)) (σ' := [.cells [.row 1, .ptr 2 0 0, .ep 2 (D.agg [D.list 1 (List.map strD d.sk), D.list 1 (List.map intD d.sv)]) 0, .row 5, .d (.int .i64 d.quota), .d (.bool d.full), .d (.bool d.off), .d (.int .i64 d.stop), .d (.int .i64 d.calls)], .row 2 (List.map fileD d.files) true, .cells [.row 3, .row 4], .row 1 (List.map strD d.nk) true, .row 1 (List.map intD d.nv) true, .row 3 (List.map chD d.ch) true]) (by kernel_rfl) (by kernel_rfl) (T' := cgo 136 [false, false, true, false] [Item.code B12]) (by kernel_rfl) (fun kz => sem_data0 (x := (.func 52)) (args := #[(.tmp 90), (.tmp 91)]) (ts := #[85, 22]) (first := []) (cap := []) (ds := [.d (.raw (Value.pointer none)), .d (.list 1 (List.map u8 bs))]) (v := .d (.int .i64 5)) F52 (@spec_52c (List.map u8 bs)) (by kernel_rfl) (by kernel_rfl) (by kernel_rfl) (by kernel_rfl) (by kernel_rfl) (by kernel_rfl) _) ?_
      refine .sg0 4 [2, 6, 15, 16, 87, 88, 89, 90, 91, 92, 93, 94, 95, 96] (cgo 140 [false, false, true, false] [.code B12]) [(93, .d (.bool true)), (94, .d (.bool true)), (95, .d (.bool true)), (96, .d (.raw (Value.pointer none)))] ?_
      refine .semH (o := (opOf (cgo 140 [false, false, true, false] [Item.code B12])).getD default) (v := .d (.int .i64 5)) (σ' := [.cells [.row 1, .ptr 2 0 0, .ep 2 (D.agg [D.list 1 (List.map strD d.sk), D.list 1 (List.map intD d.sv)]) 0, .row 5, .d (.int .i64 d.quota), .d (.bool d.full), .d (.bool d.off), .d (.int .i64 d.stop), .d (.int .i64 d.calls)], .row 2 (List.map fileD d.files) true, .cells [.row 3, .row 4], .row 1 (List.map strD d.nk) true, .row 1 (List.map intD d.nv) true, .row 3 (List.map chD d.ch) true]) (by kernel_rfl) (by kernel_rfl) (T' := cgo 141 [false, false, true, false] [Item.code B12]) (by kernel_rfl) (fun kz => sem_data0 (x := (.func 53)) (args := #[(.tmp 96)]) (ts := #[85]) (first := []) (cap := []) (ds := [.d (.raw (Value.pointer none))]) (v := .d (.int .i64 5)) F53 (@spec_53c) (by kernel_rfl) (by kernel_rfl) (by kernel_rfl) (by kernel_rfl) (by kernel_rfl) (by kernel_rfl) _) ?_
      refine .sg0 4 [2, 6, 15, 16, 87, 88, 89, 90, 91, 92, 93, 94, 95, 96, 97, 98, 99, 100, 101] (cgo 145 [false, false, true, false] [.code B12]) [(98, .d (.bool true)), (99, .d (.bool true)), (100, .d (.bool true)), (101, .d (.raw (Value.pointer none)))] ?_
      refine .semH (o := (opOf (cgo 145 [false, false, true, false] [Item.code B12])).getD default) (v := .d (.int .i64 5)) (σ' := [.cells [.row 1, .ptr 2 0 0, .ep 2 (D.agg [D.list 1 (List.map strD d.sk), D.list 1 (List.map intD d.sv)]) 0, .row 5, .d (.int .i64 d.quota), .d (.bool d.full), .d (.bool d.off), .d (.int .i64 d.stop), .d (.int .i64 d.calls)], .row 2 (List.map fileD d.files) true, .cells [.row 3, .row 4], .row 1 (List.map strD d.nk) true, .row 1 (List.map intD d.nv) true, .row 3 (List.map chD d.ch) true]) (by kernel_rfl) (by kernel_rfl) (T' := cgo 146 [false, false, true, false] [Item.code B12]) (by kernel_rfl) (fun kz => sem_data0 (x := (.func 54)) (args := #[(.tmp 101), (.const (Value.slice none 0 0))]) (ts := #[85, 26]) (first := []) (cap := []) (ds := [.d (.raw (Value.pointer none)), .d (.list 1 [])]) (v := .d (.int .i64 5)) F54 (@spec_54c (.d (.list 1 []))) (by kernel_rfl) (by kernel_rfl) (by kernel_rfl) (by kernel_rfl) (by kernel_rfl) (by kernel_rfl) _) ?_
      refine .sg0 4 [2, 6, 15, 16, 87, 88, 89, 90, 91, 92, 93, 94, 95, 96, 97, 98, 99, 100, 101, 102, 103, 104, 105, 106] (cgo 150 [false, false, true, false] [.code B12]) [(103, .d (.bool true)), (104, .d (.bool true)), (105, .d (.bool true)), (106, .d (.raw (Value.pointer none)))] ?_
      refine .semH (o := (opOf (cgo 150 [false, false, true, false] [Item.code B12])).getD default) (v := .d (.int .i64 5)) (σ' := [.cells [.row 1, .ptr 2 0 0, .ep 2 (D.agg [D.list 1 (List.map strD d.sk), D.list 1 (List.map intD d.sv)]) 0, .row 5, .d (.int .i64 d.quota), .d (.bool d.full), .d (.bool d.off), .d (.int .i64 d.stop), .d (.int .i64 d.calls)], .row 2 (List.map fileD d.files) true, .cells [.row 3, .row 4], .row 1 (List.map strD d.nk) true, .row 1 (List.map intD d.nv) true, .row 3 (List.map chD d.ch) true]) (by kernel_rfl) (by kernel_rfl) (T' := cgo 151 [false, false, true, false] [Item.code B12]) (by kernel_rfl) (fun kz => sem_data0 (x := (.func 55)) (args := #[(.tmp 106)]) (ts := #[85]) (first := []) (cap := []) (ds := [.d (.raw (Value.pointer none))]) (v := .d (.int .i64 5)) F55 (@spec_55c) (by kernel_rfl) (by kernel_rfl) (by kernel_rfl) (by kernel_rfl) (by kernel_rfl) (by kernel_rfl) _) ?_
      refine .sg0 4 [2, 6, 15, 16, 87, 88, 89, 90, 91, 92, 93, 94, 95, 96, 97, 98, 99, 100, 101, 102, 103, 104, 105, 106, 107, 108, 109, 110, 111] (cgo 155 [false, false, true, false] [.code B12]) [(108, .d (.bool true)), (109, .d (.bool true)), (110, .d (.bool true)), (111, .d (.raw (Value.pointer none)))] ?_
      refine .semH (o := (opOf (cgo 155 [false, false, true, false] [Item.code B12])).getD default) (v := .d (.int .i64 0)) (σ' := [.cells [.row 1, .ptr 2 0 0, .ep 2 (D.agg [D.list 1 (List.map strD d.sk), D.list 1 (List.map intD d.sv)]) 0, .row 5, .d (.int .i64 d.quota), .d (.bool d.full), .d (.bool d.off), .d (.int .i64 d.stop), .d (.int .i64 d.calls)], .row 2 (List.map fileD d.files) true, .cells [.row 3, .row 4], .row 1 (List.map strD d.nk) true, .row 1 (List.map intD d.nv) true, .row 3 (List.map chD d.ch) true]) (by kernel_rfl) (by kernel_rfl) (T' := cgo 156 [false, false, true, false] [Item.code B12]) (by kernel_rfl) (fun kz => sem_data0 (x := (.func 56)) (args := #[(.tmp 111)]) (ts := #[85]) (first := []) (cap := []) (ds := [.d (.raw (Value.pointer none))]) (v := .d (.int .i64 0)) F56 (@spec_56c) (by kernel_rfl) (by kernel_rfl) (by kernel_rfl) (by kernel_rfl) (by kernel_rfl) (by kernel_rfl) _) ?_
      refine .sg0 1 [2, 6, 15, 16, 87, 88, 89, 90, 91, 92, 93, 94, 95, 96, 97, 98, 99, 100, 101, 102, 103, 104, 105, 106, 107, 108, 109, 110, 111, 112, 113] (cgo 157 [false, false, true, false] [.code B12]) [(113, .d (.raw (Value.pointer none)))] ?_
      refine .semH (o := (opOf (cgo 157 [false, false, true, false] [Item.code B12])).getD default) (v := .d (.int .i64 0)) (σ' := [.cells [.row 1, .ptr 2 0 0, .ep 2 (D.agg [D.list 1 (List.map strD d.sk), D.list 1 (List.map intD d.sv)]) 0, .row 5, .d (.int .i64 d.quota), .d (.bool d.full), .d (.bool d.off), .d (.int .i64 d.stop), .d (.int .i64 d.calls)], .row 2 (List.map fileD d.files) true, .cells [.row 3, .row 4], .row 1 (List.map strD d.nk) true, .row 1 (List.map intD d.nv) true, .row 3 (List.map chD d.ch) true]) (by kernel_rfl) (by kernel_rfl) (T' := cgo 158 [false, false, true, false] [Item.code B12]) (by kernel_rfl) (fun kz => sem_data0 (x := (.func 57)) (args := #[(.tmp 113)]) (ts := #[85]) (first := []) (cap := []) (ds := [.d (.raw (Value.pointer none))]) (v := .d (.int .i64 0)) F57 (@spec_57c) (by kernel_rfl) (by kernel_rfl) (by kernel_rfl) (by kernel_rfl) (by kernel_rfl) (by kernel_rfl) _) ?_
      refine .sg0 4 [2, 6, 15, 16, 87, 88, 89, 90, 91, 92, 93, 94, 95, 96, 97, 98, 99, 100, 101, 102, 103, 104, 105, 106, 107, 108, 109, 110, 111, 112, 113, 114, 115, 116, 117, 118] (cgo 162 [false, false, true, false] [.code B12]) [(115, .d (.int .i64 0)), (116, .d (.bool true)), (117, .d (.bool true)), (118, .d (.bool true))] ?_
      simp only [List.length_map]
      refine .semH (o := (opOf (cgo 162 [false, false, true, false] [Item.code B12])).getD default) (v := .d (.bool true)) (σ' := [.cells [.row 1, .ptr 2 0 0, .ep 2 (D.agg [D.list 1 (List.map strD d.sk), D.list 1 (List.map intD d.sv)]) 0, .row 5, .d (.int .i64 d.quota), .d (.bool d.full), .d (.bool d.off), .d (.int .i64 d.stop), .d (.int .i64 d.calls)], .row 2 (List.map fileD d.files) true, .cells [.row 3, .row 4], .row 1 (List.map strD d.nk) true, .row 1 (List.map intD d.nv) true, .row 3 (List.map chD d.ch) true]) (by kernel_rfl) (by kernel_rfl) (T' := cgo 163 [false, false, true, false] [Item.code B12]) (by kernel_rfl) (fun kz => sem_data0 (x := (.func 21)) (args := #[]) (ts := #[]) (first := []) (cap := []) (ds := []) (v := .d (.bool true)) F21 (@spec_21) (by kernel_rfl) (by kernel_rfl) (by kernel_rfl) (by kernel_rfl) (by kernel_rfl) (by kernel_rfl) _) ?_
      refine .sg0 3 [6] (cgo 166 [false, false, true, false] [.code B12]) [(6, .d (.bool true))] ?_
      refine .kp [6] ?_
      refine .su [] (mk 121 [(6, .d (.bool true))]) [] ?_
      refine .retH F12 (v := V.d (D.bool true)) (by kernel_rfl) (by kernel_rfl) ?_
      exact rfl
    · simp only [bsX] at h4
      simp_all
theorem td12 (d : Dk) (hd : d = Dk.new 1048576) (x : ByteArray) (bs : List UInt8) (hx : x.size ≤ 300) (hb : bs.length ≤ 300) :
    AW Try.prog 12 none 0 (cgo 58 [false, false] [Item.code B12]) (mk 121 [(0, .d (.str x)), (2, .d (.list 1 (bs.map u8))), (6, .d (.bool false)), (49, .ptr 0 0 0)]) (SD d true) [] fun r _ => r = .ret (.d (.bool true)) := by
  obtain ⟨k1, k2, k3, k4⟩ := mk12 d hd x
  cases hm : (mayName x && mayName (x ++ tmpX)) with
  | true =>
    rw [Bool.and_eq_true] at hm
    exact td12a x d k1 k2 k3 bs hx hb hm.1 hm.2 (k4 hm.1)
  | false => exact td12b x d k1 k2 k3 bs hx hb hm
theorem ta12 (x : ByteArray) (bs : List UInt8) (hx : x.size ≤ 300) (hb : bs.length ≤ 300) :
    AW Try.prog 12 none 0 (cgo 57 [false, false] [Item.code B12]) (mk 121 [(0, .d (.str x)), (2, .d (.list 1 (bs.map u8))), (6, .d (.bool false))]) [] [] fun r _ => r = .ret (.d (.bool true)) := by
  refine .ca [] (cgo 58 [false, false] [.code B12]) F25 (@spec_25 (1048576)) ?_
  rintro r0 s0 ⟨rfl, rfl⟩
  refine ⟨_, rfl, ?_⟩
  exact .goes [0, 2, 6, 49] (by kernel_rfl) (by kernel_rfl) (by kernel_rfl) (td12 (Dk.new 1048576) rfl x bs hx hb)
theorem nb12 (m : Nat) (hm1 : 65534 ≤ m) (hm2 : m ≤ 65536) (x : ByteArray) (bs : List UInt8) (hx : x.size ≤ 300) (hb : bs.length ≤ 300) :
    AW Try.prog 12 none 0 (cgo 28 [false] [Item.code B12]) (mk 121 [(0, .d (.str x)), (1, .d (.int .i64 m)), (2, .d (.list 1 (bs.map u8))), (6, .d (.bool false)), (30, .d (.int .i64 m))]) [] [] fun r _ => r = .ret (.d (.bool true)) := by
  have h1 : (List.replicate m (0 : UInt8)).length ≤ 65536 := by simp; omega
  refine .op' (cgo 29 [false] [.code B12]) (makeD_ok (t := 22) (l := (.tmp 30)) (c := (.tmp 30)) (e := 5) (z := (Value.int IntKind.u8 (0))) (dz := D.int IntKind.u8 0) (bytes := 1) (n := m) (kl := IntKind.i64) (kc := IntKind.i64) (by kernel_rfl) (by kernel_rfl) (by kernel_rfl) (by kernel_rfl) (by kernel_rfl) (by kernel_rfl) (by omega) (by first | (simp [maxLen] <;> omega) | omega)) ?_
  rw [rep_u8]
  refine .ca [] (cgo 30 [false] [.code B12]) F16 (@spec_16 (List.replicate m 0) (by assumption)) ?_
  rintro r0 s0 ⟨rfl, rfl⟩
  refine ⟨_, rfl, ?_⟩
  refine .sg0 15 [0, 1, 2, 6, 8, 35, 36, 37, 38, 39, 40] (cgo 45 [false] [.code B12]) [(8, .d (.int .i64 0)), (35, .d (.int .i64 0)), (36, .d (.bool false)), (37, .d (.int .i64 (↑m : Int))), (38, .d (.bool (decide ((↑m : Int) > 65536)))), (39, .d (.bool !false == decide ((↑m : Int) > 65536))), (40, .d (.bool !false == decide ((↑m : Int) > 65536)))] ?_
  rcases Bool.eq_false_or_eq_true (!false == decide ((↑m : Int) > 65536)) with h2 | h2
  · rw [h2]
    simp only [bsX] at h2
    refine .sg0 12 [0, 2, 6] (cgo 57 [false, true] [.code B12]) [] ?_
    refine .kp [0, 2, 6] ?_
    exfalso; simp at h2; omega
  · rw [h2]
    simp only [bsX] at h2
    refine .sg0 3 [0, 1, 2, 6, 8, 35, 36, 37, 38, 39, 40, 41, 42, 43] (cgo 48 [false] [.code B12]) [(41, .d (.int .i64 (↑m : Int))), (42, .d (.bool (decide ((↑m : Int) ≤ 65536)))), (43, .d (.bool (decide ((↑m : Int) ≤ 65536))))] ?_
    rcases Bool.eq_false_or_eq_true (decide ((↑m : Int) ≤ 65536)) with h3 | h3
    · rw [h3]
      simp only [bsX] at h3
      refine .sg0 9 [0, 2, 6] (cgo 57 [false, false] [.code B12]) [] ?_
      refine .kp [0, 2, 6] ?_
      exact .sub [] (mk 121 [(0, .d (.str x)), (2, .d (.list 1 (bs.map u8))), (6, .d (.bool false))]) [] none [] ⟨rfl, rfl, by kernel_rfl⟩ (by kernel_rfl) ⟨Nat.le_of_ble_eq_true (by kernel_rfl), by kernel_rfl⟩ (by kernel_rfl) ⟨by kernel_rfl, by kernel_rfl⟩ ⟨rfl, rfl⟩ (ta12 x bs hx hb)
    · rw [h3]
      simp only [bsX] at h3
      omega
theorem nb12c (m : Nat) (hm1 : 65536 < m) (hm2 : m ≤ 65539) (x : ByteArray) (bs : List UInt8) (hx : x.size ≤ 300) (hb : bs.length ≤ 300) :
    AW Try.prog 12 none 0 (cgo 28 [false] [Item.code B12]) (mk 121 [(0, .d (.str x)), (1, .d (.int .i64 m)), (2, .d (.list 1 (bs.map u8))), (6, .d (.bool false)), (30, .d (.int .i64 m))]) [] [] fun r _ => r = .ret (.d (.bool true)) := by
  have h1 : 65536 < (List.replicate m (D.int IntKind.u8 0)).length := by simp; omega
  have h2 : (List.replicate m (D.int IntKind.u8 0)).length < 1000000000 := by simp; omega
  refine .op' (cgo 29 [false] [.code B12]) (makeD_ok (t := 22) (l := (.tmp 30)) (c := (.tmp 30)) (e := 5) (z := (Value.int IntKind.u8 (0))) (dz := D.int IntKind.u8 0) (bytes := 1) (n := m) (kl := IntKind.i64) (kc := IntKind.i64) (by kernel_rfl) (by kernel_rfl) (by kernel_rfl) (by kernel_rfl) (by kernel_rfl) (by kernel_rfl) (by omega) (by first | (simp [maxLen] <;> omega) | omega)) ?_
  refine .semH (o := (opOf (cgo 29 [false] [Item.code B12])).getD default) (v := .tuple [.d (.list 1 []), .d (.int .i64 2)]) (σ' := []) (by kernel_rfl) (by kernel_rfl) (T' := cgo 30 [false] [Item.code B12]) (by kernel_rfl) (fun kz => sem_data0 (x := (.func 16)) (args := #[(.tmp 31)]) (ts := #[22]) (first := []) (cap := []) (ds := [.d (.list 1 (List.replicate m (D.int IntKind.u8 0)))]) (v := .tuple [.d (.list 1 []), .d (.int .i64 2)]) F16 (@spec_16c (List.replicate m (D.int IntKind.u8 0)) (by assumption) (by assumption)) (by kernel_rfl) (by kernel_rfl) (by kernel_rfl) (by kernel_rfl) (by kernel_rfl) (by kernel_rfl) _) ?_
  refine .sg0 15 [0, 1, 2, 6, 8, 35, 36, 37, 38, 39, 40] (cgo 45 [false] [.code B12]) [(8, .d (.int .i64 2)), (35, .d (.int .i64 2)), (36, .d (.bool true)), (37, .d (.int .i64 (↑m : Int))), (38, .d (.bool (decide ((↑m : Int) > 65536)))), (39, .d (.bool !true == decide ((↑m : Int) > 65536))), (40, .d (.bool !true == decide ((↑m : Int) > 65536)))] ?_
  rcases Bool.eq_false_or_eq_true (!true == decide ((↑m : Int) > 65536)) with h3 | h3
  · rw [h3]
    simp only [bsX] at h3
    refine .sg0 12 [0, 2, 6] (cgo 57 [false, true] [.code B12]) [] ?_
    exfalso; simp at h3; omega
  · rw [h3]
    simp only [bsX] at h3
    refine .sg0 3 [0, 1, 2, 6, 8, 35, 36, 37, 38, 39, 40, 41, 42, 43] (cgo 48 [false] [.code B12]) [(41, .d (.int .i64 (↑m : Int))), (42, .d (.bool (decide ((↑m : Int) ≤ 65536)))), (43, .d (.bool (decide ((↑m : Int) ≤ 65536))))] ?_
    rcases Bool.eq_false_or_eq_true (decide ((↑m : Int) ≤ 65536)) with h4 | h4
    · rw [h4]
      simp only [bsX] at h4
      omega
    · rw [h4]
      simp only [bsX] at h4
      refine .sg0 9 [0, 2, 6] (cgo 57 [false, false] [.code B12]) [] ?_
      exact .goes [0, 2, 6] (by kernel_rfl) (by kernel_rfl) (by kernel_rfl) (ta12 x bs hx hb)
theorem spec_12 (x : ByteArray) (n : Int) (bs : List UInt8) (hx : x.size ≤ 9223372036854775807) (hb : bs.length ≤ maxLen) (h0 : -9223372036854775808 ≤ n) (h1 : n < 9223372036854775808) : Br.Pure Try.prog 12 [.d (.str x), .d (.int .i64 n), .d (bsD bs)] (.d (.bool true)) := by
  refine CallsA.pure ?_ rfl
  refine CallsA.start F12 (tm := mk (Try.f12.ntmps) [(0, .d (.str x)), (1, .d (.int .i64 n)), (2, .d (bsD bs))]) (by kernel_rfl) ?_
  refine .sg0 11 [0, 1, 2, 6, 17, 18, 19, 20] (cgo 11 [] [.code B12]) [(6, .d (.bool false)), (17, .d (.str x)), (18, .d (.int .i64 (↑x.size : Int))), (19, .d (.bool (decide ((↑x.size : Int) > 300)))), (20, .d (.bool (decide ((↑x.size : Int) > 300))))] ?_
  rcases Bool.eq_false_or_eq_true (decide ((↑x.size : Int) > 300)) with h2 | h2
  · rw [h2]
    simp only [bsX] at h2
    refine .sg0 8 [0, 1, 2, 6] (cgo 19 [true] [.code B12]) [] ?_
    refine .semH (o := (opOf (cgo 19 [true] [Item.code B12])).getD default) (v := .d (.bool true)) (σ' := []) (by kernel_rfl) (by kernel_rfl) (T' := cgo 20 [true] [Item.code B12]) (by kernel_rfl) (fun kz => sem_data0 (x := (.func 21)) (args := #[]) (ts := #[]) (first := []) (cap := []) (ds := []) (v := .d (.bool true)) F21 (@spec_21) (by kernel_rfl) (by kernel_rfl) (by kernel_rfl) (by kernel_rfl) (by kernel_rfl) (by kernel_rfl) _) ?_
    refine .seg 2 [0, 1, 2, 6] (T' := cgo 22 [true] [.code B12]) (tm' := mk 121 [(0, .d (.str x)), (1, .d (.int .i64 n)), (2, .d (.list 1 (List.map u8 bs))), (6, .d (.bool true))]) (σ' := []) (by kernel_rfl) ?_
    refine .retH F12 (v := V.d (D.bool true)) (by kernel_rfl) (by kernel_rfl) ?_
    exact rfl
  · rw [h2]
    simp only [bsX] at h2
    refine .sg0 5 [0, 1, 2, 6, 24] (cgo 16 [] [.code B12]) [(24, .d (.bool (decide ((↑(List.map u8 bs).length : Int) > 300))))] ?_
    simp only [List.length_map]
    refine .if' (decide ((↑bs.length : Int) > 300)) (cgo 17 [true] [.code B12]) (cgo 17 [false] [.code B12]) (fun h3 => ?_) (fun h3 => ?_)
    · simp only [bsX] at h3
      refine .sg0 2 [0, 1, 2, 6] (cgo 19 [true] [.code B12]) [] ?_
      refine .semH (o := (opOf (cgo 19 [true] [Item.code B12])).getD default) (v := .d (.bool true)) (σ' := []) (by kernel_rfl) (by kernel_rfl) (T' := cgo 20 [true] [Item.code B12]) (by kernel_rfl) (fun kz => sem_data0 (x := (.func 21)) (args := #[]) (ts := #[]) (first := []) (cap := []) (ds := []) (v := .d (.bool true)) F21 (@spec_21) (by kernel_rfl) (by kernel_rfl) (by kernel_rfl) (by kernel_rfl) (by kernel_rfl) (by kernel_rfl) _) ?_
      refine .seg 2 [0, 1, 2, 6] (T' := cgo 22 [true] [.code B12]) (tm' := mk 121 [(0, .d (.str x)), (1, .d (.int .i64 n)), (2, .d (.list 1 (List.map u8 bs))), (6, .d (.bool true))]) (σ' := []) (by kernel_rfl) ?_
      refine .retH F12 (v := V.d (D.bool true)) (by kernel_rfl) (by kernel_rfl) ?_
      exact rfl
    · simp only [bsX] at h3
      refine .sg0 11 [0, 1, 2, 6, 30] (cgo 28 [false] [.code B12]) [(1, .d (.int .i64 (if (if 65539 < n then 65539 else n) > 65534 then if 65539 < n then 65539 else n else 65534))), (30, .d (.int .i64 (if (if 65539 < n then 65539 else n) > 65534 then if 65539 < n then 65539 else n else 65534)))] ?_
      obtain ⟨m, hm, hm3⟩ : ∃ m : Nat, (if (if 65539 < n then 65539 else n) > 65534 then if 65539 < n then 65539 else n else 65534) = (m : Int) ∧ 65534 ≤ m ∧ m ≤ 65539 := ⟨(if (if 65539 < n then 65539 else n) > 65534 then if 65539 < n then 65539 else n else 65534).toNat, by omega⟩
      rw [hm]
      by_cases hm4 : m ≤ 65536
      exact .goes [0, 1, 2, 6, 30] (by kernel_rfl) (by kernel_rfl) (by kernel_rfl) (nb12 m hm3.1 hm4 x bs (by omega) (by omega))
      exact .goes [0, 1, 2, 6, 30] (by kernel_rfl) (by kernel_rfl) (by kernel_rfl) (nb12c m (by omega) hm3.2 x bs (by omega) (by omega))
end Go.Proofs.Ytoelkgbeefoplaa
