/- Texts of this proof, part 10: DiskE, DiskF, CloneA, EachA, CopyA, CheckA. -/
import Derived.Test.YtoelkgbeefoplaaM9
set_option linter.unusedSimpArgs false
set_option linter.unusedVariables false
set_option linter.constructorNameAsVariable false
namespace Go.Proofs.Ytoelkgbeefoplaa
open Go Go.Br Go.Proofs
open List (map)
noncomputable def B65 : Code := (Try.f65.body).getD .skip
theorem F65 : Fnc Try.prog 65 Try.f65 B65 := ⟨Try.func65, by kernel_rfl, by kernel_rfl⟩
def atV : Option Int → V
  | some k => .tuple [.ptr 1 k.toNat 0, .d (.bool true)]
  | none => .tuple [.d (.raw (.pointer none)), .d (.bool false)]
theorem spec_65 (d : Dk) (x : ByteArray) (o : Option Int) (ho : look d.nk d.nv x = o) (h1 : Rising d.nk) (h2 : d.nv.length = d.nk.length) (h3 : d.nk.length < 4611686018427387904) (h4 : ∀ k, look d.nk d.nv x = some k → 0 ≤ k ∧ k < d.files.length) :
    CallsA Try.prog 65 [.ptr 0 0 0, .d (.str x)] (SD d false) fun r σ' => r = .ret (atV o) ∧ σ' = SD d false := by
  refine CallsA.start F65 (tm := mk (Try.f65.ntmps) [(0, .ptr 0 0 0), (1, .d (.str x))]) (by kernel_rfl) ?_
  cases o with
  | none =>
    refine .sg0 20 [0, 1, 4, 5, 11, 12, 13, 14, 15] (cgo 20 [false] [.code B65]) [(4, .d (.raw (Value.pointer none))), (5, .d (.bool false)), (11, .ptr 0 0 0), (12, .ptr 0 0 0), (13, .ptr 0 0 1), (14, .ptr 2 0 0), (15, .d (.str x))] ?_
    refine .ca [2, 3, 4] (cgo 21 [false] [.code B65]) F70 (@spec_70 (d.nk) (x) (d.nv) (by assumption) (by assumption) (by assumption)) ?_
    rintro r0 s0 ⟨rfl, rfl⟩
    refine ⟨_, rfl, ?_⟩
    refine .sg0 12 [0, 4, 5, 6, 20] (cgo 33 [false] [.code B65]) [(6, .d (.int .i64 ((look d.nk d.nv x).getD 0))), (20, .d (.bool !(look d.nk d.nv x).isSome))] ?_
    refine .if' (!(look d.nk d.nv x).isSome) (cgo 34 [false, true] [.code B65]) (cgo 34 [false, false] [.code B65]) (fun h5 => ?_) (fun h5 => ?_)
    · simp only [bsX] at h5
      refine .seg 5 [0, 4, 5, 6] (T' := cgo 39 [false, true] [.code B65]) (tm' := mk 27 [(0, .ptr 0 0 0), (4, .d (.raw (Value.pointer none))), (5, .d (.bool false)), (6, .d (.int .i64 ((look d.nk d.nv x).getD 0)))]) (σ' := [.cells [.row 1, .ptr 2 0 0, .ep 2 (D.agg [D.list 1 (map strD d.sk), D.list 1 (map intD d.sv)]) 0, .row 5, .d (.int .i64 d.quota), .d (.bool d.full), .d (.bool d.off), .d (.int .i64 d.stop), .d (.int .i64 d.calls)], .row 2 (map fileD d.files) false, .cells [.row 3, .row 4], .row 1 (map strD d.nk) false, .row 1 (map intD d.nv) false, .row 3 (map chD d.ch) false]) (by kernel_rfl) ?_
      refine .retH F65 (v := V.tuple [V.d (D.raw (Value.pointer none)), V.d (D.bool false)]) (by kernel_rfl) (by kernel_rfl) ?_
      exact ⟨rfl, rfl⟩
    · simp only [bsX] at h5
      simp_all
  | some k =>
    have q := h4 k ho
    have q1 := q.1
    have q2 := q.2
    refine .sg0 20 [0, 1, 4, 5, 11, 12, 13, 14, 15] (cgo 20 [false] [.code B65]) [(4, .d (.raw (Value.pointer none))), (5, .d (.bool false)), (11, .ptr 0 0 0), (12, .ptr 0 0 0), (13, .ptr 0 0 1), (14, .ptr 2 0 0), (15, .d (.str x))] ?_
    refine .ca [2, 3, 4] (cgo 21 [false] [.code B65]) F70 (@spec_70 (d.nk) (x) (d.nv) (by assumption) (by assumption) (by assumption)) ?_
    rintro r0 s0 ⟨rfl, rfl⟩
    refine ⟨_, rfl, ?_⟩
    refine .sg0 12 [0, 4, 5, 6, 20] (cgo 33 [false] [.code B65]) [(6, .d (.int .i64 ((look d.nk d.nv x).getD 0))), (20, .d (.bool !(look d.nk d.nv x).isSome))] ?_
    refine .if' (!(look d.nk d.nv x).isSome) (cgo 34 [false, true] [.code B65]) (cgo 34 [false, false] [.code B65]) (fun h5 => ?_) (fun h5 => ?_)
    · simp only [bsX] at h5
      simp_all
    · simp only [bsX] at h5
      refine .sg0 8 [0, 4, 5, 6, 21, 22, 23, 24, 25] (cgo 42 [false, false] [.code B65]) [(21, .ptr 0 0 0), (22, .ptr 0 0 0), (23, .ptr 0 0 0), (24, .row 1), (25, .d (.int .i64 ((look d.nk d.nv x).getD 0)))] ?_
      refine .op' (cgo 43 [false, false] [.code B65]) (ixRow_ok (t := 105) (x := (.tmp 24)) (i := (.tmp 25)) (k := IntKind.i64) (n := (look d.nk d.nv x).getD 0) (l := 1) (sz := 2) (xs := map fileD d.files) (mv := false) (by kernel_rfl) (by kernel_rfl) (by kernel_rfl) (by kernel_rfl) (by kernel_rfl) (by grind) (by grind)) ?_
      refine .seg 3 [4, 5] (T' := cgo 46 [false, false] [.code B65]) (tm' := mk 27 [(4, .ptr 1 ((look d.nk d.nv x).getD 0).toNat 0), (5, .d (.bool true))]) (σ' := [.cells [.row 1, .ptr 2 0 0, .ep 2 (D.agg [D.list 1 (map strD d.sk), D.list 1 (map intD d.sv)]) 0, .row 5, .d (.int .i64 d.quota), .d (.bool d.full), .d (.bool d.off), .d (.int .i64 d.stop), .d (.int .i64 d.calls)], .row 2 (map fileD d.files) false, .cells [.row 3, .row 4], .row 1 (map strD d.nk) false, .row 1 (map intD d.nv) false, .row 3 (map chD d.ch) false]) (by kernel_rfl) ?_
      refine .retH F65 (v := V.tuple [V.ptr 1 ((look d.nk d.nv x).getD 0).toNat 0, V.d (D.bool true)]) (by kernel_rfl) (by kernel_rfl) ?_
      simp_all [SD, dirD, atV]
end Go.Proofs.Ytoelkgbeefoplaa
namespace Go.Proofs.Ytoelkgbeefoplaa
open Go Go.Br Go.Proofs
open List (map)
theorem emptyStr (g : ByteArray) : g.toList = (ByteArray.mk #[]).toList ↔ g.size = 0 := by
  rw [Go.ByteArray.toList_eq, Go.ByteArray.toList_eq]
  cases g with
  | mk a =>
    have h : (ByteArray.mk a).size = a.size := rfl
    rw [h]
    cases hd : a.toList with
    | nil => have : a.size = 0 := by rw [← Array.length_toList, hd]; rfl
             simp [this]
    | cons x l => have : a.size ≠ 0 := by rw [← Array.length_toList, hd]; simp
                  simp [this]
noncomputable def B71 : Code := (Try.f71.body).getD .skip
theorem F71 : Fnc Try.prog 71 Try.f71 B71 := ⟨Try.func71, by kernel_rfl, by kernel_rfl⟩
theorem spec_71 (ks : List ByteArray) (V2 : List Int) (g n : ByteArray) (k : Int) (hr : Rising ks) (hl : ks.length < 999990) (hv : V2.length = ks.length) :
    CallsA Try.prog 71 [.ptr 0 0 0, .d (.agg [.str g, .str n, .int .i64 k])] [.cells [.row 1, .row 2], .row 1 (ks.map strD) false, .row 1 (V2.map intD) false] fun r σ' => r = .ret (.tuple []) ∧ σ' = [.cells [.row 1, .row 2], .row 1 ((kapply ks V2 g n k).1.map strD) true, .row 1 ((kapply ks V2 g n k).2.map intD) true] := by
  refine CallsA.start F71 (tm := mk (Try.f71.ntmps) [(0, .ptr 0 0 0), (1, .d (.agg [.str g, .str n, .int .i64 k]))]) (by kernel_rfl) ?_
  have e1 := emptyStr g
  have e2 := emptyStr n
  have d1 := @kdrop_rising ks V2 g hr
  have d2 := @kdrop_len ks V2 g hv
  have d3 := @kdrop_le ks V2 g
  refine .sg 11 [0, 3, 6] (cgo 11 [] [.code B71]) [(3, .ptr 3 0 0), (6, .d (.bool !g.toList == (ByteArray.mk #[]).toList))] [(3, .cells [.d (.str g), .d (.str n), .d (.int .i64 k)])] ?_
  refine .if' (!g.toList == (ByteArray.mk #[]).toList) (cgo 12 [true] [.code B71]) (cgo 12 [false] [.code B71]) (fun h1 => ?_) (fun h1 => ?_)
  · simp only [bsX] at h1
    refine .sg0 4 [0, 3, 7, 8, 9] (cgo 16 [true] [.code B71]) [(7, .ptr 0 0 0), (8, .ptr 3 0 0), (9, .d (.str g))] ?_
    refine .ca [0, 1, 2] (cgo 17 [true] [.code B71]) F96 (@spec_96 (ks) (g) (V2) (by assumption) (by omega) (by assumption)) ?_
    rintro r1 s1 ⟨rfl, rfl⟩
    refine ⟨_, rfl, ?_⟩
    refine .sg0 7 [0, 3, 13] (cgo 24 [true] [.code B71]) [(13, .d (.bool !n.toList == (ByteArray.mk #[]).toList))] ?_
    refine .if' (!n.toList == (ByteArray.mk #[]).toList) (cgo 25 [true, true] [.code B71]) (cgo 25 [true, false] [.code B71]) (fun h3 => ?_) (fun h3 => ?_)
    · simp only [bsX] at h3
      refine .sg0 6 [0, 3, 14, 15, 16, 17, 18] (cgo 31 [true, true] [.code B71]) [(14, .ptr 0 0 0), (15, .ptr 3 0 1), (16, .d (.str n)), (17, .ptr 3 0 2), (18, .d (.int .i64 k))] ?_
      refine .ca [0, 1, 2] (cgo 32 [true, true] [.code B71]) F76 (@spec_76 ((kdrop ks V2 g).fst) (n) ((kdrop ks V2 g).snd) (k) (by assumption) (by omega) (by assumption)) ?_
      rintro r3 s3 ⟨rfl, rfl⟩
      refine ⟨_, rfl, ?_⟩
      refine .sg0 1 [] (cgo 33 [true, true] [.code B71]) [] ?_
      refine .kp [] ?_
      refine .su [0, 1, 2] (mk 20 []) [O.cells [V.row 1, V.row 2], O.row 1 (map strD (kput (kdrop ks V2 g).fst (kdrop ks V2 g).snd n k).fst) true, O.row 1 (map intD (kput (kdrop ks V2 g).fst (kdrop ks V2 g).snd n k).snd) true] ?_
      refine .retH F71 (v := V.tuple []) (by kernel_rfl) (by kernel_rfl) ?_
      simp_all [kapply]
    · simp only [bsX] at h3
      refine .sg0 1 [] (cgo 26 [true, false] [.code B71]) [] ?_
      refine .kp [] ?_
      refine .su [0, 1, 2] (mk 20 []) [O.cells [V.row 1, V.row 2], O.row 1 (map strD (kdrop ks V2 g).fst) true, O.row 1 (map intD (kdrop ks V2 g).snd) true] ?_
      refine .retH F71 (v := V.tuple []) (by kernel_rfl) (by kernel_rfl) ?_
      simp_all [kapply]
  · simp only [bsX] at h1
    refine .sg0 7 [0, 3, 13] (cgo 19 [false] [.code B71]) [(13, .d (.bool !n.toList == (ByteArray.mk #[]).toList))] ?_
    refine .if' (!n.toList == (ByteArray.mk #[]).toList) (cgo 20 [false, true] [.code B71]) (cgo 20 [false, false] [.code B71]) (fun h5 => ?_) (fun h5 => ?_)
    · simp only [bsX] at h5
      refine .sg0 6 [0, 3, 14, 15, 16, 17, 18] (cgo 26 [false, true] [.code B71]) [(14, .ptr 0 0 0), (15, .ptr 3 0 1), (16, .d (.str n)), (17, .ptr 3 0 2), (18, .d (.int .i64 k))] ?_
      refine .ca [0, 1, 2] (cgo 27 [false, true] [.code B71]) F76 (@spec_76 (ks) (n) (V2) (k) (by assumption) (by omega) (by assumption)) ?_
      rintro r5 s5 ⟨rfl, rfl⟩
      refine ⟨_, rfl, ?_⟩
      refine .sg0 1 [] (cgo 28 [false, true] [.code B71]) [] ?_
      refine .kp [] ?_
      refine .su [0, 1, 2] (mk 20 []) [O.cells [V.row 1, V.row 2], O.row 1 (map strD (kput ks V2 n k).fst) true, O.row 1 (map intD (kput ks V2 n k).snd) true] ?_
      refine .retH F71 (v := V.tuple []) (by kernel_rfl) (by kernel_rfl) ?_
      simp_all [kapply]
    · simp only [bsX] at h5
      refine .sg0 1 [] (cgo 21 [false, false] [.code B71]) [] ?_
      refine .raises [1, 2] ?_
      refine .kp [] ?_
      refine .su [0, 1, 2] (mk 20 []) [O.cells [V.row 1, V.row 2], O.row 1 (map strD ks) true, O.row 1 (map intD V2) true] ?_
      refine .retH F71 (v := V.tuple []) (by kernel_rfl) (by kernel_rfl) ?_
      simp_all [kapply]
end Go.Proofs.Ytoelkgbeefoplaa
namespace Go.Proofs.Ytoelkgbeefoplaa
open Go Go.Br Go.Proofs
open List (map)
noncomputable def B110 : Code := (Try.f110.body).getD .skip
theorem F110 : Fnc Try.prog 110 Try.f110 B110 := ⟨Try.func110, by kernel_rfl, by kernel_rfl⟩
theorem spec_110 (xs : List D) (hlen : xs.length ≤ 1000000) : Br.Pure Try.prog 110 [.d (.list 1 xs)] (.d (.list 1 xs)) := by
  refine CallsA.start F110 (tm := (mk 8 [(0, .d (.list 1 xs))])) (by kernel_rfl) ?_
  refine .seg 8 [0, 3] (T' := cgo 8 [] [.code B110]) (tm' := mk 8 [(0, .d (.list 1 xs)), (3, .d (.list 1 xs))]) (σ' := []) (by kernel_rfl) ?_
  refine .anyH (o := (opOf (cgo 8 [] [.code B110])).getD default) (by kernel_rfl) (by kernel_rfl) (by kernel_rfl) (T' := (cgo 9 [] [.code B110])) (by kernel_rfl) (nilEq_ok (x := .tmp 3) (y := .const (.slice none 0 0)) (t := 66) (ty := 66) (sz := 1) (xs := xs) (neg := false) (by kernel_rfl) (by kernel_rfl) (by kernel_rfl) (by kernel_rfl)) ?_
  rintro v ⟨b, rfl, hb⟩
  cases b with
  | true =>
    have h0 : xs = [] := hb rfl
    subst h0
    refine .seg 6 [2] (T' := cgo 15 [true] [.code B110]) (tm' := mk 8 [(2, .nils)]) (σ' := []) (by kernel_rfl) ?_
    refine .coerce [66, 66, 66] ?_
    exact .retH (v := .d (.list 1 [])) F110 (by kernel_rfl) (by kernel_rfl) ⟨rfl, rfl⟩
  | false =>
    refine .seg 5 [0] (T' := cgo 14 [false] [.code B110]) (tm' := mk 8 [(0, .d (.list 1 xs))]) (σ' := []) (by kernel_rfl) ?_
    refine .opH (o := (opOf (cgo 14 [false] [.code B110])).getD default) (by kernel_rfl) (by kernel_rfl) (by kernel_rfl) (T' := cgo 15 [false] [.code B110]) (by kernel_rfl) (build0_ok (t := 66) (e := 9) (sz := 1) (sz' := 1) (by kernel_rfl) (by kernel_rfl) (by kernel_rfl)) ?_
    refine .seg 1 [5, 6] (T' := cgo 16 [false] [.code B110]) (tm' := mk 8 [(5, .ex 1 []), (6, .d (.list 1 xs))]) (σ' := []) (by kernel_rfl) ?_
    cases xs with
    | nil =>
      refine .opH (o := (opOf (cgo 16 [false] [.code B110])).getD default) (by kernel_rfl) (by kernel_rfl) (by kernel_rfl) (T' := cgo 17 [false] [.code B110]) (by kernel_rfl) (appNone_ok (s := .tmp 5) (x := .tmp 6) (t := 66) (t2 := 66) (sz := 1) (by' := 16) (xs := []) (by kernel_rfl) (by kernel_rfl) (by kernel_rfl) (by kernel_rfl) (by kernel_rfl)) ?_
      refine .seg 2 [2] (T' := cgo 19 [false] [.code B110]) (tm' := mk 8 [(2, .ex 1 [])]) (σ' := []) (by kernel_rfl) ?_
      refine .coerce [66, 66, 66] ?_
      exact .retH (v := .d (.list 1 [])) F110 (by kernel_rfl) (by kernel_rfl) ⟨rfl, rfl⟩
    | cons b bs =>
      refine .opH (o := (opOf (cgo 16 [false] [.code B110])).getD default) (by kernel_rfl) (by kernel_rfl) (by kernel_rfl) (T' := cgo 17 [false] [.code B110]) (by kernel_rfl) (appEx_ok (s := .tmp 5) (x := .tmp 6) (t := 66) (t2 := 66) (sz := 1) (by' := 16) (xs := []) (ys := b :: bs) (by kernel_rfl) (by kernel_rfl) (by kernel_rfl) (by kernel_rfl) (by kernel_rfl) (by simp) (by simp at hlen ⊢; omega) (by simp [maxLen] at hlen ⊢; omega)) ?_
      refine .seg 2 [2] (T' := cgo 19 [false] [.code B110]) (tm' := mk 8 [(2, .row 0)]) (σ' := [.row 1 (b :: bs) false]) (by kernel_rfl) ?_
      refine .freeze 0 (sz := 1) (xs := b :: bs) (mv := false) rfl ?_
      refine .sub [] ((mk 8 [(2, .d (.list 1 (b :: bs)))])) [] none [] ⟨rfl, rfl, rfl⟩ rfl ⟨by simp, rfl⟩ rfl ⟨rfl, rfl⟩ ⟨rfl, rfl⟩ ?_
      exact .retH F110 (by kernel_rfl) (by kernel_rfl) (⟨rfl, rfl⟩)
theorem spec_110b (xs : List D) (off n : Nat) (c : Option Nat) (hn : off + n ≤ xs.length) (hlen : xs.length ≤ 1000000) : CallsA Try.prog 110 [.sl 0 off n c] [.row 1 xs false] fun r σ' => r = .ret (.d (.list 1 ((xs.drop off).take n))) ∧ σ' = [.row 1 xs false] := by
  refine CallsA.start F110 (tm := (mk 8 [(0, .sl 0 off n c)])) (by kernel_rfl) ?_
  refine .seg 8 [0, 3] (T' := cgo 8 [] [.code B110]) (tm' := mk 8 [(0, .sl 0 off n c), (3, .sl 0 off n c)]) (σ' := [.row 1 xs false]) (by kernel_rfl) ?_
  refine .anyH (o := (opOf (cgo 8 [] [.code B110])).getD default) (by kernel_rfl) (by kernel_rfl) (by kernel_rfl) (T' := (cgo 9 [] [.code B110])) (by kernel_rfl) (nilEqC_ok (x := .tmp 3) (y := .const (.slice none 0 0)) (t := 66) (ty := 66) (sz := 1) (xs := (xs.drop off).take n) (neg := false) (by kernel_rfl) (by kernel_rfl) (by kernel_rfl) (by kernel_rfl) (by kernel_rfl)) ?_
  rintro v ⟨b, rfl, hb⟩
  cases b with
  | true =>
    have h0 : (xs.drop off).take n = [] := hb rfl
    refine .seg 6 [2] (T' := cgo 15 [true] [.code B110]) (tm' := mk 8 [(2, .nils)]) (σ' := [.row 1 xs false]) (by kernel_rfl) ?_
    refine .coerce [66, 66, 66] ?_
    exact .retH (v := .d (.list 1 [])) F110 (by kernel_rfl) (by kernel_rfl) ⟨by rw [h0], rfl⟩
  | false =>
    refine .seg 5 [0] (T' := cgo 14 [false] [.code B110]) (tm' := mk 8 [(0, .sl 0 off n c)]) (σ' := [.row 1 xs false]) (by kernel_rfl) ?_
    refine .opH (o := (opOf (cgo 14 [false] [.code B110])).getD default) (by kernel_rfl) (by kernel_rfl) (by kernel_rfl) (T' := cgo 15 [false] [.code B110]) (by kernel_rfl) (build0_ok (t := 66) (e := 9) (sz := 1) (sz' := 1) (by kernel_rfl) (by kernel_rfl) (by kernel_rfl)) ?_
    refine .seg 1 [5, 6] (T' := cgo 16 [false] [.code B110]) (tm' := mk 8 [(5, .ex 1 []), (6, .sl 0 off n c)]) (σ' := [.row 1 xs false]) (by kernel_rfl) ?_
    generalize hys : (xs.drop off).take n = ys
    have hl : ys.length ≤ 1000000 := by rw [← hys]; simp; omega
    have hc : cont [.row 1 xs false] (.sl 0 off n c) = some (1, ys) := by rw [← hys]; rfl
    cases ys with
    | nil =>
      refine .opH (o := (opOf (cgo 16 [false] [.code B110])).getD default) (by kernel_rfl) (by kernel_rfl) (by kernel_rfl) (T' := cgo 17 [false] [.code B110]) (by kernel_rfl) (appNone_ok (s := .tmp 5) (x := .tmp 6) (t := 66) (t2 := 66) (sz := 1) (by' := 16) (xs := []) (by kernel_rfl) (by kernel_rfl) hc (by kernel_rfl) (by kernel_rfl)) ?_
      refine .seg 2 [2] (T' := cgo 19 [false] [.code B110]) (tm' := mk 8 [(2, .ex 1 [])]) (σ' := [.row 1 xs false]) (by kernel_rfl) ?_
      refine .coerce [66, 66, 66] ?_
      exact .retH (v := .d (.list 1 [])) F110 (by kernel_rfl) (by kernel_rfl) ⟨rfl, rfl⟩
    | cons b bs =>
      refine .opH (o := (opOf (cgo 16 [false] [.code B110])).getD default) (by kernel_rfl) (by kernel_rfl) (by kernel_rfl) (T' := cgo 17 [false] [.code B110]) (by kernel_rfl) (appEx_ok (s := .tmp 5) (x := .tmp 6) (t := 66) (t2 := 66) (sz := 1) (by' := 16) (xs := []) (ys := b :: bs) (by kernel_rfl) (by kernel_rfl) hc (by kernel_rfl) (by kernel_rfl) (by simp) (by simp at hl ⊢; omega) (by simp [maxLen] at hl ⊢; omega)) ?_
      refine .seg 2 [2] (T' := cgo 19 [false] [.code B110]) (tm' := mk 8 [(2, .row 1)]) (σ' := [.row 1 xs false, .row 1 (b :: bs) false]) (by kernel_rfl) ?_
      refine .freeze 1 (sz := 1) (xs := b :: bs) (mv := false) rfl ?_
      refine .sub [0] ((mk 8 [(2, .d (.list 1 (b :: bs)))])) [.row 1 xs false] none [] ⟨rfl, rfl, rfl⟩ rfl ⟨by simp, rfl⟩ rfl ⟨rfl, rfl⟩ ⟨rfl, rfl⟩ ?_
      exact .retH F110 (by kernel_rfl) (by kernel_rfl) (⟨rfl, rfl⟩)
noncomputable def B111 : Code := (Try.f111.body).getD .skip
theorem F111 : Fnc Try.prog 111 Try.f111 B111 := ⟨Try.func111, by kernel_rfl, by kernel_rfl⟩
theorem spec_111 (xs : List D) (hlen : xs.length ≤ 1000000) : Br.Pure Try.prog 111 [.d (.list 1 xs)] (.d (.list 1 xs)) := by
  refine CallsA.start F111 (tm := (mk 8 [(0, .d (.list 1 xs))])) (by kernel_rfl) ?_
  refine .seg 8 [0, 3] (T' := cgo 8 [] [.code B111]) (tm' := mk 8 [(0, .d (.list 1 xs)), (3, .d (.list 1 xs))]) (σ' := []) (by kernel_rfl) ?_
  refine .anyH (o := (opOf (cgo 8 [] [.code B111])).getD default) (by kernel_rfl) (by kernel_rfl) (by kernel_rfl) (T' := (cgo 9 [] [.code B111])) (by kernel_rfl) (nilEq_ok (x := .tmp 3) (y := .const (.slice none 0 0)) (t := 46) (ty := 46) (sz := 1) (xs := xs) (neg := false) (by kernel_rfl) (by kernel_rfl) (by kernel_rfl) (by kernel_rfl)) ?_
  rintro v ⟨b, rfl, hb⟩
  cases b with
  | true =>
    have h0 : xs = [] := hb rfl
    subst h0
    refine .seg 6 [2] (T' := cgo 15 [true] [.code B111]) (tm' := mk 8 [(2, .nils)]) (σ' := []) (by kernel_rfl) ?_
    refine .coerce [46, 46, 46] ?_
    exact .retH (v := .d (.list 1 [])) F111 (by kernel_rfl) (by kernel_rfl) ⟨rfl, rfl⟩
  | false =>
    refine .seg 5 [0] (T' := cgo 14 [false] [.code B111]) (tm' := mk 8 [(0, .d (.list 1 xs))]) (σ' := []) (by kernel_rfl) ?_
    refine .opH (o := (opOf (cgo 14 [false] [.code B111])).getD default) (by kernel_rfl) (by kernel_rfl) (by kernel_rfl) (T' := cgo 15 [false] [.code B111]) (by kernel_rfl) (build0_ok (t := 46) (e := 3) (sz := 1) (sz' := 1) (by kernel_rfl) (by kernel_rfl) (by kernel_rfl)) ?_
    refine .seg 1 [5, 6] (T' := cgo 16 [false] [.code B111]) (tm' := mk 8 [(5, .ex 1 []), (6, .d (.list 1 xs))]) (σ' := []) (by kernel_rfl) ?_
    cases xs with
    | nil =>
      refine .opH (o := (opOf (cgo 16 [false] [.code B111])).getD default) (by kernel_rfl) (by kernel_rfl) (by kernel_rfl) (T' := cgo 17 [false] [.code B111]) (by kernel_rfl) (appNone_ok (s := .tmp 5) (x := .tmp 6) (t := 46) (t2 := 46) (sz := 1) (by' := 8) (xs := []) (by kernel_rfl) (by kernel_rfl) (by kernel_rfl) (by kernel_rfl) (by kernel_rfl)) ?_
      refine .seg 2 [2] (T' := cgo 19 [false] [.code B111]) (tm' := mk 8 [(2, .ex 1 [])]) (σ' := []) (by kernel_rfl) ?_
      refine .coerce [46, 46, 46] ?_
      exact .retH (v := .d (.list 1 [])) F111 (by kernel_rfl) (by kernel_rfl) ⟨rfl, rfl⟩
    | cons b bs =>
      refine .opH (o := (opOf (cgo 16 [false] [.code B111])).getD default) (by kernel_rfl) (by kernel_rfl) (by kernel_rfl) (T' := cgo 17 [false] [.code B111]) (by kernel_rfl) (appEx_ok (s := .tmp 5) (x := .tmp 6) (t := 46) (t2 := 46) (sz := 1) (by' := 8) (xs := []) (ys := b :: bs) (by kernel_rfl) (by kernel_rfl) (by kernel_rfl) (by kernel_rfl) (by kernel_rfl) (by simp) (by simp at hlen ⊢; omega) (by simp [maxLen] at hlen ⊢; omega)) ?_
      refine .seg 2 [2] (T' := cgo 19 [false] [.code B111]) (tm' := mk 8 [(2, .row 0)]) (σ' := [.row 1 (b :: bs) false]) (by kernel_rfl) ?_
      refine .freeze 0 (sz := 1) (xs := b :: bs) (mv := false) rfl ?_
      refine .sub [] ((mk 8 [(2, .d (.list 1 (b :: bs)))])) [] none [] ⟨rfl, rfl, rfl⟩ rfl ⟨by simp, rfl⟩ rfl ⟨rfl, rfl⟩ ⟨rfl, rfl⟩ ?_
      exact .retH F111 (by kernel_rfl) (by kernel_rfl) (⟨rfl, rfl⟩)
theorem spec_111b (xs : List D) (off n : Nat) (c : Option Nat) (hn : off + n ≤ xs.length) (hlen : xs.length ≤ 1000000) : CallsA Try.prog 111 [.sl 0 off n c] [.row 1 xs false] fun r σ' => r = .ret (.d (.list 1 ((xs.drop off).take n))) ∧ σ' = [.row 1 xs false] := by
  refine CallsA.start F111 (tm := (mk 8 [(0, .sl 0 off n c)])) (by kernel_rfl) ?_
  refine .seg 8 [0, 3] (T' := cgo 8 [] [.code B111]) (tm' := mk 8 [(0, .sl 0 off n c), (3, .sl 0 off n c)]) (σ' := [.row 1 xs false]) (by kernel_rfl) ?_
  refine .anyH (o := (opOf (cgo 8 [] [.code B111])).getD default) (by kernel_rfl) (by kernel_rfl) (by kernel_rfl) (T' := (cgo 9 [] [.code B111])) (by kernel_rfl) (nilEqC_ok (x := .tmp 3) (y := .const (.slice none 0 0)) (t := 46) (ty := 46) (sz := 1) (xs := (xs.drop off).take n) (neg := false) (by kernel_rfl) (by kernel_rfl) (by kernel_rfl) (by kernel_rfl) (by kernel_rfl)) ?_
  rintro v ⟨b, rfl, hb⟩
  cases b with
  | true =>
    have h0 : (xs.drop off).take n = [] := hb rfl
    refine .seg 6 [2] (T' := cgo 15 [true] [.code B111]) (tm' := mk 8 [(2, .nils)]) (σ' := [.row 1 xs false]) (by kernel_rfl) ?_
    refine .coerce [46, 46, 46] ?_
    exact .retH (v := .d (.list 1 [])) F111 (by kernel_rfl) (by kernel_rfl) ⟨by rw [h0], rfl⟩
  | false =>
    refine .seg 5 [0] (T' := cgo 14 [false] [.code B111]) (tm' := mk 8 [(0, .sl 0 off n c)]) (σ' := [.row 1 xs false]) (by kernel_rfl) ?_
    refine .opH (o := (opOf (cgo 14 [false] [.code B111])).getD default) (by kernel_rfl) (by kernel_rfl) (by kernel_rfl) (T' := cgo 15 [false] [.code B111]) (by kernel_rfl) (build0_ok (t := 46) (e := 3) (sz := 1) (sz' := 1) (by kernel_rfl) (by kernel_rfl) (by kernel_rfl)) ?_
    refine .seg 1 [5, 6] (T' := cgo 16 [false] [.code B111]) (tm' := mk 8 [(5, .ex 1 []), (6, .sl 0 off n c)]) (σ' := [.row 1 xs false]) (by kernel_rfl) ?_
    generalize hys : (xs.drop off).take n = ys
    have hl : ys.length ≤ 1000000 := by rw [← hys]; simp; omega
    have hc : cont [.row 1 xs false] (.sl 0 off n c) = some (1, ys) := by rw [← hys]; rfl
    cases ys with
    | nil =>
      refine .opH (o := (opOf (cgo 16 [false] [.code B111])).getD default) (by kernel_rfl) (by kernel_rfl) (by kernel_rfl) (T' := cgo 17 [false] [.code B111]) (by kernel_rfl) (appNone_ok (s := .tmp 5) (x := .tmp 6) (t := 46) (t2 := 46) (sz := 1) (by' := 8) (xs := []) (by kernel_rfl) (by kernel_rfl) hc (by kernel_rfl) (by kernel_rfl)) ?_
      refine .seg 2 [2] (T' := cgo 19 [false] [.code B111]) (tm' := mk 8 [(2, .ex 1 [])]) (σ' := [.row 1 xs false]) (by kernel_rfl) ?_
      refine .coerce [46, 46, 46] ?_
      exact .retH (v := .d (.list 1 [])) F111 (by kernel_rfl) (by kernel_rfl) ⟨rfl, rfl⟩
    | cons b bs =>
      refine .opH (o := (opOf (cgo 16 [false] [.code B111])).getD default) (by kernel_rfl) (by kernel_rfl) (by kernel_rfl) (T' := cgo 17 [false] [.code B111]) (by kernel_rfl) (appEx_ok (s := .tmp 5) (x := .tmp 6) (t := 46) (t2 := 46) (sz := 1) (by' := 8) (xs := []) (ys := b :: bs) (by kernel_rfl) (by kernel_rfl) hc (by kernel_rfl) (by kernel_rfl) (by simp) (by simp at hl ⊢; omega) (by simp [maxLen] at hl ⊢; omega)) ?_
      refine .seg 2 [2] (T' := cgo 19 [false] [.code B111]) (tm' := mk 8 [(2, .row 1)]) (σ' := [.row 1 xs false, .row 1 (b :: bs) false]) (by kernel_rfl) ?_
      refine .freeze 1 (sz := 1) (xs := b :: bs) (mv := false) rfl ?_
      refine .sub [0] ((mk 8 [(2, .d (.list 1 (b :: bs)))])) [.row 1 xs false] none [] ⟨rfl, rfl, rfl⟩ rfl ⟨by simp, rfl⟩ rfl ⟨rfl, rfl⟩ ⟨rfl, rfl⟩ ?_
      exact .retH F111 (by kernel_rfl) (by kernel_rfl) (⟨rfl, rfl⟩)
end Go.Proofs.Ytoelkgbeefoplaa
namespace Go.Proofs.Ytoelkgbeefoplaa
open Go Go.Br Go.Proofs
open List (map)
noncomputable def B72 : Code := (Try.f72.body).getD .skip
theorem F72 : Fnc Try.prog 72 Try.f72 B72 := ⟨Try.func72, by kernel_rfl, by kernel_rfl⟩
noncomputable def B97 : Code := (Try.f97.body).getD .skip
theorem F97 : Fnc Try.prog 97 Try.f97 B97 := ⟨Try.func97, by kernel_rfl, by kernel_rfl⟩
noncomputable def B98 : Code := (Try.f98.body).getD .skip
theorem F98 : Fnc Try.prog 98 Try.f98 B98 := ⟨Try.func98, by kernel_rfl, by kernel_rfl⟩
noncomputable def B109 : Code := (Try.f109.body).getD .skip
theorem F109 : Fnc Try.prog 109 Try.f109 B109 := ⟨Try.func109, by kernel_rfl, by kernel_rfl⟩
theorem spec_98 : Br.Pure Try.prog 98 [] (.d (.int .i64 0)) := by
  refine CallsA.start F98 (tm := mk (Try.f98.ntmps) []) (by kernel_rfl) ?_
  refine .seg 8 [0] (T' := cgo 8 [] [.code B98]) (tm' := mk 1 [(0, .d (.int .i64 0))]) (σ' := []) (by kernel_rfl) ?_
  refine .retH F98 (v := V.d (D.int IntKind.i64 0)) (by kernel_rfl) (by kernel_rfl) ?_
  exact ⟨rfl, rfl⟩
theorem spec_97 (ks V2 : List D) : CallsA Try.prog 97 [.ptr 0 0 0, .fn (.func 98) [] []] [.cells [.row 1, .row 2], .row 1 ks false, .row 1 V2 false] fun r σ' => r = .ret (.fn (.func 109) [] [.ptr 3 0 0, .ptr 4 0 0]) ∧ σ' = [.cells [.row 1, .row 2], .row 1 ks false, .row 1 V2 false, .cells [.ptr 0 0 0], .cells [.fn (.func 98) [] []]] := by
  refine CallsA.start F97 (tm := mk (Try.f97.ntmps) [(0, .ptr 0 0 0), (1, .fn (.func 98) [] [])]) (by kernel_rfl) ?_
  refine .seg 11 [4] (T' := cgo 11 [] [.code B97]) (tm' := mk 6 [(4, .fn (Fn.func 109) [] [.ptr 3 0 0, .ptr 4 0 0])]) (σ' := [.cells [.row 1, .row 2], .row 1 ks false, .row 1 V2 false, .cells [.ptr 0 0 0], .cells [.fn (Fn.func 98) [] []]]) (by kernel_rfl) ?_
  refine .retH F97 (v := V.fn (Fn.func 109) [] [V.ptr 3 0 0, V.ptr 4 0 0]) (by kernel_rfl) (by kernel_rfl) ?_
  exact ⟨rfl, rfl⟩
theorem spec_72 (ks V2 : List D) : CallsA Try.prog 72 [.ptr 0 0 0] [.cells [.row 1, .row 2], .row 1 ks false, .row 1 V2 false] fun r σ' => r = .ret (.fn (.func 109) [] [.ptr 3 0 0, .ptr 4 0 0]) ∧ σ' = [.cells [.row 1, .row 2], .row 1 ks false, .row 1 V2 false, .cells [.ptr 0 0 0], .cells [.fn (.func 98) [] []]] := by
  refine CallsA.start F72 (tm := mk (Try.f72.ntmps) [(0, .ptr 0 0 0)]) (by kernel_rfl) ?_
  refine .sg0 7 [0, 2, 3] (cgo 7 [] [.code B72]) [(2, .d (.raw Value.nilFunc)), (3, .ptr 0 0 0)] ?_
  refine .ca [0, 1, 2] (cgo 8 [] [.code B72]) F97 (@spec_97 (ks) (V2)) ?_
  rintro r0 s0 ⟨rfl, rfl⟩
  refine ⟨_, rfl, ?_⟩
  refine .seg 2 [2] (T' := cgo 10 [] [.code B72]) (tm' := mk 5 [(2, .fn (Fn.func 109) [] [.ptr 3 0 0, .ptr 4 0 0])]) (σ' := [.cells [.row 1, .row 2], .row 1 ks false, .row 1 V2 false, .cells [.ptr 0 0 0], .cells [.fn (Fn.func 98) [] []]]) (by kernel_rfl) ?_
  refine .retH F72 (v := V.fn (Fn.func 109) [] [V.ptr 3 0 0, V.ptr 4 0 0]) (by kernel_rfl) (by kernel_rfl) ?_
  exact ⟨rfl, rfl⟩
theorem eachL {α : Type} (l : List α) (g : α → D) : List.take (l.length - 0) (List.drop 0 (List.map g l)) = List.map g l := by
  rw [Nat.sub_zero, List.drop_zero, List.take_of_length_le (by simp)]
theorem eachM {α : Type} (l : List α) (g : α → D) : List.drop 0 (List.take l.length (List.map g l)) = List.map g l := by
  rw [List.drop_zero, List.take_of_length_le (by simp)]
end Go.Proofs.Ytoelkgbeefoplaa
namespace Go.Proofs.Ytoelkgbeefoplaa
open Go Go.Br Go.Proofs
open List (map)
noncomputable def B69 : Code := (Try.f69.body).getD .skip
theorem F69 : Fnc Try.prog 69 Try.f69 B69 := ⟨Try.func69, by kernel_rfl, by kernel_rfl⟩
noncomputable def R69 : List Item := [.code (rfAs (cgo 18 [] [Item.code B69])), .beginRound, .code (rfBd (cgo 18 [] [Item.code B69]))]
noncomputable def S69 (ks : List ByteArray) (V2 : List Int) (i : Nat) (st : LoopState) : Store :=
  [.cells [.row 1, .row 2], .row 1 (ks.map strD) false, .row 1 (V2.map intD) false, .cells [.row 7, .row 8], .cells [.ptr 3 0 0], .cells [.ptr 0 0 0], .cells [.fn (.func 98) [] []], .row 1 ((ks.take i).map strD) true, .row 1 ((V2.take i).map intD) true, .defd,
    lp (cgo 18 [] [Item.code B69]) 69 (mk 17 [(2, V.d (D.raw (Value.pointer none))), (3, V.ptr 4 0 0), (9, V.fn (Fn.func 109) [] [V.ptr 5 0 0, V.ptr 6 0 0])]) st]
theorem body69 (ks : List ByteArray) (V2 : List Int) (hr : Rising ks) (hl : ks.length < 60000) (hv : V2.length = ks.length) (i : Nat) (x : ByteArray) (v : Int) (hx : ks[i]? = some x) (hy : V2[i]? = some v) :
    AW Try.prog 69 (some 10) 11 R69 (mk 17 [(2, V.d (D.raw (Value.pointer none))), (3, V.ptr 4 0 0), (9, V.fn (Fn.func 109) [] [V.ptr 5 0 0, V.ptr 6 0 0]), (10, .d (.str x)), (11, .d (.int .i64 v))]) (S69 ks V2 i .ready) [] fun a σ' => a = .ret (.d (.bool true)) ∧ σ' = S69 ks V2 (i + 1) .ready := by
  refine .at (T' := cgo 0 [] R69) rfl ?_
  have hi := (List.getElem?_eq_some_iff.1 hx).1
  have hk : kput (ks.take i) (V2.take i) x v = (ks.take (i + 1), V2.take (i + 1)) := by
    obtain ⟨_, rfl⟩ := List.getElem?_eq_some_iff.1 hx
    obtain ⟨_, rfl⟩ := List.getElem?_eq_some_iff.1 hy
    exact kput_next hr hv i hi
  have hr2 : Rising (ks.take i) := List.Pairwise.sublist (List.take_sublist _ _) hr
  have hl2 : (ks.take i).length < 1000000 := by simp; omega
  have hv2 : (V2.take i).length = (ks.take i).length := by simp [hv]
  refine .sg0 7 [2, 3, 4, 5, 9, 10, 11] (cgo 7 [] R69) [(4, .d (.str x)), (5, .d (.int .i64 v))] ?_
  refine .beginL (T0 := cgo 18 [] [Item.code B69]) (fn := 69) (tml := (mk 17 [(2, V.d (D.raw (Value.pointer none))), (3, V.ptr 4 0 0), (9, V.fn (Fn.func 109) [] [V.ptr 5 0 0, V.ptr 6 0 0])])) (by kernel_rfl) (T' := cgo 8 [] R69) (by kernel_rfl) (σ' := [.cells [.row 1, .row 2], .row 1 (map strD ks) false, .row 1 (map intD V2) false, .cells [.row 7, .row 8], .cells [.ptr 3 0 0], .cells [.ptr 0 0 0], .cells [.fn (Fn.func 98) [] []], .row 1 (map strD (List.take i ks)) true, .row 1 (map intD (List.take i V2)) true, .defd, lp (cgo 18 [] [Item.code B69]) 69 (mk 17 [(2, .d (.raw (Value.pointer none))), (3, .ptr 4 0 0), (9, .fn (Fn.func 109) [] [.ptr 5 0 0, .ptr 6 0 0])]) LoopState.busy]) (by kernel_rfl) (by kernel_rfl) ?_
  refine .sg0 5 [2, 3, 4, 5, 12, 13, 14] (cgo 13 [] R69) [(12, .ptr 3 0 0), (13, .d (.str x)), (14, .d (.int .i64 v))] ?_
  refine .ca [3, 7, 8] (cgo 14 [] R69) F76 (@spec_76 (List.take i ks) (x) (List.take i V2) (v) (by assumption) (by assumption) (by assumption)) ?_
  rintro r0 s0 ⟨rfl, rfl⟩
  refine ⟨_, rfl, ?_⟩
  refine .sg 2 [2] (cgo 16 [] R69) [] [(10, lp (cgo 18 [] [Item.code B69]) 69 (mk 17 [(2, .d (.raw (Value.pointer none))), (3, .ptr 4 0 0), (9, .fn (Fn.func 109) [] [.ptr 5 0 0, .ptr 6 0 0])]) LoopState.busy)] ?_
  refine .roundEndL (T0 := cgo 18 [] [Item.code B69]) (fn := 69) (tml := (mk 17 [(2, V.d (D.raw (Value.pointer none))), (3, V.ptr 4 0 0), (9, V.fn (Fn.func 109) [] [V.ptr 5 0 0, V.ptr 6 0 0])])) (st := LoopState.busy) (by kernel_rfl) (by kernel_rfl) (σ' := [.cells [.row 1, .row 2], .row 1 (map strD ks) false, .row 1 (map intD V2) false, .cells [.row 7, .row 8], .cells [.ptr 3 0 0], .cells [.ptr 0 0 0], .cells [.fn (Fn.func 98) [] []], .row 1 (map strD (kput (List.take i ks) (List.take i V2) x v).fst) true, .row 1 (map intD (kput (List.take i ks) (List.take i V2) x v).snd) true, .defd, lp (cgo 18 [] [Item.code B69]) 69 (mk 17 [(2, .d (.raw (Value.pointer none))), (3, .ptr 4 0 0), (9, .fn (Fn.func 109) [] [.ptr 5 0 0, .ptr 6 0 0])]) LoopState.ready]) (by kernel_rfl) ?_
  simp_all [S69]
theorem lo69 (ks : List ByteArray) (V2 : List Int) (hr : Rising ks) (hl : ks.length < 60000) (hv : V2.length = ks.length) : ∀ (m i : Nat), i + m = (ks).length →
    AW Try.prog 109 none 11 (cgo 24 [false] [Item.code B109]) (mk 43 [(0, V.yield 10), (5, V.d (.list 1 ((ks).map strD))), (6, V.d (.list 1 ((V2).map intD))), (27, V.d (.int .i64 ((ks).length : Nat))), (28, V.d (.int .i64 (i : Nat)))]) (S69 ks V2 i .ready) [] fun r σ' => r = .ret (.tuple []) ∧ σ' = S69 ks V2 (ks).length .ready := by
  intro m
  induction m with
  | zero =>
    intro i hi
    have hi : i = (ks).length := by omega
    subst hi
    refine .sg0 5 [0, 5, 6, 27, 28, 29] (cgo 29 [false] [.code B109]) [(29, .d (.bool (decide ((↑ks.length : Int) < (↑ks.length : Int)))))] ?_
    refine .if' (decide ((↑ks.length : Int) < (↑ks.length : Int))) (cgo 30 [false, true] [.code B109]) (cgo 30 [false, false] [.code B109]) (fun h1 => ?_) (fun h1 => ?_)
    · simp only [bsX] at h1
      omega
    · simp only [bsX] at h1
      refine .seg 1 [] (T' := cgo 31 [false, false] [.code B109]) (tm' := mk 43 []) (σ' := [.cells [.row 1, .row 2], .row 1 (map strD ks) false, .row 1 (map intD V2) false, .cells [.row 7, .row 8], .cells [.ptr 3 0 0], .cells [.ptr 0 0 0], .cells [.fn (Fn.func 98) [] []], .row 1 (map strD (List.take ks.length ks)) true, .row 1 (map intD (List.take ks.length V2)) true, .defd, lp (cgo 18 [] [.code B69]) 69 (mk 17 [(2, .d (.raw (Value.pointer none))), (3, .ptr 4 0 0), (9, .fn (Fn.func 109) [] [.ptr 5 0 0, .ptr 6 0 0])]) LoopState.ready]) (by kernel_rfl) ?_
      refine .retH F109 (v := V.tuple []) (by kernel_rfl) (by kernel_rfl) ?_
      exact ⟨rfl, rfl⟩
  | succ m ih =>
    intro i hi
    obtain ⟨x, hx⟩ := get_some (l := ks) (i := i) (by omega)
    obtain ⟨v, hy⟩ := get_some (l := V2) (i := i) (by omega)
    have hYi := body69 ks V2 hr hl hv i x v hx hy
    refine .sg0 5 [0, 5, 6, 27, 28, 29] (cgo 29 [false] [.code B109]) [(29, .d (.bool (decide ((↑i : Int) < (↑ks.length : Int)))))] ?_
    refine .if' (decide ((↑i : Int) < (↑ks.length : Int))) (cgo 30 [false, true] [.code B109]) (cgo 30 [false, false] [.code B109]) (fun h1 => ?_) (fun h1 => ?_)
    · simp only [bsX] at h1
      refine .sg0 9 [0, 5, 6, 7, 27, 28, 29, 30] (cgo 39 [false, true] [.code B109]) [(7, .d (.int .i64 (↑i : Int))), (30, .d (.int .i64 (↑i : Int)))] ?_
      refine .dr (cgo 40 [false, true] [.code B109]) [(31, .yield 10), (32, .d (.list 1 (map strD ks))), (33, .d (.int .i64 (↑i : Int))), (34, .ep 1 (D.str x) 0), (35, .d (.str x)), (36, .d (.list 1 (map intD V2))), (37, .d (.int .i64 (↑i : Int))), (38, .ep 1 (D.int IntKind.i64 v) 0), (39, .d (.int .i64 v)), (40, .d (.bool true)), (41, .d (.bool false))] [(7, .row 1 (map strD (List.take (i + 1) ks)) true), (8, .row 1 (map intD (List.take (i + 1) V2)) true)] (fun kz L hL => ?_) ?_
      · refine ⟨[⟨[], [], [], [10], [10], [], true, false⟩, nF, nF, nF, nF, nF, nF, nF, nF, ⟨[], [], [], [], [], [], false, true⟩, nF], run_amongF hL _ [] [0, 1, 2, 3, 4, 5, 6, 7, 8, 9, 10] (by intro p hp; cases hp) (by kernel_rfl) ?_⟩
        refine Run.ap [0, 1, 2] [(31, .yield 10), (32, .d (.list 1 (map strD ks))), (33, .d (.int .i64 (↑i : Int)))] [] ?_
        refine Run.one (StepF.look (o := ((drawOf (cgo 39 [false, true] [.code B109]))[3]?).getD default) (v := .ep 1 (D.str x) 0) [(.tmp 32), (.tmp 33)] (by kernel_rfl) rfl (by kernel_rfl) (by kernel_rfl) (by kernel_rfl) (by kernel_rfl) (by kernel_rfl) (fun tm' σ2 hv hr => ixData_ok (t := 66) (x := (.tmp 32)) (i := (.tmp 33)) (k := IntKind.i64) (n := (↑i : Int)) (sz := 1) (xs := map strD ks) (d := strD x) (by kernel_rfl) (by rw [hv _ (by simp)]; kernel_rfl) (by rw [hv _ (by simp)]; kernel_rfl) (by kernel_rfl) (by omega) (map_get hx))) ?_
        refine Run.ap [4, 5, 6] [(35, .d (.str x)), (36, .d (.list 1 (map intD V2))), (37, .d (.int .i64 (↑i : Int)))] [] ?_
        refine Run.one (StepF.look (o := ((drawOf (cgo 39 [false, true] [.code B109]))[7]?).getD default) (v := .ep 1 (D.int IntKind.i64 v) 0) [(.tmp 36), (.tmp 37)] (by kernel_rfl) rfl (by kernel_rfl) (by kernel_rfl) (by kernel_rfl) (by kernel_rfl) (by kernel_rfl) (fun tm' σ2 hv hr => ixData_ok (t := 46) (x := (.tmp 36)) (i := (.tmp 37)) (k := IntKind.i64) (n := (↑i : Int)) (sz := 1) (xs := map intD V2) (d := intD v) (by kernel_rfl) (by rw [hv _ (by simp)]; kernel_rfl) (by rw [hv _ (by simp)]; kernel_rfl) (by kernel_rfl) (by omega) (map_get hy))) ?_
        refine Run.ap [8] [(39, .d (.int .i64 v))] [] ?_
        refine Run.one (s1 := (mk 43 [(0, .yield 10), (5, .d (.list 1 (map strD ks))), (6, .d (.list 1 (map intD V2))), (7, .d (.int .i64 (↑i : Int))), (27, .d (.int .i64 (↑ks.length : Int))), (28, .d (.int .i64 (↑i : Int))), (29, .d (.bool (decide ((↑i : Int) < (↑ks.length : Int))))), (30, .d (.int .i64 (↑i : Int))), (31, .yield 10), (32, .d (.list 1 (map strD ks))), (33, .d (.int .i64 (↑i : Int))), (34, .ep 1 (D.str x) 0), (35, .d (.str x)), (36, .d (.list 1 (map intD V2))), (37, .d (.int .i64 (↑i : Int))), (38, .ep 1 (D.int IntKind.i64 v) 0), (39, .d (.int .i64 v)), (40, .d (.bool true))], [.cells [.row 1, .row 2], .row 1 (map strD ks) false, .row 1 (map intD V2) false, .cells [.row 7, .row 8], .cells [.ptr 3 0 0], .cells [.ptr 0 0 0], .cells [.fn (Fn.func 98) [] []], .row 1 (map strD (List.take (i + 1) ks)) true, .row 1 (map intD (List.take (i + 1) V2)) true, .defd, lp (cgo 18 [] [Item.code B69]) 69 (mk 17 [(2, .d (.raw (Value.pointer none))), (3, .ptr 4 0 0), (9, .fn (Fn.func 109) [] [.ptr 5 0 0, .ptr 6 0 0])]) LoopState.ready])) (StepF.all (o := ((drawOf (cgo 39 [false, true] [Item.code B109]))[9]?).getD default) (by kernel_rfl) (by kernel_rfl) fun rest hn => AW.yieldD (T0 := cgo 18 [] [Item.code B69]) (x := (.tmp 31)) (args := #[(.tmp 35), (.tmp 39)]) (ts := #[9, 3]) (l := 10) (st := LoopState.ready) (fn := 69) (tml := (mk 17 [(2, .d (.raw (Value.pointer none))), (3, .ptr 4 0 0), (9, .fn (Fn.func 109) [] [.ptr 5 0 0, .ptr 6 0 0])])) (R := R69) (o := ((drawOf (cgo 39 [false, true] [Item.code B109]))[9]?).getD default) (N := 11) (by kernel_rfl) (by kernel_rfl) (by kernel_rfl) (by kernel_rfl) (by kernel_rfl) (by kernel_rfl) (by kernel_rfl) (by kernel_rfl) (by kernel_rfl) hYi (by rintro r s ⟨rfl, rfl⟩; exact ⟨_, rfl, AW.as (by kernel_rfl) (by kernel_rfl) hn⟩)) ?_
        exact Run.fin
      refine .seg 7 [0, 5, 6, 7, 27, 28, 29, 30, 31, 32, 33, 34, 35, 36, 37, 38, 39, 40, 41, 42] (T' := cgo 47 [false, true, false] [.code B109]) (tm' := mk 43 [(0, .yield 10), (5, .d (.list 1 (map strD ks))), (6, .d (.list 1 (map intD V2))), (7, .d (.int .i64 (↑i : Int))), (27, .d (.int .i64 (↑ks.length : Int))), (28, .d (.int .i64 (IntKind.i64.wrap ((↑i : Int) + 1)))), (29, .d (.bool (decide ((↑i : Int) < (↑ks.length : Int))))), (30, .d (.int .i64 (↑i : Int))), (31, .yield 10), (32, .d (.list 1 (map strD ks))), (33, .d (.int .i64 (↑i : Int))), (34, .ep 1 (D.str x) 0), (35, .d (.str x)), (36, .d (.list 1 (map intD V2))), (37, .d (.int .i64 (↑i : Int))), (38, .ep 1 (D.int IntKind.i64 v) 0), (39, .d (.int .i64 v)), (40, .d (.bool true)), (41, .d (.bool false)), (42, .d (.int .i64 (IntKind.i64.wrap ((↑i : Int) + 1))))]) (σ' := [.cells [.row 1, .row 2], .row 1 (map strD ks) false, .row 1 (map intD V2) false, .cells [.row 7, .row 8], .cells [.ptr 3 0 0], .cells [.ptr 0 0 0], .cells [.fn (Fn.func 98) [] []], .row 1 (map strD (List.take (i + 1) ks)) true, .row 1 (map intD (List.take (i + 1) V2)) true, .defd, lp (cgo 18 [] [.code B69]) 69 (mk 17 [(2, .d (.raw (Value.pointer none))), (3, .ptr 4 0 0), (9, .fn (Fn.func 109) [] [.ptr 5 0 0, .ptr 6 0 0])]) LoopState.ready]) (by kernel_rfl) ?_
      simp (disch := omega) only [wrap_i64, wrap_u64s, wrap_u32s, wrap_u8s, wrap_i32s, iadd_i64, isub_i64, irem_n, iquo_n, tdiv_nn, tmod_nn]
      exact .seg 1 [0, 5, 6, 27, 28] (by kernel_rfl) (ih (i + 1) (by omega))
    · simp only [bsX] at h1
      omega
theorem it69 (ks : List ByteArray) (V2 : List Int) (hr : Rising ks) (hl : ks.length < 60000) (hv : V2.length = ks.length) : CallsA Try.prog 109 [.yield 10, .ptr 5 0 0, .ptr 6 0 0] (S69 ks V2 0 .ready) fun r σ' => r = .ret (.tuple []) ∧ σ' = S69 ks V2 (ks).length .ready := by
  refine CallsA.start F109 (tm := mk (Try.f109.ntmps) [(0, .yield 10), (1, .ptr 5 0 0), (2, .ptr 6 0 0)]) (by kernel_rfl) ?_
  refine .sg0 11 [0, 1, 2, 10] (cgo 11 [false] [.code B109]) [(10, .fn (Fn.func 98) [] [])] ?_
  refine .semH (o := (opOf (cgo 11 [false] [Item.code B109])).getD default) (v := .d (.int .i64 0)) (by kernel_rfl) (by kernel_rfl) (T' := cgo 12 [false] [Item.code B109]) (by kernel_rfl) (fun kz => sem_data0 (x := (.tmp 10)) (args := #[]) (ts := #[]) (first := []) (cap := []) (ds := []) (v := .d (.int .i64 0)) F98 (@spec_98) (by kernel_rfl) (by kernel_rfl) (by kernel_rfl) (by kernel_rfl) (by kernel_rfl) (by kernel_rfl) _) ?_
  refine .sg0 3 [0, 1, 4] (cgo 15 [false] [.code B109]) [(4, .d (.int .i64 0))] ?_
  refine .dr (cgo 16 [false] [.code B109]) [(5, .d (.list 1 (List.take ((map strD ks).length - 0) (List.drop 0 (map strD ks))))), (6, .d (.list 1 (List.take ((map intD V2).length - 0) (List.drop 0 (map intD V2))))), (12, .ptr 0 0 0), (13, .ptr 0 0 0), (14, .ptr 0 0 0), (15, .row 1), (16, .d (.int .i64 0)), (17, .sl 1 0 ((map strD ks).length - 0) none), (18, .d (.list 1 (List.take ((map strD ks).length - 0) (List.drop 0 (map strD ks))))), (19, .ptr 0 0 0), (20, .ptr 0 0 0), (21, .ptr 0 0 1), (22, .row 2), (23, .d (.int .i64 0)), (24, .sl 2 0 ((map intD V2).length - 0) none), (25, .d (.list 1 (List.take ((map intD V2).length - 0) (List.drop 0 (map intD V2)))))] [] (fun kz L hL => ?_) ?_
  · refine ⟨[⟨[5], [], [], [0], [5, 0], [], true, false⟩, ⟨[], [], [], [0], [0], [0], true, false⟩, ⟨[], [], [], [0], [0], [0], true, false⟩, ⟨[0], [], [], [1], [0, 1, 2], [], true, false⟩, nF, ⟨[1], [], [], [1], [1], [], true, false⟩, ⟨[1], [1], [], [], [1], [], true, false⟩, ⟨[5], [], [], [0], [5, 0], [], true, false⟩, ⟨[], [], [], [0], [0], [0], true, false⟩, ⟨[], [], [], [0], [0], [0], true, false⟩, ⟨[0], [], [], [2], [0, 1, 2], [], true, false⟩, nF, ⟨[2], [], [], [2], [2], [], true, false⟩, ⟨[2], [], [], [], [2], [], true, false⟩, nF, nF], run_amongF hL _ [] [0, 1, 2, 3, 4, 5, 7, 8, 9, 10, 11, 12, 6, 13, 14, 15] (by intro p hp; cases hp) (by kernel_rfl) ?_⟩
    refine Run.ap [0, 1, 2, 3, 4] [(12, .ptr 0 0 0), (13, .ptr 0 0 0), (14, .ptr 0 0 0), (15, .row 1), (16, .d (.int .i64 0))] [] ?_
    refine Run.one (StepF.look (o := ((drawOf (cgo 15 [false] [.code B109]))[5]?).getD default) (v := .sl 1 0 ((map strD ks).length - 0) none) [(.tmp 15), (.tmp 16)] (by kernel_rfl) rfl (by kernel_rfl) (by kernel_rfl) (by kernel_rfl) (by kernel_rfl) (by kernel_rfl) (fun tm' σ2 hv hr => slRow_ok (t := 66) (x := (.tmp 15)) (lo := (some (.tmp 16))) (hi := none) (lc := 1) (sz := 1) (xs := map strD ks) (mv := false) (0) ((map strD ks).length) (by kernel_rfl) (by rw [hv _ (by simp)]; kernel_rfl) ((hr _ (inK_iff.1 (by kernel_rfl))).trans (by kernel_rfl)) (by kernel_rfl) (bnd_some (k := IntKind.i64) (i := 0) (by rw [hv _ (by simp)]; kernel_rfl) (by omega) (by rfl)) rfl (by omega) (by omega))) ?_
    refine Run.ap [7, 8, 9, 10, 11] [(19, .ptr 0 0 0), (20, .ptr 0 0 0), (21, .ptr 0 0 1), (22, .row 2), (23, .d (.int .i64 0))] [] ?_
    refine Run.one (StepF.look (o := ((drawOf (cgo 15 [false] [.code B109]))[12]?).getD default) (v := .sl 2 0 ((map intD V2).length - 0) none) [(.tmp 22), (.tmp 23)] (by kernel_rfl) rfl (by kernel_rfl) (by kernel_rfl) (by kernel_rfl) (by kernel_rfl) (by kernel_rfl) (fun tm' σ2 hv hr => slRow_ok (t := 46) (x := (.tmp 22)) (lo := (some (.tmp 23))) (hi := none) (lc := 2) (sz := 1) (xs := map intD V2) (mv := false) (0) ((map intD V2).length) (by kernel_rfl) (by rw [hv _ (by simp)]; kernel_rfl) ((hr _ (inK_iff.1 (by kernel_rfl))).trans (by kernel_rfl)) (by kernel_rfl) (bnd_some (k := IntKind.i64) (i := 0) (by rw [hv _ (by simp)]; kernel_rfl) (by omega) (by rfl)) rfl (by omega) (by omega))) ?_
    refine Run.one (StepF.call (o := ((drawOf (cgo 15 [false] [.code B109]))[6]?).getD default) (x := (.func 110)) (args := #[(.tmp 17)]) (ts := #[66]) (first := []) (cap := []) [1] [.sl 0 0 ((map strD ks).length - 0) none] [.row 1 (map strD ks) false] [.row 1 (map strD ks) false] (v := .d (.list 1 (List.take ((map strD ks).length - 0) (List.drop 0 (map strD ks))))) (by kernel_rfl) rfl (by kernel_rfl) (by kernel_rfl) F110 (@spec_110b (map strD ks) (0) ((map strD ks).length - 0) (none) (by omega) (by simp <;> omega)) (by kernel_rfl) (by kernel_rfl) (by kernel_rfl) (by kernel_rfl) ⟨rfl, rfl, by kernel_rfl⟩ (by kernel_rfl) (by kernel_rfl) (by kernel_rfl) (by kernel_rfl) (by kernel_rfl) rfl rfl) ?_
    refine Run.one (StepF.callLook (o := ((drawOf (cgo 15 [false] [.code B109]))[13]?).getD default) (x := (.func 111)) (args := #[(.tmp 24)]) (ts := #[46]) (first := []) (cap := []) [2] [.sl 0 0 ((map intD V2).length - 0) none] [.row 1 (map intD V2) false] (v := .d (.list 1 (List.take ((map intD V2).length - 0) (List.drop 0 (map intD V2))))) (by kernel_rfl) rfl (by kernel_rfl) (by kernel_rfl) F111 (@spec_111b (map intD V2) (0) ((map intD V2).length - 0) (none) (by omega) (by simp <;> omega)) (by kernel_rfl) (by kernel_rfl) (by kernel_rfl) (by kernel_rfl) ⟨rfl, rfl, by kernel_rfl⟩ (by kernel_rfl) (by kernel_rfl) (by kernel_rfl) (by kernel_rfl) (by kernel_rfl)) ?_
    exact Run.fin
  refine .seg 7 [0, 5, 6, 27, 28] (T' := cgo 23 [false] [.code B109]) (tm' := mk 43 [(0, .yield 10), (5, .d (.list 1 (List.take ((map strD ks).length - 0) (List.drop 0 (map strD ks))))), (6, .d (.list 1 (List.take ((map intD V2).length - 0) (List.drop 0 (map intD V2))))), (27, .d (.int .i64 (↑(List.take ((map strD ks).length - 0) (List.drop 0 (map strD ks))).length : Int))), (28, .d (.int .i64 0))]) (σ' := [.cells [.row 1, .row 2], .row 1 (map strD ks) false, .row 1 (map intD V2) false, .cells [.row 7, .row 8], .cells [.ptr 3 0 0], .cells [.ptr 0 0 0], .cells [.fn (Fn.func 98) [] []], .row 1 [] true, .row 1 [] true, .defd, lp (cgo 18 [] [.code B69]) 69 (mk 17 [(2, .d (.raw (Value.pointer none))), (3, .ptr 4 0 0), (9, .fn (Fn.func 109) [] [.ptr 5 0 0, .ptr 6 0 0])]) LoopState.ready]) (by kernel_rfl) ?_
  simp only [List.length_map]
  rw [show List.take ((ks).length - 0) (List.drop 0 (List.map strD (ks))) = List.map strD (ks) by rw [Nat.sub_zero, List.drop_zero, List.take_of_length_le (by simp)], show List.take ((V2).length - 0) (List.drop 0 (List.map intD (V2))) = List.map intD (V2) by rw [Nat.sub_zero, List.drop_zero, List.take_of_length_le (by simp)], List.length_map]
  exact .seg 1 [0, 5, 6, 27, 28] (by kernel_rfl) (lo69 ks V2 hr hl hv (ks).length 0 (by omega))
theorem spec_69 (ks : List ByteArray) (V2 : List Int) (hr : Rising ks) (hl : ks.length < 60000) (hv : V2.length = ks.length) :
    CallsA Try.prog 69 [.ptr 0 0 0] [.cells [.row 1, .row 2], .row 1 (ks.map strD) false, .row 1 (V2.map intD) false] fun r σ' => r = .ret (.ptr 3 0 0) ∧ σ' = [.cells [.row 1, .row 2], .row 1 (ks.map strD) false, .row 1 (V2.map intD) false, .cells [.row 4, .row 5], .row 1 (ks.map strD) true, .row 1 (V2.map intD) true] := by
  refine CallsA.start F69 (tm := mk (Try.f69.ntmps) [(0, .ptr 0 0 0)]) (by kernel_rfl) ?_
  refine .sg 15 [0, 2, 3, 8] (cgo 15 [] [.code B69]) [(2, .d (.raw (Value.pointer none))), (3, .ptr 4 0 0), (8, .ptr 0 0 0)] [(3, .cells [.ex 1 [], .ex 1 []]), (4, .cells [.ptr 3 0 0])] ?_
  refine .ca [0, 1, 2] (cgo 16 [] [.code B69]) F72 (@spec_72 (map strD ks) (map intD V2)) ?_
  rintro r0 s0 ⟨rfl, rfl⟩
  refine ⟨_, rfl, ?_⟩
  refine .seg 2 [2, 3, 9] (T' := cgo 18 [] [.code B69]) (tm' := mk 17 [(2, .d (.raw (Value.pointer none))), (3, .ptr 4 0 0), (9, .fn (Fn.func 109) [] [.ptr 5 0 0, .ptr 6 0 0])]) (σ' := [.cells [.row 1, .row 2], .row 1 (map strD ks) false, .row 1 (map intD V2) false, .cells [.ex 1 [], .ex 1 []], .cells [.ptr 3 0 0], .cells [.ptr 0 0 0], .cells [.fn (Fn.func 98) [] []]]) (by kernel_rfl) ?_
  refine .virtX 3 0 1 rfl rfl ?_
  refine .virtX 3 1 1 rfl rfl ?_
  refine .raise 7 rfl rfl ?_
  refine .raise 8 rfl rfl ?_
  refine .rangeH (first := []) (cap := [.ptr 5 0 0, .ptr 6 0 0]) (List.range 11) [.yield 10, .ptr 5 0 0, .ptr 6 0 0] (S69 ks V2 0 .ready) F109 (by kernel_rfl) (T' := cgo 19 [] [Item.code B69]) (by kernel_rfl) (by kernel_rfl) (it69 ks V2 hr hl hv) (by kernel_rfl) (by kernel_rfl) (by refine ⟨rfl, by kernel_rfl, ?_⟩; kernel_rfl) ?_
  rintro r σc' ⟨rfl, rfl⟩
  refine ⟨.tuple [], .ready, (mk 17 [(2, V.d (D.raw (Value.pointer none))), (3, V.ptr 4 0 0), (9, V.fn (Fn.func 109) [] [V.ptr 5 0 0, V.ptr 6 0 0])]), rfPs (cgo 18 [] [Item.code B69]), rfAs (cgo 18 [] [Item.code B69]), rfBd (cgo 18 [] [Item.code B69]), 69, rfl, by simp, by kernel_rfl, ?_⟩
  have e1 : ks.take ks.length = ks := List.take_length
  have e2 : V2.take ks.length = V2 := by rw [← hv]; exact List.take_length
  refine .seg 6 [2] (T' := cgo 25 [] [.code B69]) (tm' := mk 17 [(2, .ptr 3 0 0)]) (σ' := [.cells [.row 1, .row 2], .row 1 (map strD ks) false, .row 1 (map intD V2) false, .cells [.row 7, .row 8], .cells [.ptr 3 0 0], .cells [.ptr 0 0 0], .cells [.fn (Fn.func 98) [] []], .row 1 (map strD (List.take ks.length ks)) true, .row 1 (map intD (List.take ks.length V2)) true, .defd, lp (cgo 18 [] [.code B69]) 69 (mk 17 [(2, .d (.raw (Value.pointer none))), (3, .ptr 4 0 0), (9, .fn (Fn.func 109) [] [.ptr 5 0 0, .ptr 6 0 0])]) LoopState.exhausted]) (by kernel_rfl) ?_
  refine .retX (v := V.ptr 3 0 0) [0, 1, 2, 3, 7, 8] (V.ptr 3 0 0) F69 (by kernel_rfl) ⟨by kernel_rfl, by kernel_rfl⟩ (σ1 := [O.cells [V.row 1, V.row 2], O.row 1 (map strD ks) false, O.row 1 (map intD V2) false, O.cells [V.row 7, V.row 8], O.cells [V.ptr 3 0 0], O.cells [V.ptr 0 0 0], O.cells [V.fn (Fn.func 98) [] []], O.row 1 (map strD (List.take ks.length ks)) true, O.row 1 (map intD (List.take ks.length V2)) true, O.dead, lp (cgo 18 [] [Item.code B69]) 69 (mk 17 [(2, V.d (D.raw (Value.pointer none))), (3, V.ptr 4 0 0), (9, V.fn (Fn.func 109) [] [V.ptr 5 0 0, V.ptr 6 0 0])]) LoopState.exhausted]) (by kernel_rfl) (by kernel_rfl) (σ2 := [O.cells [V.row 1, V.row 2], O.row 1 (map strD ks) false, O.row 1 (map intD V2) false, O.cells [V.row 4, V.row 5], O.row 1 (map strD (List.take ks.length ks)) true, O.row 1 (map intD (List.take ks.length V2)) true]) ⟨rfl, rfl, by kernel_rfl⟩ (by kernel_rfl) ⟨by simp, by kernel_rfl⟩ (by kernel_rfl) ?_
  simp_all
end Go.Proofs.Ytoelkgbeefoplaa
namespace Go.Proofs.Ytoelkgbeefoplaa
open Go Go.Br Go.Proofs
open List (map)
noncomputable def B64 : Code := (Try.f64.body).getD .skip
theorem F64 : Fnc Try.prog 64 Try.f64 B64 := ⟨Try.func64, by kernel_rfl, by kernel_rfl⟩
theorem lo64 (b : Dk) (N : Nat) (h : b.Ok N) (there : Bool) (names : List ByteArray) (hn : names ≠ []) (hs : ∀ s ∈ names, s.size < 1000000000) (hn2 : names.length < 1000000) (ho : b.off = false) : ∀ (m i : Nat), i + m = names.length → (∀ s ∈ names.take i, mayName s = true) →
    AW Try.prog 64 none 7 (cgo 22 [false] [Item.code B64]) (mk 35 [(0, V.ptr 0 0 0), (1, V.d (D.bool there)), (2, V.row 6), (14, V.row 6), (15, V.d (D.int IntKind.i64 (names.length : Nat))), (16, V.d (D.int IntKind.i64 (i : Nat)))]) (SD b false ++ [.row 1 (names.map strD) false]) [] fun r σ' => r = .ret (.d (.int .i64 (b.err there names))) ∧ σ' = SD b false ++ [.row 1 (names.map strD) false] := by
  have q1 := h.nr
  have q2 := h.nl
  have q3 := h.nkl
  have q4 := h.nb
  have q5 : ∀ x k, look b.nk b.nv x = some k → 0 ≤ k ∧ k < b.files.length := fun x k hk => h.nn k (look_mem hk)
  intro m
  induction m with
  | zero =>
    intro i hi hm
    have hi : i = names.length := by omega
    subst hi
    rw [List.take_length] at hm
    have hal : names.all mayName = true := List.all_eq_true.2 hm
    have h0 : 0 < names.length := List.length_pos_iff.2 hn
    obtain ⟨x, hx⟩ := get_some (l := names) (i := 0) h0
    have hd : names.headD default = x := by
      cases names with
      | nil => simp at h0
      | cons a l => simpa using hx
    have q6 := q5 x
    cases hk : look b.nk b.nv x with
    | none =>
      refine .sg0 5 [0, 1, 2, 14, 15, 16, 17] (cgo 27 [false] [.code B64]) [(17, .d (.bool (decide ((↑names.length : Int) < (↑names.length : Int)))))] ?_
      refine .if' (decide ((↑names.length : Int) < (↑names.length : Int))) (cgo 28 [false, true] [.code B64]) (cgo 28 [false, false] [.code B64]) (fun h1 => ?_) (fun h1 => ?_)
      · simp only [bsX] at h1
        omega
      · simp only [bsX] at h1
        refine .sg0 6 [0, 2, 24] (cgo 34 [false, false] [.code B64]) [(24, .d (.bool there))] ?_
        refine .if' (there) (cgo 35 [false, false, true] [.code B64]) (cgo 35 [false, false, false] [.code B64]) (fun h2 => ?_) (fun h2 => ?_)
        · refine .sg0 4 [0, 2, 26, 27] (cgo 39 [false, false, true] [.code B64]) [(26, .ptr 0 0 0), (27, .row 6)] ?_
          refine .op' (cgo 40 [false, false, true] [.code B64]) (ixRow_ok (t := 66) (x := (.tmp 27)) (i := (.const (Value.int IntKind.i64 0))) (k := IntKind.i64) (n := 0) (l := 6) (sz := 1) (xs := map strD names) (mv := false) (by kernel_rfl) (by kernel_rfl) (by kernel_rfl) (by kernel_rfl) (by kernel_rfl) (by omega) (by simp <;> omega)) ?_
          refine .op' (cgo 41 [false, false, true] [.code B64]) (ldRow_ok (t := 9) (x := (.tmp 28)) (l := 6) (i := 0) (s := 0) (sz := 1) (xs := map strD names) (mv := false) (d := strD x) (v := .d (.str x)) (by kernel_rfl) (by kernel_rfl) (by kernel_rfl) (map_get hx) (by kernel_rfl)) ?_
          refine .ca [0, 1, 2, 3, 4, 5] (cgo 42 [false, false, true] [.code B64]) F65 (@spec_65 (b) (x) (none) (by assumption) (by assumption) (by assumption) (by omega) (by assumption)) ?_
          rintro r2 s2 ⟨rfl, rfl⟩
          refine ⟨_, rfl, ?_⟩
          refine .seg 16 [6] (T' := cgo 58 [false, false, true, true] [.code B64]) (tm' := mk 35 [(6, .d (.int .i64 3))]) (σ' := [.cells [.row 1, .ptr 2 0 0, .ep 2 (D.agg [D.list 1 (map strD b.sk), D.list 1 (map intD b.sv)]) 0, .row 5, .d (.int .i64 b.quota), .d (.bool b.full), .d (.bool b.off), .d (.int .i64 b.stop), .d (.int .i64 b.calls)], .row 2 (map fileD b.files) false, .cells [.row 3, .row 4], .row 1 (map strD b.nk) false, .row 1 (map intD b.nv) false, .row 3 (map chD b.ch) false, .row 1 (map strD names) false]) (by kernel_rfl) ?_
          refine .retH F64 (v := V.d (D.int IntKind.i64 3)) (by kernel_rfl) (by kernel_rfl) ?_
          simp_all [Dk.err, SD, dirD]
        · refine .seg 5 [6] (T' := cgo 40 [false, false, false] [.code B64]) (tm' := mk 35 [(6, .d (.int .i64 0))]) (σ' := [.cells [.row 1, .ptr 2 0 0, .ep 2 (D.agg [D.list 1 (map strD b.sk), D.list 1 (map intD b.sv)]) 0, .row 5, .d (.int .i64 b.quota), .d (.bool b.full), .d (.bool b.off), .d (.int .i64 b.stop), .d (.int .i64 b.calls)], .row 2 (map fileD b.files) false, .cells [.row 3, .row 4], .row 1 (map strD b.nk) false, .row 1 (map intD b.nv) false, .row 3 (map chD b.ch) false, .row 1 (map strD names) false]) (by kernel_rfl) ?_
          refine .retH F64 (v := V.d (D.int IntKind.i64 0)) (by kernel_rfl) (by kernel_rfl) ?_
          simp_all [Dk.err, SD, dirD]
    | some k =>
      refine .sg0 5 [0, 1, 2, 14, 15, 16, 17] (cgo 27 [false] [.code B64]) [(17, .d (.bool (decide ((↑names.length : Int) < (↑names.length : Int)))))] ?_
      refine .if' (decide ((↑names.length : Int) < (↑names.length : Int))) (cgo 28 [false, true] [.code B64]) (cgo 28 [false, false] [.code B64]) (fun h1 => ?_) (fun h1 => ?_)
      · simp only [bsX] at h1
        omega
      · simp only [bsX] at h1
        refine .sg0 6 [0, 2, 24] (cgo 34 [false, false] [.code B64]) [(24, .d (.bool there))] ?_
        refine .if' (there) (cgo 35 [false, false, true] [.code B64]) (cgo 35 [false, false, false] [.code B64]) (fun h2 => ?_) (fun h2 => ?_)
        · refine .sg0 4 [0, 2, 26, 27] (cgo 39 [false, false, true] [.code B64]) [(26, .ptr 0 0 0), (27, .row 6)] ?_
          refine .op' (cgo 40 [false, false, true] [.code B64]) (ixRow_ok (t := 66) (x := (.tmp 27)) (i := (.const (Value.int IntKind.i64 0))) (k := IntKind.i64) (n := 0) (l := 6) (sz := 1) (xs := map strD names) (mv := false) (by kernel_rfl) (by kernel_rfl) (by kernel_rfl) (by kernel_rfl) (by kernel_rfl) (by omega) (by simp <;> omega)) ?_
          refine .op' (cgo 41 [false, false, true] [.code B64]) (ldRow_ok (t := 9) (x := (.tmp 28)) (l := 6) (i := 0) (s := 0) (sz := 1) (xs := map strD names) (mv := false) (d := strD x) (v := .d (.str x)) (by kernel_rfl) (by kernel_rfl) (by kernel_rfl) (map_get hx) (by kernel_rfl)) ?_
          refine .ca [0, 1, 2, 3, 4, 5] (cgo 42 [false, false, true] [.code B64]) F65 (@spec_65 (b) (x) (some k) (by assumption) (by assumption) (by assumption) (by omega) (by assumption)) ?_
          rintro r2 s2 ⟨rfl, rfl⟩
          refine ⟨_, rfl, ?_⟩
          refine .seg 17 [6] (T' := cgo 59 [false, false, true, false] [.code B64]) (tm' := mk 35 [(6, .d (.int .i64 0))]) (σ' := [.cells [.row 1, .ptr 2 0 0, .ep 2 (D.agg [D.list 1 (map strD b.sk), D.list 1 (map intD b.sv)]) 0, .row 5, .d (.int .i64 b.quota), .d (.bool b.full), .d (.bool b.off), .d (.int .i64 b.stop), .d (.int .i64 b.calls)], .row 2 (map fileD b.files) false, .cells [.row 3, .row 4], .row 1 (map strD b.nk) false, .row 1 (map intD b.nv) false, .row 3 (map chD b.ch) false, .row 1 (map strD names) false]) (by kernel_rfl) ?_
          refine .retH F64 (v := V.d (D.int IntKind.i64 0)) (by kernel_rfl) (by kernel_rfl) ?_
          simp_all [Dk.err, SD, dirD]
        · refine .seg 5 [6] (T' := cgo 40 [false, false, false] [.code B64]) (tm' := mk 35 [(6, .d (.int .i64 0))]) (σ' := [.cells [.row 1, .ptr 2 0 0, .ep 2 (D.agg [D.list 1 (map strD b.sk), D.list 1 (map intD b.sv)]) 0, .row 5, .d (.int .i64 b.quota), .d (.bool b.full), .d (.bool b.off), .d (.int .i64 b.stop), .d (.int .i64 b.calls)], .row 2 (map fileD b.files) false, .cells [.row 3, .row 4], .row 1 (map strD b.nk) false, .row 1 (map intD b.nv) false, .row 3 (map chD b.ch) false, .row 1 (map strD names) false]) (by kernel_rfl) ?_
          refine .retH F64 (v := V.d (D.int IntKind.i64 0)) (by kernel_rfl) (by kernel_rfl) ?_
          simp_all [Dk.err, SD, dirD]
  | succ m ih =>
    intro i hi hm
    obtain ⟨x, hx⟩ := get_some (l := names) (i := i) (by omega)
    have hxs : x.size < 9223372036854775807 := by have := hs x (List.mem_of_getElem? hx); omega
    have hno : mayName x = false → b.err there names = 1 := fun e => by
      have : names.all mayName = false := by
        rw [List.all_eq_false]
        exact ⟨x, List.mem_of_getElem? hx, by simp [e]⟩
      unfold Dk.err
      rw [if_neg (by simp [ho]), if_neg (by rw [this]; simp)]
    have hyes : mayName x = true → ∀ s ∈ names.take (i + 1), mayName s = true := fun e s hsm => by
      obtain ⟨hi', rfl⟩ := List.getElem?_eq_some_iff.1 hx
      rw [List.take_succ_eq_append_getElem hi'] at hsm
      rcases List.mem_append.1 hsm with h1 | h1
      · exact hm s h1
      · rw [List.mem_singleton.1 h1]; exact e
    refine .sg0 5 [0, 1, 2, 14, 15, 16, 17] (cgo 27 [false] [.code B64]) [(17, .d (.bool (decide ((↑i : Int) < (↑names.length : Int)))))] ?_
    refine .if' (decide ((↑i : Int) < (↑names.length : Int))) (cgo 28 [false, true] [.code B64]) (cgo 28 [false, false] [.code B64]) (fun h1 => ?_) (fun h1 => ?_)
    · simp only [bsX] at h1
      refine .sg0 5 [0, 1, 2, 14, 15, 16, 17] (cgo 33 [false, true] [.code B64]) [] ?_
      refine .op' (cgo 34 [false, true] [.code B64]) (ixRow_ok (t := 66) (x := (.tmp 14)) (i := (.tmp 16)) (k := IntKind.i64) (n := (↑i : Int)) (l := 6) (sz := 1) (xs := map strD names) (mv := false) (by kernel_rfl) (by kernel_rfl) (by kernel_rfl) (by kernel_rfl) (by kernel_rfl) (by omega) (by simp <;> omega)) ?_
      refine .op' (cgo 35 [false, true] [.code B64]) (ldRow_ok (t := 9) (x := (.tmp 18)) (l := 6) (i := (↑i : Int).toNat) (s := 0) (sz := 1) (xs := map strD names) (mv := false) (d := strD x) (v := .d (.str x)) (by kernel_rfl) (by kernel_rfl) (by kernel_rfl) (map_get hx) (by kernel_rfl)) ?_
      refine .sg0 5 [0, 1, 2, 8, 14, 15, 16, 17, 18, 19, 20] (cgo 40 [false, true] [.code B64]) [(8, .d (.str x)), (20, .d (.str x))] ?_
      refine .semH (o := (opOf (cgo 40 [false, true] [Item.code B64])).getD default) (v := .d (.bool (mayName x))) (by kernel_rfl) (by kernel_rfl) (T' := cgo 41 [false, true] [Item.code B64]) (by kernel_rfl) (fun kz => sem_data0 (x := (.func 28)) (args := #[(.tmp 20)]) (ts := #[9]) (first := []) (cap := []) (ds := [.d (.str x)]) (v := .d (.bool (mayName x))) F28 (@spec_28 (x) (by assumption)) (by kernel_rfl) (by kernel_rfl) (by kernel_rfl) (by kernel_rfl) (by kernel_rfl) (by kernel_rfl) _) ?_
      refine .sg0 2 [0, 1, 2, 8, 14, 15, 16, 17, 18, 19, 20, 21, 22] (cgo 43 [false, true] [.code B64]) [(22, .d (.bool !mayName x))] ?_
      refine .if' (!mayName x) (cgo 44 [false, true, true] [.code B64]) (cgo 44 [false, true, false] [.code B64]) (fun h2 => ?_) (fun h2 => ?_)
      · simp only [bsX] at h2
        refine .seg 4 [0, 1, 2, 6, 8, 14, 15, 16, 17, 18, 19, 20, 21, 22] (T' := cgo 48 [false, true, true] [.code B64]) (tm' := mk 35 [(0, .ptr 0 0 0), (1, .d (.bool there)), (2, .row 6), (6, .d (.int .i64 1)), (8, .d (.str x)), (14, .row 6), (15, .d (.int .i64 (↑names.length : Int))), (16, .d (.int .i64 (↑i : Int))), (17, .d (.bool (decide ((↑i : Int) < (↑names.length : Int))))), (18, .ptr 6 (↑i : Int).toNat 0), (19, .d (.str x)), (20, .d (.str x)), (21, .d (.bool (mayName x))), (22, .d (.bool !mayName x))]) (σ' := [.cells [.row 1, .ptr 2 0 0, .ep 2 (D.agg [D.list 1 (map strD b.sk), D.list 1 (map intD b.sv)]) 0, .row 5, .d (.int .i64 b.quota), .d (.bool b.full), .d (.bool b.off), .d (.int .i64 b.stop), .d (.int .i64 b.calls)], .row 2 (map fileD b.files) false, .cells [.row 3, .row 4], .row 1 (map strD b.nk) false, .row 1 (map intD b.nv) false, .row 3 (map chD b.ch) false, .row 1 (map strD names) false]) (by kernel_rfl) ?_
        refine .retH F64 (v := V.d (D.int IntKind.i64 1)) (by kernel_rfl) (by kernel_rfl) ?_
        simp_all [SD, dirD]
      · simp only [bsX] at h2
        refine .seg 6 [0, 1, 2, 8, 14, 15, 16, 17, 18, 19, 20, 21, 22, 23] (T' := cgo 50 [false, true, false] [.code B64]) (tm' := mk 35 [(0, .ptr 0 0 0), (1, .d (.bool there)), (2, .row 6), (8, .d (.str x)), (14, .row 6), (15, .d (.int .i64 (↑names.length : Int))), (16, .d (.int .i64 (IntKind.i64.wrap ((↑i : Int) + 1)))), (17, .d (.bool (decide ((↑i : Int) < (↑names.length : Int))))), (18, .ptr 6 (↑i : Int).toNat 0), (19, .d (.str x)), (20, .d (.str x)), (21, .d (.bool (mayName x))), (22, .d (.bool !mayName x)), (23, .d (.int .i64 (IntKind.i64.wrap ((↑i : Int) + 1))))]) (σ' := [.cells [.row 1, .ptr 2 0 0, .ep 2 (D.agg [D.list 1 (map strD b.sk), D.list 1 (map intD b.sv)]) 0, .row 5, .d (.int .i64 b.quota), .d (.bool b.full), .d (.bool b.off), .d (.int .i64 b.stop), .d (.int .i64 b.calls)], .row 2 (map fileD b.files) false, .cells [.row 3, .row 4], .row 1 (map strD b.nk) false, .row 1 (map intD b.nv) false, .row 3 (map chD b.ch) false, .row 1 (map strD names) false]) (by kernel_rfl) ?_
        simp (disch := omega) only [wrap_i64, wrap_u64s, wrap_u32s, wrap_u8s, wrap_i32s, iadd_i64, isub_i64, irem_n, iquo_n, tdiv_nn, tmod_nn]
        exact .seg 1 [0, 1, 2, 14, 15, 16] (by kernel_rfl) (ih (i + 1) (by omega) (hyes (by assumption)))
    · simp only [bsX] at h1
      omega
theorem check64 (d : Dk) (N : Nat) (h : d.Ok N) (there : Bool) (names : List ByteArray) (hn : names ≠ []) (hs : ∀ s ∈ names, s.size < 1000000000) (hn2 : names.length < 1000000) (hN : N + 1 ≤ 50000) :
    CallsA Try.prog 64 [.ptr 0 0 0, .d (.bool there), .row 6] (SD d false ++ [.row 1 (names.map strD) false]) fun r σ' => r = .ret (.d (.int .i64 (d.begun.err there names))) ∧ σ' = SD d.begun false ++ [.row 1 (names.map strD) false] := by
  have hc := h.c0
  have hc' := h.cl
  have hs1 := h.s0
  have hs2 := h.s1
  refine CallsA.start F64 (tm := mk (Try.f64.ntmps) [(0, .ptr 0 0 0), (1, .d (.bool there)), (2, .row 6)]) (by kernel_rfl) ?_
  have hk := Dk.begun_ok h hN
  refine .sg0 8 [0, 1, 2, 6, 11] (cgo 8 [] [.code B64]) [(6, .d (.int .i64 0)), (11, .ptr 0 0 0)] ?_
  refine .ca [0, 1, 2, 3, 4, 5] (cgo 9 [] [.code B64]) F94 (@spec_94 (d) (by assumption) (by omega) (by assumption) (by assumption)) ?_
  rintro r0 s0 ⟨rfl, rfl⟩
  refine ⟨_, rfl, ?_⟩
  refine .sg0 2 [0, 1, 2, 6, 13] (cgo 11 [] [.code B64]) [(13, .d (.bool !!d.begun.off))] ?_
  refine .if' (!!d.begun.off) (cgo 12 [true] [.code B64]) (cgo 12 [false] [.code B64]) (fun h2 => ?_) (fun h2 => ?_)
  · simp only [bsX] at h2
    refine .seg 4 [0, 1, 2, 6] (T' := cgo 16 [true] [.code B64]) (tm' := mk 35 [(0, .ptr 0 0 0), (1, .d (.bool there)), (2, .row 6), (6, .d (.int .i64 5))]) (σ' := [.cells [.row 1, .ptr 2 0 0, .ep 2 (D.agg [D.list 1 (map strD d.begun.sk), D.list 1 (map intD d.begun.sv)]) 0, .row 5, .d (.int .i64 d.begun.quota), .d (.bool d.begun.full), .d (.bool d.begun.off), .d (.int .i64 d.begun.stop), .d (.int .i64 d.begun.calls)], .row 2 (map fileD d.begun.files) false, .cells [.row 3, .row 4], .row 1 (map strD d.begun.nk) false, .row 1 (map intD d.begun.nv) false, .row 3 (map chD d.begun.ch) false, .row 1 (map strD names) false]) (by kernel_rfl) ?_
    refine .retH F64 (v := V.d (D.int IntKind.i64 5)) (by kernel_rfl) (by kernel_rfl) ?_
    simp_all [Dk.err, SD, dirD]
  · simp only [bsX] at h2
    refine .seg 9 [0, 1, 2, 6, 14, 15, 16] (T' := cgo 21 [false] [.code B64]) (tm' := mk 35 [(0, .ptr 0 0 0), (1, .d (.bool there)), (2, .row 6), (6, .d (.int .i64 0)), (14, .row 6), (15, .d (.int .i64 (↑(map strD names).length : Int))), (16, .d (.int .i64 0))]) (σ' := [.cells [.row 1, .ptr 2 0 0, .ep 2 (D.agg [D.list 1 (map strD d.begun.sk), D.list 1 (map intD d.begun.sv)]) 0, .row 5, .d (.int .i64 d.begun.quota), .d (.bool d.begun.full), .d (.bool d.begun.off), .d (.int .i64 d.begun.stop), .d (.int .i64 d.begun.calls)], .row 2 (map fileD d.begun.files) false, .cells [.row 3, .row 4], .row 1 (map strD d.begun.nk) false, .row 1 (map intD d.begun.nv) false, .row 3 (map chD d.begun.ch) false, .row 1 (map strD names) false]) (by kernel_rfl) ?_
    simp only [List.length_map]
    exact .seg 1 [0, 1, 2, 14, 15, 16] (by kernel_rfl) (lo64 d.begun (N + 1) hk there names hn hs hn2 (by simp_all) names.length 0 (by omega) (by simp))
theorem spec_64b (d : Dk) (N : Nat) (h : d.Ok N) (there : Bool) (names : List ByteArray) (ds : List D) (hds : ds = names.map strD) (hn : names ≠ []) (hs : ∀ s ∈ names, s.size < 1000000000) (hn2 : names.length < 1000000) (hN : N + 1 ≤ 50000) :
    CallsA Try.prog 64 [.ptr 0 0 0, .d (.bool there), .row 6] (SD d false ++ [.row 1 ds false]) fun r σ' => r = .ret (.d (.int .i64 (d.begun.err there names))) ∧ σ' = SD d.begun false ++ [.row 1 ds false] := by
  subst hds
  exact check64 d N h there names hn hs hn2 hN
theorem lo64n (b : Dk) (ho : b.off = false) :
    AW Try.prog 64 none 6 (cgo 22 [false] [Item.code B64]) (mk 35 [(0, V.ptr 0 0 0), (1, V.d (D.bool false)), (2, V.d (D.list 1 [])), (14, V.d (D.list 1 [])), (15, V.d (D.int IntKind.i64 0)), (16, V.d (D.int IntKind.i64 0))]) (SD b false) [] fun r σ' => r = .ret (.d (.int .i64 (b.err false []))) ∧ σ' = SD b false := by
  have e2 : b.err false [] = 0 := by simp [Dk.err, ho]
  refine .seg 18 [6] (T' := cgo 40 [false, false, false] [.code B64]) (tm' := mk 35 [(6, .d (.int .i64 0))]) (σ' := [.cells [.row 1, .ptr 2 0 0, .ep 2 (D.agg [D.list 1 (map strD b.sk), D.list 1 (map intD b.sv)]) 0, .row 5, .d (.int .i64 b.quota), .d (.bool b.full), .d (.bool b.off), .d (.int .i64 b.stop), .d (.int .i64 b.calls)], .row 2 (map fileD b.files) false, .cells [.row 3, .row 4], .row 1 (map strD b.nk) false, .row 1 (map intD b.nv) false, .row 3 (map chD b.ch) false]) (by kernel_rfl) ?_
  refine .retH F64 (v := V.d (D.int IntKind.i64 0)) (by kernel_rfl) (by kernel_rfl) ?_
  simp_all [SD, dirD]
theorem spec_64 (d : Dk) (N : Nat) (h : d.Ok N) (hN : N + 1 ≤ 50000) :
    CallsA Try.prog 64 [.ptr 0 0 0, .d (.bool false), .d (.list 1 [])] (SD d false) fun r σ' => r = .ret (.d (.int .i64 (d.begun.err false []))) ∧ σ' = SD d.begun false := by
  have hc := h.c0
  have hc' := h.cl
  have hs1 := h.s0
  have hs2 := h.s1
  refine CallsA.start F64 (tm := mk (Try.f64.ntmps) [(0, .ptr 0 0 0), (1, .d (.bool false)), (2, .d (.list 1 []))]) (by kernel_rfl) ?_
  have e1 : d.begun.off = true → d.begun.err false [] = 5 := fun e => by simp [Dk.err, e]
  refine .sg0 8 [0, 1, 2, 6, 11] (cgo 8 [] [.code B64]) [(6, .d (.int .i64 0)), (11, .ptr 0 0 0)] ?_
  refine .ca [0, 1, 2, 3, 4, 5] (cgo 9 [] [.code B64]) F94 (@spec_94 (d) (by assumption) (by omega) (by assumption) (by assumption)) ?_
  rintro r0 s0 ⟨rfl, rfl⟩
  refine ⟨_, rfl, ?_⟩
  refine .sg0 2 [0, 1, 2, 6, 13] (cgo 11 [] [.code B64]) [(13, .d (.bool !!d.begun.off))] ?_
  refine .if' (!!d.begun.off) (cgo 12 [true] [.code B64]) (cgo 12 [false] [.code B64]) (fun h2 => ?_) (fun h2 => ?_)
  · simp only [bsX] at h2
    refine .seg 4 [0, 1, 2, 6] (T' := cgo 16 [true] [.code B64]) (tm' := mk 35 [(0, .ptr 0 0 0), (1, .d (.bool false)), (2, .d (.list 1 [])), (6, .d (.int .i64 5))]) (σ' := [.cells [.row 1, .ptr 2 0 0, .ep 2 (D.agg [D.list 1 (map strD d.begun.sk), D.list 1 (map intD d.begun.sv)]) 0, .row 5, .d (.int .i64 d.begun.quota), .d (.bool d.begun.full), .d (.bool d.begun.off), .d (.int .i64 d.begun.stop), .d (.int .i64 d.begun.calls)], .row 2 (map fileD d.begun.files) false, .cells [.row 3, .row 4], .row 1 (map strD d.begun.nk) false, .row 1 (map intD d.begun.nv) false, .row 3 (map chD d.begun.ch) false]) (by kernel_rfl) ?_
    refine .retH F64 (v := V.d (D.int IntKind.i64 5)) (by kernel_rfl) (by kernel_rfl) ?_
    simp_all [SD, dirD]
  · simp only [bsX] at h2
    refine .seg 9 [0, 1, 2, 6, 14, 15, 16] (T' := cgo 21 [false] [.code B64]) (tm' := mk 35 [(0, .ptr 0 0 0), (1, .d (.bool false)), (2, .d (.list 1 [])), (6, .d (.int .i64 0)), (14, .d (.list 1 [])), (15, .d (.int .i64 0)), (16, .d (.int .i64 0))]) (σ' := [.cells [.row 1, .ptr 2 0 0, .ep 2 (D.agg [D.list 1 (map strD d.begun.sk), D.list 1 (map intD d.begun.sv)]) 0, .row 5, .d (.int .i64 d.begun.quota), .d (.bool d.begun.full), .d (.bool d.begun.off), .d (.int .i64 d.begun.stop), .d (.int .i64 d.begun.calls)], .row 2 (map fileD d.begun.files) false, .cells [.row 3, .row 4], .row 1 (map strD d.begun.nk) false, .row 1 (map intD d.begun.nv) false, .row 3 (map chD d.begun.ch) false]) (by kernel_rfl) ?_
    exact .seg 1 [0, 1, 2, 14, 15, 16] (by kernel_rfl) (lo64n d.begun (by simp_all))
end Go.Proofs.Ytoelkgbeefoplaa
