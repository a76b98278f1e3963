/- Texts of this proof, part 12: RefC, RefD, EqvP, EqvQ, RefE, RefF, RefG, RefH, RefI, RefL. -/
import Derived.Test.YtoelkgbeefoplaaM11
set_option linter.unusedSimpArgs false
set_option linter.unusedVariables false
set_option linter.constructorNameAsVariable false
namespace Go.Proofs.Ytoelkgbeefoplaa
open Go Go.Br Go.Proofs
open List (map)
structure Rk where
  files : List (List UInt8 × Nat)
  now : List (ByteArray × Int)
  sure : List (ByteArray × Int)
  ch : List (ByteArray × ByteArray × Int)
  quota : Int
  full : Bool
  off : Bool
  stop : Int
  calls : Int
def SR (d : Rk) (m : Bool) : Store := [.cells [.row 1, .d (.list 2 (d.now.map nmD)), .d (.list 2 (d.sure.map nmD)), .row 2, .d (.int .i64 d.quota), .d (.bool d.full), .d (.bool d.off), .d (.int .i64 d.stop), .d (.int .i64 d.calls)],
  .row 2 (d.files.map fileD) m, .row 3 (d.ch.map chD) m]
def Rk.new (q : Int) : Rk := { files := [], now := [], sure := [], ch := [], quota := if 0 > q then 0 else q, full := false, off := false, stop := -1, calls := 0 }
noncomputable def B39 : Code := (Try.f39.body).getD .skip
theorem F39 : Fnc Try.prog 39 Try.f39 B39 := ⟨Try.func39, by kernel_rfl, by kernel_rfl⟩
theorem spec_39 (q : Int) : CallsA Try.prog 39 [.d (.int .i64 q)] [] fun r σ' => r = .ret (.ptr 0 0 0) ∧ σ' = SR (Rk.new q) true := by
  refine CallsA.start F39 (tm := mk (Try.f39.ntmps) [(0, .d (.int .i64 q))]) (by kernel_rfl) ?_
  refine .seg 12 [2] (T' := cgo 12 [] [.code B39]) (tm' := mk 7 [(2, .ptr 0 0 0)]) (σ' := [.cells [.ex 2 [], .ex 2 [], .ex 2 [], .ex 3 [], .d (.int .i64 (if 0 > q then 0 else q)), .d (.bool false), .d (.bool false), .d (.int .i64 (-1)), .d (.int .i64 0)]]) (by kernel_rfl) ?_
  refine .virtX 0 0 2 rfl rfl ?_
  refine .virtX 0 3 3 rfl rfl ?_
  refine .virtX 0 1 2 rfl rfl ?_
  refine .virtX 0 2 2 rfl rfl ?_
  refine .freeze 3 (sz := 2) (xs := []) (mv := false) (by kernel_rfl) ?_
  refine .freeze 4 (sz := 2) (xs := []) (mv := false) (by kernel_rfl) ?_
  refine .raises [1, 2] ?_
  refine .su [0, 1, 2] (mk 7 [(2, .ptr 0 0 0)]) (SR (Rk.new q) true) ?_
  refine .retH F39 (v := V.ptr 0 0 0) (by kernel_rfl) (by kernel_rfl) ?_
  exact ⟨rfl, rfl⟩
structure Rk.Ok (d : Rk) (N : Nat) : Prop where
  nn : ∀ p ∈ d.now, 0 ≤ p.2 ∧ p.2 < d.files.length
  fs : ∀ f ∈ d.files, f.2 ≤ f.1.length ∧ f.1.length ≤ 1048576
  fl : d.files.length ≤ N
  nl : d.now.length ≤ N
  chl : d.ch.length ≤ N
  c0 : 0 ≤ d.calls
  cl : d.calls ≤ N
  s0 : -1 ≤ d.stop
  s1 : d.stop < 9223372036854775808
  q0 : 0 ≤ d.quota
  q1 : d.quota < 9223372036854775808
  nb : N ≤ 50000
def Rk.file (d : Rk) (k : Nat) : List UInt8 × Nat := d.files.getD k ([], 0)
def Rk.acc (d : Rk) (i : Nat) : Nat := ((d.now.take i).map fun p => (d.file p.2.toNat).1.length).sum
def Rk.used (d : Rk) : Nat := (d.now.map fun p => (d.file p.2.toNat).1.length).sum
theorem Rk.acc_succ {d : Rk} {i : Nat} {p : ByteArray × Int} {f : List UInt8 × Nat} (hy : d.now[i]? = some p) (hf : d.files[p.2.toNat]? = some f) : d.acc (i + 1) = d.acc i + f.1.length := by
  obtain ⟨hi, rfl⟩ := List.getElem?_eq_some_iff.1 hy
  have e : d.file d.now[i].2.toNat = f := by simp [Rk.file, hf]
  unfold Rk.acc
  rw [List.take_succ_eq_append_getElem hi]
  simp only [List.map_append, List.sum_append, List.map_cons, List.map_nil, List.sum_cons, List.sum_nil, e, Nat.add_zero]
theorem Rk.acc_le {d : Rk} {N : Nat} (h : d.Ok N) : ∀ i, d.acc i ≤ i * 1048576
  | 0 => by simp [Rk.acc]
  | i + 1 => by
    have ih := Rk.acc_le h i
    cases hy : d.now[i]? with
    | none =>
      have e : d.now.take (i + 1) = d.now.take i := by
        rw [List.getElem?_eq_none_iff] at hy
        rw [List.take_of_length_le (by omega), List.take_of_length_le hy]
      have : d.acc (i + 1) = d.acc i := by unfold Rk.acc; rw [e]
      omega
    | some p =>
      have hp := h.nn p (List.mem_of_getElem? hy)
      obtain ⟨f, hf⟩ := get_some (l := d.files) (i := p.2.toNat) (by omega)
      have := (h.fs f (List.mem_of_getElem? hf)).2
      rw [Rk.acc_succ hy hf]; omega
noncomputable def B83 : Code := (Try.f83.body).getD .skip
theorem F83 : Fnc Try.prog 83 Try.f83 B83 := ⟨Try.func83, by kernel_rfl, by kernel_rfl⟩
theorem lo83 (d : Rk) (N : Nat) (h : d.Ok N) : ∀ (m i : Nat), i + m = d.now.length →
    AW Try.prog 83 none 3 (cgo 20 [] [Item.code B83]) (mk 29 [(0, V.ptr 0 0 0), (2, V.d (D.int IntKind.i64 0)), (3, V.d (D.int IntKind.i64 (d.acc i : Nat))), (9, V.d (D.list 2 (List.map nmD d.now))), (10, V.d (D.int IntKind.i64 (d.now.length : Nat))), (11, V.d (D.int IntKind.i64 (i : Nat)))])
      (SR d false) [] fun r σ' => r = .ret (.d (.int .i64 (d.used : Nat))) ∧ σ' = SR d false := by
  have q1 := h.nl
  have q2 := h.nb
  have q3 := h.fl
  intro m
  induction m with
  | zero =>
    intro i hi
    have hi : i = d.now.length := by omega
    subst hi
    have he : d.acc d.now.length = d.used := by unfold Rk.acc Rk.used; rw [List.take_length]
    rw [he]
    refine .sg0 5 [0, 2, 3, 9, 10, 11, 12] (cgo 25 [] [.code B83]) [(12, .d (.bool (decide ((↑d.now.length : Int) < (↑d.now.length : Int)))))] ?_
    refine .if' (decide ((↑d.now.length : Int) < (↑d.now.length : Int))) (cgo 26 [true] [.code B83]) (cgo 26 [false] [.code B83]) (fun h1 => ?_) (fun h1 => ?_)
    · simp only [bsX] at h1
      omega
    · simp only [bsX] at h1
      refine .seg 6 [2] (T' := cgo 32 [false] [.code B83]) (tm' := mk 29 [(2, .d (.int .i64 (↑d.used : Int)))]) (σ' := [.cells [.row 1, .d (.list 2 (map nmD d.now)), .d (.list 2 (map nmD d.sure)), .row 2, .d (.int .i64 d.quota), .d (.bool d.full), .d (.bool d.off), .d (.int .i64 d.stop), .d (.int .i64 d.calls)], .row 2 (map fileD d.files) false, .row 3 (map chD d.ch) false]) (by kernel_rfl) ?_
      refine .retH F83 (v := V.d (D.int IntKind.i64 (↑d.used : Int))) (by kernel_rfl) (by kernel_rfl) ?_
      exact ⟨rfl, rfl⟩
  | succ m ih =>
    intro i hi
    obtain ⟨p, hp⟩ := get_some (l := d.now) (i := i) (by omega)
    have hq := h.nn p (List.mem_of_getElem? hp)
    obtain ⟨f, hf⟩ := get_some (l := d.files) (i := p.2.toNat) (by omega)
    have hfl := (h.fs f (List.mem_of_getElem? hf)).2
    have ha := Rk.acc_le h i
    have hs := Rk.acc_succ hp hf
    have hq1 := hq.1
    have hq2 := hq.2
    have hw : IntKind.i64.wrap ((d.acc i : Int) + (f.1.length : Int)) = ((d.acc (i + 1) : Nat) : Int) := by
      rw [wrap_i64 (by omega) (by omega), hs]; omega
    refine .sg0 5 [0, 2, 3, 9, 10, 11, 12] (cgo 25 [] [.code B83]) [(12, .d (.bool (decide ((↑i : Int) < (↑d.now.length : Int)))))] ?_
    refine .if' (decide ((↑i : Int) < (↑d.now.length : Int))) (cgo 26 [true] [.code B83]) (cgo 26 [false] [.code B83]) (fun h1 => ?_) (fun h1 => ?_)
    · simp only [bsX] at h1
      refine .sg0 5 [0, 2, 3, 9, 10, 11, 12] (cgo 31 [true] [.code B83]) [] ?_
      refine .op' (cgo 32 [true] [.code B83]) (ixData_ok (t := 69) (x := (.tmp 9)) (i := (.tmp 11)) (k := IntKind.i64) (n := (↑i : Int)) (sz := 2) (xs := map nmD d.now) (d := nmD p) (by kernel_rfl) (by kernel_rfl) (by kernel_rfl) (by kernel_rfl) (by omega) (map_get hp)) ?_
      refine .sg 4 [0, 2, 3, 5, 9, 10, 11, 12, 13, 14] (cgo 36 [true] [.code B83]) [(5, .ptr 3 0 0), (14, .d (.agg [D.str p.fst, D.int IntKind.i64 p.snd]))] [(3, .cells [.d (.str p.fst), .d (.int .i64 p.snd)])] ?_
      refine .dr (cgo 37 [true] [.code B83]) [(3, .d (.int .i64 (IntKind.i64.wrap ((↑(d.acc i) : Int) + (↑(map u8 f.fst).length : Int))))), (15, .d (.int .i64 (↑(d.acc i) : Int))), (16, .ptr 0 0 0), (17, .ptr 0 0 0), (18, .ptr 0 0 0), (19, .row 1), (20, .ptr 3 0 1), (21, .d (.int .i64 p.snd)), (22, .ptr 1 p.snd.toNat 0), (23, .ptr 1 p.snd.toNat 0), (24, .d (.list 1 (map u8 f.fst))), (25, .d (.int .i64 (↑(map u8 f.fst).length : Int))), (26, .d (.int .i64 (IntKind.i64.wrap ((↑(d.acc i) : Int) + (↑(map u8 f.fst).length : Int)))))] [] (fun kz L hL => ?_) ?_
      · refine ⟨[nF, ⟨[], [], [], [0], [0], [], true, false⟩, ⟨[], [], [], [0], [0], [0], true, false⟩, ⟨[], [], [], [0], [0], [0], true, false⟩, ⟨[0], [], [], [1], [0, 1, 2], [], true, false⟩, ⟨[], [], [], [3], [3], [3], true, false⟩, ⟨[3], [], [], [], [3], [], true, false⟩, ⟨[1], [], [], [1], [1], [], true, false⟩, ⟨[], [], [], [1], [1], [1], true, false⟩, ⟨[1], [], [], [], [1], [], true, false⟩, nF, nF, nF], run_amongF hL _ [] [0, 1, 2, 3, 4, 5, 6, 7, 8, 9, 10, 11, 12] (by intro p hp; cases hp) (by kernel_rfl) ?_⟩
        refine Run.ap [0, 1, 2, 3, 4, 5, 6] [(15, .d (.int .i64 (↑(d.acc i) : Int))), (16, .ptr 0 0 0), (17, .ptr 0 0 0), (18, .ptr 0 0 0), (19, .row 1), (20, .ptr 3 0 1), (21, .d (.int .i64 p.snd))] [] ?_
        refine Run.lk 7 (.ptr 1 p.snd.toNat 0) [(.tmp 19), (.tmp 21)] (fun tm' σ2 hv hr => ixRow_ok (t := 68) (x := (.tmp 19)) (i := (.tmp 21)) (k := IntKind.i64) (n := p.snd) (l := 1) (sz := 2) (xs := map fileD d.files) (mv := false) (by kernel_rfl) (evv hv) (evv hv) (atr hr) (by kernel_rfl) (by assumption) (by simp <;> omega)) ?_
        refine Run.ap [8] [(23, .ptr 1 p.snd.toNat 0)] [] ?_
        refine Run.lk 9 (.d (.list 1 (map u8 f.fst))) [(.tmp 23)] (fun tm' σ2 hv hr => ldRow_ok (t := 22) (x := (.tmp 23)) (l := 1) (i := p.snd.toNat) (s := 0) (sz := 2) (xs := map fileD d.files) (mv := false) (d := fileD f) (v := .d (.list 1 (map u8 f.fst))) (by kernel_rfl) (evv hv) (atr hr) (map_get hf) (by kernel_rfl)) ?_
        exact Run.fin
      refine .sg0 5 [0, 2, 3, 5, 9, 10, 11, 12, 13, 14, 15, 16, 17, 18, 19, 20, 21, 22, 23, 24, 25, 26, 27] (cgo 42 [true] [.code B83]) [(11, .d (.int .i64 (IntKind.i64.wrap ((↑i : Int) + 1)))), (27, .d (.int .i64 (IntKind.i64.wrap ((↑i : Int) + 1))))] ?_
      simp only [List.length_map]
      simp (disch := omega) only [wrap_i64, wrap_u64s, wrap_u32s, wrap_u8s, wrap_i32s, iadd_i64, isub_i64, irem_n, iquo_n, tdiv_nn, tmod_nn]
      rw [show ((d.acc i : Nat) : Int) + (f.1.length : Int) = ((d.acc (i + 1) : Nat) : Int) by rw [hs]; omega]
      refine .seg 1 [0, 2, 3, 9, 10, 11] (T' := cgo 20 [] [.code B83]) (tm' := mk 29 [(0, .ptr 0 0 0), (2, .d (.int .i64 0)), (3, .d (.int .i64 (d.acc (i + 1) : Nat))), (9, .d (.list 2 (map nmD d.now))), (10, .d (.int .i64 (d.now.length : Nat))), (11, .d (.int .i64 ((i + 1 : Nat) : Int)))]) (σ' := SR d false ++ [.cells [.d (.str p.1), .d (.int .i64 p.2)]]) (by kernel_rfl) ?_
      exact .sub [0, 1, 2] (mk 29 [(0, V.ptr 0 0 0), (2, V.d (D.int IntKind.i64 0)), (3, V.d (D.int IntKind.i64 (d.acc (i + 1) : Nat))), (9, V.d (D.list 2 (map nmD d.now))), (10, V.d (D.int IntKind.i64 (d.now.length : Nat))), (11, V.d (D.int IntKind.i64 ((i + 1 : Nat) : Int)))]) (SR d false) none [] ⟨rfl, rfl, by kernel_rfl⟩ (by kernel_rfl) ⟨Nat.le_of_ble_eq_true (by kernel_rfl), by kernel_rfl⟩ (by kernel_rfl) ⟨by kernel_rfl, by kernel_rfl⟩ ⟨rfl, rfl⟩ (ih (i + 1) (by omega))
    · simp only [bsX] at h1
      omega
theorem spec_83 (d : Rk) (N : Nat) (h : d.Ok N) : CallsA Try.prog 83 [.ptr 0 0 0] (SR d false) fun r σ' => r = .ret (.d (.int .i64 (d.used : Nat))) ∧ σ' = SR d false := by
  refine CallsA.start F83 (tm := mk (Try.f83.ntmps) [(0, .ptr 0 0 0)]) (by kernel_rfl) ?_
  refine .seg 19 [0, 2, 3, 9, 10, 11] (T' := cgo 19 [] [.code B83]) (tm' := mk 29 [(0, .ptr 0 0 0), (2, .d (.int .i64 0)), (3, .d (.int .i64 0)), (9, .d (.list 2 (map nmD d.now))), (10, .d (.int .i64 (↑(map nmD d.now).length : Int))), (11, .d (.int .i64 0))]) (σ' := [.cells [.row 1, .d (.list 2 (map nmD d.now)), .d (.list 2 (map nmD d.sure)), .row 2, .d (.int .i64 d.quota), .d (.bool d.full), .d (.bool d.off), .d (.int .i64 d.stop), .d (.int .i64 d.calls)], .row 2 (map fileD d.files) false, .row 3 (map chD d.ch) false]) (by kernel_rfl) ?_
  simp only [List.length_map]
  exact .seg 1 [0, 2, 3, 9, 10, 11] (by kernel_rfl) (lo83 d N h d.now.length 0 (by omega))
end Go.Proofs.Ytoelkgbeefoplaa
namespace Go.Proofs.Ytoelkgbeefoplaa
open Go Go.Br Go.Proofs
open List (map)
noncomputable def B77 : Code := (Try.f77.body).getD .skip
theorem F77 : Fnc Try.prog 77 Try.f77 B77 := ⟨Try.func77, by kernel_rfl, by kernel_rfl⟩
def Rk.begun (d : Rk) : Rk := if d.off then d else if d.stop = 0 then { d with calls := d.calls + 1, off := true } else if 0 < d.stop then { d with calls := d.calls + 1, stop := d.stop - 1 } else { d with calls := d.calls + 1 }
theorem head77 (d : Rk) (N : Nat) (h : d.Ok N) (k : Int) (x y : ByteArray) (v4 : V) (Q : AE → Store → Prop)
    (hoff : d.begun.off = true → Q (.ret (.d (.int .i64 5))) (SR d.begun true))
    (hnext : d.begun.off = false → AW Try.prog 77 none 3 (cgo 47 [false, false, false] [Item.code B77]) (mk 214 [(0, .ptr 0 0 0), (1, .d (.int .i64 k)), (2, .d (.str x)), (3, .d (.str y)), (4, v4), (10, .d (.int .i64 0))]) (SR d.begun false) [] Q) :
    CallsA Try.prog 77 [.ptr 0 0 0, .d (.int .i64 k), .d (.str x), .d (.str y), v4] (SR d false) Q := by
  refine CallsA.start F77 (tm := mk (Try.f77.ntmps) [(0, .ptr 0 0 0), (1, .d (.int .i64 k)), (2, .d (.str x)), (3, .d (.str y)), (4, v4)]) (by kernel_rfl) ?_
  have hc0 := h.c0
  have hcl := h.cl
  have hs0 := h.s0
  have hs1 := h.s1
  have hnb := h.nb
  refine .sg0 12 [0, 1, 2, 3, 4, 10, 16] (cgo 12 [] [.code B77]) [(10, .d (.int .i64 0)), (16, .d (.bool d.off))] ?_
  refine .if' (d.off) (cgo 13 [true] [.code B77]) (cgo 13 [false] [.code B77]) (fun h1 => ?_) (fun h1 => ?_)
  · refine .seg 4 [0, 1, 2, 3, 4, 10] (T' := cgo 17 [true] [.code B77]) (tm' := mk 214 [(0, .ptr 0 0 0), (1, .d (.int .i64 k)), (2, .d (.str x)), (3, .d (.str y)), (4, v4), (10, .d (.int .i64 5))]) (σ' := [.cells [.row 1, .d (.list 2 (map nmD d.now)), .d (.list 2 (map nmD d.sure)), .row 2, .d (.int .i64 d.quota), .d (.bool d.full), .d (.bool d.off), .d (.int .i64 d.stop), .d (.int .i64 d.calls)], .row 2 (map fileD d.files) false, .row 3 (map chD d.ch) false]) (by kernel_rfl) ?_
    refine .raise 1 rfl rfl ?_
    refine .raise 2 rfl rfl ?_
    refine .retH F77 (v := V.d (D.int IntKind.i64 5)) (by kernel_rfl) (by kernel_rfl) ?_
    have e : d.begun = d := by simp [Rk.begun, h1]
    rw [e] at hoff
    exact hoff h1
  · refine .sg 21 [0, 1, 2, 3, 4, 10, 28] (cgo 34 [false] [.code B77]) [(28, .d (.bool (d.stop == 0)))] [(0, .cells [.row 1, .d (.list 2 (map nmD d.now)), .d (.list 2 (map nmD d.sure)), .row 2, .d (.int .i64 d.quota), .d (.bool d.full), .d (.bool d.off), .d (.int .i64 d.stop), .d (.int .i64 (IntKind.i64.wrap (d.calls + 1)))])] ?_
    simp (disch := omega) only [wrap_i64, wrap_u64s, wrap_u32s, wrap_u8s, wrap_i32s, iadd_i64, isub_i64, irem_n, iquo_n, tdiv_nn, tmod_nn]
    refine .if' (d.stop == 0) (cgo 35 [false, true] [.code B77]) (cgo 35 [false, false] [.code B77]) (fun h2 => ?_) (fun h2 => ?_)
    · simp only [bsX] at h2
      refine .seg 11 [0, 1, 2, 3, 4, 10] (T' := cgo 46 [false, true] [.code B77]) (tm' := mk 214 [(0, .ptr 0 0 0), (1, .d (.int .i64 k)), (2, .d (.str x)), (3, .d (.str y)), (4, v4), (10, .d (.int .i64 5))]) (σ' := [.cells [.row 1, .d (.list 2 (map nmD d.now)), .d (.list 2 (map nmD d.sure)), .row 2, .d (.int .i64 d.quota), .d (.bool d.full), .d (.bool true), .d (.int .i64 d.stop), .d (.int .i64 (d.calls + 1))], .row 2 (map fileD d.files) false, .row 3 (map chD d.ch) false]) (by kernel_rfl) ?_
      refine .raise 1 rfl rfl ?_
      refine .raise 2 rfl rfl ?_
      refine .retH F77 (v := V.d (D.int IntKind.i64 5)) (by kernel_rfl) (by kernel_rfl) ?_
      have e : d.begun = { d with calls := d.calls + 1, off := true } := by simp [Rk.begun, h1, h2]
      rw [e] at hoff
      exact hoff rfl
    · simp only [bsX] at h2
      refine .sg0 10 [0, 1, 2, 3, 4, 10, 36] (cgo 45 [false, false] [.code B77]) [(36, .d (.bool (decide (d.stop > 0))))] ?_
      refine .if' (decide (d.stop > 0)) (cgo 46 [false, false, true] [.code B77]) (cgo 46 [false, false, false] [.code B77]) (fun h3 => ?_) (fun h3 => ?_)
      · simp only [bsX] at h3
        have e : d.begun = { d with calls := d.calls + 1, stop := d.stop - 1 } := by simp [Rk.begun, h1, h2, h3]
        rw [e] at hnext
        refine .sg 10 [0, 1, 2, 3, 4, 10] (cgo 56 [false, false, true] [.code B77]) [] [(0, .cells [.row 1, .d (.list 2 (map nmD d.now)), .d (.list 2 (map nmD d.sure)), .row 2, .d (.int .i64 d.quota), .d (.bool d.full), .d (.bool d.off), .d (.int .i64 (IntKind.i64.wrap (d.stop - 1))), .d (.int .i64 (d.calls + 1))])] ?_
        rw [show IntKind.i64.wrap (d.stop - 1) = d.stop - 1 from wrap_i64 (by omega) (by omega)]
        exact .goes [0, 1, 2, 3, 4, 10] (by kernel_rfl) (by kernel_rfl) (by kernel_rfl) (hnext h1)
      · simp only [bsX] at h3
        have e : d.begun = { d with calls := d.calls + 1 } := by simp [Rk.begun, h1, h2]; omega
        rw [e] at hnext
        refine .sg0 1 [0, 1, 2, 3, 4, 10] (cgo 47 [false, false, false] [.code B77]) [] ?_
        exact .goes [0, 1, 2, 3, 4, 10] (by kernel_rfl) (by kernel_rfl) (by kernel_rfl) (hnext h1)
end Go.Proofs.Ytoelkgbeefoplaa
namespace Go.Proofs.Ytoelkgbeefoplaa
open Go Go.Br Go.Proofs
open List (map)
theorem rising_ext {α : Type} {R : α → α → Prop} (irr : ∀ x, ¬ R x x) (tr : ∀ x y z, R x y → R y z → R x z) : ∀ {a b : List α}, a.Pairwise R → b.Pairwise R → (∀ x, x ∈ a ↔ x ∈ b) → a = b
  | [], [], _, _, _ => rfl
  | [], y :: b, _, _, h => absurd ((h y).2 (by simp)) (by simp)
  | x :: a, [], _, _, h => absurd ((h x).1 (by simp)) (by simp)
  | x :: a, y :: b, ha, hb, h => by
    rw [List.pairwise_cons] at ha hb
    have e : x = y := by
      rcases List.mem_cons.1 ((h x).1 (by simp)) with h1 | h1
      · exact h1
      · rcases List.mem_cons.1 ((h y).2 (by simp)) with h2 | h2
        · exact h2.symm
        · exact absurd (tr _ _ _ (hb.1 x h1) (ha.1 y h2)) (irr y)
    subst e
    rw [rising_ext irr tr ha.2 hb.2 fun z => ?_]
    constructor
    · intro hz
      rcases List.mem_cons.1 ((h z).1 (List.mem_cons_of_mem _ hz)) with h1 | h1
      · exact absurd (h1 ▸ ha.1 z hz) (irr _)
      · exact h1
    · intro hz
      rcases List.mem_cons.1 ((h z).2 (List.mem_cons_of_mem _ hz)) with h1 | h1
      · exact absurd (h1 ▸ hb.1 z hz) (irr _)
      · exact h1
def RisingN (l : List (ByteArray × Int)) : Prop := l.Pairwise fun a b => lt a.1 b.1 = true
theorem zip_rising : ∀ {ks : List ByteArray} {vs : List Int}, Rising ks → RisingN (ks.zip vs)
  | [], vs, _ => by simp [RisingN]
  | k :: ks, [], _ => by simp [RisingN]
  | k :: ks, v :: vs, h => by
    unfold Rising at h
    rw [List.pairwise_cons] at h
    unfold RisingN
    rw [List.zip_cons_cons, List.pairwise_cons]
    exact ⟨fun p hp => h.1 _ (List.of_mem_zip hp).1, zip_rising h.2⟩
theorem mem_zip_iff {ks : List ByteArray} {vs : List Int} (hr : Rising ks) {x : ByteArray} {v : Int} : (x, v) ∈ ks.zip vs ↔ look ks vs x = some v := by
  rw [look_iff hr]
  constructor
  · intro h
    obtain ⟨i, hi, e⟩ := List.mem_iff_getElem.1 h
    rw [List.getElem_zip] at e
    rw [List.length_zip] at hi
    injection e with e1 e2
    exact ⟨i, List.getElem?_eq_some_iff.2 ⟨by omega, e1⟩, List.getElem?_eq_some_iff.2 ⟨by omega, e2⟩⟩
  · rintro ⟨i, h1, h2⟩
    obtain ⟨i1, rfl⟩ := List.getElem?_eq_some_iff.1 h1
    obtain ⟨i2, rfl⟩ := List.getElem?_eq_some_iff.1 h2
    exact List.mem_iff_getElem.2 ⟨i, by rw [List.length_zip]; omega, by rw [List.getElem_zip]⟩
theorem atR_mem {l : List (ByteArray × Int)} (hr : RisingN l) {x : ByteArray} {v : Int} (h : (x, v) ∈ l) : atR l x = v := by
  induction l with
  | nil => simp at h
  | cons p l ih =>
    unfold RisingN at hr
    rw [List.pairwise_cons] at hr
    rw [atR]
    rcases List.mem_cons.1 h with h1 | h1
    · rw [← h1, if_pos rfl]
    · have := hr.1 _ h1
      rw [if_neg (fun e => by rw [e, lt_irrefl] at this; cases this)]
      exact ih hr.2 h1
theorem atR_look {ks : List ByteArray} {vs : List Int} (hr : Rising ks) (x : ByteArray) : atR (ks.zip vs) x = (look ks vs x).getD (-1) := by
  cases h : look ks vs x with
  | none =>
    refine atR_none fun p hp e => ?_
    have : (x, p.2) ∈ ks.zip vs := by rw [← e]; exact hp
    rw [mem_zip_iff hr, h] at this
    cases this
  | some v => exact atR_mem (zip_rising hr) ((mem_zip_iff hr).2 h)
theorem backK_low {out : List (ByteArray × Int)} (hr : RisingN out) {n : ByteArray} (hn : ∀ p ∈ out, p.1 ≠ n) : ∀ k, k ≤ out.length → (∀ p ∈ out.drop k, lt n p.1 = true) → backK out n k ≤ k ∧ (∀ p ∈ out.take (backK out n k), lt p.1 n = true) ∧ ∀ p ∈ out.drop (backK out n k), lt n p.1 = true
  | 0, _, h => by simpa [backK] using h
  | k + 1, hk, h => by
    have hg : out[k]? = some out[k] := List.getElem?_eq_getElem (by omega)
    unfold backK
    rw [hg]
    dsimp only
    split
    · rename_i hb
      have h1 : lt n out[k].1 = true := by
        simp only [Bool.not_eq_true', Bool.or_eq_false_iff] at hb
        cases h2 : lt n out[k].1 with
        | true => rfl
        | false => exact absurd (lt_total hb.1 h2) (hn _ (List.getElem_mem _))
      obtain ⟨a1, a2, a3⟩ := backK_low hr hn k (by omega) (fun p hp => by
        rw [List.drop_eq_getElem_cons (by omega)] at hp
        rcases List.mem_cons.1 hp with h2 | h2
        · rw [h2]; exact h1
        · exact h p h2)
      exact ⟨by omega, a2, a3⟩
    · rename_i hb
      refine ⟨Nat.le_refl _, fun p hp => ?_, h⟩
      have h1 : lt out[k].1 n = true := by
        cases h2 : lt out[k].1 n with
        | true => rfl
        | false =>
          cases h3 : out[k].1.toList == n.toList with
          | true => exact absurd (toList_inj (by simpa using h3)) (hn _ (List.getElem_mem _))
          | false =>
            have h4 : Op.bytesLess out[k].1.toList n.toList = false := h2
            rw [h4, h3] at hb
            simp at hb
      rw [List.take_succ_eq_append_getElem (by omega)] at hp
      rcases List.mem_append.1 hp with h2 | h2
      · obtain ⟨i, hi, rfl⟩ := List.mem_iff_getElem.1 h2
        rw [List.length_take] at hi
        rw [List.getElem_take]
        exact lt_trans (List.pairwise_iff_getElem.1 hr i k (by omega) (by omega) (by omega)) h1
      · rw [List.mem_singleton.1 h2]; exact h1
theorem fltR_mem {c : ByteArray × ByteArray × Int} {l : List (ByteArray × Int)} {p : ByteArray × Int} : p ∈ fltR c l ↔ p ∈ l ∧ p.1 ≠ c.1 ∧ p.1 ≠ c.2.1 := by
  unfold fltR keepN
  rw [List.mem_filter]
  simp
theorem fltR_rising {c : ByteArray × ByteArray × Int} {l : List (ByteArray × Int)} (h : RisingN l) : RisingN (fltR c l) := List.Pairwise.sublist List.filter_sublist h
theorem applyR_rising {c : ByteArray × ByteArray × Int} {l : List (ByteArray × Int)} (h : RisingN l) : RisingN (applyR l c) := by
  unfold applyR
  split
  · exact fltR_rising h
  · have hn : ∀ p ∈ fltR c l, p.1 ≠ c.2.1 := fun p hp => (fltR_mem.1 hp).2.2
    obtain ⟨b1, b2, b3⟩ := backK_low (fltR_rising (c := c) h) hn _ (Nat.le_refl _) (by simp)
    have hr := fltR_rising (c := c) h
    generalize backK (fltR c l) c.2.1 (fltR c l).length = k at *
    unfold insR RisingN
    rw [List.pairwise_append, List.pairwise_cons]
    refine ⟨List.Pairwise.sublist (List.take_sublist _ _) hr, ⟨fun p hp => b3 p hp, List.Pairwise.sublist (List.drop_sublist _ _) hr⟩, fun p hp q hq => ?_⟩
    rcases List.mem_cons.1 hq with h1 | h1
    · rw [h1]; exact b2 p hp
    · exact lt_trans (b2 p hp) (b3 q h1)
theorem applyR_mem {c : ByteArray × ByteArray × Int} {l : List (ByteArray × Int)} {p : ByteArray × Int} : p ∈ applyR l c ↔ (p ∈ l ∧ p.1 ≠ c.1 ∧ p.1 ≠ c.2.1) ∨ (c.2.1.size ≠ 0 ∧ p = (c.2.1, c.2.2)) := by
  have e : c.2.1.toList = (ByteArray.mk #[]).toList ↔ c.2.1.size = 0 := by
    constructor
    · intro h; rw [toList_inj h]; rfl
    · intro h
      have : c.2.1 = ByteArray.mk #[] := by
        cases hc : c.2.1 with
        | mk d =>
          rw [hc] at h
          congr 1
          exact Array.eq_empty_of_size_eq_zero h
      rw [this]
  unfold applyR
  split
  · rename_i h
    rw [fltR_mem]
    simp [e.1 h]
  · rename_i h
    have h2 : c.2.1.size ≠ 0 := fun h3 => h (e.2 h3)
    unfold insR
    rw [List.mem_append, List.mem_cons, ← fltR_mem]
    constructor
    · rintro (h3 | h3 | h3)
      · exact .inl (List.mem_of_mem_take h3)
      · exact .inr ⟨h2, h3⟩
      · exact .inl (List.mem_of_mem_drop h3)
    · rintro (h3 | h3)
      · rw [← List.take_append_drop (backK (fltR c l) c.2.1 (fltR c l).length) (fltR c l)] at h3
        rcases List.mem_append.1 h3 with h4 | h4
        · exact .inl h4
        · exact .inr (.inr h4)
      · exact .inr (.inl h3.2)
theorem applyR_zip {ks : List ByteArray} {vs : List Int} (hr : Rising ks) (hv : vs.length = ks.length) (hn : ∀ k ∈ ks, k.size ≠ 0) (g n : ByteArray) (k : Int) :
    applyR (ks.zip vs) (g, n, k) = (kapply ks vs g n k).1.zip (kapply ks vs g n k).2 := by
  refine rising_ext (R := fun a b : ByteArray × Int => lt a.1 b.1 = true) (fun x h => by rw [lt_irrefl] at h; cases h) (fun x y z h h' => lt_trans h h') (applyR_rising (zip_rising hr)) (zip_rising (kapply_rising hr)) fun p => ?_
  obtain ⟨x, v⟩ := p
  rw [applyR_mem, mem_zip_iff hr, mem_zip_iff (kapply_rising hr), look_apply hr hv]
  dsimp only
  have hx : look ks vs x = some v → x.size ≠ 0 := fun h => by
    obtain ⟨i, h1, _⟩ := (look_iff hr).1 h
    exact hn x (List.mem_of_getElem? h1)
  constructor
  · rintro (⟨h1, h2, h3⟩ | ⟨h1, h2⟩)
    · rw [if_neg (by rintro ⟨_, h4⟩; exact h3 h4), if_neg (by rintro ⟨_, h4⟩; exact h2 h4)]
      exact h1
    · injection h2 with h3 h4
      subst h3; subst h4
      rw [if_pos ⟨h1, rfl⟩]
  · intro h
    split at h
    · rename_i h1
      injection h with h2
      exact .inr ⟨h1.1, by rw [h1.2, h2]⟩
    · rename_i h1
      split at h
      · cases h
      · rename_i h2
        have h3 := hx h
        refine .inl ⟨h, fun e => h2 ⟨by rw [← e]; exact h3, e⟩, fun e => h1 ⟨by rw [← e]; exact h3, e⟩⟩
end Go.Proofs.Ytoelkgbeefoplaa
namespace Go.Proofs.Ytoelkgbeefoplaa
open Go Go.Br Go.Proofs
open List (map)
def Rof (d : Dk) (t : Int) : Rk := { files := d.files, now := d.nk.zip d.nv, sure := d.sk.zip d.sv, ch := d.ch, quota := d.quota, full := d.full, off := d.off, stop := t, calls := d.calls }
structure Rb (t : Int) : Prop where
  lo : -1 ≤ t
  hi : t < 9223372036854775808
structure Rt (d : Dk) (t : Int) : Prop where
  eq : d.off = false → t = d.stop ∨ t = -1 ∧ 0 < d.stop
  b : Rb t
structure Dk.Nm (d : Dk) : Prop where
  nk : ∀ k ∈ d.nk, k.size ≠ 0
  sk : ∀ k ∈ d.sk, k.size ≠ 0
theorem Rof_ok {d : Dk} {t : Int} {N : Nat} (h : d.Ok N) (ht : Rb t) : (Rof d t).Ok N := by
  refine ⟨fun p hp => h.nn p.2 (List.of_mem_zip hp).2, h.fs, h.fl, ?_, h.chl, h.c0, h.cl, ht.lo, ht.hi, h.q0, h.q1, h.nb⟩
  have := h.nkl
  show (d.nk.zip d.nv).length ≤ N
  rw [List.length_zip]; omega
theorem Rof_len {d : Dk} {t : Int} {N : Nat} (h : d.Ok N) : (Rof d t).now.length = d.nk.length := by
  have := h.nl
  show (d.nk.zip d.nv).length = _
  rw [List.length_zip]; omega
theorem Rof_at {d : Dk} {t : Int} {N : Nat} (h : d.Ok N) (x : ByteArray) : atR (Rof d t).now x = (look d.nk d.nv x).getD (-1) := atR_look h.nr x
theorem map_zip_snd {α β γ : Type} (f : β → γ) : ∀ {a : List α} {b : List β}, b.length = a.length → (a.zip b).map (fun p => f p.2) = b.map f
  | [], [], _ => rfl
  | [], _ :: _, h => by simp at h
  | _ :: _, [], h => by simp at h
  | x :: a, y :: b, h => by simp only [List.zip_cons_cons, List.map_cons]; rw [map_zip_snd f (by simpa using h)]
theorem Rof_used {d : Dk} {t : Int} {N : Nat} (h : d.Ok N) : (Rof d t).used = d.used := by
  unfold Rk.used Dk.used
  exact congrArg List.sum (map_zip_snd (fun k : Int => (d.file k.toNat).1.length) h.nl)
def tb (d : Dk) (t : Int) : Int := if d.off then t else if t = -1 then -1 else if d.stop = 0 then 0 else d.begun.stop
theorem Rof_begun {d : Dk} {t : Int} {N : Nat} (h : d.Ok N) (ht : Rt d t) : (Rof d t).begun = Rof d.begun (tb d t) ∧ Rb (tb d t) := by
  have h0 := h.s0
  have h1 := h.s1
  obtain ⟨e, lo, hi⟩ := ht
  unfold tb Rk.begun Dk.begun
  by_cases ho : d.off = true
  · rw [if_pos ho, if_pos ho, if_pos (show (Rof d t).off = true from ho)]
    exact ⟨rfl, lo, hi⟩
  · have ho' : d.off = false := by simpa using ho
    rw [if_neg ho, if_neg ho, if_neg (show ¬ (Rof d t).off = true from ho)]
    by_cases hm : t = -1
    · rw [if_pos hm, if_neg (show ¬ (Rof d t).stop = 0 by show ¬ t = 0; omega), if_neg (show ¬ 0 < (Rof d t).stop by show ¬ 0 < t; omega)]
      have hs : d.stop ≠ 0 := by rcases e ho' with h2 | h2 <;> omega
      exact ⟨by simp [Rof, ho', hs, hm], ⟨by omega, by omega⟩⟩
    · have et : t = d.stop := by rcases e ho' with h2 | h2 <;> omega
      subst et
      rw [if_neg hm]
      by_cases hz : d.stop = 0
      · rw [if_pos hz, if_pos (show (Rof d d.stop).stop = 0 from hz)]
        exact ⟨by simp [Rof, hz], ⟨by omega, by omega⟩⟩
      · rw [if_neg hz, if_neg (show ¬ (Rof d d.stop).stop = 0 from hz), if_pos (show 0 < (Rof d d.stop).stop by show 0 < d.stop; omega)]
        have e2 : (if -1 > d.stop - 1 then (-1 : Int) else d.stop - 1) = d.stop - 1 := if_neg (by omega)
        dsimp only
        rw [e2]
        exact ⟨by simp [Rof, hz, ho'], ⟨by omega, by omega⟩⟩
theorem begun_nm {d : Dk} (h : d.Nm) : d.begun.Nm := by
  unfold Dk.begun; split
  · exact h
  · exact ⟨h.nk, h.sk⟩
theorem kapply_keys {ks : List ByteArray} {vs : List Int} (hr : Rising ks) (hv : vs.length = ks.length) {g n : ByteArray} {k : Int} {z : ByteArray} (hz : z ∈ (kapply ks vs g n k).1) : z ∈ ks ∨ (n.size ≠ 0 ∧ z = n) := by
  obtain ⟨i, hi, rfl⟩ := List.mem_iff_getElem.1 hz
  have hl := kapply_len (g := g) (n := n) (k := k) hv
  have h1 : look (kapply ks vs g n k).1 (kapply ks vs g n k).2 (kapply ks vs g n k).1[i] = some ((kapply ks vs g n k).2[i]'(by omega)) :=
    (look_iff (kapply_rising hr)).2 ⟨i, List.getElem?_eq_getElem hi, List.getElem?_eq_getElem (by omega)⟩
  rw [look_apply hr hv] at h1
  split at h1
  · rename_i h2; exact .inr h2
  · split at h1
    · cases h1
    · obtain ⟨j, h3, _⟩ := (look_iff hr).1 h1
      exact .inl (List.mem_of_getElem? h3)
theorem turn_nm {d : Dk} {N : Nat} (hk : d.Ok N) (h : d.Nm) (g n : ByteArray) (k : Int) : (d.turn g n k).Nm := by
  refine ⟨fun z hz => ?_, h.sk⟩
  rcases kapply_keys hk.nr hk.nl hz with h1 | ⟨h1, rfl⟩
  · exact h.nk z h1
  · exact h1
theorem Rof_turn {d : Dk} {t : Int} {N : Nat} (hk : d.Ok N) (h : d.Nm) (g n : ByteArray) (k : Int) : ({ Rof d t with now := applyR (Rof d t).now (g, n, k), ch := (Rof d t).ch ++ [(g, n, k)] } : Rk) = Rof (d.turn g n k) t := by
  have := applyR_zip hk.nr hk.nl h.nk g n k
  unfold Rof Dk.turn at *
  dsimp only
  rw [this]
end Go.Proofs.Ytoelkgbeefoplaa
namespace Go.Proofs.Ytoelkgbeefoplaa
open Go Go.Br Go.Proofs
open List (map)
theorem kind3 (b : Rk) (N : Nat) (h : b.Ok N) (x y : ByteArray) (v4 : V) :
    AW Try.prog 77 none 3 (cgo 47 [false, false, false] [Item.code B77]) (mk 214 [(0, .ptr 0 0 0), (1, .d (.int .i64 3)), (2, .d (.str x)), (3, .d (.str y)), (4, v4), (10, .d (.int .i64 0))]) (SR b false) [] fun r σ' => r = .ret (.d (.int .i64 0)) ∧ σ' = SR { b with sure := b.now, ch := [] } true := by
  have hnl := h.nl
  have hnb := h.nb
  refine .sg0 29 [0, 1, 2, 3, 4, 10, 60, 61, 62, 63, 64] (cgo 76 [false, false, false, false] [.code B77]) [(60, .ptr 0 0 0), (61, .ptr 0 0 0), (62, .ptr 0 0 1), (63, .d (.list 2 (map nmD b.now))), (64, .d (.str x))] ?_
  refine .cd (cgo 77 [false, false, false, false] [.code B77]) F102 (@spec_102 (b.now) (x) (by omega)) ?_
  refine .seg 76 [0, 10, 12] (T' := cgo 153 [false, false, false, false, false, false, false, false, true] [.code B77]) (tm' := mk 214 [(0, .ptr 0 0 0), (10, .d (.int .i64 0)), (12, .ptr 3 0 0)]) (σ' := [.cells [.row 1, .d (.list 2 (map nmD b.now)), .d (.list 2 (map nmD b.now)), .ex 3 [], .d (.int .i64 b.quota), .d (.bool b.full), .d (.bool b.off), .d (.int .i64 b.stop), .d (.int .i64 b.calls)], .row 2 (map fileD b.files) false, .row 3 (map chD b.ch) false, .cells [.d (.str (ByteArray.mk #[])), .d (.str (ByteArray.mk #[])), .d (.int .i64 0)]]) (by kernel_rfl) ?_
  refine .virtX 0 3 3 rfl rfl ?_
  refine .raises [1, 4] ?_
  refine .kp [10] ?_
  refine .subM [0, 1, 4] (mk 214 [(10, .d (.int .i64 0))]) (SR { b with sure := b.now, ch := [] } true) none [] ⟨rfl, by kernel_rfl, by kernel_rfl⟩ (by kernel_rfl) ⟨Nat.le_of_ble_eq_true (by kernel_rfl), by kernel_rfl⟩ (by kernel_rfl) ⟨by kernel_rfl, by kernel_rfl⟩ ⟨rfl, rfl⟩ ?_
  refine .retH F77 (v := V.d (D.int IntKind.i64 0)) (by kernel_rfl) (by kernel_rfl) ?_
  exact ⟨rfl, rfl⟩
end Go.Proofs.Ytoelkgbeefoplaa
namespace Go.Proofs.Ytoelkgbeefoplaa
open Go Go.Br Go.Proofs
open List (map)
def Rk.num (b : Rk) (x : ByteArray) : Nat := (atR b.now x).toNat
theorem kind2 (b : Rk) (N : Nat) (h : b.Ok N) (x y : ByteArray) (hx : x.size < 1000000000) (v4 : V) (hm : mayName x = true) (h0 : 0 ≤ atR b.now x) (f : List UInt8 × Nat) (hf : b.files[(atR b.now x).toNat]? = some f) :
    AW Try.prog 77 none 3 (cgo 47 [false, false, false] [Item.code B77]) (mk 214 [(0, .ptr 0 0 0), (1, .d (.int .i64 2)), (2, .d (.str x)), (3, .d (.str y)), (4, v4), (10, .d (.int .i64 0))]) (SR b false) [] fun r σ' => r = .ret (.d (.int .i64 0)) ∧ σ' = SR { b with files := b.files.set (atR b.now x).toNat (f.1, f.1.length) } true := by
  have hnl := h.nl
  have hnb := h.nb
  have hfl := h.fl
  have hfs := (h.fs f (List.mem_of_getElem? hf)).2
  refine .sg0 7 [0, 1, 2, 3, 4, 10, 44, 45, 46, 47] (cgo 54 [false, false, false] [.code B77]) [(44, .d (.int .i64 2)), (45, .d (.bool true)), (46, .d (.bool true)), (47, .d (.str x))] ?_
  refine .cd (cgo 55 [false, false, false] [.code B77]) F29 (@spec_29 (x) (by omega)) ?_
  refine .sg0 3 [0, 1, 2, 3, 4, 10, 44, 45, 46, 47, 48, 49, 50, 51] (cgo 58 [false, false, false] [.code B77]) [(49, .d (.bool !mayName x)), (50, .d (.bool !mayName x)), (51, .d (.bool !mayName x))] ?_
  rcases Bool.eq_false_or_eq_true (!mayName x) with h1 | h1
  · rw [h1]
    simp only [bsX] at h1
    simp_all
  · rw [h1]
    simp only [bsX] at h1
    refine .sg0 18 [0, 1, 2, 3, 4, 10, 60, 61, 62, 63, 64] (cgo 76 [false, false, false, false] [.code B77]) [(60, .ptr 0 0 0), (61, .ptr 0 0 0), (62, .ptr 0 0 1), (63, .d (.list 2 (map nmD b.now))), (64, .d (.str x))] ?_
    refine .cd (cgo 77 [false, false, false, false] [.code B77]) F102 (@spec_102 (b.now) (x) (by omega)) ?_
    refine .sg0 16 [0, 1, 2, 3, 4, 10, 11, 75] (cgo 93 [false, false, false, false] [.code B77]) [(11, .d (.int .i64 (atR b.now x))), (75, .d (.bool (decide (atR b.now x < 0))))] ?_
    refine .if' (decide (atR b.now x < 0)) (cgo 94 [false, false, false, false, true] [.code B77]) (cgo 94 [false, false, false, false, false] [.code B77]) (fun h2 => ?_) (fun h2 => ?_)
    · simp only [bsX] at h2
      omega
    · simp only [bsX] at h2
      refine .sg 32 [0, 10, 11, 12] (cgo 126 [false, false, false, false, false, false, false, true] [.code B77]) [(12, .ptr 3 0 0)] [(3, .cells [.d (.str (ByteArray.mk #[])), .d (.str (ByteArray.mk #[])), .d (.int .i64 0)])] ?_
      refine .dr (cgo 127 [false, false, false, false, false, false, false, true] [.code B77]) [(160, .ptr 0 0 0), (161, .ptr 0 0 0), (162, .ptr 0 0 0), (163, .row 1), (164, .d (.int .i64 (atR b.now x))), (165, .ptr 0 0 0), (166, .ptr 0 0 0), (167, .ptr 0 0 0), (168, .row 1), (169, .d (.int .i64 (atR b.now x))), (170, .ptr 1 (atR b.now x).toNat 0), (171, .ptr 1 (atR b.now x).toNat 0), (172, .d (.list 1 (map u8 f.fst))), (173, .d (.int .i64 (↑(map u8 f.fst).length : Int))), (174, .ptr 1 (atR b.now x).toNat 0), (175, .ptr 1 (atR b.now x).toNat 1)] [(1, .row 2 ((map fileD b.files).set (atR b.now x).toNat (D.agg [D.list 1 (map u8 f.fst), D.int IntKind.i64 (↑(map u8 f.fst).length : Int)])) false)] (fun kz L hL => ?_) ?_
      · refine ⟨[⟨[], [], [], [0], [0], [], true, false⟩, ⟨[], [], [], [0], [0], [0], true, false⟩, ⟨[], [], [], [0], [0], [0], true, false⟩, ⟨[0], [], [], [1], [0, 1, 2], [], true, false⟩, nF, ⟨[], [], [], [0], [0], [], true, false⟩, ⟨[], [], [], [0], [0], [0], true, false⟩, ⟨[], [], [], [0], [0], [0], true, false⟩, ⟨[0], [], [], [1], [0, 1, 2], [], true, false⟩, nF, ⟨[1], [], [], [1], [1], [], true, false⟩, ⟨[], [], [], [1], [1], [1], true, false⟩, ⟨[1], [], [], [], [1], [], true, false⟩, nF, ⟨[1], [], [], [1], [1], [], true, false⟩, ⟨[], [], [], [1], [1], [1], true, false⟩, ⟨[1], [1], [], [], [1], [], true, false⟩], run_amongF hL _ [] [0, 1, 2, 3, 4, 5, 6, 7, 8, 9, 10, 11, 12, 13, 14, 15, 16] (by intro p hp; cases hp) (by kernel_rfl) ?_⟩
        refine Run.ap [0, 1, 2, 3, 4, 5, 6, 7, 8, 9] [(160, .ptr 0 0 0), (161, .ptr 0 0 0), (162, .ptr 0 0 0), (163, .row 1), (164, .d (.int .i64 (atR b.now x))), (165, .ptr 0 0 0), (166, .ptr 0 0 0), (167, .ptr 0 0 0), (168, .row 1), (169, .d (.int .i64 (atR b.now x)))] [] ?_
        refine Run.lk 10 (.ptr 1 (atR b.now x).toNat 0) [(.tmp 168), (.tmp 169)] (fun tm' σ2 hv hr => ixRow_ok (t := 68) (x := (.tmp 168)) (i := (.tmp 169)) (k := IntKind.i64) (n := atR b.now x) (l := 1) (sz := 2) (xs := map fileD b.files) (mv := false) (by kernel_rfl) (evv hv) (evv hv) (atr hr) (by kernel_rfl) (by assumption) (by grind)) ?_
        refine Run.ap [11] [(171, .ptr 1 (atR b.now x).toNat 0)] [] ?_
        refine Run.lk 12 (.d (.list 1 (map u8 f.fst))) [(.tmp 171)] (fun tm' σ2 hv hr => ldRow_ok (t := 22) (x := (.tmp 171)) (l := 1) (i := (atR b.now x).toNat) (s := 0) (sz := 2) (xs := map fileD b.files) (mv := false) (d := fileD f) (v := .d (.list 1 (map u8 f.fst))) (by kernel_rfl) (evv hv) (atr hr) (map_get hf) (by kernel_rfl)) ?_
        refine Run.ap [13] [(173, .d (.int .i64 (↑(map u8 f.fst).length : Int)))] [] ?_
        refine Run.lk 14 (.ptr 1 (atR b.now x).toNat 0) [(.tmp 163), (.tmp 164)] (fun tm' σ2 hv hr => ixRow_ok (t := 68) (x := (.tmp 163)) (i := (.tmp 164)) (k := IntKind.i64) (n := atR b.now x) (l := 1) (sz := 2) (xs := map fileD b.files) (mv := false) (by kernel_rfl) (evv hv) (evv hv) (atr hr) (by kernel_rfl) (by assumption) (by grind)) ?_
        refine Run.ap [15] [(175, .ptr 1 (atR b.now x).toNat 1)] [] ?_
        refine Run.one (StepF.sets (o := ((drawOf (cgo 126 [false, false, false, false, false, false, false, true] [.code B77]))[16]?).getD default) (v := .undef) [(.tmp 175), (.tmp 173)] 1 (.row 2 ((map fileD b.files).set (atR b.now x).toNat (D.agg [D.list 1 (map u8 f.fst), D.int IntKind.i64 (↑(map u8 f.fst).length : Int)])) false) (by kernel_rfl) rfl (by kernel_rfl) (by kernel_rfl) (by kernel_rfl) (by kernel_rfl) (by kernel_rfl) (fun tm' σ2 hv hr => stRow_ok (t := 3) (x := (.tmp 175)) (y := (.tmp 173)) (l := 1) (i := (atR b.now x).toNat) (s := 1) (sz := 2) (xs := map fileD b.files) (mv := false) (d := fileD f) (d' := D.agg [D.list 1 (map u8 f.fst), D.int IntKind.i64 (↑(map u8 f.fst).length : Int)]) (by kernel_rfl) (evv hv) (atr hr) (map_get hf) (by unfold storeE; rw [hv _ (by simp)]; kernel_rfl))) ?_
        exact Run.fin
      refine .sg0 4 [0, 10, 12] (cgo 131 [false, false, false, false, false, false, false, true] [.code B77]) [] ?_
      simp only [List.length_map]
      refine .raises [1, 2] ?_
      refine .kp [10] ?_
      refine .su [0, 1, 2] (mk 214 [(10, .d (.int .i64 0))]) [.cells [.row 1, .d (.list 2 (map nmD b.now)), .d (.list 2 (map nmD b.sure)), .row 2, .d (.int .i64 b.quota), .d (.bool b.full), .d (.bool b.off), .d (.int .i64 b.stop), .d (.int .i64 b.calls)], .row 2 ((map fileD b.files).set (atR b.now x).toNat (D.agg [D.list 1 (map u8 f.fst), D.int IntKind.i64 (↑f.fst.length : Int)])) true, .row 3 (map chD b.ch) true] ?_
      refine .retH F77 (v := V.d (D.int IntKind.i64 0)) (by kernel_rfl) (by kernel_rfl) ?_
      exact ⟨rfl, by simp [SR, fileD, bsD, i64, List.map_set]⟩
end Go.Proofs.Ytoelkgbeefoplaa
namespace Go.Proofs.Ytoelkgbeefoplaa
open Go Go.Br Go.Proofs
open List (map)
theorem tail77 (b : Rk) (N : Nat) (h : b.Ok N) (c : ByteArray × ByteArray × Int) :
    AW Try.prog 77 none 3 (cgo 147 [false, false, false, false, false, false, false, false, false, true] [Item.code B77]) (mk 214 [(0, .ptr 0 0 0), (10, .d (.int .i64 0)), (12, .ptr 3 0 0)]) ([.cells [.row 1, .d (.list 2 (b.now.map nmD)), .d (.list 2 (b.sure.map nmD)), .row 2, .d (.int .i64 b.quota), .d (.bool b.full), .d (.bool b.off), .d (.int .i64 b.stop), .d (.int .i64 b.calls)],
      .row 2 (b.files.map fileD) true, .row 3 (b.ch.map chD) true, .cells [.d (.str c.1), .d (.str c.2.1), .d (.int .i64 c.2.2)]]) [] fun r σ' => r = .ret (.d (.int .i64 0)) ∧ σ' = SR { b with now := applyR b.now c, ch := b.ch ++ [c] } true := by
  have hnl := h.nl
  have hnb := h.nb
  have hcl := h.chl
  refine .dr (cgo 148 [false, false, false, false, false, false, false, false, false, true] [.code B77]) [(195, .ptr 0 0 0), (196, .ptr 0 0 0), (197, .ptr 0 0 0), (198, .ptr 0 0 1), (199, .d (.list 2 (map nmD b.now))), (200, .d (.agg [D.str c.fst, D.str c.snd.fst, D.int IntKind.i64 c.snd.snd])), (201, .d (.list 2 (map nmD (applyR b.now c)))), (202, .ptr 0 0 0), (203, .ptr 0 0 1)] [(0, .cells [.row 1, .d (.list 2 (map nmD (applyR b.now c))), .d (.list 2 (map nmD b.sure)), .row 2, .d (.int .i64 b.quota), .d (.bool b.full), .d (.bool b.off), .d (.int .i64 b.stop), .d (.int .i64 b.calls)])] (fun kz L hL => ?_) ?_
  · refine ⟨[⟨[], [], [], [0], [0], [], true, false⟩, ⟨[], [], [], [0], [0], [], true, false⟩, ⟨[], [], [], [0], [0], [0], true, false⟩, ⟨[], [], [], [0], [0], [0], true, false⟩, ⟨[0], [], [], [], [0, 1, 2], [], true, false⟩, ⟨[3], [], [], [], [3], [], true, false⟩, nF, ⟨[], [], [], [0], [0], [0], true, false⟩, ⟨[], [], [], [0], [0], [0], true, false⟩, ⟨[0], [0], [], [1, 2], [0, 1, 2], [], true, false⟩], run_amongF hL _ [] [0, 1, 2, 3, 4, 5, 6, 7, 8, 9] (by intro p hp; cases hp) (by kernel_rfl) ?_⟩
    refine Run.ap [0, 1, 2, 3, 4, 5] [(195, .ptr 0 0 0), (196, .ptr 0 0 0), (197, .ptr 0 0 0), (198, .ptr 0 0 1), (199, .d (.list 2 (map nmD b.now))), (200, .d (.agg [D.str c.fst, D.str c.snd.fst, D.int IntKind.i64 c.snd.snd]))] [] ?_
    refine Run.one (StepF.data (o := ((drawOf (cgo 147 [false, false, false, false, false, false, false, false, false, true] [.code B77]))[6]?).getD default) (v := .d (.list 2 (map nmD (applyR b.now c)))) (by kernel_rfl) rfl (by kernel_rfl) (by kernel_rfl) (by kernel_rfl) (fun s => sem_data0 (x := (.func 103)) (args := #[(.tmp 199), (.tmp 200)]) (ts := #[69, 157]) (first := []) (cap := []) (ds := [.d (.list 2 (map nmD b.now)), .d (.agg [D.str c.fst, D.str c.snd.fst, D.int IntKind.i64 c.snd.snd])]) (v := .d (.list 2 (map nmD (applyR b.now c)))) F103 (@spec_103 (b.now) (c) (by omega)) (by kernel_rfl) (by kernel_rfl) (by kernel_rfl) (by kernel_rfl) (by kernel_rfl) (by kernel_rfl) _)) ?_
    exact Run.fin
  refine .sg0 1 [0, 10, 12] (cgo 149 [false, false, false, false, false, false, false, false, false, true] [.code B77]) [] ?_
  refine .newVirt 3 ?_
  refine .dr (cgo 150 [false, false, false, false, false, false, false, false, false, true] [.code B77]) [(204, .ptr 0 0 0), (205, .ptr 0 0 0), (206, .ptr 0 0 0), (207, .ptr 0 0 3), (209, .d (.agg [D.str c.fst, D.str c.snd.fst, D.int IntKind.i64 c.snd.snd])), (210, .row 4), (211, .row 2), (212, .ptr 0 0 0), (213, .ptr 0 0 3)] [(2, .row 3 (map chD b.ch ++ [D.agg [D.str c.fst, D.str c.snd.fst, D.int IntKind.i64 c.snd.snd]]) true), (4, .row 3 [D.agg [D.str c.fst, D.str c.snd.fst, D.int IntKind.i64 c.snd.snd]] true)] (fun kz L hL => ?_) ?_
  · refine ⟨[⟨[], [], [], [0], [0], [], true, false⟩, ⟨[], [], [], [0], [0], [], true, false⟩, ⟨[], [], [], [0], [0], [0], true, false⟩, ⟨[], [], [], [0], [0], [0], true, false⟩, ⟨[0], [], [], [2], [0, 1, 2], [], true, false⟩, ⟨[3], [], [], [], [3], [], true, false⟩, ⟨[4], [4], [4], [4], [], [], true, false⟩, ⟨[2, 4], [2], [2], [2], [2, 4], [], true, false⟩, ⟨[], [], [], [0], [0], [0], true, false⟩, ⟨[], [], [], [0], [0], [0], true, false⟩, ⟨[0], [0], [], [1, 2], [0, 2, 1], [], false, false⟩], run_amongF hL _ [] [0, 1, 2, 3, 4, 5, 6, 7, 8, 9, 10] (by intro p hp; cases hp) (by kernel_rfl) ?_⟩
    refine Run.ap [0, 1, 2, 3, 4, 5] [(204, .ptr 0 0 0), (205, .ptr 0 0 0), (206, .ptr 0 0 0), (207, .ptr 0 0 3), (208, .row 2), (209, .d (.agg [D.str c.fst, D.str c.snd.fst, D.int IntKind.i64 c.snd.snd]))] [] ?_
    refine Run.one (StepF.build (o := ((drawOf (cgo 149 [false, false, false, false, false, false, false, false, false, true] [.code B77]))[6]?).getD default) (t := 70) (len := 1) (parts := #[(0, (.tmp 209))]) (l := 4) (ds := [D.agg [D.str c.fst, D.str c.snd.fst, D.int IntKind.i64 c.snd.snd]]) (sz := 3) (mv := false) (by kernel_rfl) rfl (by kernel_rfl) (by kernel_rfl) (by kernel_rfl) (by kernel_rfl) (by kernel_rfl) (by kernel_rfl) (by kernel_rfl) (by kernel_rfl)) ?_
    refine Run.one (StepF.moves (o := ((drawOf (cgo 149 [false, false, false, false, false, false, false, false, false, true] [.code B77]))[7]?).getD default) (v := .row 2) [(.tmp 208), (.tmp 210)] 2 (.row 3 (map chD b.ch ++ [D.agg [D.str c.fst, D.str c.snd.fst, D.int IntKind.i64 c.snd.snd]]) true) (by kernel_rfl) rfl (by kernel_rfl) (by kernel_rfl) (by kernel_rfl) (by kernel_rfl) (by kernel_rfl) (by kernel_rfl) (fun tm' σ2 hv hr => appRow_ok (s := (.tmp 208)) (x := (.tmp 210)) (t := 70) (t2 := 70) (sz := 3) (by' := 40) (ys := [D.agg [D.str c.fst, D.str c.snd.fst, D.int IntKind.i64 c.snd.snd]]) (l := 2) (xs := map chD b.ch) (mv := true) (by kernel_rfl) (evv hv) (atr hr) (by rw [hv _ (by simp)]; exact (cont_at fun l hl => hr l (subB_in (by kernel_rfl) hl)).trans (by kernel_rfl)) (by kernel_rfl) (by kernel_rfl) (by simp <;> omega) (by first | (simp [maxLen] <;> omega) | omega))) ?_
    exact Run.fin
  refine .sg0 4 [10] (cgo 154 [false, false, false, false, false, false, false, false, false, true] [.code B77]) [] ?_
  refine .kp [10] ?_
  refine .su [0, 1, 2] (mk 214 [(10, .d (.int .i64 0))]) [.cells [.row 1, .d (.list 2 (map nmD (applyR b.now c))), .d (.list 2 (map nmD b.sure)), .row 2, .d (.int .i64 b.quota), .d (.bool b.full), .d (.bool b.off), .d (.int .i64 b.stop), .d (.int .i64 b.calls)], .row 2 (map fileD b.files) true, .row 3 (map chD b.ch ++ [D.agg [D.str c.fst, D.str c.snd.fst, D.int IntKind.i64 c.snd.snd]]) true] ?_
  refine .retH F77 (v := V.d (D.int IntKind.i64 0)) (by kernel_rfl) (by kernel_rfl) ?_
  exact ⟨rfl, by simp [SR, chD]⟩
theorem kind5 (b : Rk) (N : Nat) (h : b.Ok N) (x y : ByteArray) (hx : x.size < 1000000000) (v4 : V) (hm : mayName x = true) (h0 : 0 ≤ atR b.now x) :
    AW Try.prog 77 none 3 (cgo 47 [false, false, false] [Item.code B77]) (mk 214 [(0, .ptr 0 0 0), (1, .d (.int .i64 5)), (2, .d (.str x)), (3, .d (.str y)), (4, v4), (10, .d (.int .i64 0))]) (SR b false) [] fun r σ' => r = .ret (.d (.int .i64 0)) ∧ σ' = SR { b with now := applyR b.now (x, noName, 0), ch := b.ch ++ [(x, noName, 0)] } true := by
  have hnl := h.nl
  have hnb := h.nb
  have hfl := h.fl
  have hfs := h.fs
  refine .raises [1, 2] ?_
  have hend := tail77 b N h (x, noName, 0)
  clear h hfs
  refine .sg0 7 [0, 1, 2, 3, 4, 10, 44, 45, 46, 47] (cgo 54 [false, false, false] [.code B77]) [(44, .d (.int .i64 5)), (45, .d (.bool true)), (46, .d (.bool true)), (47, .d (.str x))] ?_
  refine .cd (cgo 55 [false, false, false] [.code B77]) F29 (@spec_29 (x) (by omega)) ?_
  refine .sg0 3 [0, 1, 2, 3, 4, 10, 44, 45, 46, 47, 48, 49, 50, 51] (cgo 58 [false, false, false] [.code B77]) [(49, .d (.bool !mayName x)), (50, .d (.bool !mayName x)), (51, .d (.bool !mayName x))] ?_
  rcases Bool.eq_false_or_eq_true (!mayName x) with h1 | h1
  · rw [h1]
    simp only [bsX] at h1
    simp_all
  · rw [h1]
    simp only [bsX] at h1
    refine .sg0 18 [0, 1, 2, 3, 4, 10, 60, 61, 62, 63, 64] (cgo 76 [false, false, false, false] [.code B77]) [(60, .ptr 0 0 0), (61, .ptr 0 0 0), (62, .ptr 0 0 1), (63, .d (.list 2 (map nmD b.now))), (64, .d (.str x))] ?_
    refine .cd (cgo 77 [false, false, false, false] [.code B77]) F102 (@spec_102 (b.now) (x) (by omega)) ?_
    refine .sg0 16 [0, 1, 2, 3, 4, 10, 11, 75] (cgo 93 [false, false, false, false] [.code B77]) [(11, .d (.int .i64 (atR b.now x))), (75, .d (.bool (decide (atR b.now x < 0))))] ?_
    refine .if' (decide (atR b.now x < 0)) (cgo 94 [false, false, false, false, true] [.code B77]) (cgo 94 [false, false, false, false, false] [.code B77]) (fun h2 => ?_) (fun h2 => ?_)
    · simp only [bsX] at h2
      omega
    · simp only [bsX] at h2
      refine .sg 50 [0, 10, 12] (cgo 144 [false, false, false, false, false, false, false, false, false, false] [.code B77]) [(12, .ptr 3 0 0)] [(3, .cells [.d (.str x), .d (.str (ByteArray.mk #[])), .d (.int .i64 0)])] ?_
      exact .goes [0, 10, 12] (by kernel_rfl) (by kernel_rfl) (by kernel_rfl) hend
theorem kind4 (b : Rk) (N : Nat) (h : b.Ok N) (x y : ByteArray) (hx : x.size < 1000000000) (hy : y.size < 1000000000) (v4 : V) (hm : mayName x = true) (hm2 : mayName y = true) (h0 : 0 ≤ atR b.now x) :
    AW Try.prog 77 none 3 (cgo 47 [false, false, false] [Item.code B77]) (mk 214 [(0, .ptr 0 0 0), (1, .d (.int .i64 4)), (2, .d (.str x)), (3, .d (.str y)), (4, v4), (10, .d (.int .i64 0))]) (SR b false) [] fun r σ' => r = .ret (.d (.int .i64 0)) ∧ σ' = SR { b with now := applyR b.now (x, y, atR b.now x), ch := b.ch ++ [(x, y, atR b.now x)] } true := by
  have hnl := h.nl
  have hnb := h.nb
  have hfl := h.fl
  have hfs := h.fs
  refine .raises [1, 2] ?_
  have hend := tail77 b N h (x, y, atR b.now x)
  clear h hfs
  refine .sg0 7 [0, 1, 2, 3, 4, 10, 44, 45, 46, 47] (cgo 54 [false, false, false] [.code B77]) [(44, .d (.int .i64 4)), (45, .d (.bool true)), (46, .d (.bool true)), (47, .d (.str x))] ?_
  refine .cd (cgo 55 [false, false, false] [.code B77]) F29 (@spec_29 (x) (by omega)) ?_
  refine .sg0 3 [0, 1, 2, 3, 4, 10, 44, 45, 46, 47, 48, 49, 50, 51] (cgo 58 [false, false, false] [.code B77]) [(49, .d (.bool !mayName x)), (50, .d (.bool !mayName x)), (51, .d (.bool !mayName x))] ?_
  rcases Bool.eq_false_or_eq_true (!mayName x) with h1 | h1
  · rw [h1]
    simp only [bsX] at h1
    simp_all
  · rw [h1]
    simp only [bsX] at h1
    refine .sg0 4 [0, 1, 2, 3, 4, 10, 44, 45, 46, 47, 48, 49, 50, 51, 52, 53, 54, 55] (cgo 62 [false, false, false] [.code B77]) [(52, .d (.int .i64 4)), (53, .d (.bool true)), (54, .d (.bool true)), (55, .d (.str y))] ?_
    refine .cd (cgo 63 [false, false, false] [.code B77]) F29 (@spec_29 (y) (by omega)) ?_
    refine .sg0 4 [0, 1, 2, 3, 4, 10, 59] (cgo 67 [false, false, false] [.code B77]) [(59, .d (.bool !mayName y))] ?_
    refine .if' (!mayName y) (cgo 68 [false, false, false, true] [.code B77]) (cgo 68 [false, false, false, false] [.code B77]) (fun h2 => ?_) (fun h2 => ?_)
    · simp only [bsX] at h2
      simp_all
    · simp only [bsX] at h2
      refine .sg0 8 [0, 1, 2, 3, 4, 10, 60, 61, 62, 63, 64] (cgo 76 [false, false, false, false] [.code B77]) [(60, .ptr 0 0 0), (61, .ptr 0 0 0), (62, .ptr 0 0 1), (63, .d (.list 2 (map nmD b.now))), (64, .d (.str x))] ?_
      refine .cd (cgo 77 [false, false, false, false] [.code B77]) F102 (@spec_102 (b.now) (x) (by omega)) ?_
      refine .sg0 16 [0, 1, 2, 3, 4, 10, 11, 75] (cgo 93 [false, false, false, false] [.code B77]) [(11, .d (.int .i64 (atR b.now x))), (75, .d (.bool (decide (atR b.now x < 0))))] ?_
      refine .if' (decide (atR b.now x < 0)) (cgo 94 [false, false, false, false, true] [.code B77]) (cgo 94 [false, false, false, false, false] [.code B77]) (fun h3 => ?_) (fun h3 => ?_)
      · simp only [bsX] at h3
        omega
      · simp only [bsX] at h3
        refine .sg 53 [0, 10, 12] (cgo 147 [false, false, false, false, false, false, false, false, false, true] [.code B77]) [(12, .ptr 3 0 0)] [(3, .cells [.d (.str x), .d (.str y), .d (.int .i64 (atR b.now x))])] ?_
        exact .goes [0, 10, 12] (by kernel_rfl) (by kernel_rfl) (by kernel_rfl) hend
end Go.Proofs.Ytoelkgbeefoplaa
namespace Go.Proofs.Ytoelkgbeefoplaa
open Go Go.Br Go.Proofs
open List (map)
theorem Rk.file_ok {b : Rk} {N : Nat} (h : b.Ok N) (hN : N + 1 ≤ 50000) : ({ b with files := b.files ++ [([], 0)] } : Rk).Ok (N + 1) := by
  have := h.fl; have := h.nl; have := h.chl; have := h.cl
  refine ⟨fun p hp => ?_, fun f hf => ?_, by simp; omega, by show b.now.length ≤ _; omega, by show b.ch.length ≤ _; omega, h.c0, by show b.calls ≤ _; omega, h.s0, h.s1, h.q0, h.q1, hN⟩
  · have := h.nn p hp
    rw [List.length_append]
    exact ⟨this.1, by omega⟩
  · rcases List.mem_append.1 hf with h1 | h1
    · exact h.fs f h1
    · rw [List.mem_singleton.1 h1]; exact ⟨Nat.le_refl _, by simp⟩
theorem kind0 (b : Rk) (N : Nat) (h : b.Ok N) (hN : N + 1 ≤ 50000) (x y : ByteArray) (hx : x.size < 1000000000) (v4 : V) (hm : mayName x = true) (h0 : 0 ≤ atR b.now x ∨ (b.now.length : Int) < 1024) :
    AW Try.prog 77 none 3 (cgo 47 [false, false, false] [Item.code B77]) (mk 214 [(0, .ptr 0 0 0), (1, .d (.int .i64 0)), (2, .d (.str x)), (3, .d (.str y)), (4, v4), (10, .d (.int .i64 0))]) (SR b false) [] fun r σ' => r = .ret (.d (.int .i64 0)) ∧ σ' = SR { b with files := b.files ++ [([], 0)], now := applyR b.now (noName, x, ((b.files.length : Nat) : Int)), ch := b.ch ++ [(noName, x, ((b.files.length : Nat) : Int))] } true := by
  have hnl := h.nl
  have hnb := h.nb
  have hfl := h.fl
  have hfs := h.fs
  refine .raises [1, 2] ?_
  have hend := tail77 { b with files := b.files ++ [([], 0)] } (N + 1) (Rk.file_ok h hN) (noName, x, ((b.files.length : Nat) : Int))
  have e1 : IntKind.i64.wrap (((List.map fileD b.files ++ [D.agg [D.list 1 [], D.int IntKind.i64 0]]).length : Int) - 1) = (b.files.length : Nat) := by
    rw [wrap_i64 (by simp <;> omega) (by simp <;> omega)]
    simp
  have e2 : List.map fileD b.files ++ [D.agg [D.list 1 [], D.int IntKind.i64 0]] = (b.files ++ [([], 0)]).map fileD := by simp [fileD, bsD, i64]
  clear h hfs
  refine .sg0 7 [0, 1, 2, 3, 4, 10, 44, 45, 46, 47] (cgo 54 [false, false, false] [.code B77]) [(44, .d (.int .i64 0)), (45, .d (.bool true)), (46, .d (.bool true)), (47, .d (.str x))] ?_
  refine .cd (cgo 55 [false, false, false] [.code B77]) F29 (@spec_29 (x) (by omega)) ?_
  refine .sg0 3 [0, 1, 2, 3, 4, 10, 44, 45, 46, 47, 48, 49, 50, 51] (cgo 58 [false, false, false] [.code B77]) [(49, .d (.bool !mayName x)), (50, .d (.bool !mayName x)), (51, .d (.bool !mayName x))] ?_
  rcases Bool.eq_false_or_eq_true (!mayName x) with h1 | h1
  · rw [h1]
    simp only [bsX] at h1
    simp_all
  · rw [h1]
    simp only [bsX] at h1
    refine .sg0 18 [0, 1, 2, 3, 4, 10, 60, 61, 62, 63, 64] (cgo 76 [false, false, false, false] [.code B77]) [(60, .ptr 0 0 0), (61, .ptr 0 0 0), (62, .ptr 0 0 1), (63, .d (.list 2 (map nmD b.now))), (64, .d (.str x))] ?_
    refine .cd (cgo 77 [false, false, false, false] [.code B77]) F102 (@spec_102 (b.now) (x) (by omega)) ?_
    refine .sg 42 [0, 2, 10, 11, 12, 82, 83, 84] (cgo 119 [false, false, false, false, false, true] [.code B77]) [(11, .d (.int .i64 (atR b.now x))), (12, .ptr 3 0 0), (82, .d (.int .i64 (atR b.now x))), (83, .d (.bool (decide (atR b.now x < 0)))), (84, .d (.bool (decide (atR b.now x < 0))))] [(3, .cells [.d (.str (ByteArray.mk #[])), .d (.str (ByteArray.mk #[])), .d (.int .i64 0)])] ?_
    rcases Bool.eq_false_or_eq_true (decide (atR b.now x < 0)) with h2 | h2
    · rw [h2]
      simp only [bsX] at h2
      refine .sg0 8 [0, 2, 10, 12, 91] (cgo 127 [false, false, false, false, false, true] [.code B77]) [(91, .d (.bool (decide ((↑(map nmD b.now).length : Int) ≥ 1024))))] ?_
      simp only [List.length_map]
      refine .if' (decide ((↑b.now.length : Int) ≥ 1024)) (cgo 128 [false, false, false, false, false, true, true] [.code B77]) (cgo 128 [false, false, false, false, false, true, false] [.code B77]) (fun h3 => ?_) (fun h3 => ?_)
      · simp only [bsX] at h3
        omega
      · simp only [bsX] at h3
        refine .sg 10 [0, 2, 10, 12, 92, 93, 94, 95, 96, 97, 98] (cgo 138 [false, false, false, false, false, true, false] [.code B77]) [(92, .ptr 0 0 0), (93, .ptr 0 0 0), (94, .ptr 0 0 0), (95, .ptr 0 0 0), (96, .row 1), (97, .agg [.ex 1 [], .d (.int .i64 0)]), (98, .row 4)] [(4, .row 2 [D.agg [D.list 1 [], D.int IntKind.i64 0]] false)] ?_
        refine .op' (cgo 139 [false, false, false, false, false, true, false] [.code B77]) (appRow_ok (s := (.tmp 96)) (x := (.tmp 98)) (t := 68) (t2 := 68) (sz := 2) (by' := 32) (ys := [D.agg [D.list 1 [], D.int IntKind.i64 0]]) (l := 1) (xs := map fileD b.files) (mv := true) (by kernel_rfl) (by kernel_rfl) (by kernel_rfl) (by kernel_rfl) (by kernel_rfl) (by kernel_rfl) (by simp <;> omega) (by first | (simp [maxLen] <;> omega) | omega)) ?_
        refine .sg 18 [0, 10, 12] (cgo 157 [false, false, false, false, false, true, false] [.code B77]) [] [(0, .cells [.row 1, .d (.list 2 (map nmD b.now)), .d (.list 2 (map nmD b.sure)), .row 2, .d (.int .i64 b.quota), .d (.bool b.full), .d (.bool b.off), .d (.int .i64 b.stop), .d (.int .i64 b.calls)]), (3, .cells [.d (.str (ByteArray.mk #[])), .d (.str x), .d (.int .i64 (IntKind.i64.wrap ((↑(map fileD b.files ++ [D.agg [D.list 1 [], D.int IntKind.i64 0]]).length : Int) - 1)))])] ?_
        rw [e1, e2]
        refine .su [0, 1, 2, 3] (mk 214 [(0, .ptr 0 0 0), (10, .d (.int .i64 0)), (12, .ptr 3 0 0)]) [.cells [.row 1, .d (.list 2 (b.now.map nmD)), .d (.list 2 (b.sure.map nmD)), .row 2, .d (.int .i64 b.quota), .d (.bool b.full), .d (.bool b.off), .d (.int .i64 b.stop), .d (.int .i64 b.calls)],
          .row 2 ((b.files ++ [([], 0)]).map fileD) true, .row 3 (b.ch.map chD) true, .cells [.d (.str noName), .d (.str x), .d (.int .i64 (b.files.length : Nat))]] ?_
        exact .goes [0, 10, 12] (by kernel_rfl) (by kernel_rfl) (by kernel_rfl) hend
    · rw [h2]
      simp only [bsX] at h2
      refine .sg 19 [0, 2, 10, 12, 92, 93, 94, 95, 96, 97, 98] (cgo 138 [false, false, false, false, false, true, false] [.code B77]) [(92, .ptr 0 0 0), (93, .ptr 0 0 0), (94, .ptr 0 0 0), (95, .ptr 0 0 0), (96, .row 1), (97, .agg [.ex 1 [], .d (.int .i64 0)]), (98, .row 4)] [(4, .row 2 [D.agg [D.list 1 [], D.int IntKind.i64 0]] false)] ?_
      refine .op' (cgo 139 [false, false, false, false, false, true, false] [.code B77]) (appRow_ok (s := (.tmp 96)) (x := (.tmp 98)) (t := 68) (t2 := 68) (sz := 2) (by' := 32) (ys := [D.agg [D.list 1 [], D.int IntKind.i64 0]]) (l := 1) (xs := map fileD b.files) (mv := true) (by kernel_rfl) (by kernel_rfl) (by kernel_rfl) (by kernel_rfl) (by kernel_rfl) (by kernel_rfl) (by simp <;> omega) (by first | (simp [maxLen] <;> omega) | omega)) ?_
      refine .sg 18 [0, 10, 12] (cgo 157 [false, false, false, false, false, true, false] [.code B77]) [] [(0, .cells [.row 1, .d (.list 2 (map nmD b.now)), .d (.list 2 (map nmD b.sure)), .row 2, .d (.int .i64 b.quota), .d (.bool b.full), .d (.bool b.off), .d (.int .i64 b.stop), .d (.int .i64 b.calls)]), (3, .cells [.d (.str (ByteArray.mk #[])), .d (.str x), .d (.int .i64 (IntKind.i64.wrap ((↑(map fileD b.files ++ [D.agg [D.list 1 [], D.int IntKind.i64 0]]).length : Int) - 1)))])] ?_
      rw [e1, e2]
      refine .su [0, 1, 2, 3] (mk 214 [(0, .ptr 0 0 0), (10, .d (.int .i64 0)), (12, .ptr 3 0 0)]) [.cells [.row 1, .d (.list 2 (b.now.map nmD)), .d (.list 2 (b.sure.map nmD)), .row 2, .d (.int .i64 b.quota), .d (.bool b.full), .d (.bool b.off), .d (.int .i64 b.stop), .d (.int .i64 b.calls)],
        .row 2 ((b.files ++ [([], 0)]).map fileD) true, .row 3 (b.ch.map chD) true, .cells [.d (.str noName), .d (.str x), .d (.int .i64 (b.files.length : Nat))]] ?_
      exact .goes [0, 10, 12] (by kernel_rfl) (by kernel_rfl) (by kernel_rfl) hend
theorem kind0b (b : Rk) (N : Nat) (h : b.Ok N) (x y : ByteArray) (hx : x.size < 1000000000) (v4 : V) (hm : mayName x = true) (h0 : atR b.now x < 0) (h1024 : 1024 ≤ b.now.length) :
    AW Try.prog 77 none 3 (cgo 47 [false, false, false] [Item.code B77]) (mk 214 [(0, .ptr 0 0 0), (1, .d (.int .i64 0)), (2, .d (.str x)), (3, .d (.str y)), (4, v4), (10, .d (.int .i64 0))]) (SR b false) [] fun r σ' => r = .ret (.d (.int .i64 2)) ∧ σ' = SR b true := by
  have hnl := h.nl
  have hnb := h.nb
  have hfl := h.fl
  have hfs := h.fs
  refine .raises [1, 2] ?_
  clear h hfs
  refine .sg0 7 [0, 1, 2, 3, 4, 10, 44, 45, 46, 47] (cgo 54 [false, false, false] [.code B77]) [(44, .d (.int .i64 0)), (45, .d (.bool true)), (46, .d (.bool true)), (47, .d (.str x))] ?_
  refine .cd (cgo 55 [false, false, false] [.code B77]) F29 (@spec_29 (x) (by omega)) ?_
  refine .sg0 3 [0, 1, 2, 3, 4, 10, 44, 45, 46, 47, 48, 49, 50, 51] (cgo 58 [false, false, false] [.code B77]) [(49, .d (.bool !mayName x)), (50, .d (.bool !mayName x)), (51, .d (.bool !mayName x))] ?_
  rcases Bool.eq_false_or_eq_true (!mayName x) with h1 | h1
  · rw [h1]
    simp only [bsX] at h1
    simp_all
  · rw [h1]
    simp only [bsX] at h1
    refine .sg0 18 [0, 1, 2, 3, 4, 10, 60, 61, 62, 63, 64] (cgo 76 [false, false, false, false] [.code B77]) [(60, .ptr 0 0 0), (61, .ptr 0 0 0), (62, .ptr 0 0 1), (63, .d (.list 2 (map nmD b.now))), (64, .d (.str x))] ?_
    refine .cd (cgo 77 [false, false, false, false] [.code B77]) F102 (@spec_102 (b.now) (x) (by omega)) ?_
    refine .sg 42 [0, 2, 10, 11, 12, 82, 83, 84] (cgo 119 [false, false, false, false, false, true] [.code B77]) [(11, .d (.int .i64 (atR b.now x))), (12, .ptr 3 0 0), (82, .d (.int .i64 (atR b.now x))), (83, .d (.bool (decide (atR b.now x < 0)))), (84, .d (.bool (decide (atR b.now x < 0))))] [(3, .cells [.d (.str (ByteArray.mk #[])), .d (.str (ByteArray.mk #[])), .d (.int .i64 0)])] ?_
    rcases Bool.eq_false_or_eq_true (decide (atR b.now x < 0)) with h2 | h2
    · rw [h2]
      simp only [bsX] at h2
      refine .sg0 8 [0, 2, 10, 12, 91] (cgo 127 [false, false, false, false, false, true] [.code B77]) [(91, .d (.bool (decide ((↑(map nmD b.now).length : Int) ≥ 1024))))] ?_
      simp only [List.length_map]
      refine .if' (decide ((↑b.now.length : Int) ≥ 1024)) (cgo 128 [false, false, false, false, false, true, true] [.code B77]) (cgo 128 [false, false, false, false, false, true, false] [.code B77]) (fun h3 => ?_) (fun h3 => ?_)
      · simp only [bsX] at h3
        refine .sg0 4 [0, 2, 10, 12] (cgo 132 [false, false, false, false, false, true, true] [.code B77]) [(10, .d (.int .i64 2))] ?_
        refine .kp [10] ?_
        refine .su [0, 1, 2] (mk 214 [(10, .d (.int .i64 2))]) [.cells [.row 1, .d (.list 2 (map nmD b.now)), .d (.list 2 (map nmD b.sure)), .row 2, .d (.int .i64 b.quota), .d (.bool b.full), .d (.bool b.off), .d (.int .i64 b.stop), .d (.int .i64 b.calls)], .row 2 (map fileD b.files) true, .row 3 (map chD b.ch) true] ?_
        refine .retH F77 (v := V.d (D.int IntKind.i64 2)) (by kernel_rfl) (by kernel_rfl) ?_
        exact ⟨rfl, rfl⟩
      · simp only [bsX] at h3
        omega
    · rw [h2]
      simp only [bsX] at h2
      omega
end Go.Proofs.Ytoelkgbeefoplaa
namespace Go.Proofs.Ytoelkgbeefoplaa
open Go Go.Br Go.Proofs
open List (map)
theorem Rk.used_le {d : Rk} {N : Nat} (h : d.Ok N) : d.used ≤ 52428800000 := by
  have h1 := Rk.acc_le h d.now.length
  have h2 := h.nl
  have h3 := h.nb
  unfold Rk.acc at h1
  rw [List.take_length] at h1
  unfold Rk.used
  omega
theorem kind1a (b : Rk) (N : Nat) (h : b.Ok N) (x y : ByteArray) (hx : x.size < 1000000000) (bs : List UInt8) (hb : bs.length < 1000000) (hm : mayName x = true) (h0 : 0 ≤ atR b.now x) (f : List UInt8 × Nat) (hf : b.files[(atR b.now x).toNat]? = some f) (hbig : 1048576 < f.1.length + bs.length) :
    AW Try.prog 77 none 3 (cgo 47 [false, false, false] [Item.code B77]) (mk 214 [(0, .ptr 0 0 0), (1, .d (.int .i64 1)), (2, .d (.str x)), (3, .d (.str y)), (4, .d (.list 1 (bs.map u8))), (10, .d (.int .i64 0))]) (SR b false) [] fun r σ' => r = .ret (.d (.int .i64 2)) ∧ σ' = SR b true := by
  have hnl := h.nl
  have hnb := h.nb
  have hfl := h.fl
  have hfs := h.fs
  refine .raises [1, 2] ?_
  have hff := (hfs f (List.mem_of_getElem? hf)).2
  clear h hfs
  refine .sg0 7 [0, 1, 2, 3, 4, 10, 44, 45, 46, 47] (cgo 54 [false, false, false] [.code B77]) [(44, .d (.int .i64 1)), (45, .d (.bool true)), (46, .d (.bool true)), (47, .d (.str x))] ?_
  refine .cd (cgo 55 [false, false, false] [.code B77]) F29 (@spec_29 (x) (by omega)) ?_
  refine .sg0 3 [0, 1, 2, 3, 4, 10, 44, 45, 46, 47, 48, 49, 50, 51] (cgo 58 [false, false, false] [.code B77]) [(49, .d (.bool !mayName x)), (50, .d (.bool !mayName x)), (51, .d (.bool !mayName x))] ?_
  rcases Bool.eq_false_or_eq_true (!mayName x) with h1 | h1
  · rw [h1]
    simp only [bsX] at h1
    simp_all
  · rw [h1]
    simp only [bsX] at h1
    refine .sg0 18 [0, 1, 2, 3, 4, 10, 60, 61, 62, 63, 64] (cgo 76 [false, false, false, false] [.code B77]) [(60, .ptr 0 0 0), (61, .ptr 0 0 0), (62, .ptr 0 0 1), (63, .d (.list 2 (map nmD b.now))), (64, .d (.str x))] ?_
    refine .cd (cgo 77 [false, false, false, false] [.code B77]) F102 (@spec_102 (b.now) (x) (by omega)) ?_
    refine .sg0 16 [0, 1, 2, 3, 4, 10, 11, 75] (cgo 93 [false, false, false, false] [.code B77]) [(11, .d (.int .i64 (atR b.now x))), (75, .d (.bool (decide (atR b.now x < 0))))] ?_
    refine .if' (decide (atR b.now x < 0)) (cgo 94 [false, false, false, false, true] [.code B77]) (cgo 94 [false, false, false, false, false] [.code B77]) (fun h2 => ?_) (fun h2 => ?_)
    · simp only [bsX] at h2
      omega
    · simp only [bsX] at h2
      refine .sg 33 [0, 4, 10, 11, 12, 113, 114, 115, 116, 117] (cgo 127 [false, false, false, false, false, false, true] [.code B77]) [(12, .ptr 3 0 0), (113, .ptr 0 0 0), (114, .ptr 0 0 0), (115, .ptr 0 0 0), (116, .row 1), (117, .d (.int .i64 (atR b.now x)))] [(3, .cells [.d (.str (ByteArray.mk #[])), .d (.str (ByteArray.mk #[])), .d (.int .i64 0)])] ?_
      refine .op' (cgo 128 [false, false, false, false, false, false, true] [.code B77]) (ixRow_ok (t := 68) (x := (.tmp 116)) (i := (.tmp 117)) (k := IntKind.i64) (n := atR b.now x) (l := 1) (sz := 2) (xs := map fileD b.files) (mv := true) (by kernel_rfl) (by kernel_rfl) (by kernel_rfl) (by kernel_rfl) (by kernel_rfl) (by assumption) (by grind)) ?_
      refine .sg0 1 [0, 4, 10, 11, 12, 113, 114, 115, 116, 117, 118, 119] (cgo 129 [false, false, false, false, false, false, true] [.code B77]) [(119, .ptr 1 (atR b.now x).toNat 0)] ?_
      refine .op' (cgo 130 [false, false, false, false, false, false, true] [.code B77]) (ldRow_ok (t := 22) (x := (.tmp 119)) (l := 1) (i := (atR b.now x).toNat) (s := 0) (sz := 2) (xs := map fileD b.files) (mv := true) (d := fileD f) (v := .d (.list 1 (map u8 f.fst))) (by kernel_rfl) (by kernel_rfl) (by kernel_rfl) (map_get hf) (by kernel_rfl)) ?_
      refine .sg0 6 [0, 4, 10, 11, 12, 125] (cgo 136 [false, false, false, false, false, false, true] [.code B77]) [(125, .d (.bool (decide (IntKind.i64.wrap ((↑(map u8 f.fst).length : Int) + (↑(map u8 bs).length : Int)) > 1048576))))] ?_
      simp only [List.length_map]
      simp (disch := omega) only [wrap_i64, wrap_u64s, wrap_u32s, wrap_u8s, wrap_i32s, iadd_i64, isub_i64, irem_n, iquo_n, tdiv_nn, tmod_nn]
      refine .if' (decide ((↑f.fst.length : Int) + (↑bs.length : Int) > 1048576)) (cgo 137 [false, false, false, false, false, false, true, true] [.code B77]) (cgo 137 [false, false, false, false, false, false, true, false] [.code B77]) (fun h3 => ?_) (fun h3 => ?_)
      · simp only [bsX] at h3
        refine .sg0 4 [0, 4, 10, 11, 12] (cgo 141 [false, false, false, false, false, false, true, true] [.code B77]) [(10, .d (.int .i64 2))] ?_
        refine .kp [10] ?_
        refine .su [0, 1, 2] (mk 214 [(10, .d (.int .i64 2))]) [.cells [.row 1, .d (.list 2 (map nmD b.now)), .d (.list 2 (map nmD b.sure)), .row 2, .d (.int .i64 b.quota), .d (.bool b.full), .d (.bool b.off), .d (.int .i64 b.stop), .d (.int .i64 b.calls)], .row 2 (map fileD b.files) true, .row 3 (map chD b.ch) true] ?_
        refine .retH F77 (v := V.d (D.int IntKind.i64 2)) (by kernel_rfl) (by kernel_rfl) ?_
        exact ⟨rfl, rfl⟩
      · simp only [bsX] at h3
        omega
theorem kind1b (b : Rk) (N : Nat) (h : b.Ok N) (x y : ByteArray) (hx : x.size < 1000000000) (bs : List UInt8) (hb : bs.length < 1000000) (hm : mayName x = true) (h0 : 0 ≤ atR b.now x) (f : List UInt8 × Nat) (hf : b.files[(atR b.now x).toNat]? = some f) (hbig : f.1.length + bs.length ≤ 1048576) (hq : b.quota < b.used + bs.length) :
    AW Try.prog 77 none 3 (cgo 47 [false, false, false] [Item.code B77]) (mk 214 [(0, .ptr 0 0 0), (1, .d (.int .i64 1)), (2, .d (.str x)), (3, .d (.str y)), (4, .d (.list 1 (bs.map u8))), (10, .d (.int .i64 0))]) (SR b false) [] fun r σ' => r = .ret (.d (.int .i64 4)) ∧ σ' = SR { b with full := true } true := by
  have hnl := h.nl
  have hnb := h.nb
  have hfl := h.fl
  have hfs := h.fs
  refine .raises [1, 2] ?_
  have hff := (hfs f (List.mem_of_getElem? hf)).2
  have hu := Rk.used_le h
  have hw : IntKind.i64.wrap ((b.used : Int) + ((bs.map u8).length : Int)) = b.used + bs.length := by rw [List.length_map]; exact wrap_i64 (by omega) (by omega)
  have hw2 : IntKind.i64.wrap ((b.used : Int) + ((bs.map u8).length : Int)) > b.quota := by rw [hw]; omega
  clear hw
  clear hfs
  refine .sg0 7 [0, 1, 2, 3, 4, 10, 44, 45, 46, 47] (cgo 54 [false, false, false] [.code B77]) [(44, .d (.int .i64 1)), (45, .d (.bool true)), (46, .d (.bool true)), (47, .d (.str x))] ?_
  refine .cd (cgo 55 [false, false, false] [.code B77]) F29 (@spec_29 (x) (by omega)) ?_
  refine .sg0 3 [0, 1, 2, 3, 4, 10, 44, 45, 46, 47, 48, 49, 50, 51] (cgo 58 [false, false, false] [.code B77]) [(49, .d (.bool !mayName x)), (50, .d (.bool !mayName x)), (51, .d (.bool !mayName x))] ?_
  rcases Bool.eq_false_or_eq_true (!mayName x) with h1 | h1
  · rw [h1]
    simp only [bsX] at h1
    simp_all
  · rw [h1]
    simp only [bsX] at h1
    refine .sg0 18 [0, 1, 2, 3, 4, 10, 60, 61, 62, 63, 64] (cgo 76 [false, false, false, false] [.code B77]) [(60, .ptr 0 0 0), (61, .ptr 0 0 0), (62, .ptr 0 0 1), (63, .d (.list 2 (map nmD b.now))), (64, .d (.str x))] ?_
    refine .cd (cgo 77 [false, false, false, false] [.code B77]) F102 (@spec_102 (b.now) (x) (by omega)) ?_
    refine .sg0 16 [0, 1, 2, 3, 4, 10, 11, 75] (cgo 93 [false, false, false, false] [.code B77]) [(11, .d (.int .i64 (atR b.now x))), (75, .d (.bool (decide (atR b.now x < 0))))] ?_
    refine .if' (decide (atR b.now x < 0)) (cgo 94 [false, false, false, false, true] [.code B77]) (cgo 94 [false, false, false, false, false] [.code B77]) (fun h2 => ?_) (fun h2 => ?_)
    · simp only [bsX] at h2
      omega
    · simp only [bsX] at h2
      refine .sg 33 [0, 4, 10, 11, 12, 113, 114, 115, 116, 117] (cgo 127 [false, false, false, false, false, false, true] [.code B77]) [(12, .ptr 3 0 0), (113, .ptr 0 0 0), (114, .ptr 0 0 0), (115, .ptr 0 0 0), (116, .row 1), (117, .d (.int .i64 (atR b.now x)))] [(3, .cells [.d (.str (ByteArray.mk #[])), .d (.str (ByteArray.mk #[])), .d (.int .i64 0)])] ?_
      refine .op' (cgo 128 [false, false, false, false, false, false, true] [.code B77]) (ixRow_ok (t := 68) (x := (.tmp 116)) (i := (.tmp 117)) (k := IntKind.i64) (n := atR b.now x) (l := 1) (sz := 2) (xs := map fileD b.files) (mv := true) (by kernel_rfl) (by kernel_rfl) (by kernel_rfl) (by kernel_rfl) (by kernel_rfl) (by assumption) (by grind)) ?_
      refine .sg0 1 [0, 4, 10, 11, 12, 113, 114, 115, 116, 117, 118, 119] (cgo 129 [false, false, false, false, false, false, true] [.code B77]) [(119, .ptr 1 (atR b.now x).toNat 0)] ?_
      refine .op' (cgo 130 [false, false, false, false, false, false, true] [.code B77]) (ldRow_ok (t := 22) (x := (.tmp 119)) (l := 1) (i := (atR b.now x).toNat) (s := 0) (sz := 2) (xs := map fileD b.files) (mv := true) (d := fileD f) (v := .d (.list 1 (map u8 f.fst))) (by kernel_rfl) (by kernel_rfl) (by kernel_rfl) (map_get hf) (by kernel_rfl)) ?_
      refine .sg0 6 [0, 4, 10, 11, 12, 125] (cgo 136 [false, false, false, false, false, false, true] [.code B77]) [(125, .d (.bool (decide (IntKind.i64.wrap ((↑(map u8 f.fst).length : Int) + (↑(map u8 bs).length : Int)) > 1048576))))] ?_
      simp only [List.length_map]
      simp (disch := omega) only [wrap_i64, wrap_u64s, wrap_u32s, wrap_u8s, wrap_i32s, iadd_i64, isub_i64, irem_n, iquo_n, tdiv_nn, tmod_nn]
      refine .if' (decide ((↑f.fst.length : Int) + (↑bs.length : Int) > 1048576)) (cgo 137 [false, false, false, false, false, false, true, true] [.code B77]) (cgo 137 [false, false, false, false, false, false, true, false] [.code B77]) (fun h3 => ?_) (fun h3 => ?_)
      · simp only [bsX] at h3
        omega
      · simp only [bsX] at h3
        refine .sg0 3 [0, 4, 10, 11, 12] (cgo 140 [false, false, false, false, false, false, true, false] [.code B77]) [] ?_
        refine .dr (cgo 141 [false, false, false, false, false, false, true, false] [.code B77]) [(126, .ptr 0 0 0), (127, .d (.int .i64 (↑b.used : Int))), (128, .d (.list 1 (map u8 bs))), (129, .d (.int .i64 (↑(map u8 bs).length : Int))), (130, .d (.int .i64 (IntKind.i64.wrap ((↑b.used : Int) + (↑(map u8 bs).length : Int))))), (131, .ptr 0 0 0), (132, .ptr 0 0 0), (133, .ptr 0 0 4), (134, .d (.int .i64 b.quota)), (135, .d (.bool (decide (IntKind.i64.wrap ((↑b.used : Int) + (↑(map u8 bs).length : Int)) > b.quota))))] [] (fun kz L hL => ?_) ?_
        · refine ⟨[⟨[], [], [], [0], [0], [], true, false⟩, ⟨[0, 1, 2], [], [], [], [0, 1, 2], [], true, false⟩, nF, nF, nF, ⟨[], [], [], [0], [0], [], true, false⟩, ⟨[], [], [], [0], [0], [0], true, false⟩, ⟨[], [], [], [0], [0], [0], true, false⟩, ⟨[0], [], [], [], [0, 1, 2], [], true, false⟩, nF], run_amongF hL _ [] [0, 2, 5, 6, 7, 8, 1, 3, 4, 9] (by intro p hp; cases hp) (by kernel_rfl) ?_⟩
          refine Run.ap [0, 2, 5, 6, 7, 8] [(126, .ptr 0 0 0), (128, .d (.list 1 (map u8 bs))), (131, .ptr 0 0 0), (132, .ptr 0 0 0), (133, .ptr 0 0 4), (134, .d (.int .i64 b.quota))] [] ?_
          refine Run.cll 1 [0, 1, 2] F83 (@spec_83 (b) (N) (by assumption)) ?_
          exact Run.fin
        refine .if' (decide (IntKind.i64.wrap ((↑b.used : Int) + (↑(map u8 bs).length : Int)) > b.quota)) (cgo 142 [false, false, false, false, false, false, true, false, true] [.code B77]) (cgo 142 [false, false, false, false, false, false, true, false, false] [.code B77]) (fun h7 => ?_) (fun h7 => ?_)
        · simp only [bsX] at h7
          refine .sg 11 [0, 4, 10, 11, 12] (cgo 153 [false, false, false, false, false, false, true, false, true] [.code B77]) [(10, .d (.int .i64 4))] [(0, .cells [.row 1, .d (.list 2 (map nmD b.now)), .d (.list 2 (map nmD b.sure)), .row 2, .d (.int .i64 b.quota), .d (.bool true), .d (.bool b.off), .d (.int .i64 b.stop), .d (.int .i64 b.calls)])] ?_
          refine .kp [10] ?_
          refine .su [0, 1, 2] (mk 214 [(10, .d (.int .i64 4))]) [.cells [.row 1, .d (.list 2 (map nmD b.now)), .d (.list 2 (map nmD b.sure)), .row 2, .d (.int .i64 b.quota), .d (.bool true), .d (.bool b.off), .d (.int .i64 b.stop), .d (.int .i64 b.calls)], .row 2 (map fileD b.files) true, .row 3 (map chD b.ch) true] ?_
          refine .retH F77 (v := V.d (D.int IntKind.i64 4)) (by kernel_rfl) (by kernel_rfl) ?_
          exact ⟨rfl, rfl⟩
        · simp only [bsX] at h7
          omega
end Go.Proofs.Ytoelkgbeefoplaa
namespace Go.Proofs.Ytoelkgbeefoplaa
open Go Go.Br Go.Proofs
open List (map)
theorem kind1c (b : Rk) (N : Nat) (h : b.Ok N) (x y : ByteArray) (hx : x.size < 1000000000) (bs : List UInt8) (hb : bs.length < 1000000) (hm : mayName x = true) (h0 : 0 ≤ atR b.now x) (f : List UInt8 × Nat) (hf : b.files[(atR b.now x).toNat]? = some f) (hbig : f.1.length + bs.length ≤ 1048576) (hq : b.used + bs.length ≤ b.quota) :
    AW Try.prog 77 none 3 (cgo 47 [false, false, false] [Item.code B77]) (mk 214 [(0, .ptr 0 0 0), (1, .d (.int .i64 1)), (2, .d (.str x)), (3, .d (.str y)), (4, .d (.list 1 (bs.map u8))), (10, .d (.int .i64 0))]) (SR b false) [] fun r σ' => r = .ret (.d (.int .i64 0)) ∧ σ' = SR { b with files := b.files.set (atR b.now x).toNat (f.1 ++ bs, f.2) } true := by
  have hnl := h.nl
  have hnb := h.nb
  have hfl := h.fl
  have hfs := h.fs
  refine .raises [1, 2] ?_
  have hff := (hfs f (List.mem_of_getElem? hf)).2
  have hu := Rk.used_le h
  have hw : IntKind.i64.wrap ((b.used : Int) + ((bs.map u8).length : Int)) = b.used + bs.length := by rw [List.length_map]; exact wrap_i64 (by omega) (by omega)
  have hw2 : ¬(IntKind.i64.wrap ((b.used : Int) + ((bs.map u8).length : Int)) > b.quota) := by rw [hw]; omega
  clear hw
  clear hfs
  refine .sg0 7 [0, 1, 2, 3, 4, 10, 44, 45, 46, 47] (cgo 54 [false, false, false] [.code B77]) [(44, .d (.int .i64 1)), (45, .d (.bool true)), (46, .d (.bool true)), (47, .d (.str x))] ?_
  refine .cd (cgo 55 [false, false, false] [.code B77]) F29 (@spec_29 (x) (by omega)) ?_
  refine .sg0 3 [0, 1, 2, 3, 4, 10, 44, 45, 46, 47, 48, 49, 50, 51] (cgo 58 [false, false, false] [.code B77]) [(49, .d (.bool !mayName x)), (50, .d (.bool !mayName x)), (51, .d (.bool !mayName x))] ?_
  rcases Bool.eq_false_or_eq_true (!mayName x) with h1 | h1
  · rw [h1]
    simp only [bsX] at h1
    simp_all
  · rw [h1]
    simp only [bsX] at h1
    refine .sg0 18 [0, 1, 2, 3, 4, 10, 60, 61, 62, 63, 64] (cgo 76 [false, false, false, false] [.code B77]) [(60, .ptr 0 0 0), (61, .ptr 0 0 0), (62, .ptr 0 0 1), (63, .d (.list 2 (map nmD b.now))), (64, .d (.str x))] ?_
    refine .cd (cgo 77 [false, false, false, false] [.code B77]) F102 (@spec_102 (b.now) (x) (by omega)) ?_
    refine .sg0 16 [0, 1, 2, 3, 4, 10, 11, 75] (cgo 93 [false, false, false, false] [.code B77]) [(11, .d (.int .i64 (atR b.now x))), (75, .d (.bool (decide (atR b.now x < 0))))] ?_
    refine .if' (decide (atR b.now x < 0)) (cgo 94 [false, false, false, false, true] [.code B77]) (cgo 94 [false, false, false, false, false] [.code B77]) (fun h2 => ?_) (fun h2 => ?_)
    · simp only [bsX] at h2
      omega
    · simp only [bsX] at h2
      refine .sg 33 [0, 4, 10, 11, 12, 113, 114, 115, 116, 117] (cgo 127 [false, false, false, false, false, false, true] [.code B77]) [(12, .ptr 3 0 0), (113, .ptr 0 0 0), (114, .ptr 0 0 0), (115, .ptr 0 0 0), (116, .row 1), (117, .d (.int .i64 (atR b.now x)))] [(3, .cells [.d (.str (ByteArray.mk #[])), .d (.str (ByteArray.mk #[])), .d (.int .i64 0)])] ?_
      refine .op' (cgo 128 [false, false, false, false, false, false, true] [.code B77]) (ixRow_ok (t := 68) (x := (.tmp 116)) (i := (.tmp 117)) (k := IntKind.i64) (n := atR b.now x) (l := 1) (sz := 2) (xs := map fileD b.files) (mv := true) (by kernel_rfl) (by kernel_rfl) (by kernel_rfl) (by kernel_rfl) (by kernel_rfl) (by assumption) (by grind)) ?_
      refine .sg0 1 [0, 4, 10, 11, 12, 113, 114, 115, 116, 117, 118, 119] (cgo 129 [false, false, false, false, false, false, true] [.code B77]) [(119, .ptr 1 (atR b.now x).toNat 0)] ?_
      refine .op' (cgo 130 [false, false, false, false, false, false, true] [.code B77]) (ldRow_ok (t := 22) (x := (.tmp 119)) (l := 1) (i := (atR b.now x).toNat) (s := 0) (sz := 2) (xs := map fileD b.files) (mv := true) (d := fileD f) (v := .d (.list 1 (map u8 f.fst))) (by kernel_rfl) (by kernel_rfl) (by kernel_rfl) (map_get hf) (by kernel_rfl)) ?_
      refine .sg0 6 [0, 4, 10, 11, 12, 125] (cgo 136 [false, false, false, false, false, false, true] [.code B77]) [(125, .d (.bool (decide (IntKind.i64.wrap ((↑(map u8 f.fst).length : Int) + (↑(map u8 bs).length : Int)) > 1048576))))] ?_
      simp only [List.length_map]
      simp (disch := omega) only [wrap_i64, wrap_u64s, wrap_u32s, wrap_u8s, wrap_i32s, iadd_i64, isub_i64, irem_n, iquo_n, tdiv_nn, tmod_nn]
      refine .if' (decide ((↑f.fst.length : Int) + (↑bs.length : Int) > 1048576)) (cgo 137 [false, false, false, false, false, false, true, true] [.code B77]) (cgo 137 [false, false, false, false, false, false, true, false] [.code B77]) (fun h3 => ?_) (fun h3 => ?_)
      · simp only [bsX] at h3
        omega
      · simp only [bsX] at h3
        refine .sg0 3 [0, 4, 10, 11, 12] (cgo 140 [false, false, false, false, false, false, true, false] [.code B77]) [] ?_
        refine .dr (cgo 141 [false, false, false, false, false, false, true, false] [.code B77]) [(126, .ptr 0 0 0), (127, .d (.int .i64 (↑b.used : Int))), (128, .d (.list 1 (map u8 bs))), (129, .d (.int .i64 (↑(map u8 bs).length : Int))), (130, .d (.int .i64 (IntKind.i64.wrap ((↑b.used : Int) + (↑(map u8 bs).length : Int))))), (131, .ptr 0 0 0), (132, .ptr 0 0 0), (133, .ptr 0 0 4), (134, .d (.int .i64 b.quota)), (135, .d (.bool (decide (IntKind.i64.wrap ((↑b.used : Int) + (↑(map u8 bs).length : Int)) > b.quota))))] [] (fun kz L hL => ?_) ?_
        · refine ⟨[⟨[], [], [], [0], [0], [], true, false⟩, ⟨[0, 1, 2], [], [], [], [0, 1, 2], [], true, false⟩, nF, nF, nF, ⟨[], [], [], [0], [0], [], true, false⟩, ⟨[], [], [], [0], [0], [0], true, false⟩, ⟨[], [], [], [0], [0], [0], true, false⟩, ⟨[0], [], [], [], [0, 1, 2], [], true, false⟩, nF], run_amongF hL _ [] [0, 2, 5, 6, 7, 8, 1, 3, 4, 9] (by intro p hp; cases hp) (by kernel_rfl) ?_⟩
          refine Run.ap [0, 2, 5, 6, 7, 8] [(126, .ptr 0 0 0), (128, .d (.list 1 (map u8 bs))), (131, .ptr 0 0 0), (132, .ptr 0 0 0), (133, .ptr 0 0 4), (134, .d (.int .i64 b.quota))] [] ?_
          refine Run.cll 1 [0, 1, 2] F83 (@spec_83 (b) (N) (by assumption)) ?_
          exact Run.fin
        refine .if' (decide (IntKind.i64.wrap ((↑b.used : Int) + (↑(map u8 bs).length : Int)) > b.quota)) (cgo 142 [false, false, false, false, false, false, true, false, true] [.code B77]) (cgo 142 [false, false, false, false, false, false, true, false, false] [.code B77]) (fun h7 => ?_) (fun h7 => ?_)
        · simp only [bsX] at h7
          omega
        · simp only [bsX] at h7
          refine .sg0 2 [0, 4, 10, 11, 12] (cgo 144 [false, false, false, false, false, false, true, false, false] [.code B77]) [] ?_
          refine .newVirt 1 ?_
          refine .dr (cgo 145 [false, false, false, false, false, false, true, false, false] [.code B77]) [(139, .ptr 0 0 0), (140, .ptr 0 0 0), (141, .ptr 0 0 0), (142, .row 1), (143, .d (.int .i64 (atR b.now x))), (145, .ptr 0 0 0), (146, .ptr 0 0 0), (147, .ptr 0 0 0), (148, .row 1), (149, .d (.int .i64 (atR b.now x))), (150, .ptr 1 (atR b.now x).toNat 0), (151, .ptr 1 (atR b.now x).toNat 0), (152, .d (.list 1 (map u8 f.fst))), (154, .d (.list 1 (map u8 bs))), (155, .d (.list 1 ([] ++ map u8 f.fst ++ map u8 bs))), (156, .ptr 1 (atR b.now x).toNat 0), (157, .ptr 1 (atR b.now x).toNat 0)] [(1, .row 2 ((map fileD b.files).set (atR b.now x).toNat (D.agg [D.list 1 ([] ++ map u8 f.fst ++ map u8 bs), D.int IntKind.i64 (↑f.snd : Int)])) true), (4, .row 1 [] true)] (fun kz L hL => ?_) ?_
          · refine ⟨[⟨[], [], [], [0], [0], [], true, false⟩, ⟨[], [], [], [0], [0], [0], true, false⟩, ⟨[], [], [], [0], [0], [0], true, false⟩, ⟨[0], [], [], [1], [0, 1, 2], [], true, false⟩, nF, ⟨[4], [], [], [4], [], [], true, false⟩, ⟨[], [], [], [0], [0], [], true, false⟩, ⟨[], [], [], [0], [0], [0], true, false⟩, ⟨[], [], [], [0], [0], [0], true, false⟩, ⟨[0], [], [], [1], [0, 1, 2], [], true, false⟩, nF, ⟨[1], [], [], [1], [1], [], true, false⟩, ⟨[], [], [], [1], [1], [1], true, false⟩, ⟨[1], [], [], [], [1], [], true, false⟩, ⟨[4], [4], [4], [4], [4], [], true, false⟩, nF, ⟨[4], [4], [4], [], [4], [], true, false⟩, ⟨[1], [], [], [1], [1], [], true, false⟩, ⟨[], [], [], [1], [1], [1], true, false⟩, ⟨[1], [1], [], [], [1], [], true, false⟩], run_amongF hL _ [] [0, 1, 2, 3, 4, 6, 7, 8, 9, 10, 11, 12, 13, 15, 5, 14, 16, 17, 18, 19] (by intro p hp; cases hp) (by kernel_rfl) ?_⟩
            refine Run.ap [0, 1, 2, 3, 4, 6, 7, 8, 9, 10] [(139, .ptr 0 0 0), (140, .ptr 0 0 0), (141, .ptr 0 0 0), (142, .row 1), (143, .d (.int .i64 (atR b.now x))), (145, .ptr 0 0 0), (146, .ptr 0 0 0), (147, .ptr 0 0 0), (148, .row 1), (149, .d (.int .i64 (atR b.now x)))] [] ?_
            refine Run.lk 11 (.ptr 1 (atR b.now x).toNat 0) [(.tmp 148), (.tmp 149)] (fun tm' σ2 hv hr => ixRow_ok (t := 68) (x := (.tmp 148)) (i := (.tmp 149)) (k := IntKind.i64) (n := atR b.now x) (l := 1) (sz := 2) (xs := map fileD b.files) (mv := true) (by kernel_rfl) (evv hv) (evv hv) (atr hr) (by kernel_rfl) (by assumption) (by grind)) ?_
            refine Run.ap [12] [(151, .ptr 1 (atR b.now x).toNat 0)] [] ?_
            refine Run.lk 13 (.d (.list 1 (map u8 f.fst))) [(.tmp 151)] (fun tm' σ2 hv hr => ldRow_ok (t := 22) (x := (.tmp 151)) (l := 1) (i := (atR b.now x).toNat) (s := 0) (sz := 2) (xs := map fileD b.files) (mv := true) (d := fileD f) (v := .d (.list 1 (map u8 f.fst))) (by kernel_rfl) (evv hv) (atr hr) (map_get hf) (by kernel_rfl)) ?_
            refine Run.ap [15] [(154, .d (.list 1 (map u8 bs)))] [] ?_
            refine Run.lk 5 (.row 4) [] (fun tm' σ2 hv hr => build0V_ok (t := 22) (e := 5) (sz := typeSize Try.prog (sliceElem Try.prog 22)) (sz' := typeSize Try.prog (sliceElem Try.prog 22)) (l := 4) (mv := false) (by kernel_rfl) (by kernel_rfl) (by kernel_rfl) (atr hr)) ?_
            refine Run.one (StepF.moves (o := ((drawOf (cgo 144 [false, false, false, false, false, false, true, false, false] [.code B77]))[14]?).getD default) (v := .row 4) [(.tmp 144), (.tmp 152)] 4 (.row 1 ([] ++ map u8 f.fst) true) (by kernel_rfl) rfl (by kernel_rfl) (by kernel_rfl) (by kernel_rfl) (by kernel_rfl) (by kernel_rfl) (by kernel_rfl) (fun tm' σ2 hv hr => appRow_ok (s := (.tmp 144)) (x := (.tmp 152)) (t := 22) (t2 := 22) (sz := 1) (by' := 1) (ys := map u8 f.fst) (l := 4) (xs := []) (mv := false) (by kernel_rfl) (evv hv) (atr hr) (by rw [hv _ (by simp)]; exact (cont_at fun l hl => hr l (subB_in (by kernel_rfl) hl)).trans (by kernel_rfl)) (by kernel_rfl) (by kernel_rfl) (by simp <;> omega) (by first | (simp [maxLen] <;> omega) | omega))) ?_
            refine Run.one (StepF.moves (o := ((drawOf (cgo 144 [false, false, false, false, false, false, true, false, false] [.code B77]))[16]?).getD default) (v := .d (.list 1 ([] ++ map u8 f.fst ++ map u8 bs))) [(.tmp 153), (.tmp 154)] 4 (.row 1 [] true) (by kernel_rfl) rfl (by kernel_rfl) (by kernel_rfl) (by kernel_rfl) (by kernel_rfl) (by kernel_rfl) (by kernel_rfl) (fun tm' σ2 hv hr => appRowD_ok (s := (.tmp 153)) (x := (.tmp 154)) (t := 22) (t2 := 22) (sz := 1) (by' := 1) (ys := map u8 bs) (l := 4) (xs := [] ++ map u8 f.fst) (mv := true) (by kernel_rfl) (evv hv) (atr hr) (by rw [hv _ (by simp)]; exact (cont_at fun l hl => hr l (subB_in (by kernel_rfl) hl)).trans (by kernel_rfl)) (by kernel_rfl) (by kernel_rfl) (by simp <;> omega) (by first | (simp [maxLen] <;> omega) | omega))) ?_
            refine Run.lk 17 (.ptr 1 (atR b.now x).toNat 0) [(.tmp 142), (.tmp 143)] (fun tm' σ2 hv hr => ixRow_ok (t := 68) (x := (.tmp 142)) (i := (.tmp 143)) (k := IntKind.i64) (n := atR b.now x) (l := 1) (sz := 2) (xs := map fileD b.files) (mv := true) (by kernel_rfl) (evv hv) (evv hv) (atr hr) (by kernel_rfl) (by assumption) (by grind)) ?_
            refine Run.ap [18] [(157, .ptr 1 (atR b.now x).toNat 0)] [] ?_
            refine Run.one (StepF.sets (o := ((drawOf (cgo 144 [false, false, false, false, false, false, true, false, false] [.code B77]))[19]?).getD default) (v := .undef) [(.tmp 157), (.tmp 155)] 1 (.row 2 ((map fileD b.files).set (atR b.now x).toNat (D.agg [D.list 1 ([] ++ map u8 f.fst ++ map u8 bs), D.int IntKind.i64 (↑f.snd : Int)])) true) (by kernel_rfl) rfl (by kernel_rfl) (by kernel_rfl) (by kernel_rfl) (by kernel_rfl) (by kernel_rfl) (fun tm' σ2 hv hr => stRow_ok (t := 22) (x := (.tmp 157)) (y := (.tmp 155)) (l := 1) (i := (atR b.now x).toNat) (s := 0) (sz := 2) (xs := map fileD b.files) (mv := true) (d := fileD f) (d' := D.agg [D.list 1 ([] ++ map u8 f.fst ++ map u8 bs), D.int IntKind.i64 (↑f.snd : Int)]) (by kernel_rfl) (evv hv) (atr hr) (map_get hf) (by unfold storeE; rw [hv _ (by simp)]; kernel_rfl))) ?_
            exact Run.fin
          refine .sg0 4 [0, 10, 12] (cgo 149 [false, false, false, false, false, false, true, false, false] [.code B77]) [] ?_
          refine .kp [10] ?_
          refine .su [0, 1, 2] (mk 214 [(10, .d (.int .i64 0))]) [.cells [.row 1, .d (.list 2 (map nmD b.now)), .d (.list 2 (map nmD b.sure)), .row 2, .d (.int .i64 b.quota), .d (.bool b.full), .d (.bool b.off), .d (.int .i64 b.stop), .d (.int .i64 b.calls)], .row 2 ((map fileD b.files).set (atR b.now x).toNat (D.agg [D.list 1 ([] ++ map u8 f.fst ++ map u8 bs), D.int IntKind.i64 (↑f.snd : Int)])) true, .row 3 (map chD b.ch) true] ?_
          refine .retH F77 (v := V.d (D.int IntKind.i64 0)) (by kernel_rfl) (by kernel_rfl) ?_
          exact ⟨rfl, by simp [SR, fileD, bsD, List.map_set, i64]⟩
end Go.Proofs.Ytoelkgbeefoplaa
