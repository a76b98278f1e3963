/- Part 16 of this proof. -/
import Derived.Test.YtoelkgbeefoplaaM15
set_option linter.unusedSimpArgs false
set_option linter.unusedVariables false
set_option linter.constructorNameAsVariable false
namespace Go.Proofs.Ytoelkgbeefoplaa
open Go Go.Br Go.Proofs
open List (map)
theorem cutA_le (l : List DOp) : (cutD l).length ≤ 60 := by
 unfold cutD; split <;> simp <;> omega
theorem cutA_fits {l : List DOp} (hf : ∀ o ∈ l, o.fits) : ∀ o ∈ cutD l, o.small ∧ o.fits := by
 unfold cutD
 split
 · rename_i h
   intro o ho
   have h1 := List.all_eq_true.1 h o ho
   simp only [DOp.ok, Bool.and_eq_true, decide_eq_true_eq] at h1
   exact ⟨⟨h1.1.1.1, h1.1.1.2, h1.1.2, h1.2⟩, hf o (List.mem_of_mem_take ho)⟩
 · intro o ho; simp at ho
noncomputable def B36 : Code := (Try.f36.body).getD .skip
noncomputable def G36 (n l) := cgo n l [.code B36]
theorem F36 : Fnc Try.prog 36 Try.f36 B36 := ⟨Try.func36, by kernel_rfl, by kernel_rfl⟩
theorem lo36 (l : List DOp) (hl : l.length ≤ 60) (hf : ∀ o ∈ l, o.small ∧ o.fits) (p : Dk × Int) (hp : Both p.1 p.2 0) : ∀ (m i : Nat), i + m = l.length →
    AW Try.prog 36 none 0 (G36 25 []) (mk 30 [(4, .d (.raw (Value.pointer none))), (5, .d (.raw (Value.pointer none))), (6, .d (.bool false)), (7, .ptr 0 0 0), (8, .ptr 6 0 0), (16, .d (.list 7 (l.map dopD))), (17, .d (.int .i64 (l.length : Nat))), (18, .d (.int .i64 (i : Nat)))])
      (SX (runA p (l.take i)).1 (runA p (l.take i)).2 true) [] fun r σ' => r = .ret (.tuple [.ptr 0 0 0, .ptr 6 0 0, .d (.bool true)]) ∧ σ' = SX (runA p l).1 (runA p l).2 true := by
  intro m
  induction m with
  | zero =>
    intro i hi
    have hi : i = l.length := by omega
    subst hi
    rw [List.take_length]
    generalize runA p l = q
    clear hf hp
    refine .sge 5 [4, 5, 6, 7, 8, 16, 17, 18, 19] (G36 30 []) ?_
    refine .if' (decide ((↑l.length : Int) < (↑l.length : Int))) (G36 31 [true]) (G36 31 [false]) (fun h1 => ?_) (fun h1 => ?_)
    · simp only [bsX] at h1
      omega
    · simp only [bsX] at h1
      refine .sge 9 [4, 5, 6] (cgo 40 [false] [.code B36]) ?_
      refine .rt F36 (V.tuple [V.ptr 0 0 0, V.ptr 6 0 0, V.d (D.bool true)]) ?_
      exact ⟨rfl, by kernel_rfl⟩
  | succ m ih =>
    intro i hi
    obtain ⟨o, ho⟩ := get_some (l := l) (i := i) (by omega)
    have ih := ih (i + 1) (by omega)
    rw [take_get ho, runA_snoc] at ih
    have hb := runA_both (l.take i) hp (by rw [List.length_take]; omega) (fun o' h' => (hf o' (List.mem_of_mem_take h')).2)
    obtain ⟨hs, hfo⟩ := hf o (List.mem_of_getElem? ho)
    have hN : 0 + 2 * (l.take i).length + 5 ≤ 50000 := by rw [List.length_take]; omega
    generalize 0 + 2 * (l.take i).length = N at hb hN
    generalize runA p (l.take i) = q at *
    obtain ⟨d, t⟩ := q
    dsimp only at *
    have hc := spec_42x d t N hb hN o hs hfo
    clear hf hp
    refine .sge 5 [4, 5, 6, 7, 8, 16, 17, 18, 19] (G36 30 []) ?_
    refine .if' (decide ((↑i : Int) < (↑l.length : Int))) (G36 31 [true]) (G36 31 [false]) (fun h1 => ?_) (fun h1 => ?_)
    · simp only [bsX] at h1
      refine .sg0 5 [4, 5, 6, 7, 8, 16, 17, 18, 19] (G36 36 [true]) [] ?_
      refine .op' (G36 37 [true]) (ixData_ok (t := 54) (x := (.tmp 16)) (i := (.tmp 18)) (k := IntKind.i64) (n := (↑i : Int)) (sz := 7) (xs := map dopD l) (d := dopD o) (by kernel_rfl) (by kernel_rfl) (by kernel_rfl) (by kernel_rfl) (by omega) (map_get ho)) ?_
      refine .sg 9 [4, 5, 6, 7, 8, 10, 16, 17, 18, 19, 20, 21, 22, 23, 24] (G36 46 [true]) [(10, .ptr 9 0 0), (21, .d (.agg [D.int IntKind.u64 (↑o.kind : Int), D.str o.a, D.str o.b, D.list 1 (map u8 o.data), D.int IntKind.i64 o.n, D.int IntKind.i64 o.dir, D.list 1 (map intD o.keep)])), (22, .ptr 0 0 0), (23, .ptr 6 0 0), (24, .d (.agg [D.int IntKind.u64 (↑o.kind : Int), D.str o.a, D.str o.b, D.list 1 (map u8 o.data), D.int IntKind.i64 o.n, D.int IntKind.i64 o.dir, D.list 1 (map intD o.keep)]))] [(9, .cells [.d (.int .u64 (↑o.kind : Int)), .d (.str o.a), .d (.str o.b), .d (.list 1 (map u8 o.data)), .d (.int .i64 o.n), .d (.int .i64 o.dir), .d (.list 1 (map intD o.keep))])] ?_
      have hgo : AW Try.prog 36 none 0 (G36 47 [true]) (mk 30 [(4, .d (.raw (Value.pointer none))), (5, .d (.raw (Value.pointer none))), (6, .d (.bool false)), (7, .ptr 0 0 0), (8, .ptr 6 0 0), (16, .d (.list 7 (l.map dopD))), (17, .d (.int .i64 (l.length : Nat))), (18, .d (.int .i64 (i : Nat))), (25, .d (.bool true))]) (SX (stepA d o) (tA d t o) true) [] fun r σ' => r = .ret (.tuple [.ptr 0 0 0, .ptr 6 0 0, .d (.bool true)]) ∧ σ' = SX (runA p l).1 (runA p l).2 true := by
        generalize stepA d o = d' at *
        generalize tA d t o = t' at *
        clear hc hb
        refine .sg0 9 [4, 5, 6, 7, 8, 16, 17, 18, 25, 26, 27] (G36 56 [true, false]) [(18, .d (.int .i64 (IntKind.i64.wrap ((↑i : Int) + 1)))), (26, .d (.bool false)), (27, .d (.int .i64 (IntKind.i64.wrap ((↑i : Int) + 1))))] ?_
        simp (disch := omega) only [bsW]
        refine .kp [4, 5, 6, 7, 8, 16, 17, 18] ?_
        refine .seg 1 [4, 5, 6, 7, 8, 16, 17, 18] (by kernel_rfl) ih
      refine .ca [0, 1, 2, 3, 4, 5, 6, 7, 8] (G36 47 [true]) F42 hc ?_
      rintro r0 s0 ⟨rfl, hs0⟩
      refine ⟨_, rfl, ?_⟩
      rcases hs0 with rfl | rfl
      · refine .kp [4, 5, 6, 7, 8, 16, 17, 18, 25] ?_
        refine .su [0, 1, 2, 3, 4, 5, 6, 7, 8] (mk 30 [(4, .d (.raw (Value.pointer none))), (5, .d (.raw (Value.pointer none))), (6, .d (.bool false)), (7, .ptr 0 0 0), (8, .ptr 6 0 0), (16, .d (.list 7 (l.map dopD))), (17, .d (.int .i64 (l.length : Nat))), (18, .d (.int .i64 (i : Nat))), (25, .d (.bool true))]) (SX (stepA d o) (tA d t o) true) ?_
        exact hgo
      · refine .kp [4, 5, 6, 7, 8, 16, 17, 18, 25] ?_
        refine .su [0, 1, 10, 11, 12, 5, 6, 7, 8] (mk 30 [(4, .d (.raw (Value.pointer none))), (5, .d (.raw (Value.pointer none))), (6, .d (.bool false)), (7, .ptr 0 0 0), (8, .ptr 6 0 0), (16, .d (.list 7 (l.map dopD))), (17, .d (.int .i64 (l.length : Nat))), (18, .d (.int .i64 (i : Nat))), (25, .d (.bool true))]) (SX (stepA d o) (tA d t o) true) ?_
        exact hgo
    · simp only [bsX] at h1
      omega
theorem spec_36 (q : Int) (hq : q < 9223372036854775808) (l : List DOp) (hl : l.length ≤ 9223372036854775807) (hf : ∀ o ∈ l, o.fits) :
  CallsA Try.prog 36 [.d (.int .i64 q), .d (.list 7 (l.map dopD))] [] fun r σ' => r = .ret (.tuple [.ptr 0 0 0, .ptr 6 0 0, .d (.bool true)]) ∧ σ' = SX (runA (Dk.new q, -1) (cutD l)).1 (runA (Dk.new q, -1) (cutD l)).2 true := by
 refine CallsA.start F36 (tm := mk (Try.f36.ntmps) [(0, .d (.int .i64 q)), (1, .d (.list 7 (l.map dopD)))]) (by kernel_rfl) ?_
 have hnext := lo36 (cutD l) (cutA_le l) (cutA_fits hf) (Dk.new q, -1) (Both.new hq) (cutD l).length 0 (by omega)
 rw [List.take_zero] at hnext
 have hr : runA (Dk.new q, -1) [] = (Dk.new q, -1) := rfl
 rw [hr] at hnext
 clear hr
 refine .sge 9 [0, 1, 4, 5, 6, 11] (G36 9 []) ?_
 refine .ca [] (G36 10 []) F25 (@spec_25 (q)) ?_
 rintro r0 s0 ⟨rfl, rfl⟩
 refine ⟨_, rfl, ?_⟩
 refine .sg0 1 [0, 1, 4, 5, 6, 11, 12, 13] (G36 11 []) [(13, .d (.int .i64 q))] ?_
 refine .ca [] (G36 12 []) F39 (@spec_39 (q)) ?_
 rintro r1 s1 ⟨rfl, rfl⟩
 refine ⟨_, rfl, ?_⟩
 refine .sge 7 [1, 4, 5, 6, 7, 8, 15] (G36 19 []) ?_
 refine .cd (G36 20 []) F38 (@spec_38 (l) (by assumption)) ?_
 refine .seg 4 [4, 5, 6, 7, 8, 16, 17, 18] (T' := cgo 24 [] [.code B36]) (tm' := mk 30 [(4, .d (.raw (Value.pointer none))), (5, .d (.raw (Value.pointer none))), (6, .d (.bool false)), (7, .ptr 0 0 0), (8, .ptr 6 0 0), (16, .d (.list 7 (map dopD (cutD l)))), (17, .d (.int .i64 (↑(map dopD (cutD l)).length : Int))), (18, .d (.int .i64 0))]) (σ' := [.cells [.row 1, .ptr 2 0 0, .ep 2 (D.agg [D.list 1 [], D.list 1 []]) 0, .row 5, .d (.int .i64 (Dk.new q).quota), .d (.bool false), .d (.bool false), .d (.int .i64 (Dk.new q).stop), .d (.int .i64 (Dk.new q).calls)], .row 2 [] true, .cells [.row 3, .row 4], .row 1 [] true, .row 1 [] true, .row 3 [] true, .cells [.row 7, .d (.list 2 []), .d (.list 2 []), .row 8, .d (.int .i64 (Rk.new q).quota), .d (.bool false), .d (.bool false), .d (.int .i64 (Rk.new q).stop), .d (.int .i64 (Rk.new q).calls)], .row 2 [] true, .row 3 [] true]) (by kernel_rfl) ?_
 simp only [List.length_map]
 exact .seg 1 [4, 5, 6, 7, 8, 16, 17, 18] (by kernel_rfl) hnext
noncomputable def B49 : Code := (Try.f49.body).getD .skip
noncomputable def G49 (n l) := cgo n l [.code B49]
theorem F49 : Fnc Try.prog 49 Try.f49 B49 := ⟨Try.func49, by kernel_rfl, by kernel_rfl⟩
def badO (o : DOp) : Bool := decide (o.kind % 10 = 4 ∨ o.kind % 10 = 5 ∨ o.kind % 10 = 8 ∨ o.kind % 10 = 9)
def hitO (x : ByteArray) (o : DOp) : Bool := decide (o.kind % 10 = 0) && (o.a.toList == x.toList)
def cntO (x : ByteArray) (l : List DOp) : Nat := (l.filter (hitO x)).length
def soleB (l : List DOp) (x : ByteArray) : Bool := (l.all fun o => !badO o) && decide (cntO x l < 2)
theorem cntO_more {x : ByteArray} {l : List DOp} {i : Nat} {o : DOp} (h : l[i]? = some o) : cntO x (l.take (i + 1)) = cntO x (l.take i) + if hitO x o then 1 else 0 := by
 unfold cntO
 rw [take_get h, List.filter_append, List.length_append]
 cases hh : hitO x o <;> simp [hh]
theorem cntO_le (x : ByteArray) (l : List DOp) (i : Nat) : cntO x (l.take i) ≤ i := by
 unfold cntO
 have := List.length_filter_le (hitO x) (l.take i)
 rw [List.length_take] at this
 omega
theorem lo49 (x : ByteArray) (l : List DOp) (hl : l.length ≤ 60) (hf : ∀ o ∈ l, o.fits) (Q : AE → Store → Prop) (hq1 : (∃ o ∈ l, badO o = true) → Q (.ret (.d (.bool false))) []) (hq2 : (∀ o ∈ l, badO o = false) → Q (.ret (.d (.bool (decide ((cntO x l : Int) < 2))))) []) : ∀ (m i : Nat), i + m = l.length → (∀ o ∈ l.take i, badO o = false) →
    AW Try.prog 49 none 0 (G49 18 []) (mk 34 [(1, .d (.str x)), (4, .d (.bool false)), (5, .d (.int .i64 (cntO x (l.take i) : Nat))), (9, .d (.list 7 (l.map dopD))), (10, .d (.int .i64 (l.length : Nat))), (11, .d (.int .i64 (i : Nat)))]) [] [] Q := by
  intro m
  induction m with
  | zero =>
    intro i hi hall
    have hi : i = l.length := by omega
    subst hi
    rw [List.take_length] at hall ⊢
    have hq2 := hq2 hall
    clear hq1 hall hf
    refine .sge 5 [1, 4, 5, 9, 10, 11, 12] (G49 23 []) ?_
    refine .if' (decide ((↑l.length : Int) < (↑l.length : Int))) (G49 24 [true]) (G49 24 [false]) (fun h1 => ?_) (fun h1 => ?_)
    · simp only [bsX] at h1
      omega
    · simp only [bsX] at h1
      refine .seg 7 [4] (T' := cgo 31 [false] [.code B49]) (tm' := mk 34 [(4, .d (.bool (decide ((↑(cntO x l) : Int) < 2))))]) (σ' := []) (by kernel_rfl) ?_
      refine .rt F49 (V.d (D.bool (decide ((↑(cntO x l) : Int) < 2)))) ?_
      simp_all
  | succ m ih =>
    intro i hi hall
    obtain ⟨o, ho⟩ := get_some (l := l) (i := i) (by omega)
    have hkk := (hf o (List.mem_of_getElem? ho)).k
    have hle := cntO_le x l i
    have hmore := cntO_more (x := x) ho
    have hq1 : badO o = true → Q (.ret (.d (.bool false))) [] := fun h => hq1 ⟨o, List.mem_of_getElem? ho, h⟩
    have ih := fun hb => ih (i + 1) (by omega) (take_more (q := fun o : DOp => badO o = false) ho hall hb)
    rw [hmore] at ih
    clear hq2 hall hf hmore
    generalize cntO x (l.take i) = n at *
    refine .sge 5 [1, 4, 5, 9, 10, 11, 12] (G49 23 []) ?_
    refine .if' (decide ((↑i : Int) < (↑l.length : Int))) (G49 24 [true]) (G49 24 [false]) (fun h1 => ?_) (fun h1 => ?_)
    · simp only [bsX] at h1
      refine .sg0 5 [1, 4, 5, 9, 10, 11, 12] (G49 29 [true]) [] ?_
      refine .op' (G49 30 [true]) (ixData_ok (t := 54) (x := (.tmp 9)) (i := (.tmp 11)) (k := IntKind.i64) (n := (↑i : Int)) (sz := 7) (xs := map dopD l) (d := dopD o) (by kernel_rfl) (by kernel_rfl) (by kernel_rfl) (by kernel_rfl) (by omega) (map_get ho)) ?_
      refine .sg 16 [1, 4, 5, 7, 9, 10, 11, 12, 13, 14, 15, 16, 17, 18, 19] (G49 46 [true]) [(7, .ptr 0 0 0), (14, .d (.agg [D.int IntKind.u64 (↑o.kind : Int), D.str o.a, D.str o.b, D.list 1 (map u8 o.data), D.int IntKind.i64 o.n, D.int IntKind.i64 o.dir, D.list 1 (map intD o.keep)])), (15, .ptr 0 0 0), (16, .d (.int .u64 (↑o.kind : Int))), (17, .d (.int .u64 ((↑o.kind : Int).tmod 10))), (18, .d (.bool ((↑o.kind : Int).tmod 10 == 0))), (19, .d (.bool ((↑o.kind : Int).tmod 10 == 0)))] [(0, .cells [.d (.int .u64 (↑o.kind : Int)), .d (.str o.a), .d (.str o.b), .d (.list 1 (map u8 o.data)), .d (.int .i64 o.n), .d (.int .i64 o.dir), .d (.list 1 (map intD o.keep))])] ?_
      simp (disch := omega) only [bsW]
      refine .if' ((↑o.kind : Int) % 10 == 0) (G49 47 [true, true]) (G49 47 [true, false]) (fun h2 => ?_) (fun h2 => ?_)
      · simp only [bsX] at h2
        refine .sge 7 [1, 4, 5, 7, 9, 10, 11, 12, 13, 14, 15, 16, 17, 18, 19, 20, 21, 22, 23] (G49 54 [true, true]) ?_
        refine .if' (o.a.toList == x.toList) (G49 55 [true, true, true]) (G49 55 [true, true, false]) (fun h3 => ?_) (fun h3 => ?_)
        · simp only [bsX] at h3
          refine .sg0 11 [1, 4, 5, 7, 9, 10, 11, 12, 13, 14, 15, 16, 17, 18, 19, 20, 21, 22, 23, 24, 25, 31] (G49 66 [true, true, true]) [(5, .d (.int .i64 (IntKind.i64.wrap ((↑n : Int) + 1)))), (11, .d (.int .i64 (IntKind.i64.wrap ((↑i : Int) + 1)))), (24, .d (.int .i64 (↑n : Int))), (25, .d (.int .i64 (IntKind.i64.wrap ((↑n : Int) + 1)))), (31, .d (.int .i64 (IntKind.i64.wrap ((↑i : Int) + 1))))] ?_
          simp (disch := omega) only [bsW]
          have hb : badO o = false := by simp only [badO, decide_eq_false_iff_not]; omega
          have hh : hitO x o = true := by
            simp only [hitO, Bool.and_eq_true, decide_eq_true_eq, beq_iff_eq]; exact ⟨by omega, by assumption⟩
          have ih := ih hb
          rw [hh, if_pos rfl] at ih
          refine .kp [1, 4, 5, 9, 10, 11] ?_
          refine .su [] (mk 34 [(1, .d (.str x)), (4, .d (.bool false)), (5, .d (.int .i64 ((n + 1 : Nat) : Int))), (9, .d (.list 7 (l.map dopD))), (10, .d (.int .i64 (l.length : Nat))), (11, .d (.int .i64 ((i + 1 : Nat) : Int)))]) [] ?_
          exact .seg 1 [1, 4, 5, 9, 10, 11] (by kernel_rfl) ih
        · simp only [bsX] at h3
          refine .sg0 7 [1, 4, 5, 7, 9, 10, 11, 12, 13, 14, 15, 16, 17, 18, 19, 20, 21, 22, 23, 31] (G49 62 [true, true, false]) [(11, .d (.int .i64 (IntKind.i64.wrap ((↑i : Int) + 1)))), (31, .d (.int .i64 (IntKind.i64.wrap ((↑i : Int) + 1))))] ?_
          simp (disch := omega) only [bsW]
          have hb : badO o = false := by simp only [badO, decide_eq_false_iff_not]; omega
          have hh : hitO x o = false := by
            simp_all [hitO]
          have ih := ih hb
          rw [hh, if_neg (by simp)] at ih
          refine .kp [1, 4, 5, 9, 10, 11] ?_
          refine .su [] (mk 34 [(1, .d (.str x)), (4, .d (.bool false)), (5, .d (.int .i64 ((n + 0 : Nat) : Int))), (9, .d (.list 7 (l.map dopD))), (10, .d (.int .i64 (l.length : Nat))), (11, .d (.int .i64 ((i + 1 : Nat) : Int)))]) [] ?_
          exact .seg 1 [1, 4, 5, 9, 10, 11] (by kernel_rfl) ih
      · simp only [bsX] at h2
        refine .sge 6 [1, 4, 5, 7, 9, 10, 11, 12, 13, 14, 15, 16, 17, 18, 19, 26, 27] (G49 53 [true, false]) ?_
        refine .if' ((↑o.kind : Int) % 10 == 4) (G49 54 [true, false, true]) (G49 54 [true, false, false]) (fun h4 => ?_) (fun h4 => ?_)
        · simp only [bsX] at h4
          refine .sg0 1 [1, 4, 5, 7, 9, 10, 11, 12, 13, 14, 15, 16, 17, 18, 19, 26, 27] (G49 55 [true, false, true]) [] ?_
          refine .if' ((↑o.kind : Int) % 10 == 4) (G49 56 [true, false, true, true]) (G49 56 [true, false, true, false]) (fun h5 => ?_) (fun h5 => ?_)
          · simp only [bsX] at h5
            refine .sg0 4 [1, 4, 5, 7, 9, 10, 11, 12, 13, 14, 15, 16, 17, 18, 19, 26, 27] (G49 60 [true, false, true, true]) [] ?_
            refine .kp [4] ?_
            refine .su [] (mk 34 [(4, .d (.bool false))]) [] ?_
            refine .rt F49 (V.d (D.bool false)) ?_
            exact hq1 (by simp only [badO, decide_eq_true_eq]; omega)
          · simp only [bsX] at h5
            omega
        · simp only [bsX] at h4
          refine .sge 5 [1, 4, 5, 7, 9, 10, 11, 12, 13, 14, 15, 16, 17, 18, 19, 26, 27, 28] (G49 59 [true, false, false]) ?_
          refine .if' ((↑o.kind : Int) % 10 == 5) (G49 60 [true, false, false, true]) (G49 60 [true, false, false, false]) (fun h6 => ?_) (fun h6 => ?_)
          · simp only [bsX] at h6
            refine .sg0 1 [1, 4, 5, 7, 9, 10, 11, 12, 13, 14, 15, 16, 17, 18, 19, 26, 27, 28] (G49 61 [true, false, false, true]) [] ?_
            refine .if' ((↑o.kind : Int) % 10 == 5) (G49 62 [true, false, false, true, true]) (G49 62 [true, false, false, true, false]) (fun h7 => ?_) (fun h7 => ?_)
            · simp only [bsX] at h7
              refine .sg0 4 [1, 4, 5, 7, 9, 10, 11, 12, 13, 14, 15, 16, 17, 18, 19, 26, 27, 28] (G49 66 [true, false, false, true, true]) [] ?_
              refine .kp [4] ?_
              refine .su [] (mk 34 [(4, .d (.bool false))]) [] ?_
              refine .rt F49 (V.d (D.bool false)) ?_
              exact hq1 (by simp only [badO, decide_eq_true_eq]; omega)
            · simp only [bsX] at h7
              omega
          · simp only [bsX] at h6
            refine .sge 5 [1, 4, 5, 7, 9, 10, 11, 12, 13, 14, 15, 16, 17, 18, 19, 26, 27, 28, 29] (G49 65 [true, false, false, false]) ?_
            refine .if' ((↑o.kind : Int) % 10 == 8) (G49 66 [true, false, false, false, true]) (G49 66 [true, false, false, false, false]) (fun h8 => ?_) (fun h8 => ?_)
            · simp only [bsX] at h8
              refine .sg0 1 [1, 4, 5, 7, 9, 10, 11, 12, 13, 14, 15, 16, 17, 18, 19, 26, 27, 28, 29] (G49 67 [true, false, false, false, true]) [] ?_
              refine .if' ((↑o.kind : Int) % 10 == 8) (G49 68 [true, false, false, false, true, true]) (G49 68 [true, false, false, false, true, false]) (fun h9 => ?_) (fun h9 => ?_)
              · simp only [bsX] at h9
                refine .sg0 4 [1, 4, 5, 7, 9, 10, 11, 12, 13, 14, 15, 16, 17, 18, 19, 26, 27, 28, 29] (G49 72 [true, false, false, false, true, true]) [] ?_
                refine .kp [4] ?_
                refine .su [] (mk 34 [(4, .d (.bool false))]) [] ?_
                refine .rt F49 (V.d (D.bool false)) ?_
                exact hq1 (by simp only [badO, decide_eq_true_eq]; omega)
              · simp only [bsX] at h9
                omega
            · simp only [bsX] at h8
              refine .sge 4 [1, 4, 5, 7, 9, 10, 11, 12, 13, 14, 15, 16, 17, 18, 19, 26, 27, 28, 29, 30] (G49 70 [true, false, false, false, false]) ?_
              refine .if' ((↑o.kind : Int) % 10 == 9) (G49 71 [true, false, false, false, false, true]) (G49 71 [true, false, false, false, false, false]) (fun h10 => ?_) (fun h10 => ?_)
              · simp only [bsX] at h10
                refine .sg0 4 [1, 4, 5, 7, 9, 10, 11, 12, 13, 14, 15, 16, 17, 18, 19, 26, 27, 28, 29, 30] (G49 75 [true, false, false, false, false, true]) [] ?_
                refine .kp [4] ?_
                refine .su [] (mk 34 [(4, .d (.bool false))]) [] ?_
                refine .rt F49 (V.d (D.bool false)) ?_
                exact hq1 (by simp only [badO, decide_eq_true_eq]; omega)
              · simp only [bsX] at h10
                refine .sg0 7 [1, 4, 5, 7, 9, 10, 11, 12, 13, 14, 15, 16, 17, 18, 19, 26, 27, 28, 29, 30, 31] (G49 78 [true, false, false, false, false, false]) [(11, .d (.int .i64 (IntKind.i64.wrap ((↑i : Int) + 1)))), (31, .d (.int .i64 (IntKind.i64.wrap ((↑i : Int) + 1))))] ?_
                simp (disch := omega) only [bsW]
                have hb : badO o = false := by simp only [badO, decide_eq_false_iff_not]; omega
                have hh : hitO x o = false := by
                  simp only [hitO, Bool.and_eq_false_iff, decide_eq_false_iff_not]; exact .inl (by omega)
                have ih := ih hb
                rw [hh, if_neg (by simp)] at ih
                refine .kp [1, 4, 5, 9, 10, 11] ?_
                refine .su [] (mk 34 [(1, .d (.str x)), (4, .d (.bool false)), (5, .d (.int .i64 ((n + 0 : Nat) : Int))), (9, .d (.list 7 (l.map dopD))), (10, .d (.int .i64 (l.length : Nat))), (11, .d (.int .i64 ((i + 1 : Nat) : Int)))]) [] ?_
                exact .seg 1 [1, 4, 5, 9, 10, 11] (by kernel_rfl) ih
    · simp only [bsX] at h1
      omega
theorem spec_49 (x : ByteArray) (l : List DOp) (hl : l.length ≤ 9223372036854775807) (hf : ∀ o ∈ l, o.fits) : Br.Pure Try.prog 49 [.d (.list 7 (l.map dopD)), .d (.str x)] (.d (.bool (soleB (cutD l) x))) := by
 refine CallsA.pure ?_ rfl
 refine CallsA.start F49 (tm := mk (Try.f49.ntmps) [(0, .d (.list 7 (l.map dopD))), (1, .d (.str x))]) (by kernel_rfl) ?_
 refine .sge 12 [0, 1, 4, 5, 8] (G49 12 []) ?_
 refine .cd (G49 13 []) F38 (@spec_38 (l) (by assumption)) ?_
 refine .sg0 4 [1, 4, 5, 9, 10, 11] (G49 17 []) [(10, .d (.int .i64 (↑(map dopD (cutD l)).length : Int))), (11, .d (.int .i64 0))] ?_
 simp only [List.length_map]
 have hall : ∀ o ∈ cutD l, o.fits := fun o ho => (cutA_fits hf o ho).2
 refine .seg 1 [1, 4, 5, 9, 10, 11] (by kernel_rfl) (lo49 x (cutD l) (cutA_le l) hall _ ?_ ?_ (cutD l).length 0 (by omega) (by simp))
 · rintro ⟨o, ho, hb⟩
   have e : soleB (cutD l) x = false := by
    simp only [soleB, Bool.and_eq_false_iff, List.all_eq_false]
    exact .inl ⟨o, ho, by simp [hb]⟩
   rw [e]
 · intro hb
   have e : soleB (cutD l) x = decide ((cntO x (cutD l) : Int) < 2) := by
    have h1 : ((cutD l).all fun o => !badO o) = true := List.all_eq_true.2 fun o ho => by simp [hb o ho]
    unfold soleB
    rw [h1, Bool.true_and]
    exact decide_eq_decide.2 (by omega)
   rw [e]
structure Dk.Mn (d : Dk) : Prop where
  nk : ∀ k ∈ d.nk, mayName k = true
  sk : ∀ k ∈ d.sk, mayName k = true
  ch : ∀ c ∈ d.ch, c.2.1.size ≠ 0 → mayName c.2.1 = true
theorem mn_begun {d : Dk} (h : d.Mn) : d.begun.Mn := by
 unfold Dk.begun; split
 · exact h
 · exact ⟨h.nk, h.sk, h.ch⟩
theorem mn_turn {d : Dk} {N : Nat} (hk : d.Ok N) (h : d.Mn) (g n : ByteArray) (k : Int) (hn : n.size ≠ 0 → mayName n = true) : (d.turn g n k).Mn := by
 refine ⟨fun z hz => ?_, h.sk, fun c hc h0 => ?_⟩
 · rcases kapply_keys hk.nr hk.nl hz with h1 | ⟨h1, rfl⟩
   · exact h.nk z h1
   · exact hn h1
 · simp only [Dk.turn, List.mem_append, List.mem_singleton] at hc
   rcases hc with hc | rfl
   · exact h.ch c hc h0
   · exact hn h0
theorem err_may {b : Dk} {th : Bool} {x : ByteArray} (h : b.err th [x] = 0) : mayName x = true := by
 unfold Dk.err at h
 split at h
 · cases h
 · split at h
   · rename_i h2
     simpa using h2
   · cases h
theorem err_may2 {b : Dk} {th : Bool} {x y : ByteArray} (h : b.err th [x, y] = 0) : mayName y = true := by
 unfold Dk.err at h
 split at h
 · cases h
 · split at h
   · rename_i h2
     simp only [List.all_cons, List.all_nil, Bool.and_true, Bool.and_eq_true] at h2
     exact h2.2
   · cases h
theorem createE_may {b : Dk} {x : ByteArray} (h : b.createE x = 0) : mayName x = true := by
 unfold Dk.createE at h
 split at h
 · rename_i h1; exact absurd h h1
 · rename_i h1; exact err_may (th := false) (by simpa using h1)
theorem mn_step {d : Dk} {N : Nat} (hk : d.Ok N) (hN : N + 2 ≤ 50000) (h : d.Mn) (o : DOp) : (stepA d o).Mn := by
  have kb := Dk.begun_ok hk (by omega)
  have hb := mn_begun h
  unfold stepA
  split
  · unfold stepD
    split
    · unfold Dk.createD
      split
      · rename_i he
        exact mn_turn (file_added_ok kb (by omega)) ⟨hb.nk, hb.sk, hb.ch⟩ _ _ _ fun _ => createE_may he
      · exact hb
    split
    · unfold Dk.appendD
      split
      · exact ⟨hb.nk, hb.sk, hb.ch⟩
      · split
        · exact ⟨hb.nk, hb.sk, hb.ch⟩
        · exact hb
    split
    · unfold Dk.syncD
      split
      · exact ⟨hb.nk, hb.sk, hb.ch⟩
      · exact hb
    split
    · unfold Dk.syncDirD
      split
      · exact hb
      · exact ⟨hb.nk, hb.nk, by simp⟩
    split
    · unfold Dk.renameD
      split
      · rename_i he
        exact mn_turn kb hb _ _ _ fun _ => err_may2 he
      · exact hb
    · unfold Dk.removeD
      split
      · exact mn_turn kb hb _ _ _ fun h0 => absurd rfl h0
      · exact hb
  split
  · exact ⟨h.nk, h.sk, h.ch⟩
  split
  · exact ⟨h.nk, h.sk, h.ch⟩
  split
  · have key : ∀ (cs : List (ByteArray × ByteArray × Int)) {ks : List ByteArray} {vs : List Int}, Rising ks → vs.length = ks.length → (∀ k ∈ ks, mayName k = true) → (∀ c ∈ cs, c.2.1.size ≠ 0 → mayName c.2.1 = true) → ∀ z ∈ (kfold cs (ks, vs)).1, mayName z = true := by
      intro cs
      induction cs with
      | nil => intro ks vs _ _ h1 _; exact h1
      | cons c cs ih =>
        intro ks vs hr hv h1 h2
        refine ih (kapply_rising hr) (kapply_len hv) (fun z hz => ?_) fun c' hc => h2 c' (by simp [hc])
        rcases kapply_keys hr hv hz with h3 | ⟨h3, rfl⟩
        · exact h1 z h3
        · exact h2 c (by simp) h3
    have hz := key (d.ch.take (min o.dir d.ch.length).toNat) hk.sr hk.sl h.sk fun c hc => h.ch c (List.mem_of_mem_take hc)
    exact ⟨hz, hz, by simp [Dk.crash]⟩
  · unfold Dk.turnD
    split
    · exact ⟨h.nk, h.sk, h.ch⟩
    · exact h
theorem mn_new (q : Int) : (Dk.new q).Mn := ⟨by simp [Dk.new], by simp [Dk.new], by simp [Dk.new]⟩
theorem mn_run : ∀ (l : List DOp) {d : Dk} {t : Int} {N : Nat}, Both d t N → d.Mn → N + 2 * l.length ≤ 50000 → (∀ o ∈ l, o.fits) → (runA (d, t) l).1.Mn
 | [], _, _, _, _, h, _, _ => h
 | o :: l, d, t, N, hb, h, hN, hf => by
   simp only [List.length_cons] at hN
   exact mn_run l (hb.step (by omega) o (hf o (by simp))) (mn_step hb.ok (by omega) h o) (by omega) fun o' ho => hf o' (by simp [ho])
theorem mn_crash {d : Dk} {N : Nat} (hk : d.Ok N) (hN : N + 2 ≤ 50000) (h : d.Mn) (dir : Int) (keep : List Int) : (d.crash dir keep).Mn := by
 have := mn_step hk hN h { kind := 8, a := noName, b := noName, data := [], n := 0, dir := dir, keep := keep }
 exact this
structure Sole (x : ByteArray) (d : Dk) (c : Nat) : Prop where
  zero : c = 0 → look d.nk d.nv x = none ∧ look d.sk d.sv x = none ∧ ∀ e ∈ d.ch, e.2.1 ≠ x
  one : ∀ k, look d.nk d.nv x = some k → (∀ v, look d.sk d.sv x = some v → v = k) ∧ ∀ e ∈ d.ch, e.2.1 = x → e.2.2 = k
theorem sole_begun {x : ByteArray} {d : Dk} {c : Nat} (h : Sole x d c) : Sole x d.begun c := by
 unfold Dk.begun; split
 · exact h
 · exact ⟨h.zero, h.one⟩
theorem Sole.more {x : ByteArray} {d : Dk} {c c' : Nat} (h : Sole x d c) (hc : c ≤ c') : Sole x d c' := ⟨fun h0 => h.zero (by omega), h.one⟩
theorem sole_create {x : ByteArray} {b : Dk} {N c : Nat} (hk : b.Ok N) (hN : N + 1 ≤ 50000) (h : Sole x b c) (a : ByteArray) (hc : a.toList = x.toList → c = 0) : Sole x (b.createD a) (if a.toList = x.toList then c + 1 else c) := by
  unfold Dk.createD
  split
  · rename_i he
    have ha : a.size ≠ 0 := fun h0 => by
      have := createE_may he
      unfold mayName at this
      simp [h0] at this
    have kf := file_added_ok hk hN
    have hl : ∀ z, look (kapply b.nk b.nv noName a b.files.length).1 (kapply b.nk b.nv noName a b.files.length).2 z = if a.size ≠ 0 ∧ z = a then some (b.files.length : Int) else if noName.size ≠ 0 ∧ z = noName then none else look b.nk b.nv z := fun z => look_apply hk.nr hk.nl noName a b.files.length z
    have hnn : ¬ (noName.size ≠ 0 ∧ x = noName) := fun hh => hh.1 rfl
    by_cases hax : a.toList = x.toList
    · have hax' : a = x := toList_inj hax
      subst hax'
      obtain ⟨z1, z2, z3⟩ := h.zero (hc rfl)
      rw [if_pos rfl]
      refine ⟨fun h0 => by omega, fun k hk2 => ?_⟩
      have hk2' : look (kapply b.nk b.nv noName a b.files.length).1 (kapply b.nk b.nv noName a b.files.length).2 a = some k := hk2
      rw [hl, if_pos ⟨ha, rfl⟩] at hk2'
      cases hk2'
      refine ⟨fun v hv => ?_, fun e he2 hx => ?_⟩
      · have hv' : look b.sk b.sv a = some v := hv
        rw [z2] at hv'; cases hv'
      · simp only [Dk.turn, List.mem_append, List.mem_singleton] at he2
        rcases he2 with he2 | rfl
        · exact absurd hx (z3 e he2)
        · rfl
    · have hne : ¬ (a.size ≠ 0 ∧ x = a) := fun hh => hax (by rw [hh.2])
      rw [if_neg hax]
      have hlx : look (kapply b.nk b.nv noName a b.files.length).1 (kapply b.nk b.nv noName a b.files.length).2 x = look b.nk b.nv x := by rw [hl, if_neg hne, if_neg hnn]
      refine ⟨fun h0 => ?_, fun k hk2 => ?_⟩
      · obtain ⟨z1, z2, z3⟩ := h.zero h0
        refine ⟨by show look (kapply b.nk b.nv noName a b.files.length).1 (kapply b.nk b.nv noName a b.files.length).2 x = none; rw [hlx]; exact z1, z2, fun e he2 => ?_⟩
        simp only [Dk.turn, List.mem_append, List.mem_singleton] at he2
        rcases he2 with he2 | rfl
        · exact z3 e he2
        · exact fun hh => hax (by rw [← hh])
      · have hk2' : look (kapply b.nk b.nv noName a b.files.length).1 (kapply b.nk b.nv noName a b.files.length).2 x = some k := hk2
        rw [hlx] at hk2'
        obtain ⟨o1, o2⟩ := h.one k hk2'
        refine ⟨o1, fun e he2 hx => ?_⟩
        simp only [Dk.turn, List.mem_append, List.mem_singleton] at he2
        rcases he2 with he2 | rfl
        · exact o2 e he2 hx
        · exact absurd (by rw [← hx]) hax
  · exact h.more (by split <;> omega)
theorem sole_step {x : ByteArray} {d : Dk} {N c : Nat} (hk : d.Ok N) (hN : N + 2 ≤ 50000) (h : Sole x d c) (o : DOp) (hg : badO o = false) (hc : hitO x o = true → c = 0) : Sole x (stepA d o) (c + if hitO x o then 1 else 0) := by
  have kb := Dk.begun_ok hk (by omega)
  have hb := sole_begun h
  simp only [badO, decide_eq_false_iff_not] at hg
  unfold stepA
  split
  · unfold stepD
    split
    · rename_i h0
      have e : hitO x o = decide (o.a.toList = x.toList) := by
        simp only [hitO, h0, decide_true, Bool.true_and]
        by_cases hh : o.a.toList = x.toList <;> simp [hh]
      have := sole_create kb (by omega) hb o.a fun hh => hc (by rw [e]; simp [hh])
      rw [e]
      by_cases hh : o.a.toList = x.toList
      · rw [if_pos hh] at this; simpa [hh] using this
      · rw [if_neg hh] at this; simpa [hh] using this
    rename_i h0
    have hz : hitO x o = false := by simp [hitO, h0]
    have ez : (c + if hitO x o = true then 1 else 0) = c := by rw [hz]; rfl
    rw [ez]
    split
    · unfold Dk.appendD
      split
      · exact ⟨hb.zero, hb.one⟩
      · split
        · exact ⟨hb.zero, hb.one⟩
        · exact hb
    split
    · unfold Dk.syncD
      split
      · exact ⟨hb.zero, hb.one⟩
      · exact hb
    split
    · unfold Dk.syncDirD
      split
      · exact hb
      · refine ⟨fun h1 => ⟨(hb.zero h1).1, (hb.zero h1).1, by simp⟩, fun k hk2 => ⟨fun v hv => ?_, by simp⟩⟩
        have h1 : look d.begun.nk d.begun.nv x = some k := hk2
        have h2 : look d.begun.nk d.begun.nv x = some v := hv
        rw [h1] at h2; cases h2; rfl
    · omega
  rename_i h6
  have hz : hitO x o = false := by simp only [hitO, Bool.and_eq_false_iff, decide_eq_false_iff_not]; exact .inl (by omega)
  have ez : (c + if hitO x o = true then 1 else 0) = c := by rw [hz]; rfl
  rw [ez]
  split
  · exact ⟨h.zero, h.one⟩
  split
  · exact ⟨h.zero, h.one⟩
  omega
theorem sole_new (x : ByteArray) (q : Int) : Sole x (Dk.new q) 0 := by
 have e : look ([] : List ByteArray) ([] : List Int) x = none := by unfold look; simp
 exact ⟨fun _ => ⟨e, e, by simp [Dk.new]⟩, fun k hk => by rw [show look (Dk.new q).nk (Dk.new q).nv x = none from e] at hk; cases hk⟩
theorem sole_run {x : ByteArray} : ∀ (l : List DOp) {d : Dk} {t : Int} {N c : Nat}, Both d t N → Sole x d c → N + 2 * l.length ≤ 50000 → (∀ o ∈ l, o.fits) → (∀ o ∈ l, badO o = false) → c + cntO x l < 2 → Sole x (runA (d, t) l).1 (c + cntO x l)
 | [], _, _, _, _, _, h, _, _, _, _ => h
 | o :: l, d, t, N, c, hb, h, hN, hf, hg, hc => by
   simp only [List.length_cons] at hN
   have e : cntO x (o :: l) = (if hitO x o then 1 else 0) + cntO x l := by
     unfold cntO
     cases hh : hitO x o <;> simp [hh]; omega
   rw [e] at hc ⊢
   rw [← Nat.add_assoc] at hc ⊢
   refine sole_run l (hb.step (by omega) o (hf o (by simp))) (sole_step hb.ok (by omega) h o (hg o (by simp)) fun hh => ?_) (by omega) (fun o' ho => hf o' (by simp [ho])) (fun o' ho => hg o' (by simp [ho])) hc
   rw [hh, if_pos rfl] at hc
   omega
theorem kfold_look : ∀ (cs : List (ByteArray × ByteArray × Int)) {ks : List ByteArray} {vs : List Int}, Rising ks → vs.length = ks.length → ∀ {z : ByteArray} {v : Int}, look (kfold cs (ks, vs)).1 (kfold cs (ks, vs)).2 z = some v → look ks vs z = some v ∨ ∃ c ∈ cs, c.2.1 = z ∧ c.2.2 = v
  | [], _, _, _, _, _, _, h => .inl h
  | c :: cs, ks, vs, hr, hv, z, v, h => by
    rcases kfold_look cs (kapply_rising hr) (kapply_len hv) h with h1 | ⟨c', h1, h2, h3⟩
    · have h2 : look (kapply ks vs c.1 c.2.1 c.2.2).1 (kapply ks vs c.1 c.2.1 c.2.2).2 z = some v := h1
      rw [look_apply hr hv] at h2
      split at h2
      · rename_i h3
        cases h2
        exact .inr ⟨c, by simp, h3.2.symm, rfl⟩
      · split at h2
        · cases h2
        · exact .inl h2
    · exact .inr ⟨c', by simp [h1], h2, h3⟩
theorem crash_look {d : Dk} {N : Nat} (h : d.Ok N) {dir : Int} {keep : List Int} {x : ByteArray} {v' : Int} (hl : look (d.crash dir keep).nk (d.crash dir keep).nv x = some v') :
  ∃ v : Int, look (d.names dir).1 (d.names dir).2 x = some v ∧ 0 ≤ v ∧ ∃ f, d.files[v.toNat]? = some f ∧ (d.crash dir keep).file v'.toNat = (f.1.take (leftOf f v.toNat keep), leftOf f v.toNat keep) := by
 obtain ⟨n1, n2, n3, n4⟩ := Dk.names_ok h dir
 have hr : Rising (d.crash dir keep).nk := n1
 obtain ⟨i, g1, g2⟩ := (look_iff hr).1 hl
 have g1' : (d.names dir).1[i]? = some x := g1
 have g2' : ((d.names dir).2.map fun k => (rank (d.has dir) k.toNat : Int))[i]? = some v' := g2
 rw [List.getElem?_map, Option.map_eq_some_iff] at g2'
 obtain ⟨v, g3, g4⟩ := g2'
 have hv := n3 v (List.mem_of_getElem? g3)
 obtain ⟨f, hf⟩ := get_some (l := d.files) (i := v.toNat) (by omega)
 have hh : d.has dir v.toNat = true := by
  simp only [Dk.has, decide_eq_true_eq]
  rw [show ((v.toNat : Nat) : Int) = v by omega]
  exact List.mem_of_getElem? g3
 refine ⟨v, (look_iff n1).2 ⟨i, g1', g3⟩, hv.1, f, hf, ?_⟩
 rw [← g4, Int.toNat_natCast]
 exact (crash_file (keep := keep) hf hh).2
theorem crash_sole {d : Dk} {N c : Nat} (h : d.Ok N) {dir : Int} {keep : List Int} {x : ByteArray} (hs : Sole x d c) {v' k : Int} (hl : look (d.crash dir keep).nk (d.crash dir keep).nv x = some v') (hk : look d.nk d.nv x = some k) :
  ∃ m, ((d.crash dir keep).file v'.toNat).1 = (d.file k.toNat).1.take m := by
 obtain ⟨v, h1, h2, f, h3, h4⟩ := crash_look h hl
 obtain ⟨o1, o2⟩ := hs.one k hk
 have e : v = k := by
  rcases kfold_look _ h.sr h.sl h1 with h5 | ⟨c', h5, h6, h7⟩
  · exact o1 v h5
  · rw [← h7]; exact o2 c' (List.mem_of_mem_take h5) h6
 subst e
 refine ⟨leftOf f v.toNat keep, ?_⟩
 rw [h4]
 unfold Dk.file
 rw [List.getD_eq_getElem?_getD, h3]; rfl
theorem crash_again {d : Dk} {N : Nat} (h : d.Ok N) (h1 : d.sk = d.nk) (h2 : d.sv = d.nv) (h3 : d.ch = []) (h4 : ∀ f ∈ d.files, f.2 = f.1.length) (dir : Int) (keep : List Int) :
  (d.crash dir keep).nk = d.nk ∧ ∀ p ∈ (d.crash dir keep).nk.zip (d.crash dir keep).nv, ∃ v : Int, look d.nk d.nv p.1 = some v ∧ (d.file v.toNat).1 = ((d.crash dir keep).file p.2.toNat).1 := by
 have en : d.names dir = (d.nk, d.nv) := by
  unfold Dk.names
  rw [h1, h2, h3]; simp [kfold]
 have ek : (d.crash dir keep).nk = d.nk := by
  show (d.names dir).1 = _
  rw [en]
 have kc := Dk.crash_ok h dir keep
 refine ⟨ek, fun p hp => ?_⟩
 obtain ⟨i, hi, hpi⟩ := List.mem_iff_getElem.1 hp
 have hz : ((d.crash dir keep).nk.zip (d.crash dir keep).nv)[i]? = some p := by rw [List.getElem?_eq_getElem hi, hpi]
 rw [List.getElem?_zip_eq_some] at hz
 have hl := (look_iff kc.nr).2 ⟨i, hz.1, hz.2⟩
 obtain ⟨v, g1, g2, f, g3, g4⟩ := crash_look h hl
 rw [en] at g1
 refine ⟨v, g1, ?_⟩
 have hf := h4 f (List.mem_of_getElem? g3)
 have hle := leftOf_le (f := f) (by omega) v.toNat keep
 rw [g4]
 unfold Dk.file
 rw [List.getD_eq_getElem?_getD, g3]
 show f.1 = f.1.take _
 rw [List.take_of_length_le (by omega)]
theorem crash_whole {d : Dk} {N : Nat} (h : d.Ok N) (dir : Int) (keep : List Int) : ∀ f ∈ (d.crash dir keep).files, f.2 = f.1.length := by
 intro g hg
 obtain ⟨f, hf, j, rfl⟩ := kept_mem g hg
 have := leftOf_le (h.fs f hf).1 j keep
 simp only [List.length_take]; omega
noncomputable def B84 : Code := (Try.f84.body).getD .skip
noncomputable def G84 (n l) := cgo n l [.code B84]
theorem F84 : Fnc Try.prog 84 Try.f84 B84 := ⟨Try.func84, by kernel_rfl, by kernel_rfl⟩
noncomputable def B85 : Code := (Try.f85.body).getD .skip
noncomputable def G85 (n l) := cgo n l [.code B85]
theorem F85 : Fnc Try.prog 85 Try.f85 B85 := ⟨Try.func85, by kernel_rfl, by kernel_rfl⟩
theorem spec_84 (xs : List D) (hlen : xs.length ≤ 1000000) : CallsA Try.prog 84 [.row 0] [.row 2 xs false] fun r σ' => r = .ret (.row 1) ∧ σ' = [.row 2 xs false, .row 2 xs true] := by
 refine CallsA.start F84 (tm := (mk 8 [(0, .row 0)])) (by kernel_rfl) ?_
 refine .sge 8 [0, 3] (cgo 8 [] [.code B84]) ?_
 refine .anyH (o := (opOf (G84 8 [])).getD default) (by kernel_rfl) (by kernel_rfl) (by kernel_rfl) (T' := (G84 9 [])) (by kernel_rfl) (nilEqC_ok (x := .tmp 3) (y := .const (.slice none 0 0)) (t := 105) (ty := 105) (sz := 2) (xs := xs) (neg := false) (by kernel_rfl) (by kernel_rfl) (by kernel_rfl) (by kernel_rfl) (by kernel_rfl)) ?_
 rintro v ⟨b, rfl, hb⟩
 cases b with
 | true =>
   have h0 : xs = [] := hb rfl
   subst h0
   refine .sge 6 [2] (cgo 15 [true] [.code B84]) ?_
   refine .virtT 2 2 (by kernel_rfl) ?_
   refine .raises [1] ?_
   exact .retH (v := .row 1) F84 (by kernel_rfl) (by kernel_rfl) ⟨rfl, rfl⟩
 | false =>
   refine .sge 5 [0] (cgo 14 [false] [.code B84]) ?_
   refine .opH (o := (opOf (G84 14 [false])).getD default) (by kernel_rfl) (by kernel_rfl) (by kernel_rfl) (T' := cgo 15 [false] [.code B84]) (by kernel_rfl) (build0_ok (t := 105) (e := 114) (sz := 2) (sz' := 2) (by kernel_rfl) (by kernel_rfl) (by kernel_rfl)) ?_
   refine .seg 1 [5, 6] (T' := cgo 16 [false] [.code B84]) (tm' := mk 8 [(5, .ex 2 []), (6, .row 0)]) (σ' := [.row 2 xs false]) (by kernel_rfl) ?_
   have hc : cont [.row 2 xs false] (.row 0) = some (2, xs) := by kernel_rfl
   cases xs with
   | nil =>
     refine .opH (o := (opOf (G84 16 [false])).getD default) (by kernel_rfl) (by kernel_rfl) (by kernel_rfl) (T' := cgo 17 [false] [.code B84]) (by kernel_rfl) (appNone_ok (s := .tmp 5) (x := .tmp 6) (t := 105) (t2 := 105) (sz := 2) (by' := 32) (xs := []) (by kernel_rfl) (by kernel_rfl) hc (by kernel_rfl) (by kernel_rfl)) ?_
     refine .sge 2 [2] (cgo 19 [false] [.code B84]) ?_
     refine .virtE 2 2 (by kernel_rfl) ?_
     refine .raises [1] ?_
     exact .retH (v := .row 1) F84 (by kernel_rfl) (by kernel_rfl) ⟨rfl, rfl⟩
   | cons b bs =>
     refine .opH (o := (opOf (G84 16 [false])).getD default) (by kernel_rfl) (by kernel_rfl) (by kernel_rfl) (T' := cgo 17 [false] [.code B84]) (by kernel_rfl) (appEx_ok (s := .tmp 5) (x := .tmp 6) (t := 105) (t2 := 105) (sz := 2) (by' := 32) (xs := []) (ys := b :: bs) (by kernel_rfl) (by kernel_rfl) hc (by kernel_rfl) (by kernel_rfl) (by simp) (by simp at hlen ⊢; omega) (by simp [maxLen] at hlen ⊢; omega)) ?_
     refine .seg 2 [2] (T' := cgo 19 [false] [.code B84]) (tm' := mk 8 [(2, .row 1)]) (σ' := [.row 2 (b :: bs) false, .row 2 (b :: bs) false]) (by kernel_rfl) ?_
     refine .raises [1] ?_
     exact .retH F84 (by kernel_rfl) (by kernel_rfl) ⟨rfl, rfl⟩
theorem spec_85 (xs : List D) (hlen : xs.length ≤ 1000000) : CallsA Try.prog 85 [.row 0] [.row 3 xs false] fun r σ' => r = .ret (.row 1) ∧ σ' = [.row 3 xs false, .row 3 xs true] := by
 refine CallsA.start F85 (tm := (mk 8 [(0, .row 0)])) (by kernel_rfl) ?_
 refine .sge 8 [0, 3] (cgo 8 [] [.code B85]) ?_
 refine .anyH (o := (opOf (G85 8 [])).getD default) (by kernel_rfl) (by kernel_rfl) (by kernel_rfl) (T' := (G85 9 [])) (by kernel_rfl) (nilEqC_ok (x := .tmp 3) (y := .const (.slice none 0 0)) (t := 106) (ty := 106) (sz := 3) (xs := xs) (neg := false) (by kernel_rfl) (by kernel_rfl) (by kernel_rfl) (by kernel_rfl) (by kernel_rfl)) ?_
 rintro v ⟨b, rfl, hb⟩
 cases b with
 | true =>
   have h0 : xs = [] := hb rfl
   subst h0
   refine .sge 6 [2] (cgo 15 [true] [.code B85]) ?_
   refine .virtT 2 3 (by kernel_rfl) ?_
   refine .raises [1] ?_
   exact .retH (v := .row 1) F85 (by kernel_rfl) (by kernel_rfl) ⟨rfl, rfl⟩
 | false =>
   refine .sge 5 [0] (cgo 14 [false] [.code B85]) ?_
   refine .opH (o := (opOf (G85 14 [false])).getD default) (by kernel_rfl) (by kernel_rfl) (by kernel_rfl) (T' := cgo 15 [false] [.code B85]) (by kernel_rfl) (build0_ok (t := 106) (e := 117) (sz := 3) (sz' := 3) (by kernel_rfl) (by kernel_rfl) (by kernel_rfl)) ?_
   refine .seg 1 [5, 6] (T' := cgo 16 [false] [.code B85]) (tm' := mk 8 [(5, .ex 3 []), (6, .row 0)]) (σ' := [.row 3 xs false]) (by kernel_rfl) ?_
   have hc : cont [.row 3 xs false] (.row 0) = some (3, xs) := by kernel_rfl
   cases xs with
   | nil =>
     refine .opH (o := (opOf (G85 16 [false])).getD default) (by kernel_rfl) (by kernel_rfl) (by kernel_rfl) (T' := cgo 17 [false] [.code B85]) (by kernel_rfl) (appNone_ok (s := .tmp 5) (x := .tmp 6) (t := 106) (t2 := 106) (sz := 3) (by' := 40) (xs := []) (by kernel_rfl) (by kernel_rfl) hc (by kernel_rfl) (by kernel_rfl)) ?_
     refine .sge 2 [2] (cgo 19 [false] [.code B85]) ?_
     refine .virtE 2 3 (by kernel_rfl) ?_
     refine .raises [1] ?_
     exact .retH (v := .row 1) F85 (by kernel_rfl) (by kernel_rfl) ⟨rfl, rfl⟩
   | cons b bs =>
     refine .opH (o := (opOf (G85 16 [false])).getD default) (by kernel_rfl) (by kernel_rfl) (by kernel_rfl) (T' := cgo 17 [false] [.code B85]) (by kernel_rfl) (appEx_ok (s := .tmp 5) (x := .tmp 6) (t := 106) (t2 := 106) (sz := 3) (by' := 40) (xs := []) (ys := b :: bs) (by kernel_rfl) (by kernel_rfl) hc (by kernel_rfl) (by kernel_rfl) (by simp) (by simp at hlen ⊢; omega) (by simp [maxLen] at hlen ⊢; omega)) ?_
     refine .seg 2 [2] (T' := cgo 19 [false] [.code B85]) (tm' := mk 8 [(2, .row 1)]) (σ' := [.row 3 (b :: bs) false, .row 3 (b :: bs) false]) (by kernel_rfl) ?_
     refine .raises [1] ?_
     exact .retH F85 (by kernel_rfl) (by kernel_rfl) ⟨rfl, rfl⟩
def qF4 : List FP := [fO 0, fA 0, fA 0, fX [0] [] [] [1] [0, 1, 2, 5], ⟨[], [], [], [], [], [], false, true⟩, fO 0, fA 0, fA 0, fX [0] [] [] [5] [0, 1, 2, 5], ⟨[], [], [], [], [], [], false, true⟩, fA 6, fX [6] [6] [] [7, 2, 5] [6, 7, 1, 2, 5], fA 6, fX [6] [6] [] [7, 2, 8] [6, 8, 7, 2, 5]]
def qF5 : List FP := [fO 0, fA 0, fA 0, fX [0] [] [] [2] [0, 1, 2, 5], ⟨[], [], [], [], [], [], false, true⟩, fO 0, fA 0, fA 0, fX [0] [] [] [] [0, 1, 2, 5], ⟨[], [], [], [], [], [], false, true⟩, fA 6, fX [6] [6] [] [7, 9, 8] [6, 9, 7, 2, 8], fA 6, fX [6] [6] [] [7, 9, 12, 8] [6, 12, 7, 9, 8]]
noncomputable def B47 : Code := (Try.f47.body).getD .skip
noncomputable def G47 (n l) := cgo n l [.code B47]
theorem F47 : Fnc Try.prog 47 Try.f47 B47 := ⟨Try.func47, by kernel_rfl, by kernel_rfl⟩
def SDk (d : Dk) : Store := [.cells [.row 7, .ptr 8 0 0, .ep 2 (dirD d.sk d.sv) 0, .row 11, .d (.int .i64 d.quota), .d (.bool d.full), .d (.bool d.off), .d (.int .i64 d.stop), .d (.int .i64 d.calls)],
  .row 2 (d.files.map fileD) true, .cells [.row 9, .row 10], .row 1 (d.nk.map strD) true, .row 1 (d.nv.map intD) true, .row 3 (d.ch.map chD) true]
theorem spec_47 (d : Dk) (N : Nat) (h : d.Ok N) : CallsA Try.prog 47 [.ptr 0 0 0] (SD d false) fun r σ' => r = .ret (.ptr 6 0 0) ∧ σ' = SD d false ++ SDk d := by
  refine CallsA.start F47 (tm := mk (Try.f47.ntmps) [(0, .ptr 0 0 0)]) (by kernel_rfl) ?_
  have q1 := h.nr
  have q2 := h.nl
  have q3 := h.nkl
  have q4 := h.nb
  have q5 := h.sr
  have q6 := h.sl
  have q7 := h.skl
  have q8 := h.fl
  have q9 := h.chl
  refine .sge 21 [0, 2, 3] (G47 21 [false]) ?_
  refine .dr (G47 22 [false]) [(9, .ptr 0 0 0), (10, .ptr 0 0 0), (11, .ptr 0 0 0), (12, .row 1), (13, .row 7), (14, .ptr 0 0 0), (15, .ptr 0 0 0), (16, .ptr 0 0 3), (17, .row 5), (18, .row 8), (19, .ptr 6 0 0), (20, .ptr 6 0 3)] [(6, .cells (hC 7 2 8 d)), (7, .row 2 (map fileD d.files) true), (8, .row 3 (map chD d.ch) true)] (fun kz L hL => ?_) ?_
  · rcases ahead_or' hL 4 5 (by kernel_rfl) with o7 | o7
    · refine ⟨qF4, run_amongF hL _ [(4, 5)] [0, 1, 2, 3, 4, 5, 6, 7, 8, 9, 10, 11, 12, 13] (by simp [o7]) (by kernel_rfl) ?_⟩
      refine Run.ap [0, 1, 2, 3] [(9, .ptr 0 0 0), (10, .ptr 0 0 0), (11, .ptr 0 0 0), (12, .row 1)] [] ?_
      refine Run.cn 4 [1] F84 (@spec_84 (map fileD d.files) (by simp <;> omega)) ?_
      refine Run.ap [5, 6, 7, 8] [(14, .ptr 0 0 0), (15, .ptr 0 0 0), (16, .ptr 0 0 3), (17, .row 5)] [] ?_
      refine Run.cn 9 [5] F85 (@spec_85 (map chD d.ch) (by simp <;> omega)) ?_
      exact Run.fin
    · rcases ahead_or' hL 4 6 (by kernel_rfl) with o12 | o12
      · refine ⟨qF4, run_amongF hL _ [(5, 4), (4, 6)] [0, 1, 2, 3, 5, 4, 6, 7, 8, 9, 10, 11, 12, 13] (by simp [o7, o12]) (by kernel_rfl) ?_⟩
        refine Run.ap [0, 1, 2, 3, 5] [(9, .ptr 0 0 0), (10, .ptr 0 0 0), (11, .ptr 0 0 0), (12, .row 1), (14, .ptr 0 0 0)] [] ?_
        refine Run.cn 4 [1] F84 (@spec_84 (map fileD d.files) (by simp <;> omega)) ?_
        refine Run.ap [6, 7, 8] [(15, .ptr 0 0 0), (16, .ptr 0 0 3), (17, .row 5)] [] ?_
        refine Run.cn 9 [5] F85 (@spec_85 (map chD d.ch) (by simp <;> omega)) ?_
        exact Run.fin
      · rcases ahead_or' hL 4 7 (by kernel_rfl) with o17 | o17
        · refine ⟨qF4, run_amongF hL _ [(5, 4), (6, 4), (4, 7)] [0, 1, 2, 3, 5, 6, 4, 7, 8, 9, 10, 11, 12, 13] (by simp [o7, o12, o17]) (by kernel_rfl) ?_⟩
          refine Run.ap [0, 1, 2, 3, 5, 6] [(9, .ptr 0 0 0), (10, .ptr 0 0 0), (11, .ptr 0 0 0), (12, .row 1), (14, .ptr 0 0 0), (15, .ptr 0 0 0)] [] ?_
          refine Run.cn 4 [1] F84 (@spec_84 (map fileD d.files) (by simp <;> omega)) ?_
          refine Run.ap [7, 8] [(16, .ptr 0 0 3), (17, .row 5)] [] ?_
          refine Run.cn 9 [5] F85 (@spec_85 (map chD d.ch) (by simp <;> omega)) ?_
          exact Run.fin
        · rcases ahead_or' hL 4 8 (by kernel_rfl) with o22 | o22
          · refine ⟨qF4, run_amongF hL _ [(5, 4), (6, 4), (7, 4), (4, 8)] [0, 1, 2, 3, 5, 6, 7, 4, 8, 9, 10, 11, 12, 13] (by simp [o7, o12, o17, o22]) (by kernel_rfl) ?_⟩
            refine Run.ap [0, 1, 2, 3, 5, 6, 7] [(9, .ptr 0 0 0), (10, .ptr 0 0 0), (11, .ptr 0 0 0), (12, .row 1), (14, .ptr 0 0 0), (15, .ptr 0 0 0), (16, .ptr 0 0 3)] [] ?_
            refine Run.cn 4 [1] F84 (@spec_84 (map fileD d.files) (by simp <;> omega)) ?_
            refine Run.ap [8] [(17, .row 5)] [] ?_
            refine Run.cn 9 [5] F85 (@spec_85 (map chD d.ch) (by simp <;> omega)) ?_
            exact Run.fin
          · refine ⟨qF4, run_amongF hL _ [(5, 4), (6, 4), (7, 4), (8, 4)] [0, 1, 2, 3, 5, 6, 7, 8, 4, 9, 10, 11, 12, 13] (by simp [o7, o12, o17, o22]) (by kernel_rfl) ?_⟩
            refine Run.ap [0, 1, 2, 3, 5, 6, 7, 8] [(9, .ptr 0 0 0), (10, .ptr 0 0 0), (11, .ptr 0 0 0), (12, .row 1), (14, .ptr 0 0 0), (15, .ptr 0 0 0), (16, .ptr 0 0 3), (17, .row 5)] [] ?_
            refine Run.cn 4 [1] F84 (@spec_84 (map fileD d.files) (by simp <;> omega)) ?_
            refine Run.cn 9 [5] F85 (@spec_85 (map chD d.ch) (by simp <;> omega)) ?_
            exact Run.fin
  refine .sg0 1 [0, 2, 3] (G47 23 [false]) [] ?_
  refine .dr (G47 24 [false]) [(21, .ptr 0 0 0), (22, .ptr 0 0 0), (23, .ptr 0 0 1), (24, .ptr 2 0 0), (25, .ptr 9 0 0), (26, .ptr 0 0 0), (27, .ptr 0 0 0), (28, .ptr 0 0 2), (29, .ep 2 (D.agg [D.list 1 (map strD d.sk), D.list 1 (map intD d.sv)]) 0), (30, .ptr 12 0 0), (31, .ptr 6 0 1), (32, .ptr 6 0 2)] [(6, .cells [.row 7, .ptr 9 0 0, .ptr 12 0 0, .row 8, .d (.int .i64 d.quota), .d (.bool d.full), .d (.bool d.off), .d (.int .i64 d.stop), .d (.int .i64 d.calls)]), (9, .cells [.row 10, .row 11]), (10, .row 1 (map strD d.nk) true), (11, .row 1 (map intD d.nv) true), (12, .cells [.row 13, .row 14]), (13, .row 1 (map strD d.sk) true), (14, .row 1 (map intD d.sv) true)] (fun kz L hL => ?_) ?_
  · rcases ahead_or' hL 4 5 (by kernel_rfl) with o33 | o33
    · refine ⟨qF5, run_amongF hL _ [(4, 5)] [0, 1, 2, 3, 4, 5, 6, 7, 8, 9, 10, 11, 12, 13] (by simp [o33]) (by kernel_rfl) ?_⟩
      refine Run.ap [0, 1, 2, 3] [(21, .ptr 0 0 0), (22, .ptr 0 0 0), (23, .ptr 0 0 1), (24, .ptr 2 0 0)] [] ?_
      refine Run.cn 4 [2, 3, 4] F69 (@spec_69 (d.nk) (d.nv) (by assumption) (by omega) (by assumption)) ?_
      refine Run.ap [5, 6, 7, 8] [(26, .ptr 0 0 0), (27, .ptr 0 0 0), (28, .ptr 0 0 2), (29, .ep 2 (D.agg [D.list 1 (map strD d.sk), D.list 1 (map intD d.sv)]) 0)] [] ?_
      refine Run.cn 9 [] F69 (@spec_69e (d.sk) (d.sv) (by assumption) (by omega) (by assumption)) ?_
      exact Run.fin
    · rcases ahead_or' hL 4 6 (by kernel_rfl) with o38 | o38
      · refine ⟨qF5, run_amongF hL _ [(5, 4), (4, 6)] [0, 1, 2, 3, 5, 4, 6, 7, 8, 9, 10, 11, 12, 13] (by simp [o33, o38]) (by kernel_rfl) ?_⟩
        refine Run.ap [0, 1, 2, 3, 5] [(21, .ptr 0 0 0), (22, .ptr 0 0 0), (23, .ptr 0 0 1), (24, .ptr 2 0 0), (26, .ptr 0 0 0)] [] ?_
        refine Run.cn 4 [2, 3, 4] F69 (@spec_69 (d.nk) (d.nv) (by assumption) (by omega) (by assumption)) ?_
        refine Run.ap [6, 7, 8] [(27, .ptr 0 0 0), (28, .ptr 0 0 2), (29, .ep 2 (D.agg [D.list 1 (map strD d.sk), D.list 1 (map intD d.sv)]) 0)] [] ?_
        refine Run.cn 9 [] F69 (@spec_69e (d.sk) (d.sv) (by assumption) (by omega) (by assumption)) ?_
        exact Run.fin
      · rcases ahead_or' hL 4 7 (by kernel_rfl) with o43 | o43
        · refine ⟨qF5, run_amongF hL _ [(5, 4), (6, 4), (4, 7)] [0, 1, 2, 3, 5, 6, 4, 7, 8, 9, 10, 11, 12, 13] (by simp [o33, o38, o43]) (by kernel_rfl) ?_⟩
          refine Run.ap [0, 1, 2, 3, 5, 6] [(21, .ptr 0 0 0), (22, .ptr 0 0 0), (23, .ptr 0 0 1), (24, .ptr 2 0 0), (26, .ptr 0 0 0), (27, .ptr 0 0 0)] [] ?_
          refine Run.cn 4 [2, 3, 4] F69 (@spec_69 (d.nk) (d.nv) (by assumption) (by omega) (by assumption)) ?_
          refine Run.ap [7, 8] [(28, .ptr 0 0 2), (29, .ep 2 (D.agg [D.list 1 (map strD d.sk), D.list 1 (map intD d.sv)]) 0)] [] ?_
          refine Run.cn 9 [] F69 (@spec_69e (d.sk) (d.sv) (by assumption) (by omega) (by assumption)) ?_
          exact Run.fin
        · rcases ahead_or' hL 4 8 (by kernel_rfl) with o48 | o48
          · refine ⟨qF5, run_amongF hL _ [(5, 4), (6, 4), (7, 4), (4, 8)] [0, 1, 2, 3, 5, 6, 7, 4, 8, 9, 10, 11, 12, 13] (by simp [o33, o38, o43, o48]) (by kernel_rfl) ?_⟩
            refine Run.ap [0, 1, 2, 3, 5, 6, 7] [(21, .ptr 0 0 0), (22, .ptr 0 0 0), (23, .ptr 0 0 1), (24, .ptr 2 0 0), (26, .ptr 0 0 0), (27, .ptr 0 0 0), (28, .ptr 0 0 2)] [] ?_
            refine Run.cn 4 [2, 3, 4] F69 (@spec_69 (d.nk) (d.nv) (by assumption) (by omega) (by assumption)) ?_
            refine Run.ap [8] [(29, .ep 2 (D.agg [D.list 1 (map strD d.sk), D.list 1 (map intD d.sv)]) 0)] [] ?_
            refine Run.cn 9 [] F69 (@spec_69e (d.sk) (d.sv) (by assumption) (by omega) (by assumption)) ?_
            exact Run.fin
          · refine ⟨qF5, run_amongF hL _ [(5, 4), (6, 4), (7, 4), (8, 4)] [0, 1, 2, 3, 5, 6, 7, 8, 4, 9, 10, 11, 12, 13] (by simp [o33, o38, o43, o48]) (by kernel_rfl) ?_⟩
            refine Run.ap [0, 1, 2, 3, 5, 6, 7, 8] [(21, .ptr 0 0 0), (22, .ptr 0 0 0), (23, .ptr 0 0 1), (24, .ptr 2 0 0), (26, .ptr 0 0 0), (27, .ptr 0 0 0), (28, .ptr 0 0 2), (29, .ep 2 (D.agg [D.list 1 (map strD d.sk), D.list 1 (map intD d.sv)]) 0)] [] ?_
            refine Run.cn 4 [2, 3, 4] F69 (@spec_69 (d.nk) (d.nv) (by assumption) (by omega) (by assumption)) ?_
            refine Run.cn 9 [] F69 (@spec_69e (d.sk) (d.sv) (by assumption) (by omega) (by assumption)) ?_
            exact Run.fin
  refine .sg0 4 [2] (G47 28 [false]) [(2, .ptr 6 0 0)] ?_
  refine .freeze 13 (sz := 1) (xs := d.sk.map strD) (mv := true) (by kernel_rfl) ?_
  refine .freeze 14 (sz := 1) (xs := d.sv.map intD) (mv := true) (by kernel_rfl) ?_
  refine .freezeC 12 (cs0 := [.d (.list 1 (d.sk.map strD)), .d (.list 1 (d.sv.map intD))]) (ds := [.list 1 (d.sk.map strD), .list 1 (d.sv.map intD)]) (by kernel_rfl) (by kernel_rfl) ?_
  refine .su [0, 1, 2, 3, 4, 5, 6, 7, 9, 10, 11, 8] (mk 33 [(2, .ptr 6 0 0)]) (SD d false ++ SDk d) ?_
  refine .rt F47 (V.ptr 6 0 0) ?_
  exact ⟨rfl, by kernel_rfl⟩
noncomputable def B82 : Code := (Try.f82.body).getD .skip
noncomputable def G82 (n l) := cgo n l [.code B82]
theorem F82 : Fnc Try.prog 82 Try.f82 B82 := ⟨Try.func82, by kernel_rfl, by kernel_rfl⟩
noncomputable def B104 : Code := (Try.f104.body).getD .skip
noncomputable def G104 (n l) := cgo n l [.code B104]
theorem F104 : Fnc Try.prog 104 Try.f104 B104 := ⟨Try.func104, by kernel_rfl, by kernel_rfl⟩
noncomputable def B44 : Code := (Try.f44.body).getD .skip
noncomputable def G44 (n l) := cgo n l [.code B44]
theorem F44 : Fnc Try.prog 44 Try.f44 B44 := ⟨Try.func44, by kernel_rfl, by kernel_rfl⟩
theorem spec_82 (d : Dk) : CallsA Try.prog 82 [.ptr 0 0 0] (SD d false) fun r σ' => r = .ret (.fn (.func 104) [] [.ptr 6 0 0]) ∧ σ' = SD d false ++ [.cells [.ptr 0 0 0]] := by
 refine CallsA.start F82 (tm := mk (Try.f82.ntmps) [(0, .ptr 0 0 0)]) (by kernel_rfl) ?_
 refine .sge 10 [2] (cgo 10 [] [.code B82]) ?_
 refine .rt F82 (V.fn (Fn.func 104) [] [V.ptr 6 0 0]) ?_
 exact ⟨rfl, by kernel_rfl⟩
def afD (d : Dk) (p : ByteArray × Int) : D := .agg [.str p.1, bsD (d.file p.2.toNat).1]
def allF (d : Dk) : List D := (d.nk.zip d.nv).map (afD d)
theorem allF_length (d : Dk) (h : d.nv.length = d.nk.length) : (allF d).length = d.nk.length := by simp [allF, h]
theorem allF_get {d : Dk} {i : Nat} {x : ByteArray} {v : Int} (hx : d.nk[i]? = some x) (hy : d.nv[i]? = some v) : (allF d)[i]? = some (.agg [.str x, bsD (d.file v.toNat).1]) := by
 unfold allF
 rw [List.getElem?_map, (List.getElem?_zip_eq_some.2 ⟨hx, hy⟩ : (d.nk.zip d.nv)[i]? = some (x, v))]; rfl
theorem take_snoc {α : Type} {l : List α} {i : Nat} {y : α} (h : l[i]? = some y) : l.take i ++ [y] = l.take (i + 1) := by
 obtain ⟨hi, rfl⟩ := List.getElem?_eq_some_iff.1 h
 rw [List.take_succ_eq_append_getElem hi]
noncomputable def S44 (d : Dk) (i : Nat) (st : LoopState) : Store := [.cells [.row 1, .ptr 2 0 0, .ep 2 (dirD d.sk d.sv) 0, .row 5, .d (.int .i64 d.quota), .d (.bool d.full), .d (.bool d.off), .d (.int .i64 d.stop), .d (.int .i64 d.calls)], .row 2 (d.files.map fileD) false, .cells [.row 3, .row 4], .row 1 (d.nk.map strD) false, .row 1 (d.nv.map intD) false, .row 3 (d.ch.map chD) false,
  .cells [.row 8], .cells [.ptr 0 0 0], .row 1 ((d.nk.take i).map strD) true, .defd, lp (G44 11 []) 44 (mk 13 [(2, V.ptr 6 0 0), (5, V.fn (Fn.func 104) [] [V.ptr 7 0 0])]) st]
noncomputable def S104 (d : Dk) (i : Nat) (st : LoopState) : Store := [.cells [.row 1, .ptr 2 0 0, .ep 2 (dirD d.sk d.sv) 0, .row 5, .d (.int .i64 d.quota), .d (.bool d.full), .d (.bool d.off), .d (.int .i64 d.stop), .d (.int .i64 d.calls)], .row 2 (d.files.map fileD) false, .cells [.row 3, .row 4], .row 1 (d.nk.map strD) false, .row 1 (d.nv.map intD) false, .row 3 (d.ch.map chD) false,
  .cells [.row 8], .cells [.ptr 0 0 0], .row 1 ((d.nk.take 0).map strD) true, .defd, lp (G44 11 []) 44 (mk 13 [(2, V.ptr 6 0 0), (5, V.fn (Fn.func 104) [] [V.ptr 7 0 0])]) .ready,
  .cells [.row 14], .cells [.ptr 2 0 0], .cells [.fn (.func 98) [] []], .row 2 ((allF d).take i) true, .defd, lp (G104 22 [false]) 104 (mk 45 [(0, V.yield 10), (1, V.ptr 7 0 0), (3, V.ptr 11 0 0), (14, V.fn (Fn.func 109) [] [V.ptr 12 0 0, V.ptr 13 0 0])]) st]
noncomputable def S44x (d : Dk) (i : Nat) (st : LoopState) : Store := [.cells [.row 1, .ptr 2 0 0, .ep 2 (dirD d.sk d.sv) 0, .row 5, .d (.int .i64 d.quota), .d (.bool d.full), .d (.bool d.off), .d (.int .i64 d.stop), .d (.int .i64 d.calls)], .row 2 (d.files.map fileD) false, .cells [.row 3, .row 4], .row 1 (d.nk.map strD) false, .row 1 (d.nv.map intD) false, .row 3 (d.ch.map chD) false,
  .cells [.row 8], .cells [.ptr 0 0 0], .row 1 ((d.nk.take i).map strD) true, .defd, lp (G44 11 []) 44 (mk 13 [(2, V.ptr 6 0 0), (5, V.fn (Fn.func 104) [] [V.ptr 7 0 0])]) st] ++ [.cells [.d (.list 2 ((d.nk.zip d.nv).map (afD d)))], .cells [.ptr 2 0 0], .cells [.fn (.func 98) [] []], .dead, .defd, lp (G104 22 [false]) 104 (mk 45 [(0, V.yield 10), (1, V.ptr 7 0 0), (3, V.ptr 11 0 0), (14, V.fn (Fn.func 109) [] [V.ptr 12 0 0, V.ptr 13 0 0])]) .exhausted]
noncomputable def S44y (d : Dk) (i : Nat) (st : LoopState) (x : ByteArray) (b : List UInt8) : Store := S44x d i st ++ [.cells [.d (.str x), .d (.list 1 (b.map u8))]]
noncomputable def R44 : List Item := [.code (rfAs (G44 11 [])), .beginRound, .code (rfBd (G44 11 []))]
noncomputable def R104 : List Item := [.code (rfAs (G104 22 [false])), .beginRound, .code (rfBd (G104 22 [false]))]
theorem body104 (d : Dk) (N : Nat) (h : d.Ok N) (i : Nat) (x : ByteArray) (v : Int) (hx : d.nk[i]? = some x) (hy : d.nv[i]? = some v) :
   AW Try.prog 104 (some 16) 17 R104 (mk 45 [(0, V.yield 10), (1, V.ptr 7 0 0), (3, V.ptr 11 0 0), (14, V.fn (Fn.func 109) [] [V.ptr 12 0 0, V.ptr 13 0 0]), (15, .d (.str x)), (16, .d (.int .i64 v))]) (S104 d i .ready) [] fun a σ' => a = .ret (.d (.bool true)) ∧ σ' = S104 d (i + 1) .ready := by
 refine .at (T' := cgo 0 [] R104) rfl ?_
 have hi := (List.getElem?_eq_some_iff.1 hx).1
 have hv := h.nn v (List.mem_of_getElem? hy)
 have hlt : v.toNat < d.files.length := by omega
 obtain ⟨f, hf⟩ := get_some (l := d.files) (i := v.toNat) hlt
 have hm := h.fs f (List.mem_of_getElem? hf)
 have hb := h.nkl
 have hc := h.nb
 have hv1 := hv.1
 have hv2 := hv.2
 have hff : d.file v.toNat = f := by simp [Dk.file, List.getD_eq_getElem?_getD, hf]
 have hg := allF_get hx hy
 rw [hff] at hg
 have hsn := take_snoc hg
 have hal : ((allF d).take i).length ≤ 60000 := by rw [List.length_take]; omega
 have hfl : f.1.length ≤ 140737488355000 := by omega
 refine .sg0 7 [0, 1, 3, 4, 5, 14, 15, 16] (cgo 7 [] R104) [(4, .d (.str x)), (5, .d (.int .i64 v))] ?_
 refine .beginL (T0 := cgo 22 [false] [Item.code B104]) (fn := 104) (tml := (mk 45 [(0, V.yield 10), (1, V.ptr 7 0 0), (3, V.ptr 11 0 0), (14, V.fn (Fn.func 109) [] [V.ptr 12 0 0, V.ptr 13 0 0])])) (by kernel_rfl) (T' := cgo 8 [] R104) (by kernel_rfl) (σ' := (SP 1 2 d false [.cells [.row 8], .cells [.ptr 0 0 0], .row 1 [] true, .defd, lp (G44 11 []) 44 (mk 13 [(2, .ptr 6 0 0), (5, .fn (Fn.func 104) [] [.ptr 7 0 0])]) LoopState.ready, .cells [.row 14], .cells [.ptr 2 0 0], .cells [.fn (Fn.func 98) [] []], .row 2 (List.take i (allF d)) true, .defd, lp (G104 22 [false]) 104 (mk 45 [(0, V.yield 10), (1, .ptr 7 0 0), (3, .ptr 11 0 0), (14, .fn (Fn.func 109) [] [.ptr 12 0 0, .ptr 13 0 0])]) LoopState.busy])) (by kernel_rfl) (by kernel_rfl) ?_
 refine .sg0 1 [1, 3, 4, 5] (cgo 9 [] R104) [] ?_
 refine .newVirt 2 ?_
 refine .dr (cgo 10 [] R104) [(18, .d (.str x)), (19, .ptr 0 0 0), (20, .ptr 0 0 0), (21, .ptr 0 0 0), (22, .row 1), (23, .d (.int .i64 v)), (24, .ptr 1 v.toNat 0), (25, .ptr 1 v.toNat 0), (26, .d (.list 1 (map u8 f.fst))), (27, .d (.list 1 (map u8 f.fst))), (28, .d (.agg [D.str x, D.list 1 (map u8 f.fst)])), (29, .row 17), (30, .row 14)] [(14, .row 2 (List.take i (allF d) ++ [D.agg [D.str x, D.list 1 (map u8 f.fst)]]) true), (17, .row 2 [D.agg [D.str x, D.list 1 (map u8 f.fst)]] true)] (fun kz L hL => ?_) ?_
 · refine ⟨[fB 11 14, nF, fB 7 0, fA 0, fA 0, fX [0] [] [] [1] [0, 1, 2, 5], nF, fX [1] [] [] [1] [1], fA 1, fR 1, nF, nF, fX [17] [17] [17] [17] [], fX [14, 17] [14] [14] [14] [14, 17], ⟨[11], [11], [], [14], [11, 14], [], false, false⟩], run_amongF hL _ [] [0, 1, 2, 3, 4, 5, 6, 7, 8, 9, 10, 11, 12, 13, 14] (by intro p hp; cases hp) (by kernel_rfl) ?_⟩
   refine Run.ap [0, 1, 2, 3, 4, 5, 6] [(17, .row 14), (18, .d (.str x)), (19, .ptr 0 0 0), (20, .ptr 0 0 0), (21, .ptr 0 0 0), (22, .row 1), (23, .d (.int .i64 v))] [] ?_
   refine Run.lk 7 (.ptr 1 v.toNat 0) [(.tmp 22), (.tmp 23)] (fun tm' σ2 hv hr => ixRow_ok (t := 105) (x := (.tmp 22)) (i := (.tmp 23)) (k := IntKind.i64) (n := v) (l := 1) (sz := 2) (xs := map fileD d.files) (mv := false) (by kernel_rfl) (evv hv) (evv hv) (atr hr) (by kernel_rfl) (by assumption) (by simp <;> omega)) ?_
   refine Run.ap [8] [(25, .ptr 1 v.toNat 0)] [] ?_
   refine Run.lk 9 (.d (.list 1 (map u8 f.fst))) [(.tmp 25)] (fun tm' σ2 hv hr => ldRow_ok (t := 22) (x := (.tmp 25)) (l := 1) (i := v.toNat) (s := 0) (sz := 2) (xs := map fileD d.files) (mv := false) (d := fileD f) (v := .d (.list 1 (map u8 f.fst))) (by kernel_rfl) (evv hv) (atr hr) (map_get hf) (by kernel_rfl)) ?_
   refine Run.one (StepF.data (o := ((drawOf (cgo 9 [] R104))[10]?).getD default) (v := .d (.list 1 (map u8 f.fst))) (by kernel_rfl) rfl (by kernel_rfl) (by kernel_rfl) (by kernel_rfl) (fun s => sem_data0 (x := (.func 61)) (args := #[(.tmp 26)]) (ts := #[22]) (first := []) (cap := []) (ds := [.d (.list 1 (map u8 f.fst))]) (v := .d (.list 1 (map u8 f.fst))) F61 (@spec_61 (f.fst) (by assumption)) (by kernel_rfl) (by kernel_rfl) (by kernel_rfl) (by kernel_rfl) (by kernel_rfl) (by kernel_rfl) _)) ?_
   refine Run.ap [11] [(28, .d (.agg [D.str x, D.list 1 (map u8 f.fst)]))] [] ?_
   refine Run.one (StepF.build (o := ((drawOf (cgo 9 [] R104))[12]?).getD default) (t := 160) (len := 1) (parts := #[(0, (.tmp 28))]) (l := 17) (ds := [D.agg [D.str x, D.list 1 (map u8 f.fst)]]) (sz := 2) (mv := false) (by kernel_rfl) rfl (by kernel_rfl) (by kernel_rfl) (by kernel_rfl) (by kernel_rfl) (by kernel_rfl) (by kernel_rfl) (by kernel_rfl) (by kernel_rfl)) ?_
   refine Run.one (StepF.moves (o := ((drawOf (cgo 9 [] R104))[13]?).getD default) (v := .row 14) [(.tmp 17), (.tmp 29)] 14 (.row 2 (List.take i (allF d) ++ [D.agg [D.str x, D.list 1 (map u8 f.fst)]]) true) (by kernel_rfl) rfl (by kernel_rfl) (by kernel_rfl) (by kernel_rfl) (by kernel_rfl) (by kernel_rfl) (by kernel_rfl) (fun tm' σ2 hv hr => appRow_ok (s := (.tmp 17)) (x := (.tmp 29)) (t := 160) (t2 := 160) (sz := 2) (by' := 40) (ys := [D.agg [D.str x, D.list 1 (map u8 f.fst)]]) (l := 14) (xs := List.take i (allF d)) (mv := true) (by kernel_rfl) (evv hv) (atr hr) (by rw [hv _ (by simp)]; exact (cont_at fun l hl => hr l (subB_in (by kernel_rfl) hl)).trans (by kernel_rfl)) (by kernel_rfl) (by kernel_rfl) (by simp <;> omega) (by first | (simp [maxLen] <;> omega) | omega))) ?_
   exact Run.fin
 refine .sg0 1 [] (cgo 11 [] R104) [] ?_
 refine .kp [] ?_
 refine .sub [0, 1, 2, 3, 4, 5, 6, 7, 8, 9, 10, 11, 12, 13, 14, 15, 16] (mk 45 []) (SP 1 2 d false [.cells [.row 8], .cells [.ptr 0 0 0], .row 1 [] true, .defd, lp (G44 11 []) 44 (mk 13 [(2, .ptr 6 0 0), (5, .fn (Fn.func 104) [] [.ptr 7 0 0])]) LoopState.ready, .cells [.row 14], .cells [.ptr 2 0 0], .cells [.fn (Fn.func 98) [] []], .row 2 (List.take i (allF d) ++ [D.agg [D.str x, D.list 1 (map u8 f.fst)]]) true, .defd, lp (G104 22 [false]) 104 (mk 45 [(0, V.yield 10), (1, .ptr 7 0 0), (3, .ptr 11 0 0), (14, .fn (Fn.func 109) [] [.ptr 12 0 0, .ptr 13 0 0])]) LoopState.busy]) (some 16) [] ⟨rfl, rfl, by kernel_rfl⟩ (by kernel_rfl) ⟨Nat.le_of_ble_eq_true (by kernel_rfl), by kernel_rfl⟩ (by kernel_rfl) ⟨by kernel_rfl, by kernel_rfl⟩ ⟨by kernel_rfl, by kernel_rfl⟩ ?_
 refine .roundEndL (T0 := cgo 22 [false] [Item.code B104]) (fn := 104) (tml := (mk 45 [(0, V.yield 10), (1, V.ptr 7 0 0), (3, V.ptr 11 0 0), (14, V.fn (Fn.func 109) [] [V.ptr 12 0 0, V.ptr 13 0 0])])) (st := LoopState.busy) (by kernel_rfl) (by kernel_rfl) (σ' := (SP 1 2 d false [.cells [.row 8], .cells [.ptr 0 0 0], .row 1 [] true, .defd, lp (G44 11 []) 44 (mk 13 [(2, .ptr 6 0 0), (5, .fn (Fn.func 104) [] [.ptr 7 0 0])]) LoopState.ready, .cells [.row 14], .cells [.ptr 2 0 0], .cells [.fn (Fn.func 98) [] []], .row 2 (List.take i (allF d) ++ [D.agg [D.str x, D.list 1 (map u8 f.fst)]]) true, .defd, lp (G104 22 [false]) 104 (mk 45 [(0, V.yield 10), (1, .ptr 7 0 0), (3, .ptr 11 0 0), (14, .fn (Fn.func 109) [] [.ptr 12 0 0, .ptr 13 0 0])]) LoopState.ready])) (by kernel_rfl) ?_
 refine ⟨rfl, ?_⟩
 unfold S104
 rw [← hsn]
 rfl
theorem lo104 (d : Dk) (N : Nat) (h : d.Ok N) (hl : d.nk.length < 60000) (hv : d.nv.length = d.nk.length) : ∀ (m i : Nat), i + m = (d.nk).length →
    AW Try.prog 109 none 17 (G109 24 [false]) (mk 43 [(0, V.yield 16), (5, V.d (.list 1 ((d.nk).map strD))), (6, V.d (.list 1 ((d.nv).map intD))), (27, V.d (.int .i64 ((d.nk).length : Nat))), (28, V.d (.int .i64 (i : Nat)))]) (S104 d i .ready) [] fun r σ' => r = .ret (.tuple []) ∧ σ' = S104 d (d.nk).length .ready := by
  intro m
  induction m with
  | zero =>
    intro i hi
    have hi : i = (d.nk).length := by omega
    subst hi
    refine .sge 5 [0, 5, 6, 27, 28, 29] (G109 29 [false]) ?_
    refine .if' (decide ((↑d.nk.length : Int) < (↑d.nk.length : Int))) (G109 30 [false, true]) (G109 30 [false, false]) (fun h1 => ?_) (fun h1 => ?_)
    · simp only [bsX] at h1
      omega
    · simp only [bsX] at h1
      refine .sge 1 [] (cgo 31 [false, false] [.code B109]) ?_
      refine .rt F109 (V.tuple []) ?_
      exact ⟨rfl, by kernel_rfl⟩
  | succ m ih =>
    intro i hi
    obtain ⟨x, hx⟩ := get_some (l := d.nk) (i := i) (by omega)
    obtain ⟨v, hy⟩ := get_some (l := d.nv) (i := i) (by omega)
    have hYi := body104 d N h i x v hx hy
    refine .sge 5 [0, 5, 6, 27, 28, 29] (G109 29 [false]) ?_
    refine .if' (decide ((↑i : Int) < (↑d.nk.length : Int))) (G109 30 [false, true]) (G109 30 [false, false]) (fun h1 => ?_) (fun h1 => ?_)
    · simp only [bsX] at h1
      refine .sge 9 [0, 5, 6, 7, 27, 28, 29, 30] (G109 39 [false, true]) ?_
      refine .dr (G109 40 [false, true]) [(31, .yield 16), (32, .d (.list 1 (map strD d.nk))), (33, .d (.int .i64 (↑i : Int))), (34, .ep 1 (D.str x) 0), (35, .d (.str x)), (36, .d (.list 1 (map intD d.nv))), (37, .d (.int .i64 (↑i : Int))), (38, .ep 1 (D.int IntKind.i64 v) 0), (39, .d (.int .i64 v)), (40, .d (.bool true)), (41, .d (.bool false))] [(14, .row 2 (List.take (i + 1) (allF d)) true)] (fun kz L hL => ?_) ?_
      · refine ⟨[fO 16, nF, nF, nF, nF, nF, nF, nF, nF, ⟨[], [], [], [], [], [], false, true⟩, nF], run_amongF hL _ [] [0, 1, 2, 3, 4, 5, 6, 7, 8, 9, 10] (by intro p hp; cases hp) (by kernel_rfl) ?_⟩
        refine Run.ap [0, 1, 2] [(31, .yield 16), (32, .d (.list 1 (map strD d.nk))), (33, .d (.int .i64 (↑i : Int)))] [] ?_
        refine Run.lk 3 (.ep 1 (D.str x) 0) [(.tmp 32), (.tmp 33)] (fun tm' σ2 hv hr => ixData_ok (t := 66) (x := (.tmp 32)) (i := (.tmp 33)) (k := IntKind.i64) (n := (↑i : Int)) (sz := 1) (xs := map strD d.nk) (d := strD x) (by kernel_rfl) (evl hv) (evv hv) (by kernel_rfl) (by omega) (map_get hx)) ?_
        refine Run.ap [4, 5, 6] [(35, .d (.str x)), (36, .d (.list 1 (map intD d.nv))), (37, .d (.int .i64 (↑i : Int)))] [] ?_
        refine Run.lk 7 (.ep 1 (D.int IntKind.i64 v) 0) [(.tmp 36), (.tmp 37)] (fun tm' σ2 hv hr => ixData_ok (t := 46) (x := (.tmp 36)) (i := (.tmp 37)) (k := IntKind.i64) (n := (↑i : Int)) (sz := 1) (xs := map intD d.nv) (d := intD v) (by kernel_rfl) (evl hv) (evv hv) (by kernel_rfl) (by omega) (map_get hy)) ?_
        refine Run.ap [8] [(39, .d (.int .i64 v))] [] ?_
        refine Run.yi 9 (cgo 22 [false] [.code B104]) hYi ?_
        exact Run.fin
      refine .sg0 7 [0, 5, 6, 27, 28] (cgo 47 [false, true, false] [.code B109]) [(28, .d (.int .i64 (IntKind.i64.wrap ((↑i : Int) + 1))))] ?_
      simp (disch := omega) only [bsW]
      exact .seg 1 [0, 5, 6, 27, 28] (by kernel_rfl) (ih (i + 1) (by omega))
    · simp only [bsX] at h1
      omega
theorem it104 (d : Dk) (N : Nat) (h : d.Ok N) : CallsA Try.prog 109 [.yield 16, .ptr 12 0 0, .ptr 13 0 0] (S104 d 0 .ready) fun r σ' => r = .ret (.tuple []) ∧ σ' = S104 d (d.nk).length .ready := by
 have hl : d.nk.length < 60000 := by have := h.nkl; have := h.nb; omega
 have hv := h.nl
 refine CallsA.start F109 (tm := mk (Try.f109.ntmps) [(0, .yield 16), (1, .ptr 12 0 0), (2, .ptr 13 0 0)]) (by kernel_rfl) ?_
 refine .sg0 11 [0, 1, 2, 10] (G109 11 [false]) [(10, .fn (Fn.func 98) [] [])] ?_
 refine .cd (G109 12 [false]) F98 (@spec_98) ?_
 refine .sg0 3 [0, 1, 4] (G109 15 [false]) [(4, .d (.int .i64 0))] ?_
 refine .dr (G109 16 [false]) [(5, .d (.list 1 (List.take ((map strD d.nk).length - 0) (List.drop 0 (map strD d.nk))))), (6, .d (.list 1 (List.take ((map intD d.nv).length - 0) (List.drop 0 (map intD d.nv))))), (12, .ptr 2 0 0), (13, .ptr 2 0 0), (14, .ptr 2 0 0), (15, .row 3), (16, .d (.int .i64 0)), (17, .sl 3 0 ((map strD d.nk).length - 0) none), (18, .d (.list 1 (List.take ((map strD d.nk).length - 0) (List.drop 0 (map strD d.nk))))), (19, .ptr 2 0 0), (20, .ptr 2 0 0), (21, .ptr 2 0 1), (22, .row 4), (23, .d (.int .i64 0)), (24, .sl 4 0 ((map intD d.nv).length - 0) none), (25, .d (.list 1 (List.take ((map intD d.nv).length - 0) (List.drop 0 (map intD d.nv)))))] [] (fun kz L hL => ?_) ?_
 · refine ⟨[fB 12 2, fA 2, fA 2, fX [2] [] [] [3] [2, 3, 4], nF, fX [3] [] [] [3] [3], fX [3] [3] [] [] [3], fB 12 2, fA 2, fA 2, fX [2] [] [] [4] [2, 3, 4], nF, fX [4] [] [] [4] [4], fR 4, nF, nF], run_amongF hL _ [] [0, 1, 2, 3, 4, 5, 7, 8, 9, 10, 11, 12, 6, 13, 14, 15] (by intro p hp; cases hp) (by kernel_rfl) ?_⟩
   refine Run.ap [0, 1, 2, 3, 4] [(12, .ptr 2 0 0), (13, .ptr 2 0 0), (14, .ptr 2 0 0), (15, .row 3), (16, .d (.int .i64 0))] [] ?_
   refine Run.lk 5 (.sl 3 0 ((map strD d.nk).length - 0) none) [(.tmp 15), (.tmp 16)] (fun tm' σ2 hv hr => slRow_ok (t := 66) (x := (.tmp 15)) (lo := (some (.tmp 16))) (hi := none) (lc := 3) (sz := 1) (xs := map strD d.nk) (mv := false) (0) ((map strD d.nk).length) (by kernel_rfl) (evv hv) (atr hr) (by kernel_rfl) (bnd_some (k := IntKind.i64) (i := 0) (evv hv) (by omega) (by rfl)) rfl (by omega) (by omega)) ?_
   refine Run.ap [7, 8, 9, 10, 11] [(19, .ptr 2 0 0), (20, .ptr 2 0 0), (21, .ptr 2 0 1), (22, .row 4), (23, .d (.int .i64 0))] [] ?_
   refine Run.lk 12 (.sl 4 0 ((map intD d.nv).length - 0) none) [(.tmp 22), (.tmp 23)] (fun tm' σ2 hv hr => slRow_ok (t := 46) (x := (.tmp 22)) (lo := (some (.tmp 23))) (hi := none) (lc := 4) (sz := 1) (xs := map intD d.nv) (mv := false) (0) ((map intD d.nv).length) (by kernel_rfl) (evv hv) (atr hr) (by kernel_rfl) (bnd_some (k := IntKind.i64) (i := 0) (evv hv) (by omega) (by rfl)) rfl (by omega) (by omega)) ?_
   refine Run.cl 6 [3] F110 (@spec_110b (map strD d.nk) (0) ((map strD d.nk).length - 0) (none) (by omega) (by simp <;> omega)) ?_
   refine Run.cll 13 [4] F111 (@spec_111b (map intD d.nv) (0) ((map intD d.nv).length - 0) (none) (by omega) (by simp <;> omega)) ?_
   exact Run.fin
 refine .seg 7 [0, 5, 6, 27, 28] (T' := cgo 23 [false] [.code B109]) (tm' := mk 43 [(0, .yield 16), (5, .d (.list 1 (List.take ((map strD d.nk).length - 0) (List.drop 0 (map strD d.nk))))), (6, .d (.list 1 (List.take ((map intD d.nv).length - 0) (List.drop 0 (map intD d.nv))))), (27, .d (.int .i64 (↑(List.take ((map strD d.nk).length - 0) (List.drop 0 (map strD d.nk))).length : Int))), (28, .d (.int .i64 0))]) (σ' := (SP 1 2 d false [.cells [.row 8], .cells [.ptr 0 0 0], .row 1 [] true, .defd, lp (G44 11 []) 44 (mk 13 [(2, .ptr 6 0 0), (5, .fn (Fn.func 104) [] [.ptr 7 0 0])]) LoopState.ready, .cells [.row 14], .cells [.ptr 2 0 0], .cells [.fn (Fn.func 98) [] []], .row 2 [] true, .defd, lp (G104 22 [false]) 104 (mk 45 [(0, .yield 10), (1, .ptr 7 0 0), (3, .ptr 11 0 0), (14, .fn (Fn.func 109) [] [.ptr 12 0 0, .ptr 13 0 0])]) LoopState.ready])) (by kernel_rfl) ?_
 simp only [List.length_map]
 rw [eachL (d.nk) strD, eachL (d.nv) intD, List.length_map]
 exact .seg 1 [0, 5, 6, 27, 28] (by kernel_rfl) (lo104 d N h hl hv (d.nk).length 0 (by omega))
theorem body44 (d : Dk) (N : Nat) (h : d.Ok N) (i : Nat) (x : ByteArray) (b : List UInt8) (hx : d.nk[i]? = some x) :
  AW Try.prog 44 (some 10) 18 R44 (mk 13 [(2, V.ptr 6 0 0), (5, V.fn (Fn.func 104) [] [V.ptr 7 0 0]), (6, .d (.str x)), (7, .d (bsD b))]) (S44y d i .ready x b) [] fun a σ' => a = .ret (.d (.bool true)) ∧ σ' = S44y d (i + 1) .ready x b := by
 refine .at (T' := cgo 0 [] R44) rfl ?_
 have hi := (List.getElem?_eq_some_iff.1 hx).1
 have hb := h.nkl
 have hc := h.nb
 have hsn : (d.nk.take i).map strD ++ [D.str x] = (d.nk.take (i + 1)).map strD := by rw [← take_snoc hx, List.map_append]; rfl
 have hal : ((d.nk.take i).map strD).length ≤ 60000 := by rw [List.length_map, List.length_take]; omega
 refine .sg0 3 [2, 3, 5, 6] (cgo 3 [] R44) [(3, .d (.str x))] ?_
 refine .beginL (T0 := cgo 11 [] [Item.code B44]) (fn := 44) (tml := (mk 13 [(2, V.ptr 6 0 0), (5, V.fn (Fn.func 104) [] [V.ptr 7 0 0])])) (by kernel_rfl) (T' := cgo 4 [] R44) (by kernel_rfl) (σ' := (SP 1 2 d false [.cells [.row 8], .cells [.ptr 0 0 0], .row 1 (map strD (List.take i d.nk)) true, .defd, lp (G44 11 []) 44 (mk 13 [(2, .ptr 6 0 0), (5, .fn (Fn.func 104) [] [.ptr 7 0 0])]) LoopState.busy, .cells [.d (.list 2 (map (afD d) (d.nk.zip d.nv)))], .cells [.ptr 2 0 0], .cells [.fn (Fn.func 98) [] []], O.dead, .defd, lp (G104 22 [false]) 104 (mk 45 [(0, V.yield 10), (1, .ptr 7 0 0), (3, .ptr 11 0 0), (14, .fn (Fn.func 109) [] [.ptr 12 0 0, .ptr 13 0 0])]) LoopState.exhausted, .cells [.d (.str x), .d (.list 1 (map u8 b))]])) (by kernel_rfl) (by kernel_rfl) ?_
 refine .sg 5 [2, 3, 8, 9, 10] (cgo 9 [] R44) [(8, .row 8), (9, .d (.str x)), (10, .row 18)] [(18, .row 1 [D.str x] false)] ?_
 refine .op' (cgo 10 [] R44) (appRow_ok (s := (.tmp 8)) (x := (.tmp 10)) (t := 66) (t2 := 66) (sz := 1) (by' := 16) (ys := [D.str x]) (l := 8) (xs := map strD (List.take i d.nk)) (mv := true) (by kernel_rfl) (by kernel_rfl) (by kernel_rfl) (by kernel_rfl) (by kernel_rfl) (by kernel_rfl) (by simp <;> omega) (by first | (simp [maxLen] <;> omega) | omega)) ?_
 refine .sg 3 [2] (cgo 13 [] R44) [] [(6, .cells [.row 8]), (10, lp (G44 11 []) 44 (mk 13 [(2, .ptr 6 0 0), (5, .fn (Fn.func 104) [] [.ptr 7 0 0])]) LoopState.busy), (16, lp (G104 22 [false]) 104 (mk 45 [(0, .yield 10), (1, .ptr 7 0 0), (3, .ptr 11 0 0), (14, .fn (Fn.func 109) [] [.ptr 12 0 0, .ptr 13 0 0])]) LoopState.exhausted)] ?_
 refine .kp [] ?_
 refine .sub [0, 1, 2, 3, 4, 5, 6, 7, 8, 9, 10, 11, 12, 13, 14, 15, 16, 17] (mk 13 []) (SP 1 2 d false [.cells [.row 8], .cells [.ptr 0 0 0], .row 1 (map strD (List.take i d.nk) ++ [D.str x]) true, .defd, lp (G44 11 []) 44 (mk 13 [(2, .ptr 6 0 0), (5, .fn (Fn.func 104) [] [.ptr 7 0 0])]) LoopState.busy, .cells [.d (.list 2 (map (afD d) (d.nk.zip d.nv)))], .cells [.ptr 2 0 0], .cells [.fn (Fn.func 98) [] []], O.dead, .defd, lp (G104 22 [false]) 104 (mk 45 [(0, V.yield 10), (1, .ptr 7 0 0), (3, .ptr 11 0 0), (14, .fn (Fn.func 109) [] [.ptr 12 0 0, .ptr 13 0 0])]) LoopState.exhausted, .cells [.d (.str x), .d (.list 1 (map u8 b))]]) (some 10) [] ⟨rfl, rfl, by kernel_rfl⟩ (by kernel_rfl) ⟨Nat.le_of_ble_eq_true (by kernel_rfl), by kernel_rfl⟩ (by kernel_rfl) ⟨by kernel_rfl, by kernel_rfl⟩ ⟨by kernel_rfl, by kernel_rfl⟩ ?_
 refine .roundEndL (T0 := cgo 11 [] [Item.code B44]) (fn := 44) (tml := (mk 13 [(2, V.ptr 6 0 0), (5, V.fn (Fn.func 104) [] [V.ptr 7 0 0])])) (st := LoopState.busy) (by kernel_rfl) (by kernel_rfl) (σ' := (SP 1 2 d false [.cells [.row 8], .cells [.ptr 0 0 0], .row 1 (map strD (List.take i d.nk) ++ [D.str x]) true, .defd, lp (G44 11 []) 44 (mk 13 [(2, .ptr 6 0 0), (5, .fn (Fn.func 104) [] [.ptr 7 0 0])]) LoopState.ready, .cells [.d (.list 2 (map (afD d) (d.nk.zip d.nv)))], .cells [.ptr 2 0 0], .cells [.fn (Fn.func 98) [] []], O.dead, .defd, lp (G104 22 [false]) 104 (mk 45 [(0, V.yield 10), (1, .ptr 7 0 0), (3, .ptr 11 0 0), (14, .fn (Fn.func 109) [] [.ptr 12 0 0, .ptr 13 0 0])]) LoopState.exhausted, .cells [.d (.str x), .d (.list 1 (map u8 b))]])) (by kernel_rfl) ?_
 refine ⟨rfl, ?_⟩
 unfold S44y S44x
 rw [← hsn]
 rfl
theorem lo104b (d : Dk) (N : Nat) (h : d.Ok N) : ∀ (m i : Nat), i + m = d.nk.length →
   AW Try.prog 104 none 11 (G104 32 [false]) (mk 45 [(0, V.yield 10), (31, V.d (.list 2 ((d.nk.zip d.nv).map (afD d)))), (32, V.d (.int .i64 (d.nk.length : Nat))), (33, V.d (.int .i64 (i : Nat)))]) (S44x d i .ready) [15] fun r σ' => r = .ret (.tuple []) ∧ σ' = S44 d d.nk.length .ready := by
 have hb := h.nkl
 have hc := h.nb
 have hl := h.nl
 intro m
 induction m with
 | zero =>
   intro i hi
   have hi : i = d.nk.length := by omega
   subst hi
   refine .sge 5 [0, 31, 32, 33, 34] (G104 37 [false]) ?_
   refine .if' (decide ((↑d.nk.length : Int) < (↑d.nk.length : Int))) (G104 38 [false, true]) (G104 38 [false, false]) (fun h1 => ?_) (fun h1 => ?_)
   · simp only [bsX] at h1
     omega
   · simp only [bsX] at h1
     refine .seg 1 [] (T' := cgo 39 [false, false] [.code B104]) (tm' := mk 45 []) (σ' := (SP 1 2 d false [.cells [.row 8], .cells [.ptr 0 0 0], .row 1 (map strD (List.take d.nk.length d.nk)) true, .defd, lp (G44 11 []) 44 (mk 13 [(2, .ptr 6 0 0), (5, .fn (Fn.func 104) [] [.ptr 7 0 0])]) LoopState.ready, .cells [.d (.list 2 (map (afD d) (d.nk.zip d.nv)))], .cells [.ptr 2 0 0], .cells [.fn (Fn.func 98) [] []], O.dead, .defd, lp (G104 22 [false]) 104 (mk 45 [(0, .yield 10), (1, .ptr 7 0 0), (3, .ptr 11 0 0), (14, .fn (Fn.func 109) [] [.ptr 12 0 0, .ptr 13 0 0])]) LoopState.exhausted])) (by kernel_rfl) ?_
     refine .retX (v := V.tuple []) [0, 1, 2, 3, 4, 5, 6, 7, 8, 9, 10] (V.tuple []) F104 (by kernel_rfl) ⟨by kernel_rfl, by kernel_rfl⟩ (σ1 := (SP 1 2 d false [O.cells [V.row 8], O.cells [V.ptr 0 0 0], O.row 1 (map strD (List.take d.nk.length d.nk)) true, O.defd, lp (G44 11 []) 44 (mk 13 [(2, V.ptr 6 0 0), (5, V.fn (Fn.func 104) [] [V.ptr 7 0 0])]) LoopState.ready, O.cells [V.d (D.list 2 (map (afD d) (d.nk.zip d.nv)))], O.cells [V.ptr 2 0 0], O.cells [V.fn (Fn.func 98) [] []], O.dead, O.dead, lp (G104 22 [false]) 104 (mk 45 [(0, V.yield 10), (1, V.ptr 7 0 0), (3, V.ptr 11 0 0), (14, V.fn (Fn.func 109) [] [V.ptr 12 0 0, V.ptr 13 0 0])]) LoopState.exhausted])) (by kernel_rfl) (by kernel_rfl) (σ2 := (SP 1 2 d false [O.cells [V.row 8], O.cells [V.ptr 0 0 0], O.row 1 (map strD (List.take d.nk.length d.nk)) true, O.defd, lp (G44 11 []) 44 (mk 13 [(2, V.ptr 6 0 0), (5, V.fn (Fn.func 104) [] [V.ptr 7 0 0])]) LoopState.ready])) ⟨rfl, rfl, by kernel_rfl⟩ (by kernel_rfl) ⟨Nat.le_of_ble_eq_true (by kernel_rfl), by kernel_rfl⟩ (by kernel_rfl) ?_
     exact ⟨rfl, rfl⟩
 | succ m ih =>
   intro i hi
   have hll : (d.nk.zip d.nv).length = d.nk.length := by simp [hl]
   obtain ⟨p, hz⟩ := get_some (l := d.nk.zip d.nv) (i := i) (by omega)
   have hp := List.getElem?_zip_eq_some.1 hz
   have hYi := body44 d N h i p.1 (d.file p.2.toNat).1 hp.1
   clear hp
   have ih1 := ih (i + 1) (by omega)
   clear ih
   refine .sge 5 [0, 31, 32, 33, 34] (G104 37 [false]) ?_
   refine .if' (decide ((↑i : Int) < (↑d.nk.length : Int))) (G104 38 [false, true]) (G104 38 [false, false]) (fun h1 => ?_) (fun h1 => ?_)
   · simp only [bsX] at h1
     refine .sg0 5 [0, 31, 32, 33, 34] (G104 43 [false, true]) [] ?_
     refine .op' (G104 44 [false, true]) (ixData_ok (t := 160) (x := (.tmp 31)) (i := (.tmp 33)) (k := IntKind.i64) (n := (↑i : Int)) (sz := 2) (xs := map (afD d) (d.nk.zip d.nv)) (d := afD d p) (by kernel_rfl) (by kernel_rfl) (by kernel_rfl) (by kernel_rfl) (by omega) (map_get hz)) ?_
     refine .sg 11 [0, 7, 31, 32, 33, 34, 35, 36, 37, 38, 39, 40, 41] (G104 55 [false, true]) [(7, .ptr 17 0 0), (36, .d (.agg [D.str p.fst, D.list 1 (map u8 (d.file p.snd.toNat).fst)])), (37, .yield 10), (38, .ptr 17 0 0), (39, .d (.str p.fst)), (40, .ptr 17 0 1), (41, .d (.list 1 (map u8 (d.file p.snd.toNat).fst)))] [(17, .cells [.d (.str p.fst), .d (.list 1 (map u8 (d.file p.snd.toNat).fst))])] ?_
     refine .yieldL (T0 := cgo 11 [] [Item.code B44]) (x := (.tmp 37)) (args := #[(.tmp 39), (.tmp 41)]) (ts := #[9, 22]) (l := 10) (st := LoopState.ready) (fn := 44) (tml := (mk 13 [(2, V.ptr 6 0 0), (5, V.fn (Fn.func 104) [] [V.ptr 7 0 0])])) (R := R44) (o := (opOf (G104 55 [false, true])).getD default) (N := 18) (by kernel_rfl) (by kernel_rfl) (by kernel_rfl) (T' := cgo 56 [false, true] [Item.code B104]) (by kernel_rfl) (by kernel_rfl) (by kernel_rfl) (by kernel_rfl) (by kernel_rfl) (by kernel_rfl) (by kernel_rfl) hYi ?_
     rintro r σ' ⟨rfl, rfl⟩
     refine ⟨_, rfl, ?_⟩
     refine .sg0 9 [0, 7, 31, 32, 33, 34, 35, 36, 37, 38, 39, 40, 41, 42, 43, 44] (G104 65 [false, true, false]) [(33, .d (.int .i64 (IntKind.i64.wrap ((↑i : Int) + 1)))), (43, .d (.bool false)), (44, .d (.int .i64 (IntKind.i64.wrap ((↑i : Int) + 1))))] ?_
     simp (disch := omega) only [bsW]
     refine .kp [0, 31, 32, 33] ?_
     refine .sub (List.range 17) (mk 45 [(0, V.yield 10), (31, .d (.list 2 ((d.nk.zip d.nv).map (afD d)))), (32, .d (.int .i64 (d.nk.length : Nat))), (33, .d (.int .i64 ((i + 1 : Nat) : Int)))]) (S44x d (i + 1) .ready) none [15] ⟨rfl, rfl, by kernel_rfl⟩ (by kernel_rfl) ⟨Nat.le_of_ble_eq_true (by kernel_rfl), by kernel_rfl⟩ (by kernel_rfl) ⟨by kernel_rfl, by kernel_rfl⟩ ⟨rfl, rfl⟩ ?_
     exact .seg 1 [0, 31, 32, 33] (by kernel_rfl) ih1
   · simp only [bsX] at h1
     omega
theorem spec_104 (d : Dk) (N : Nat) (h : d.Ok N) : CallsA Try.prog 104 [.yield 10, .ptr 7 0 0] (S44 d 0 .ready) fun r σ' => r = .ret (.tuple []) ∧ σ' = S44 d d.nk.length .ready := by
 refine CallsA.start F104 (tm := mk (Try.f104.ntmps) [(0, .yield 10), (1, .ptr 7 0 0)]) (by kernel_rfl) ?_
 refine .sge 19 [0, 1, 3, 10, 11, 12, 13] (G104 19 [false]) ?_
 refine .ca [2, 3, 4] (G104 20 [false]) F72 (@spec_72 (map strD d.nk) (map intD d.nv)) ?_
 rintro r0 s0 ⟨rfl, rfl⟩
 refine ⟨_, rfl, ?_⟩
 refine .seg 2 [0, 1, 3, 14] (T' := cgo 22 [false] [.code B104]) (tm' := mk 45 [(0, .yield 10), (1, .ptr 7 0 0), (3, .ptr 11 0 0), (14, .fn (Fn.func 109) [] [.ptr 12 0 0, .ptr 13 0 0])]) (σ' := (SP 1 2 d false [.cells [.row 8], .cells [.ptr 0 0 0], .row 1 [] true, .defd, lp (G44 11 []) 44 (mk 13 [(2, .ptr 6 0 0), (5, .fn (Fn.func 104) [] [.ptr 7 0 0])]) LoopState.ready, .cells [.ex 2 []], .cells [.ptr 2 0 0], .cells [.fn (Fn.func 98) [] []]])) (by kernel_rfl) ?_
 refine .virtX 11 0 2 rfl rfl ?_
 refine .raises [14] ?_
 refine .rangeH (first := []) (cap := [.ptr 12 0 0, .ptr 13 0 0]) (List.range 17) [.yield 16, .ptr 12 0 0, .ptr 13 0 0] (S104 d 0 .ready) F109 (by kernel_rfl) (T' := cgo 23 [false] [Item.code B104]) (by kernel_rfl) (by kernel_rfl) (it104 d N h) (by kernel_rfl) (by kernel_rfl) (by refine ⟨rfl, by kernel_rfl, ?_⟩; kernel_rfl) ?_
 rintro r σc' ⟨rfl, rfl⟩
 refine ⟨.tuple [], .ready, (mk 45 [(0, V.yield 10), (1, V.ptr 7 0 0), (3, V.ptr 11 0 0), (14, V.fn (Fn.func 109) [] [V.ptr 12 0 0, V.ptr 13 0 0])]), rfPs (G104 22 [false]), rfAs (G104 22 [false]), rfBd (G104 22 [false]), 104, rfl, by simp, by kernel_rfl, ?_⟩
 have e1 : (allF d).take d.nk.length = allF d := by rw [List.take_of_length_le]; rw [allF_length d h.nl]; exact Nat.le_refl _
 refine .seg 8 [0, 31, 32, 33] (T' := cgo 31 [false] [.code B104]) (tm' := mk 45 [(0, .yield 10), (31, .row 14), (32, .d (.int .i64 (↑(List.take d.nk.length (allF d)).length : Int))), (33, .d (.int .i64 0))]) (σ' := (SP 1 2 d false [.cells [.row 8], .cells [.ptr 0 0 0], .row 1 [] true, .defd, lp (G44 11 []) 44 (mk 13 [(2, .ptr 6 0 0), (5, .fn (Fn.func 104) [] [.ptr 7 0 0])]) LoopState.ready, .cells [.row 14], .cells [.ptr 2 0 0], .cells [.fn (Fn.func 98) [] []], .row 2 (List.take d.nk.length (allF d)) true, .defd, lp (G104 22 [false]) 104 (mk 45 [(0, .yield 10), (1, .ptr 7 0 0), (3, .ptr 11 0 0), (14, .fn (Fn.func 109) [] [.ptr 12 0 0, .ptr 13 0 0])]) LoopState.exhausted])) (by kernel_rfl) ?_
 rw [e1, allF_length d h.nl]
 refine .freeze 14 (sz := 2) (xs := allF d) (mv := true) (by kernel_rfl) ?_
 exact .seg 1 [0, 31, 32, 33] (by kernel_rfl) (lo104b d N h d.nk.length 0 (by omega))
theorem spec_44 (d : Dk) (N : Nat) (h : d.Ok N) : CallsA Try.prog 44 [.ptr 0 0 0] (SD d false) fun r σ' => r = .ret (.d (.list 1 (d.nk.map strD))) ∧ σ' = SD d false := by
 refine CallsA.start F44 (tm := mk (Try.f44.ntmps) [(0, .ptr 0 0 0)]) (by kernel_rfl) ?_
 refine .sg 8 [0, 2, 4] (G44 8 []) [(2, .ptr 6 0 0), (4, .ptr 0 0 0)] [(6, .cells [.ex 1 []])] ?_
 refine .ca [0, 1, 2, 3, 4, 5] (G44 9 []) F82 (@spec_82 (d)) ?_
 rintro r0 s0 ⟨rfl, rfl⟩
 refine ⟨_, rfl, ?_⟩
 refine .seg 2 [2, 5] (T' := cgo 11 [] [.code B44]) (tm' := mk 13 [(2, .ptr 6 0 0), (5, .fn (Fn.func 104) [] [.ptr 7 0 0])]) (σ' := (SP 1 2 d false [.cells [.ex 1 []], .cells [.ptr 0 0 0]])) (by kernel_rfl) ?_
 refine .virtX 6 0 1 rfl rfl ?_
 refine .raise 8 rfl rfl ?_
 refine .rangeH (first := []) (cap := [.ptr 7 0 0]) (List.range 11) [.yield 10, .ptr 7 0 0] (S44 d 0 .ready) F104 (by kernel_rfl) (T' := cgo 12 [] [Item.code B44]) (by kernel_rfl) (by kernel_rfl) (spec_104 d N h) (by kernel_rfl) (by kernel_rfl) (by refine ⟨rfl, by kernel_rfl, ?_⟩; kernel_rfl) ?_
 rintro r σc' ⟨rfl, rfl⟩
 refine ⟨.tuple [], .ready, (mk 13 [(2, V.ptr 6 0 0), (5, V.fn (Fn.func 104) [] [V.ptr 7 0 0])]), rfPs (G44 11 []), rfAs (G44 11 []), rfBd (G44 11 []), 44, rfl, by simp, by kernel_rfl, ?_⟩
 have e1 : d.nk.take d.nk.length = d.nk := List.take_length
 refine .seg 6 [2] (T' := cgo 18 [] [.code B44]) (tm' := mk 13 [(2, .ptr 6 0 0)]) (σ' := (SP 1 2 d false [.cells [.row 8], .cells [.ptr 0 0 0], .row 1 (map strD (List.take d.nk.length d.nk)) true, .defd, lp (G44 11 []) 44 (mk 13 [(2, .ptr 6 0 0), (5, .fn (Fn.func 104) [] [.ptr 7 0 0])]) LoopState.exhausted])) (by kernel_rfl) ?_
 refine .freeze 8 (sz := 1) (xs := map strD (List.take d.nk.length d.nk)) (mv := true) (by kernel_rfl) ?_
 refine .retX (v := V.d (D.list 1 (map strD (List.take d.nk.length d.nk)))) [0, 1, 2, 3, 4, 5] (V.d (D.list 1 (map strD (List.take d.nk.length d.nk)))) F44 (by kernel_rfl) ⟨by kernel_rfl, by kernel_rfl⟩ (σ1 := (SP 1 2 d false [O.cells [V.d (D.list 1 (map strD (List.take d.nk.length d.nk)))], O.cells [V.ptr 0 0 0], O.dead, O.dead, lp (G44 11 []) 44 (mk 13 [(2, V.ptr 6 0 0), (5, V.fn (Fn.func 104) [] [V.ptr 7 0 0])]) LoopState.exhausted])) (by kernel_rfl) (by kernel_rfl) (σ2 := (SP 1 2 d false [])) ⟨rfl, rfl, by kernel_rfl⟩ (by kernel_rfl) ⟨Nat.le_of_ble_eq_true (by kernel_rfl), by kernel_rfl⟩ (by kernel_rfl) ?_
 simp [hC, SD, dirD]
end Go.Proofs.Ytoelkgbeefoplaa
