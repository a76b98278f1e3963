/- Part 11 of this proof. -/
import Derived.Test.YtoelkgbeefoplaaM10
set_option linter.unusedSimpArgs false
set_option linter.unusedVariables false
set_option linter.constructorNameAsVariable false
namespace Go.Proofs.Ytoelkgbeefoplaa
open Go Go.Br Go.Proofs
open List (map)
noncomputable def B33 : Code := (Try.f33.body).getD .skip
noncomputable def G33 (n l) := cgo n l [.code B33]
theorem F33 : Fnc Try.prog 33 Try.f33 B33 := ⟨Try.func33, by kernel_rfl, by kernel_rfl⟩
noncomputable def B27 : Code := (Try.f27.body).getD .skip
noncomputable def G27 (n l) := cgo n l [.code B27]
theorem F27 : Fnc Try.prog 27 Try.f27 B27 := ⟨Try.func27, by kernel_rfl, by kernel_rfl⟩
noncomputable def B25 : Code := (Try.f25.body).getD .skip
noncomputable def G25 (n l) := cgo n l [.code B25]
theorem F25 : Fnc Try.prog 25 Try.f25 B25 := ⟨Try.func25, by kernel_rfl, by kernel_rfl⟩
theorem spec_61 (bs : List UInt8) (hlen : bs.length ≤ 140737488355000) : Br.Pure Try.prog 61 [.d (bsD bs)] (.d (bsD bs)) := clone_pure bs hlen
theorem spec_33 (d : Dk) (N : Nat) (h : d.Ok N) (hN : N + 2 ≤ 50000) :
   CallsA Try.prog 33 [.ptr 0 0 0] (SD d false) fun r σ' => r = .ret (.d (.int .i64 (d.begun.err false []))) ∧ σ' = SD d.begun.syncDirD true := by
 refine CallsA.start F33 (tm := mk (Try.f33.ntmps) [(0, .ptr 0 0 0)]) (by kernel_rfl) ?_
 have hk := Dk.begun_ok h (by omega : N + 1 ≤ 50000)
 have q1 := hk.nr
 have q2 := hk.nl
 have q3 := hk.nkl
 have q4 := hk.nb
 refine .sg0 8 [0, 2, 4] (G33 8 []) [(2, .d (.int .i64 0)), (4, .ptr 0 0 0)] ?_
 refine .ca [0, 1, 2, 3, 4, 5] (G33 9 []) F64 (@spec_64 (d) (N) (by assumption) (by assumption)) ?_
 rintro r0 s0 ⟨rfl, rfl⟩
 refine ⟨_, rfl, ?_⟩
 refine .sg0 7 [0, 2, 3, 7] (G33 16 []) [(3, .d (.int .i64 (d.begun.err false []))), (7, .d (.bool (d.begun.err false [] != 0)))] ?_
 refine .if' (d.begun.err false [] != 0) (G33 17 [true]) (G33 17 [false]) (fun h2 => ?_) (fun h2 => ?_)
 · simp only [bsX] at h2
   refine .seg 5 [0, 2] (T' := cgo 22 [true] [.code B33]) (tm' := mk 20 [(0, .ptr 0 0 0), (2, .d (.int .i64 (d.begun.err false [])))]) (σ' := (SP 1 2 d.begun false [])) (by kernel_rfl) ?_
   refine .raise 1 rfl rfl ?_
   refine .raise 3 rfl rfl ?_
   refine .raise 4 rfl rfl ?_
   refine .raise 5 rfl rfl ?_
   refine .rt F33 (V.d (D.int IntKind.i64 (d.begun.err false []))) ?_
   have e : d.begun.off = true := by
    cases ho : d.begun.off with
    | true => rfl
    | false => simp_all [Dk.err]
   exact ⟨rfl, by simp [hC, SD, dirD, Dk.syncDirD, e]⟩
 · simp only [bsX] at h2
   refine .sg0 9 [0, 2, 9, 10, 11, 12, 13, 14] (G33 26 [false]) [(9, .ptr 0 0 0), (10, .ptr 0 0 0), (11, .ptr 0 0 0), (12, .ptr 0 0 0), (13, .ptr 0 0 1), (14, .ptr 2 0 0)] ?_
   refine .ca [2, 3, 4] (G33 27 [false]) F69 (@spec_69 (d.begun.nk) (d.begun.nv) (by assumption) (by omega) (by assumption)) ?_
   rintro r2 s2 ⟨rfl, rfl⟩
   refine ⟨_, rfl, ?_⟩
   refine .seg 11 [2] (T' := cgo 38 [false] [.code B33]) (tm' := mk 20 [(2, .d (.int .i64 0))]) (σ' := [.cells [.row 1, .ptr 2 0 0, .ptr 6 0 0, .ex 3 [], .d (.int .i64 d.begun.quota), .d (.bool d.begun.full), .d (.bool d.begun.off), .d (.int .i64 d.begun.stop), .d (.int .i64 d.begun.calls)], .row 2 (map fileD d.begun.files) false, .cells [.row 3, .row 4], .row 1 (map strD d.begun.nk) false, .row 1 (map intD d.begun.nv) false, .row 3 (map chD d.begun.ch) false, .cells [.row 7, .row 8], .row 1 (map strD d.begun.nk) true, .row 1 (map intD d.begun.nv) true]) (by kernel_rfl) ?_
   refine .freeze 7 (sz := 1) (xs := map strD d.begun.nk) (mv := true) (by kernel_rfl) ?_
   refine .freeze 8 (sz := 1) (xs := map intD d.begun.nv) (mv := true) (by kernel_rfl) ?_
   refine .freezeC 6 (cs0 := [.d (.list 1 (map strD d.begun.nk)), .d (.list 1 (map intD d.begun.nv))]) (ds := [D.list 1 (map strD d.begun.nk), D.list 1 (map intD d.begun.nv)]) (by kernel_rfl) (by kernel_rfl) ?_
   refine .virtX 0 3 3 rfl rfl ?_
   refine .raises [1, 3, 4, 9] ?_
   refine .subM [0, 1, 2, 3, 4, 9] (mk 20 [(2, .d (.int .i64 0))]) [.cells [.row 1, .ptr 2 0 0, .ep 2 (dirD d.begun.nk d.begun.nv) 0, .row 5, .d (.int .i64 d.begun.quota), .d (.bool d.begun.full), .d (.bool d.begun.off), .d (.int .i64 d.begun.stop), .d (.int .i64 d.begun.calls)], .row 2 (map fileD d.begun.files) true, .cells [.row 3, .row 4], .row 1 (map strD d.begun.nk) true, .row 1 (map intD d.begun.nv) true, .row 3 [] true] none [] ⟨rfl, rfl, by kernel_rfl⟩ (by kernel_rfl) ⟨Nat.le_of_ble_eq_true (by kernel_rfl), by kernel_rfl⟩ (by kernel_rfl) ⟨by kernel_rfl, by kernel_rfl⟩ ⟨rfl, rfl⟩ ?_
   refine .rt F33 (V.d (D.int IntKind.i64 0)) ?_
   have e : d.begun.off = false := by
    cases ho : d.begun.off with
    | false => rfl
    | true => simp_all [Dk.err]
   have e2 : d.begun.err false [] = 0 := by simp [Dk.err, e]
   exact ⟨by rw [e2], by simp [hC, SD, Dk.syncDirD, e]⟩
theorem spec_27 (d : Dk) (N : Nat) (h : d.Ok N) (x : ByteArray) :
   CallsA Try.prog 27 [.ptr 0 0 0, .d (.str x)] (SD d false) fun r σ' => r = .ret (.tuple [.d (if (look d.nk d.nv x).isSome then bsD (d.file (d.num x)).1 else .list 1 []), .d (.int .i64 (if (look d.nk d.nv x).isSome then 0 else 3))]) ∧ σ' = SD d false := by
 refine CallsA.start F27 (tm := mk (Try.f27.ntmps) [(0, .ptr 0 0 0), (1, .d (.str x))]) (by kernel_rfl) ?_
 have q1 := h.nr
 have q2 := h.nl
 have q3 := h.nkl
 have q4 := h.nb
 have q5 : ∀ k, look d.nk d.nv x = some k → 0 ≤ k ∧ k < d.files.length := fun k hk' => h.nn k (look_mem hk')
 cases hl : look d.nk d.nv x with
 | none =>
   refine .sg0 9 [0, 1, 4, 5, 9, 10] (G27 9 []) [(4, .nils), (5, .d (.int .i64 0)), (9, .ptr 0 0 0), (10, .d (.str x))] ?_
   refine .ca [0, 1, 2, 3, 4, 5] (G27 10 []) F65 (@spec_65 (d) (x) (none) (by assumption) (by assumption) (by assumption) (by omega) (by assumption)) ?_
   rintro r0 s0 ⟨rfl, rfl⟩
   refine ⟨_, rfl, ?_⟩
   refine .sg0 18 [4, 5, 6] (G27 28 [true]) [(5, .d (.int .i64 3)), (6, .d (.raw (Value.pointer none)))] ?_
   refine .coerce [0, 0, 0, 0, 22, 23] ?_
   refine .rt F27 (V.tuple [V.d (D.list 1 []), V.d (D.int IntKind.i64 3)]) ?_
   exact ⟨rfl, rfl⟩
 | some k =>
   have q6 := q5 k hl
   have q61 := q6.1
   have hlt : k.toNat < d.files.length := by omega
   obtain ⟨f, hf⟩ := get_some (l := d.files) (i := k.toNat) hlt
   have hm := h.fs f (List.mem_of_getElem? hf)
   have hfile : d.file (d.num x) = f := by simp [Dk.file, Dk.num, hl, List.getD_eq_getElem?_getD, hf]
   have hfb : bsD f.1 = D.list 1 (List.map u8 f.1) := rfl
   refine .sg0 9 [0, 1, 4, 5, 9, 10] (G27 9 []) [(4, .nils), (5, .d (.int .i64 0)), (9, .ptr 0 0 0), (10, .d (.str x))] ?_
   refine .ca [0, 1, 2, 3, 4, 5] (G27 10 []) F65 (@spec_65 (d) (x) (some k) (by assumption) (by assumption) (by assumption) (by omega) (by assumption)) ?_
   rintro r0 s0 ⟨rfl, rfl⟩
   refine ⟨_, rfl, ?_⟩
   refine .sg0 19 [4, 5, 6, 16, 17, 18] (G27 29 [false]) [(6, .ptr 1 k.toNat 0), (16, .ptr 1 k.toNat 0), (17, .ptr 1 k.toNat 0), (18, .ptr 1 k.toNat 0)] ?_
   refine .ld (G27 30 [false]) (xs := map fileD d.files) (map_get hf) ?_
   refine .cd (G27 31 [false]) F61 (@spec_61 (f.fst) (by omega)) ?_
   refine .seg 3 [4, 5] (T' := cgo 34 [false] [.code B27]) (tm' := mk 21 [(4, .d (.list 1 (map u8 f.fst))), (5, .d (.int .i64 0))]) (σ' := (SP 1 2 d false [])) (by kernel_rfl) ?_
   refine .rt F27 (V.tuple [V.d (D.list 1 (map u8 f.fst)), V.d (D.int IntKind.i64 0)]) ?_
   simp_all [hC, SD, dirD]
theorem spec_25 (q : Int) : CallsA Try.prog 25 [.d (.int .i64 q)] [] fun r σ' => r = .ret (.ptr 0 0 0) ∧ σ' = SD (Dk.new q) true := by
 refine CallsA.start F25 (tm := mk (Try.f25.ntmps) [(0, .d (.int .i64 q))]) (by kernel_rfl) ?_
 refine .seg 16 [2] (T' := cgo 16 [] [.code B25]) (tm' := mk 11 [(2, .ptr 2 0 0)]) (σ' := [.cells [.ex 1 [], .ex 1 []], .cells [.ex 1 [], .ex 1 []], .cells [.ex 2 [], .ptr 0 0 0, .ptr 1 0 0, .ex 3 [], .d (.int .i64 (if 0 > q then 0 else q)), .d (.bool false), .d (.bool false), .d (.int .i64 (-1)), .d (.int .i64 0)]]) (by kernel_rfl) ?_
 refine .virtX 2 0 2 rfl rfl ?_
 refine .virtX 2 3 3 rfl rfl ?_
 refine .virtX 0 0 1 rfl rfl ?_
 refine .virtX 0 1 1 rfl rfl ?_
 refine .freezeC 1 (cs0 := [V.ex 1 [], V.ex 1 []]) (ds := [D.list 1 [], D.list 1 []]) (by kernel_rfl) (by kernel_rfl) ?_
 refine .raises [3, 4, 5, 6] ?_
 refine .su [2, 3, 0, 5, 6, 4] (mk 11 [(2, .ptr 0 0 0)]) (SD (Dk.new q) true) ?_
 refine .rt F25 (V.ptr 0 0 0) ?_
 exact ⟨rfl, by kernel_rfl⟩
def nmD (x : ByteArray × Int) : D := .agg [.str x.1, .int .i64 x.2]
def atR : List (ByteArray × Int) → ByteArray → Int
  | [], _ => -1
  | p :: l, x => if p.1 = x then p.2 else atR l x
noncomputable def B102 : Code := (Try.f102.body).getD .skip
noncomputable def G102 (n l) := cgo n l [.code B102]
theorem F102 : Fnc Try.prog 102 Try.f102 B102 := ⟨Try.func102, by kernel_rfl, by kernel_rfl⟩
theorem atR_none {l : List (ByteArray × Int)} {x : ByteArray} (h : ∀ p ∈ l, p.1 ≠ x) : atR l x = -1 := by
 induction l with
 | nil => rfl
 | cons p l ih =>
   rw [atR, if_neg (h p (List.mem_cons_self ..)), ih fun q hq => h q (List.mem_cons_of_mem _ hq)]
theorem atR_at {l : List (ByteArray × Int)} {x : ByteArray} {i : Nat} {p : ByteArray × Int} (hp : l[i]? = some p) (h : ∀ q ∈ l.take i, q.1 ≠ x) (hx : p.1 = x) : atR l x = p.2 := by
 induction l generalizing i with
 | nil => simp at hp
 | cons q l ih =>
   cases i with
   | zero =>
     simp only [List.getElem?_cons_zero, Option.some.injEq] at hp
     subst hp
     rw [atR, if_pos hx]
   | succ i =>
     rw [List.take_succ_cons] at h
     rw [atR, if_neg (h q (List.mem_cons_self ..)), ih hp fun q hq => h q (List.mem_cons_of_mem _ hq)]
theorem take_more {α : Type} {l : List α} {i : Nat} {p : α} {q : α → Prop} (hp : l[i]? = some p) (h : ∀ x ∈ l.take i, q x) (hx : q p) : ∀ x ∈ l.take (i + 1), q x := by
 intro s hsm
 obtain ⟨hi', rfl⟩ := List.getElem?_eq_some_iff.1 hp
 rw [List.take_succ_eq_append_getElem hi'] at hsm
 rcases List.mem_append.1 hsm with h1 | h1
 · exact h s h1
 · rw [List.mem_singleton.1 h1]; exact hx
theorem lo102 (l : List (ByteArray × Int)) (x : ByteArray) (hl : l.length < 1000000000) : ∀ (m i : Nat), i + m = l.length → (∀ p ∈ l.take i, p.1 ≠ x) →
    AW Try.prog 102 none 0 (G102 13 []) (mk 20 [(1, V.d (D.str x)), (4, V.d (D.int IntKind.i64 0)), (7, V.d (D.list 2 (l.map nmD))), (8, V.d (D.int IntKind.i64 (l.length : Nat))), (9, V.d (D.int IntKind.i64 (i : Nat)))]) [] [] fun r _ => r = .ret (.d (.int .i64 (atR l x))) := by
  intro m
  induction m with
  | zero =>
    intro i hi hm
    have hi : i = l.length := by omega
    subst hi
    rw [List.take_length] at hm
    have he : atR l x = -1 := atR_none hm
    refine .sge 5 [1, 4, 7, 8, 9, 10] (G102 18 []) ?_
    refine .if' (decide ((↑l.length : Int) < (↑l.length : Int))) (G102 19 [true]) (G102 19 [false]) (fun h1 => ?_) (fun h1 => ?_)
    · simp only [bsX] at h1
      omega
    · simp only [bsX] at h1
      refine .seg 5 [4] (T' := cgo 24 [false] [.code B102]) (tm' := mk 20 [(4, .d (.int .i64 (-1)))]) (σ' := []) (by kernel_rfl) ?_
      refine .rt F102 (V.d (D.int IntKind.i64 (-1))) ?_
      simp_all
  | succ m ih =>
    intro i hi hm
    obtain ⟨p, hp⟩ := get_some (l := l) (i := i) (by omega)
    have hno : ¬(p.1.toList = x.toList) → ∀ q ∈ l.take (i + 1), q.1 ≠ x := fun e => take_more hp hm fun h => e (by rw [h])
    have hyes : p.1.toList = x.toList → atR l x = p.2 := fun e => atR_at hp hm (toList_inj e)
    refine .sge 5 [1, 4, 7, 8, 9, 10] (G102 18 []) ?_
    refine .if' (decide ((↑i : Int) < (↑l.length : Int))) (G102 19 [true]) (G102 19 [false]) (fun h1 => ?_) (fun h1 => ?_)
    · simp only [bsX] at h1
      refine .sg0 5 [1, 4, 7, 8, 9, 10] (G102 24 [true]) [] ?_
      refine .op' (G102 25 [true]) (ixData_ok (t := 69) (x := (.tmp 7)) (i := (.tmp 9)) (k := IntKind.i64) (n := (↑i : Int)) (sz := 2) (xs := map nmD l) (d := nmD p) (by kernel_rfl) (by kernel_rfl) (by kernel_rfl) (by kernel_rfl) (by omega) (map_get hp)) ?_
      refine .sge 11 [1, 4, 6, 7, 8, 9, 10, 11, 12, 13, 14, 15, 16] (G102 36 [true]) ?_
      refine .if' (p.fst.toList == x.toList) (G102 37 [true, true]) (G102 37 [true, false]) (fun h2 => ?_) (fun h2 => ?_)
      · simp only [bsX] at h2
        refine .sge 6 [1, 4, 6, 7, 8, 9, 10, 11, 12, 13, 14, 15, 16, 17, 18] (G102 43 [true, true]) ?_
        refine .kp [4] ?_
        refine .su [] (mk 20 [(4, .d (.int .i64 p.snd))]) [] ?_
        refine .rt F102 (V.d (D.int IntKind.i64 p.snd)) ?_
        simp_all
      · simp only [bsX] at h2
        refine .sg0 6 [1, 4, 6, 7, 8, 9, 10, 11, 12, 13, 14, 15, 16, 19] (G102 43 [true, false]) [(9, .d (.int .i64 (IntKind.i64.wrap ((↑i : Int) + 1)))), (19, .d (.int .i64 (IntKind.i64.wrap ((↑i : Int) + 1))))] ?_
        simp (disch := omega) only [bsW]
        refine .sge 1 [1, 4, 7, 8, 9] (G102 13 []) ?_
        refine .su [] (mk 20 [(1, .d (.str x)), (4, .d (.int .i64 0)), (7, .d (.list 2 (l.map nmD))), (8, .d (.int .i64 (l.length : Nat))), (9, .d (.int .i64 ((i + 1 : Nat) : Int)))]) [] ?_
        exact ih (i + 1) (by omega) (hno (by assumption))
    · simp only [bsX] at h1
      omega
theorem spec_102 (l : List (ByteArray × Int)) (x : ByteArray) (hl : l.length < 1000000000) :
  Br.Pure Try.prog 102 [.d (.list 2 (l.map nmD)), .d (.str x)] (.d (.int .i64 (atR l x))) := by
 refine CallsA.pure ?_ rfl
 refine CallsA.start F102 (tm := mk (Try.f102.ntmps) [(0, .d (.list 2 (l.map nmD))), (1, .d (.str x))]) (by kernel_rfl) ?_
 refine .seg 12 [1, 4, 7, 8, 9] (T' := cgo 12 [] [.code B102]) (tm' := mk 20 [(1, .d (.str x)), (4, .d (.int .i64 0)), (7, .d (.list 2 (map nmD l))), (8, .d (.int .i64 (↑(map nmD l).length : Int))), (9, .d (.int .i64 0))]) (σ' := []) (by kernel_rfl) ?_
 simp only [List.length_map]
 exact .seg 1 [1, 4, 7, 8, 9] (by kernel_rfl) (lo102 l x hl l.length 0 (by omega) (by simp))
noncomputable def B103 : Code := (Try.f103.body).getD .skip
noncomputable def G103 (n l) := cgo n l [.code B103]
theorem F103 : Fnc Try.prog 103 Try.f103 B103 := ⟨Try.func103, by kernel_rfl, by kernel_rfl⟩
def keepN (c : ByteArray × ByteArray × Int) (p : ByteArray × Int) : Bool := decide (p.1 ≠ c.1) && decide (p.1 ≠ c.2.1)
def fltR (c : ByteArray × ByteArray × Int) (l : List (ByteArray × Int)) : List (ByteArray × Int) := l.filter (keepN c)
theorem fltR_more {c : ByteArray × ByteArray × Int} {l : List (ByteArray × Int)} {i : Nat} {p : ByteArray × Int} (hp : l[i]? = some p) : fltR c (l.take (i + 1)) = fltR c (l.take i) ++ if keepN c p then [p] else [] := by
 obtain ⟨hi', rfl⟩ := List.getElem?_eq_some_iff.1 hp
 rw [List.take_succ_eq_append_getElem hi', fltR, List.filter_append]
 congr 1
 cases h : keepN c l[i] <;> simp [h]
theorem fltR_le {c : ByteArray × ByteArray × Int} {l : List (ByteArray × Int)} (i : Nat) : (fltR c (l.take i)).length ≤ l.length := by
 have h1 := List.length_filter_le (keepN c) (l.take i)
 have h2 : (l.take i).length ≤ l.length := by simp only [List.length_take]; omega
 exact Nat.le_trans h1 h2
theorem lo103 (l : List (ByteArray × Int)) (c : ByteArray × ByteArray × Int) (hl : l.length < 1000000) (Q : AE → Store → Prop)
    (hnext : AW Try.prog 103 none 0 (G103 30 [false]) (mk 68 [(3, V.ptr 0 0 0), (4, V.nils), (5, V.row 1), (33, V.ptr 0 0 1), (34, V.ptr 0 0 1)]) [.cells [.d (.str c.1), .d (.str c.2.1), .d (.int .i64 c.2.2)], .row 2 ((fltR c l).map nmD) true] [] Q) : ∀ (m i : Nat), i + m = l.length →
    AW Try.prog 103 none 0 (G103 18 []) (mk 68 [(3, .ptr 0 0 0), (4, .nils), (5, .row 1), (9, V.d (D.list 2 (l.map nmD))), (10, V.d (D.int IntKind.i64 (l.length : Nat))), (11, V.d (D.int IntKind.i64 (i : Nat)))])
      [.cells [.d (.str c.1), .d (.str c.2.1), .d (.int .i64 c.2.2)], .row 2 ((fltR c (l.take i)).map nmD) true] [] Q := by
  intro m
  induction m with
  | zero =>
    intro i hi
    have hi : i = l.length := by omega
    subst hi
    rw [List.take_length]
    clear hi
    refine .sge 5 [3, 4, 5, 9, 10, 11, 12] (G103 23 []) ?_
    refine .if' (decide ((↑l.length : Int) < (↑l.length : Int))) (G103 24 [true]) (G103 24 [false]) (fun h1 => ?_) (fun h1 => ?_)
    · simp only [bsX] at h1
      omega
    · simp only [bsX] at h1
      refine .seg 6 [3, 4, 5, 33, 34] (T' := cgo 30 [false] [.code B103]) (tm' := mk 68 [(3, .ptr 0 0 0), (4, .nils), (5, .row 1), (33, .ptr 0 0 1), (34, .ptr 0 0 1)]) (σ' := [.cells [.d (.str c.fst), .d (.str c.snd.fst), .d (.int .i64 c.snd.snd)], .row 2 (map nmD (fltR c l)) true]) (by kernel_rfl) ?_
      exact hnext
  | succ m ih =>
    intro i hi
    obtain ⟨p, hp⟩ := get_some (l := l) (i := i) (by omega)
    have hf := fltR_more (c := c) hp
    have hb := fltR_le (c := c) (l := l) i
    have hb' : ((fltR c (l.take i)).map nmD).length ≤ l.length := by rw [List.length_map]; exact hb
    refine .sge 5 [3, 4, 5, 9, 10, 11, 12] (G103 23 []) ?_
    refine .if' (decide ((↑i : Int) < (↑l.length : Int))) (G103 24 [true]) (G103 24 [false]) (fun h1 => ?_) (fun h1 => ?_)
    · simp only [bsX] at h1
      refine .sg0 5 [3, 4, 5, 9, 10, 11, 12] (G103 29 [true]) [] ?_
      refine .op' (G103 30 [true]) (ixData_ok (t := 69) (x := (.tmp 9)) (i := (.tmp 11)) (k := IntKind.i64) (n := (↑i : Int)) (sz := 2) (xs := map nmD l) (d := nmD p) (by kernel_rfl) (by kernel_rfl) (by kernel_rfl) (by kernel_rfl) (by omega) (map_get hp)) ?_
      refine .sg 12 [3, 4, 5, 7, 9, 10, 11, 12, 13, 14, 15, 16, 17, 18, 19, 20] (G103 42 [true]) [(7, .ptr 2 0 0), (14, .d (.agg [D.str p.fst, D.int IntKind.i64 p.snd])), (15, .ptr 2 0 0), (16, .d (.str p.fst)), (17, .ptr 0 0 0), (18, .d (.str c.fst)), (19, .d (.bool !p.fst.toList == c.fst.toList)), (20, .d (.bool !p.fst.toList == c.fst.toList))] [(2, .cells [.d (.str p.fst), .d (.int .i64 p.snd)])] ?_
      rcases Bool.eq_false_or_eq_true (!p.fst.toList == c.fst.toList) with h2 | h2
      · rw [h2]
        simp only [bsX] at h2
        refine .sge 8 [3, 4, 5, 7, 9, 10, 11, 12, 13, 14, 15, 16, 17, 18, 19, 20, 21, 22, 23, 24, 25, 26, 27] (G103 50 [true]) ?_
        refine .if' (!p.fst.toList == c.snd.fst.toList) (G103 51 [true, true]) (G103 51 [true, false]) (fun h3 => ?_) (fun h3 => ?_)
        · simp only [bsX] at h3
          refine .sge 4 [3, 4, 5, 7, 9, 10, 11, 12, 13, 14, 15, 16, 17, 18, 19, 20, 21, 22, 23, 24, 25, 26, 27, 28, 29, 30] (G103 55 [true, true]) ?_
          refine .op' (G103 56 [true, true]) (appRow_ok (s := (.tmp 28)) (x := (.tmp 30)) (t := 69) (t2 := 69) (sz := 2) (by' := 24) (ys := [D.agg [D.str p.fst, D.int IntKind.i64 p.snd]]) (l := 1) (xs := map nmD (fltR c (List.take i l))) (mv := true) (by kernel_rfl) (by kernel_rfl) (by kernel_rfl) (by kernel_rfl) (by kernel_rfl) (by kernel_rfl) (by simp <;> omega) (by first | (simp [maxLen] <;> omega) | omega)) ?_
          refine .sg0 7 [3, 4, 5, 7, 9, 10, 11, 12, 13, 14, 15, 16, 17, 18, 19, 20, 21, 22, 23, 24, 25, 26, 27, 29, 30, 31, 32] (G103 63 [true, true]) [(5, .row 1), (11, .d (.int .i64 (IntKind.i64.wrap ((↑i : Int) + 1)))), (32, .d (.int .i64 (IntKind.i64.wrap ((↑i : Int) + 1))))] ?_
          simp (disch := omega) only [bsW]
          have hX : (fltR c (l.take (i + 1))).map nmD = List.map nmD (fltR c (List.take i l)) ++ [D.agg [D.str p.fst, D.int IntKind.i64 p.snd]] := by rw [hf, show keepN c p = true by simp [keepN]; exact ⟨fun e => h2 (by rw [e]), fun e => h3 (by rw [e])⟩, if_pos rfl, List.map_append]; rfl
          refine .sge 1 [3, 4, 5, 9, 10, 11] (G103 18 []) ?_
          refine .su [0, 1] (mk 68 [(3, V.ptr 0 0 0), (4, V.nils), (5, V.row 1), (9, V.d (D.list 2 (l.map nmD))), (10, V.d (D.int IntKind.i64 (l.length : Nat))), (11, V.d (D.int IntKind.i64 ((i + 1 : Nat) : Int)))]) [O.cells [V.d (D.str c.fst), V.d (D.str c.snd.fst), V.d (D.int IntKind.i64 c.snd.snd)], O.row 2 (map nmD (fltR c (List.take i l)) ++ [D.agg [D.str p.fst, D.int IntKind.i64 p.snd]]) true] ?_
          rw [← hX]
          exact ih (i + 1) (by omega)
        · simp only [bsX] at h3
          refine .sg0 6 [3, 4, 5, 7, 9, 10, 11, 12, 13, 14, 15, 16, 17, 18, 19, 20, 21, 22, 23, 24, 25, 26, 27, 32] (G103 57 [true, false]) [(11, .d (.int .i64 (IntKind.i64.wrap ((↑i : Int) + 1)))), (32, .d (.int .i64 (IntKind.i64.wrap ((↑i : Int) + 1))))] ?_
          simp (disch := omega) only [bsW]
          have hX : (fltR c (l.take (i + 1))).map nmD = List.map nmD (fltR c (List.take i l)) := by rw [hf, show keepN c p = false by simp [keepN]; exact fun _ => toList_inj h3]; simp
          refine .sge 1 [3, 4, 5, 9, 10, 11] (G103 18 []) ?_
          refine .su [0, 1] (mk 68 [(3, V.ptr 0 0 0), (4, V.nils), (5, V.row 1), (9, V.d (D.list 2 (l.map nmD))), (10, V.d (D.int IntKind.i64 (l.length : Nat))), (11, V.d (D.int IntKind.i64 ((i + 1 : Nat) : Int)))]) [O.cells [V.d (D.str c.fst), V.d (D.str c.snd.fst), V.d (D.int IntKind.i64 c.snd.snd)], O.row 2 (map nmD (fltR c (List.take i l))) true] ?_
          rw [← hX]
          exact ih (i + 1) (by omega)
      · rw [h2]
        simp only [bsX] at h2
        refine .sg0 15 [3, 4, 5, 7, 9, 10, 11, 12, 13, 14, 15, 16, 17, 18, 19, 20, 21, 22, 23, 24, 25, 26, 27, 32] (G103 57 [true, false]) [(11, .d (.int .i64 (IntKind.i64.wrap ((↑i : Int) + 1)))), (21, .tuple []), (22, .tuple []), (23, .tuple []), (24, .tuple []), (25, .tuple []), (26, .tuple []), (27, .d (.bool false)), (32, .d (.int .i64 (IntKind.i64.wrap ((↑i : Int) + 1))))] ?_
        simp (disch := omega) only [bsW]
        have hX : (fltR c (l.take (i + 1))).map nmD = List.map nmD (fltR c (List.take i l)) := by rw [hf, show keepN c p = false by simp [keepN]; exact fun e => absurd (toList_inj h2) e]; simp
        refine .sge 1 [3, 4, 5, 9, 10, 11] (G103 18 []) ?_
        refine .su [0, 1] (mk 68 [(3, V.ptr 0 0 0), (4, V.nils), (5, V.row 1), (9, V.d (D.list 2 (l.map nmD))), (10, V.d (D.int IntKind.i64 (l.length : Nat))), (11, V.d (D.int IntKind.i64 ((i + 1 : Nat) : Int)))]) [O.cells [V.d (D.str c.fst), V.d (D.str c.snd.fst), V.d (D.int IntKind.i64 c.snd.snd)], O.row 2 (map nmD (fltR c (List.take i l))) true] ?_
        rw [← hX]
        exact ih (i + 1) (by omega)
    · simp only [bsX] at h1
      omega
def backK (out : List (ByteArray × Int)) (n : ByteArray) : Nat → Nat
  | 0 => 0
  | k + 1 => match out[k]? with
    | some p => if (!(Op.bytesLess p.1.toList n.toList || p.1.toList == n.toList)) = true then backK out n k else k + 1
    | none => k + 1
def insR (out : List (ByteArray × Int)) (c : ByteArray × ByteArray × Int) (k : Nat) : List (ByteArray × Int) := out.take k ++ (c.2.1, c.2.2) :: out.drop k
theorem lo103c (out : List (ByteArray × Int)) (c : ByteArray × ByteArray × Int) (hl : out.length < 1000000) (k : Nat) (hk : k ≤ out.length) :
   AW Try.prog 103 none 0 (G103 50 [false, false, false]) (mk 68 [(3, V.ptr 0 0 0), (4, V.nils), (5, V.d (D.list 2 (List.map nmD out))), (8, V.d (D.int IntKind.i64 (k : Nat)))])
    [.cells [.d (.str c.1), .d (.str c.2.1), .d (.int .i64 c.2.2)], .dead] [] fun r _ => r = .ret (.d (.list 2 ((insR out c k).map nmD))) := by
 have hl' : (List.map nmD out).length < 1000000 := by rw [List.length_map]; exact hl
 have hk' : k ≤ (List.map nmD out).length := by rw [List.length_map]; exact hk
 refine .newVirt 2 ?_
 refine .dr (G103 51 [false, false, false]) [(4, .d (.list 2 (List.drop 0 (List.take k (map nmD out)) ++ ([D.agg [D.str c.snd.fst, D.int IntKind.i64 c.snd.snd]] ++ List.drop k (List.take (map nmD out).length (map nmD out)))))), (56, .d (.list 2 (map nmD out))), (57, .d (.int .i64 (↑k : Int))), (58, .d (.int .i64 (↑k : Int))), (59, .ex 2 (List.drop 0 (List.take k (map nmD out)))), (60, .ptr 0 0 1), (61, .d (.agg [D.str c.snd.fst, D.int IntKind.i64 c.snd.snd])), (63, .d (.list 2 (map nmD out))), (64, .d (.int .i64 (↑k : Int))), (65, .d (.list 2 (List.drop k (List.take (map nmD out).length (map nmD out))))), (66, .row 2), (67, .d (.list 2 (List.drop 0 (List.take k (map nmD out)) ++ ([D.agg [D.str c.snd.fst, D.int IntKind.i64 c.snd.snd]] ++ List.drop k (List.take (map nmD out).length (map nmD out))))))] [(2, .row 2 ([D.agg [D.str c.snd.fst, D.int IntKind.i64 c.snd.snd]] ++ List.drop k (List.take (map nmD out).length (map nmD out))) true)] (fun kz L hL => ?_) ?_
 · refine ⟨[nF, nF, nF, nF, fA 0, fR 0, fX [2] [2] [2] [2] [], nF, nF, nF, fX [2] [2] [2] [2] [2], fR 2, nF], run_amongF hL _ [] [0, 1, 2, 3, 4, 5, 7, 8, 9, 6, 10, 11, 12] (by intro p hp; cases hp) (by kernel_rfl) ?_⟩
   refine Run.ap [0, 1, 2] [(56, .d (.list 2 (map nmD out))), (57, .d (.int .i64 (↑k : Int))), (58, .d (.int .i64 (↑k : Int)))] [] ?_
   refine Run.lk 3 (.ex 2 (List.drop 0 (List.take k (map nmD out)))) [(.tmp 56), (.tmp 57), (.tmp 58)] (fun tm' σ2 hv hr => sl3Data_ok (t := 69) (x := (.tmp 56)) (lo := none) (y := (.tmp 57)) (z := (.tmp 58)) (sz := 2) (xs := map nmD out) (0) (k) (by kernel_rfl) (evl hv) (by kernel_rfl) rfl (bnd_some (k := IntKind.i64) (i := (↑k : Int)) (evv hv) (by omega) (by rfl)) (bnd_some (k := IntKind.i64) (i := (↑k : Int)) (evv hv) (by omega) (by rfl)) (by omega) (by assumption)) ?_
   refine Run.ap [4, 5, 7, 8] [(60, .ptr 0 0 1), (61, .d (.agg [D.str c.snd.fst, D.int IntKind.i64 c.snd.snd])), (63, .d (.list 2 (map nmD out))), (64, .d (.int .i64 (↑k : Int)))] [] ?_
   refine Run.lk 9 (.d (.list 2 (List.drop k (List.take (map nmD out).length (map nmD out))))) [(.tmp 63), (.tmp 64)] (fun tm' σ2 hv hr => slData_ok (t := 69) (x := (.tmp 63)) (lo := (some (.tmp 64))) (hi := none) (sz := 2) (xs := map nmD out) (k) ((map nmD out).length) (by kernel_rfl) (evl hv) (by kernel_rfl) (bnd_some (k := IntKind.i64) (i := (↑k : Int)) (evv hv) (by omega) (by rfl)) rfl (by assumption) (by omega)) ?_
   refine Run.one (StepF.build (o := ((drawOf (G103 50 [false, false, false]))[6]?).getD default) (t := 69) (len := 1) (parts := #[(0, (.tmp 61))]) (l := 2) (ds := [D.agg [D.str c.snd.fst, D.int IntKind.i64 c.snd.snd]]) (sz := 2) (mv := false) (by kernel_rfl) rfl (by kernel_rfl) (by kernel_rfl) (by kernel_rfl) (by kernel_rfl) (by kernel_rfl) (by kernel_rfl) (by kernel_rfl) (by kernel_rfl)) ?_
   refine Run.one (StepF.moves (o := ((drawOf (G103 50 [false, false, false]))[10]?).getD default) (v := .row 2) [(.tmp 62), (.tmp 65)] 2 (.row 2 ([D.agg [D.str c.snd.fst, D.int IntKind.i64 c.snd.snd]] ++ List.drop k (List.take (map nmD out).length (map nmD out))) true) (by kernel_rfl) rfl (by kernel_rfl) (by kernel_rfl) (by kernel_rfl) (by kernel_rfl) (by kernel_rfl) (by kernel_rfl) (fun tm' σ2 hv hr => appRow_ok (s := (.tmp 62)) (x := (.tmp 65)) (t := 69) (t2 := 69) (sz := 2) (by' := 24) (ys := List.drop k (List.take (map nmD out).length (map nmD out))) (l := 2) (xs := [D.agg [D.str c.snd.fst, D.int IntKind.i64 c.snd.snd]]) (mv := true) (by kernel_rfl) (evv hv) (atr hr) (by rw [hv _ (by simp)]; exact (cont_at fun l hl => hr l (subB_in (by kernel_rfl) hl)).trans (by kernel_rfl)) (by kernel_rfl) (by kernel_rfl) (by simp <;> omega) (by first | (simp [maxLen] <;> omega) | omega))) ?_
   refine Run.lk 11 (.d (.list 2 (List.drop 0 (List.take k (map nmD out)) ++ ([D.agg [D.str c.snd.fst, D.int IntKind.i64 c.snd.snd]] ++ List.drop k (List.take (map nmD out).length (map nmD out)))))) [(.tmp 59), (.tmp 66)] (fun tm' σ2 hv hr => appExD_ok (s := (.tmp 59)) (x := (.tmp 66)) (t := 69) (t2 := 69) (sz := 2) (by' := 24) (ys := [D.agg [D.str c.snd.fst, D.int IntKind.i64 c.snd.snd]] ++ List.drop k (List.take (map nmD out).length (map nmD out))) (xs := List.drop 0 (List.take k (map nmD out))) (by kernel_rfl) (evv hv) (by rw [hv _ (by simp)]; exact (cont_at fun l hl => hr l (subB_in (by kernel_rfl) hl)).trans (by kernel_rfl)) (by kernel_rfl) (by kernel_rfl) (by simp <;> omega) (by first | (simp [maxLen] <;> omega) | omega)) ?_
   exact Run.fin
 refine .kp [4] ?_
 refine .su [] (mk 68 [(4, .d (.list 2 (List.drop 0 (List.take k (map nmD out)) ++ ([D.agg [D.str c.snd.fst, D.int IntKind.i64 c.snd.snd]] ++ List.drop k (List.take (map nmD out).length (map nmD out))))))]) [] ?_
 refine .rt F103 (V.d (D.list 2 (List.drop 0 (List.take k (map nmD out)) ++ ([D.agg [D.str c.snd.fst, D.int IntKind.i64 c.snd.snd]] ++ List.drop k (List.take (map nmD out).length (map nmD out)))))) ?_
 rw [List.take_of_length_le (Nat.le_refl (List.map nmD out).length)]
 simp [insR, nmD, List.map_take, List.map_drop]
theorem lo103b (out : List (ByteArray × Int)) (c : ByteArray × ByteArray × Int) (hl : out.length < 1000000) : ∀ (k : Nat), k ≤ out.length →
   AW Try.prog 103 none 0 (G103 44 [false, false]) (mk 68 [(3, V.ptr 0 0 0), (4, V.nils), (5, V.d (D.list 2 (List.map nmD out))), (8, V.d (D.int IntKind.i64 (k : Nat)))])
     [.cells [.d (.str c.1), .d (.str c.2.1), .d (.int .i64 c.2.2)], .dead] [] fun r _ => r = .ret (.d (.list 2 ((insR out c (backK out c.2.1 k)).map nmD))) := by
 intro k
 induction k with
 | zero =>
   intro hk
   refine .sg0 2 [3, 4, 5, 8] (G103 46 [false, false]) [] ?_
   refine .dr (G103 47 [false, false]) [(40, .d (.int .i64 0)), (41, .d (.bool false)), (42, .d (.bool false)), (43, .tuple []), (44, .tuple []), (45, .tuple []), (46, .tuple []), (47, .tuple []), (48, .tuple []), (49, .tuple []), (50, .tuple []), (51, .tuple []), (52, .tuple []), (53, .d (.bool false))] [] (fun kz L hL => ?_) ?_
   · refine ⟨[nF, nF, nF, nF, nF, nF, nF, nF, nF, nF, nF, nF, nF, nF], run_amongF hL _ [] [0, 1, 2, 3, 4, 5, 6, 7, 8, 9, 10, 11, 12, 13] (by intro p hp; cases hp) (by kernel_rfl) ?_⟩
     exact Run.fin
   refine .seg 3 [3, 4, 5, 8] (T' := cgo 50 [false, false, false] [.code B103]) (tm' := mk 68 [(3, .ptr 0 0 0), (4, .nils), (5, .d (.list 2 (map nmD out))), (8, .d (.int .i64 0))]) (σ' := [.cells [.d (.str c.fst), .d (.str c.snd.fst), .d (.int .i64 c.snd.snd)], O.dead]) (by kernel_rfl) ?_
   exact lo103c out c hl 0 hk
 | succ k ih =>
   intro hk
   have hw : IntKind.i64.wrap (((k + 1 : Nat) : Int) - 1) = (k : Int) := by rw [wrap_i64 (by omega) (by omega)]; omega
   have hk1 : ((k + 1 : Nat) : Int) - 1 = (k : Nat) := by omega
   obtain ⟨p, hp⟩ := get_some (l := out) (i := k) (by omega)
   have hp' : out[(IntKind.i64.wrap (((k + 1 : Nat) : Int) - 1)).toNat]? = some p := by rw [hw]; exact hp
   have hg : decide (((k + 1 : Nat) : Int) > 0) = true := decide_eq_true (by omega)
   have hb1 : (!(Op.bytesLess p.1.toList c.2.1.toList || p.1.toList == c.2.1.toList)) = true → backK out c.2.1 (k + 1) = backK out c.2.1 k := fun e => by rw [backK, hp]; exact if_pos e
   have hb2 : ¬ (!(Op.bytesLess p.1.toList c.2.1.toList || p.1.toList == c.2.1.toList)) = true → backK out c.2.1 (k + 1) = k + 1 := fun e => by rw [backK, hp]; exact if_neg e
   generalize hB : backK out c.2.1 (k + 1) = B at *
   refine .sg0 2 [3, 4, 5, 8] (G103 46 [false, false]) [] ?_
   refine .dr (G103 47 [false, false]) [(40, .d (.int .i64 (↑(k + 1) : Int))), (41, .d (.bool true)), (42, .d (.bool true)), (43, .d (.list 2 (map nmD out))), (44, .d (.int .i64 (↑(k + 1) : Int))), (45, .d (.int .i64 (IntKind.i64.wrap ((↑(k + 1) : Int) - 1)))), (46, .ep 2 (D.agg [D.str p.fst, D.int IntKind.i64 p.snd]) 0), (47, .ep 2 (D.agg [D.str p.fst, D.int IntKind.i64 p.snd]) 0), (48, .d (.str p.fst)), (49, .ptr 0 0 1), (50, .ptr 0 0 1), (51, .d (.str c.snd.fst)), (52, .d (.bool !(Op.bytesLess p.fst.toList c.snd.fst.toList || p.fst.toList == c.snd.fst.toList))), (53, .d (.bool !(Op.bytesLess p.fst.toList c.snd.fst.toList || p.fst.toList == c.snd.fst.toList)))] [] (fun kz L hL => ?_) ?_
   · refine ⟨[nF, nF, nF, nF, nF, nF, nF, nF, nF, fA 0, fA 0, fR 0, nF, nF], run_amongF hL _ [] [0, 1, 2, 3, 4, 5, 6, 7, 8, 9, 10, 11, 12, 13] (by intro p hp; cases hp) (by kernel_rfl) ?_⟩
     refine Run.append (A := [0, 1]) (srunF_ok (tm' := mk 68 [(3, .ptr 0 0 0), (4, V.nils), (5, .d (.list 2 (map nmD out))), (8, .d (.int .i64 (↑(k + 1) : Int))), (40, .d (.int .i64 (↑(k + 1) : Int))), (41, .d (.bool (decide ((↑(k + 1) : Int) > 0))))]) (σ' := [.cells [.d (.str c.fst), .d (.str c.snd.fst), .d (.int .i64 c.snd.snd)], O.dead]) (by kernel_rfl)) ?_
     rw [hg]
     refine Run.ap [2, 3, 4, 5] [(42, .d (.bool true)), (43, .d (.list 2 (map nmD out))), (44, .d (.int .i64 (↑(k + 1) : Int))), (45, .d (.int .i64 (IntKind.i64.wrap ((↑(k + 1) : Int) - 1))))] [] ?_
     refine Run.lk 6 (.ep 2 (D.agg [D.str p.fst, D.int IntKind.i64 p.snd]) 0) [(.tmp 43), (.tmp 45)] (fun tm' σ2 hv hr => ixData_ok (t := 69) (x := (.tmp 43)) (i := (.tmp 45)) (k := IntKind.i64) (n := IntKind.i64.wrap ((↑(k + 1) : Int) - 1)) (sz := 2) (xs := map nmD out) (d := nmD p) (by kernel_rfl) (evl hv) (evv hv) (by kernel_rfl) (by omega) (map_get hp')) ?_
     exact Run.fin
   refine .if' (!(Op.bytesLess p.fst.toList c.snd.fst.toList || p.fst.toList == c.snd.fst.toList)) (G103 48 [false, false, true]) (G103 48 [false, false, false]) (fun h1 => ?_) (fun h1 => ?_)
   · simp only [bsX] at h1
     refine .sg0 2 [3, 4, 5, 8, 40, 41, 42, 43, 44, 45, 46, 47, 48, 49, 50, 51, 52, 53] (G103 50 [false, false, true]) [] ?_
     simp (disch := omega) only [bsW]
     rw [show B = backK out c.2.1 k from hb1 (by simpa using h1)]
     clear hp' hw hg hb1 hb2
     refine .seg 6 [3, 4, 5, 8, 40, 41, 42, 43, 44, 45, 46, 47, 48, 49, 50, 51, 52, 53, 54, 55] (T' := cgo 56 [false, false, true] [.code B103]) (tm' := mk 68 [(3, .ptr 0 0 0), (4, .nils), (5, .d (.list 2 (map nmD out))), (8, .d (.int .i64 (IntKind.i64.wrap ((↑(k + 1) : Int) - 1)))), (40, .d (.int .i64 (↑(k + 1) : Int))), (41, .d (.bool true)), (42, .d (.bool true)), (43, .d (.list 2 (map nmD out))), (44, .d (.int .i64 (↑(k + 1) : Int))), (45, .d (.int .i64 ((↑(k + 1) : Int) - 1))), (46, .ep 2 (D.agg [D.str p.fst, D.int IntKind.i64 p.snd]) 0), (47, .ep 2 (D.agg [D.str p.fst, D.int IntKind.i64 p.snd]) 0), (48, .d (.str p.fst)), (49, .ptr 0 0 1), (50, .ptr 0 0 1), (51, .d (.str c.snd.fst)), (52, .d (.bool !(Op.bytesLess p.fst.toList c.snd.fst.toList || p.fst.toList == c.snd.fst.toList))), (53, .d (.bool !(Op.bytesLess p.fst.toList c.snd.fst.toList || p.fst.toList == c.snd.fst.toList))), (54, .d (.int .i64 (↑(k + 1) : Int))), (55, .d (.int .i64 (IntKind.i64.wrap ((↑(k + 1) : Int) - 1))))]) (σ' := [.cells [.d (.str c.fst), .d (.str c.snd.fst), .d (.int .i64 c.snd.snd)], O.dead]) (by kernel_rfl) ?_
     simp (disch := omega) only [bsW]
     rw [hk1]
     exact .seg 1 [3, 4, 5, 8] (by kernel_rfl) (ih (by omega))
   · simp only [bsX] at h1
     refine .seg 2 [3, 4, 5, 8] (T' := cgo 50 [false, false, false] [.code B103]) (tm' := mk 68 [(3, .ptr 0 0 0), (4, .nils), (5, .d (.list 2 (map nmD out))), (8, .d (.int .i64 (↑(k + 1) : Int)))]) (σ' := [.cells [.d (.str c.fst), .d (.str c.snd.fst), .d (.int .i64 c.snd.snd)], O.dead]) (by kernel_rfl) ?_
     rw [show B = k + 1 from hb2 (by simp only [Bool.not_eq_true, Bool.not_eq_false']; exact h1)]
     exact lo103c out c hl (k + 1) hk
def applyR (l : List (ByteArray × Int)) (c : ByteArray × ByteArray × Int) : List (ByteArray × Int) :=
  if c.2.1.toList = (ByteArray.mk #[]).toList then fltR c l else insR (fltR c l) c (backK (fltR c l) c.2.1 (fltR c l).length)
theorem spec_103 (l : List (ByteArray × Int)) (c : ByteArray × ByteArray × Int) (hl : l.length < 1000000) :
   Br.Pure Try.prog 103 [.d (.list 2 (l.map nmD)), .d (chD c)] (.d (.list 2 ((applyR l c).map nmD))) := by
 refine CallsA.pure ?_ rfl
 refine CallsA.start F103 (tm := mk (Try.f103.ntmps) [(0, .d (.list 2 (l.map nmD))), (1, .d (chD c))]) (by kernel_rfl) ?_
 refine .seg 17 [3, 4, 5, 9, 10, 11] (T' := cgo 17 [] [.code B103]) (tm' := mk 68 [(3, .ptr 0 0 0), (4, .nils), (5, .nils), (9, .d (.list 2 (map nmD l))), (10, .d (.int .i64 (↑(map nmD l).length : Int))), (11, .d (.int .i64 0))]) (σ' := [.cells [.d (.str c.fst), .d (.str c.snd.fst), .d (.int .i64 c.snd.snd)]]) (by kernel_rfl) ?_
 simp only [List.length_map]
 refine .virtT 5 2 (by kernel_rfl) ?_
 refine .raises [1] ?_
 refine .seg 1 [3, 4, 5, 9, 10, 11] (by kernel_rfl) (lo103 l c hl _ ?_ l.length 0 (by omega))
 refine .freeze 1 (sz := 2) (xs := (fltR c l).map nmD) (mv := true) (by kernel_rfl) ?_
 refine .sge 3 [3, 4, 5, 36] (G103 33 [false]) ?_
 refine .if' (c.snd.fst.toList == (ByteArray.mk #[]).toList) (G103 34 [false, true]) (G103 34 [false, false]) (fun h1 => ?_) (fun h1 => ?_)
 · simp only [bsX] at h1
   refine .sge 5 [3, 4, 5] (G103 39 [false, true]) ?_
   refine .kp [4] ?_
   refine .su [] (mk 68 [(4, .d (.list 2 (map nmD (fltR c l))))]) [] ?_
   refine .rt F103 (V.d (D.list 2 (map nmD (fltR c l)))) ?_
   rw [applyR, if_pos h1]
 · simp only [bsX] at h1
   refine .seg 9 [3, 4, 5, 8] (T' := cgo 43 [false, false] [.code B103]) (tm' := mk 68 [(3, .ptr 0 0 0), (4, .nils), (5, .d (.list 2 (map nmD (fltR c l)))), (8, .d (.int .i64 (↑(map nmD (fltR c l)).length : Int)))]) (σ' := [.cells [.d (.str c.fst), .d (.str c.snd.fst), .d (.int .i64 c.snd.snd)], O.dead]) (by kernel_rfl) ?_
   simp only [List.length_map]
   rw [applyR, if_neg h1]
   exact .seg 1 [3, 4, 5, 8] (by kernel_rfl) (lo103b (fltR c l) c (by have := fltR_le (c := c) (l := l) l.length; rw [List.take_length] at this; omega) (fltR c l).length (Nat.le_refl _))
structure Rk where
  files : List (List UInt8 × Nat)
  now : List (ByteArray × Int)
  sure : List (ByteArray × Int)
  ch : List (ByteArray × ByteArray × Int)
  quota : Int
  full : Bool
  off : Bool
  stop : Int
  calls : Int
abbrev rC (r c : Nat) (d : Rk) : List V := [.row r, .d (.list 2 (d.now.map nmD)), .d (.list 2 (d.sure.map nmD)), .row c, .d (.int .i64 d.quota), .d (.bool d.full), .d (.bool d.off), .d (.int .i64 d.stop), .d (.int .i64 d.calls)]
abbrev SQ (d : Rk) (m : Bool) (t : Store) : Store := .cells (rC 1 2 d) :: .row 2 (d.files.map fileD) m :: .row 3 (d.ch.map chD) m :: t
def SR (d : Rk) (m : Bool) : Store := [.cells [.row 1, .d (.list 2 (d.now.map nmD)), .d (.list 2 (d.sure.map nmD)), .row 2, .d (.int .i64 d.quota), .d (.bool d.full), .d (.bool d.off), .d (.int .i64 d.stop), .d (.int .i64 d.calls)],
  .row 2 (d.files.map fileD) m, .row 3 (d.ch.map chD) m]
def Rk.new (q : Int) : Rk := { files := [], now := [], sure := [], ch := [], quota := if 0 > q then 0 else q, full := false, off := false, stop := -1, calls := 0 }
noncomputable def B39 : Code := (Try.f39.body).getD .skip
noncomputable def G39 (n l) := cgo n l [.code B39]
theorem F39 : Fnc Try.prog 39 Try.f39 B39 := ⟨Try.func39, by kernel_rfl, by kernel_rfl⟩
theorem spec_39 (q : Int) : CallsA Try.prog 39 [.d (.int .i64 q)] [] fun r σ' => r = .ret (.ptr 0 0 0) ∧ σ' = SR (Rk.new q) true := by
 refine CallsA.start F39 (tm := mk (Try.f39.ntmps) [(0, .d (.int .i64 q))]) (by kernel_rfl) ?_
 refine .seg 12 [2] (T' := cgo 12 [] [.code B39]) (tm' := mk 7 [(2, .ptr 0 0 0)]) (σ' := [.cells [.ex 2 [], .ex 2 [], .ex 2 [], .ex 3 [], .d (.int .i64 (if 0 > q then 0 else q)), .d (.bool false), .d (.bool false), .d (.int .i64 (-1)), .d (.int .i64 0)]]) (by kernel_rfl) ?_
 refine .virtX 0 0 2 rfl rfl ?_
 refine .virtX 0 3 3 rfl rfl ?_
 refine .virtX 0 1 2 rfl rfl ?_
 refine .virtX 0 2 2 rfl rfl ?_
 refine .freeze 3 (sz := 2) (xs := []) (mv := false) (by kernel_rfl) ?_
 refine .freeze 4 (sz := 2) (xs := []) (mv := false) (by kernel_rfl) ?_
 refine .raises [1, 2] ?_
 refine .su [0, 1, 2] (mk 7 [(2, .ptr 0 0 0)]) (SR (Rk.new q) true) ?_
 refine .rt F39 (V.ptr 0 0 0) ?_
 exact ⟨rfl, by kernel_rfl⟩
structure Rk.Ok (d : Rk) (N : Nat) : Prop where
  nn : ∀ p ∈ d.now, 0 ≤ p.2 ∧ p.2 < d.files.length
  fs : ∀ f ∈ d.files, f.2 ≤ f.1.length ∧ f.1.length ≤ 1048576
  fl : d.files.length ≤ N
  nl : d.now.length ≤ N
  chl : d.ch.length ≤ N
  c0 : 0 ≤ d.calls
  cl : d.calls ≤ N
  s0 : -1 ≤ d.stop
  s1 : d.stop < 9223372036854775808
  q0 : 0 ≤ d.quota
  q1 : d.quota < 9223372036854775808
  nb : N ≤ 50000
def Rk.file (d : Rk) (k : Nat) : List UInt8 × Nat := d.files.getD k ([], 0)
def Rk.acc (d : Rk) (i : Nat) : Nat := ((d.now.take i).map fun p => (d.file p.2.toNat).1.length).sum
def Rk.used (d : Rk) : Nat := (d.now.map fun p => (d.file p.2.toNat).1.length).sum
theorem Rk.acc_succ {d : Rk} {i : Nat} {p : ByteArray × Int} {f : List UInt8 × Nat} (hy : d.now[i]? = some p) (hf : d.files[p.2.toNat]? = some f) : d.acc (i + 1) = d.acc i + f.1.length := by
 obtain ⟨hi, rfl⟩ := List.getElem?_eq_some_iff.1 hy
 have e : d.file d.now[i].2.toNat = f := by simp [Rk.file, hf]
 unfold Rk.acc
 rw [List.take_succ_eq_append_getElem hi]
 simp only [List.map_append, List.sum_append, List.map_cons, List.map_nil, List.sum_cons, List.sum_nil, e, Nat.add_zero]
theorem Rk.acc_le {d : Rk} {N : Nat} (h : d.Ok N) : ∀ i, d.acc i ≤ i * 1048576
  | 0 => by simp [Rk.acc]
  | i + 1 => by
    have ih := Rk.acc_le h i
    cases hy : d.now[i]? with
    | none =>
      have e : d.now.take (i + 1) = d.now.take i := by
        rw [List.getElem?_eq_none_iff] at hy
        rw [List.take_of_length_le (by omega), List.take_of_length_le hy]
      have : d.acc (i + 1) = d.acc i := by unfold Rk.acc; rw [e]
      omega
    | some p =>
      have hp := h.nn p (List.mem_of_getElem? hy)
      obtain ⟨f, hf⟩ := get_some (l := d.files) (i := p.2.toNat) (by omega)
      have := (h.fs f (List.mem_of_getElem? hf)).2
      rw [Rk.acc_succ hy hf]; omega
noncomputable def B83 : Code := (Try.f83.body).getD .skip
noncomputable def G83 (n l) := cgo n l [.code B83]
theorem F83 : Fnc Try.prog 83 Try.f83 B83 := ⟨Try.func83, by kernel_rfl, by kernel_rfl⟩
theorem lo83 (d : Rk) (N : Nat) (h : d.Ok N) : ∀ (m i : Nat), i + m = d.now.length →
    AW Try.prog 83 none 3 (G83 20 []) (mk 29 [(0, V.ptr 0 0 0), (2, V.d (D.int IntKind.i64 0)), (3, V.d (D.int IntKind.i64 (d.acc i : Nat))), (9, V.d (D.list 2 (List.map nmD d.now))), (10, V.d (D.int IntKind.i64 (d.now.length : Nat))), (11, V.d (D.int IntKind.i64 (i : Nat)))])
      (SR d false) [] fun r σ' => r = .ret (.d (.int .i64 (d.used : Nat))) ∧ σ' = SR d false := by
  have q1 := h.nl
  have q2 := h.nb
  have q3 := h.fl
  intro m
  induction m with
  | zero =>
    intro i hi
    have hi : i = d.now.length := by omega
    subst hi
    have he : d.acc d.now.length = d.used := by unfold Rk.acc Rk.used; rw [List.take_length]
    rw [he]
    refine .sge 5 [0, 2, 3, 9, 10, 11, 12] (G83 25 []) ?_
    refine .if' (decide ((↑d.now.length : Int) < (↑d.now.length : Int))) (G83 26 [true]) (G83 26 [false]) (fun h1 => ?_) (fun h1 => ?_)
    · simp only [bsX] at h1
      omega
    · simp only [bsX] at h1
      refine .sge 6 [2] (cgo 32 [false] [.code B83]) ?_
      refine .rt F83 (V.d (D.int IntKind.i64 (↑d.used : Int))) ?_
      exact ⟨rfl, by kernel_rfl⟩
  | succ m ih =>
    intro i hi
    obtain ⟨p, hp⟩ := get_some (l := d.now) (i := i) (by omega)
    have hq := h.nn p (List.mem_of_getElem? hp)
    obtain ⟨f, hf⟩ := get_some (l := d.files) (i := p.2.toNat) (by omega)
    have hfl := (h.fs f (List.mem_of_getElem? hf)).2
    have ha := Rk.acc_le h i
    have hs := Rk.acc_succ hp hf
    have hq1 := hq.1
    have hq2 := hq.2
    have hw : IntKind.i64.wrap ((d.acc i : Int) + (f.1.length : Int)) = ((d.acc (i + 1) : Nat) : Int) := by
      rw [wrap_i64 (by omega) (by omega), hs]; omega
    refine .sge 5 [0, 2, 3, 9, 10, 11, 12] (G83 25 []) ?_
    refine .if' (decide ((↑i : Int) < (↑d.now.length : Int))) (G83 26 [true]) (G83 26 [false]) (fun h1 => ?_) (fun h1 => ?_)
    · simp only [bsX] at h1
      refine .sg0 5 [0, 2, 3, 9, 10, 11, 12] (G83 31 [true]) [] ?_
      refine .op' (G83 32 [true]) (ixData_ok (t := 69) (x := (.tmp 9)) (i := (.tmp 11)) (k := IntKind.i64) (n := (↑i : Int)) (sz := 2) (xs := map nmD d.now) (d := nmD p) (by kernel_rfl) (by kernel_rfl) (by kernel_rfl) (by kernel_rfl) (by omega) (map_get hp)) ?_
      refine .sge 4 [0, 2, 3, 5, 9, 10, 11, 12, 13, 14] (G83 36 [true]) ?_
      refine .dr (G83 37 [true]) [(3, .d (.int .i64 (IntKind.i64.wrap ((↑(d.acc i) : Int) + (↑(map u8 f.fst).length : Int))))), (15, .d (.int .i64 (↑(d.acc i) : Int))), (16, .ptr 0 0 0), (17, .ptr 0 0 0), (18, .ptr 0 0 0), (19, .row 1), (20, .ptr 3 0 1), (21, .d (.int .i64 p.snd)), (22, .ptr 1 p.snd.toNat 0), (23, .ptr 1 p.snd.toNat 0), (24, .d (.list 1 (map u8 f.fst))), (25, .d (.int .i64 (↑(map u8 f.fst).length : Int))), (26, .d (.int .i64 (IntKind.i64.wrap ((↑(d.acc i) : Int) + (↑(map u8 f.fst).length : Int)))))] [] (fun kz L hL => ?_) ?_
      · refine ⟨[nF, fO 0, fA 0, fA 0, fX [0] [] [] [1] [0, 1, 2], fA 3, fR 3, fX [1] [] [] [1] [1], fA 1, fR 1, nF, nF, nF], run_amongF hL _ [] [0, 1, 2, 3, 4, 5, 6, 7, 8, 9, 10, 11, 12] (by intro p hp; cases hp) (by kernel_rfl) ?_⟩
        refine Run.ap [0, 1, 2, 3, 4, 5, 6] [(15, .d (.int .i64 (↑(d.acc i) : Int))), (16, .ptr 0 0 0), (17, .ptr 0 0 0), (18, .ptr 0 0 0), (19, .row 1), (20, .ptr 3 0 1), (21, .d (.int .i64 p.snd))] [] ?_
        refine Run.lk 7 (.ptr 1 p.snd.toNat 0) [(.tmp 19), (.tmp 21)] (fun tm' σ2 hv hr => ixRow_ok (t := 68) (x := (.tmp 19)) (i := (.tmp 21)) (k := IntKind.i64) (n := p.snd) (l := 1) (sz := 2) (xs := map fileD d.files) (mv := false) (by kernel_rfl) (evv hv) (evv hv) (atr hr) (by kernel_rfl) (by assumption) (by simp <;> omega)) ?_
        refine Run.ap [8] [(23, .ptr 1 p.snd.toNat 0)] [] ?_
        refine Run.lk 9 (.d (.list 1 (map u8 f.fst))) [(.tmp 23)] (fun tm' σ2 hv hr => ldRow_ok (t := 22) (x := (.tmp 23)) (l := 1) (i := p.snd.toNat) (s := 0) (sz := 2) (xs := map fileD d.files) (mv := false) (d := fileD f) (v := .d (.list 1 (map u8 f.fst))) (by kernel_rfl) (evv hv) (atr hr) (map_get hf) (by kernel_rfl)) ?_
        exact Run.fin
      refine .sg0 5 [0, 2, 3, 5, 9, 10, 11, 12, 13, 14, 15, 16, 17, 18, 19, 20, 21, 22, 23, 24, 25, 26, 27] (G83 42 [true]) [(11, .d (.int .i64 (IntKind.i64.wrap ((↑i : Int) + 1)))), (27, .d (.int .i64 (IntKind.i64.wrap ((↑i : Int) + 1))))] ?_
      simp only [List.length_map]
      simp (disch := omega) only [bsW]
      rw [show ((d.acc i : Nat) : Int) + (f.1.length : Int) = ((d.acc (i + 1) : Nat) : Int) by rw [hs]; omega]
      refine .seg 1 [0, 2, 3, 9, 10, 11] (T' := cgo 20 [] [.code B83]) (tm' := mk 29 [(0, .ptr 0 0 0), (2, .d (.int .i64 0)), (3, .d (.int .i64 (d.acc (i + 1) : Nat))), (9, .d (.list 2 (map nmD d.now))), (10, .d (.int .i64 (d.now.length : Nat))), (11, .d (.int .i64 ((i + 1 : Nat) : Int)))]) (σ' := SR d false ++ [.cells [.d (.str p.1), .d (.int .i64 p.2)]]) (by kernel_rfl) ?_
      exact .sub [0, 1, 2] (mk 29 [(0, V.ptr 0 0 0), (2, V.d (D.int IntKind.i64 0)), (3, V.d (D.int IntKind.i64 (d.acc (i + 1) : Nat))), (9, V.d (D.list 2 (map nmD d.now))), (10, V.d (D.int IntKind.i64 (d.now.length : Nat))), (11, V.d (D.int IntKind.i64 ((i + 1 : Nat) : Int)))]) (SR d false) none [] ⟨rfl, rfl, by kernel_rfl⟩ (by kernel_rfl) ⟨Nat.le_of_ble_eq_true (by kernel_rfl), by kernel_rfl⟩ (by kernel_rfl) ⟨by kernel_rfl, by kernel_rfl⟩ ⟨rfl, rfl⟩ (ih (i + 1) (by omega))
    · simp only [bsX] at h1
      omega
theorem spec_83 (d : Rk) (N : Nat) (h : d.Ok N) : CallsA Try.prog 83 [.ptr 0 0 0] (SR d false) fun r σ' => r = .ret (.d (.int .i64 (d.used : Nat))) ∧ σ' = SR d false := by
 refine CallsA.start F83 (tm := mk (Try.f83.ntmps) [(0, .ptr 0 0 0)]) (by kernel_rfl) ?_
 refine .seg 19 [0, 2, 3, 9, 10, 11] (T' := cgo 19 [] [.code B83]) (tm' := mk 29 [(0, .ptr 0 0 0), (2, .d (.int .i64 0)), (3, .d (.int .i64 0)), (9, .d (.list 2 (map nmD d.now))), (10, .d (.int .i64 (↑(map nmD d.now).length : Int))), (11, .d (.int .i64 0))]) (σ' := (SQ d false [])) (by kernel_rfl) ?_
 simp only [List.length_map]
 exact .seg 1 [0, 2, 3, 9, 10, 11] (by kernel_rfl) (lo83 d N h d.now.length 0 (by omega))
noncomputable def B77 : Code := (Try.f77.body).getD .skip
noncomputable def G77 (n l) := cgo n l [.code B77]
theorem F77 : Fnc Try.prog 77 Try.f77 B77 := ⟨Try.func77, by kernel_rfl, by kernel_rfl⟩
def Rk.begun (d : Rk) : Rk := if d.off then d else if d.stop = 0 then { d with calls := d.calls + 1, off := true } else if 0 < d.stop then { d with calls := d.calls + 1, stop := d.stop - 1 } else { d with calls := d.calls + 1 }
theorem head77 (d : Rk) (N : Nat) (h : d.Ok N) (k : Int) (x y : ByteArray) (v4 : V) (Q : AE → Store → Prop)
    (hoff : d.begun.off = true → Q (.ret (.d (.int .i64 5))) (SR d.begun true))
    (hnext : d.begun.off = false → AW Try.prog 77 none 3 (G77 47 [false, false, false]) (mk 214 [(0, .ptr 0 0 0), (1, .d (.int .i64 k)), (2, .d (.str x)), (3, .d (.str y)), (4, v4), (10, .d (.int .i64 0))]) (SR d.begun false) [] Q) :
    CallsA Try.prog 77 [.ptr 0 0 0, .d (.int .i64 k), .d (.str x), .d (.str y), v4] (SR d false) Q := by
  refine CallsA.start F77 (tm := mk (Try.f77.ntmps) [(0, .ptr 0 0 0), (1, .d (.int .i64 k)), (2, .d (.str x)), (3, .d (.str y)), (4, v4)]) (by kernel_rfl) ?_
  have hc0 := h.c0
  have hcl := h.cl
  have hs0 := h.s0
  have hs1 := h.s1
  have hnb := h.nb
  refine .sge 12 [0, 1, 2, 3, 4, 10, 16] (G77 12 []) ?_
  refine .if' (d.off) (G77 13 [true]) (G77 13 [false]) (fun h1 => ?_) (fun h1 => ?_)
  · refine .seg 4 [0, 1, 2, 3, 4, 10] (T' := cgo 17 [true] [.code B77]) (tm' := mk 214 [(0, .ptr 0 0 0), (1, .d (.int .i64 k)), (2, .d (.str x)), (3, .d (.str y)), (4, v4), (10, .d (.int .i64 5))]) (σ' := (SQ d false [])) (by kernel_rfl) ?_
    refine .raise 1 rfl rfl ?_
    refine .raise 2 rfl rfl ?_
    refine .rt F77 (V.d (D.int IntKind.i64 5)) ?_
    have e : d.begun = d := by simp [Rk.begun, h1]
    rw [e] at hoff
    exact hoff h1
  · refine .sg 21 [0, 1, 2, 3, 4, 10, 28] (G77 34 [false]) [(28, .d (.bool (d.stop == 0)))] [(0, .cells [.row 1, .d (.list 2 (map nmD d.now)), .d (.list 2 (map nmD d.sure)), .row 2, .d (.int .i64 d.quota), .d (.bool d.full), .d (.bool d.off), .d (.int .i64 d.stop), .d (.int .i64 (IntKind.i64.wrap (d.calls + 1)))])] ?_
    simp (disch := omega) only [bsW]
    refine .if' (d.stop == 0) (G77 35 [false, true]) (G77 35 [false, false]) (fun h2 => ?_) (fun h2 => ?_)
    · simp only [bsX] at h2
      refine .seg 11 [0, 1, 2, 3, 4, 10] (T' := cgo 46 [false, true] [.code B77]) (tm' := mk 214 [(0, .ptr 0 0 0), (1, .d (.int .i64 k)), (2, .d (.str x)), (3, .d (.str y)), (4, v4), (10, .d (.int .i64 5))]) (σ' := [.cells [.row 1, .d (.list 2 (map nmD d.now)), .d (.list 2 (map nmD d.sure)), .row 2, .d (.int .i64 d.quota), .d (.bool d.full), .d (.bool true), .d (.int .i64 d.stop), .d (.int .i64 (d.calls + 1))], .row 2 (map fileD d.files) false, .row 3 (map chD d.ch) false]) (by kernel_rfl) ?_
      refine .raise 1 rfl rfl ?_
      refine .raise 2 rfl rfl ?_
      refine .rt F77 (V.d (D.int IntKind.i64 5)) ?_
      have e : d.begun = { d with calls := d.calls + 1, off := true } := by simp [Rk.begun, h1, h2]
      rw [e] at hoff
      exact hoff rfl
    · simp only [bsX] at h2
      refine .sge 10 [0, 1, 2, 3, 4, 10, 36] (G77 45 [false, false]) ?_
      refine .if' (decide (d.stop > 0)) (G77 46 [false, false, true]) (G77 46 [false, false, false]) (fun h3 => ?_) (fun h3 => ?_)
      · simp only [bsX] at h3
        have e : d.begun = { d with calls := d.calls + 1, stop := d.stop - 1 } := by simp [Rk.begun, h1, h2, h3]
        rw [e] at hnext
        refine .sg 10 [0, 1, 2, 3, 4, 10] (G77 56 [false, false, true]) [] [(0, .cells [.row 1, .d (.list 2 (map nmD d.now)), .d (.list 2 (map nmD d.sure)), .row 2, .d (.int .i64 d.quota), .d (.bool d.full), .d (.bool d.off), .d (.int .i64 (IntKind.i64.wrap (d.stop - 1))), .d (.int .i64 (d.calls + 1))])] ?_
        rw [show IntKind.i64.wrap (d.stop - 1) = d.stop - 1 from wrap_i64 (by omega) (by omega)]
        exact .goes [0, 1, 2, 3, 4, 10] (by kernel_rfl) (by kernel_rfl) (by kernel_rfl) (hnext h1)
      · simp only [bsX] at h3
        have e : d.begun = { d with calls := d.calls + 1 } := by simp [Rk.begun, h1, h2]; omega
        rw [e] at hnext
        refine .sg0 1 [0, 1, 2, 3, 4, 10] (G77 47 [false, false, false]) [] ?_
        exact .goes [0, 1, 2, 3, 4, 10] (by kernel_rfl) (by kernel_rfl) (by kernel_rfl) (hnext h1)
theorem rising_ext {α : Type} {R : α → α → Prop} (irr : ∀ x, ¬ R x x) (tr : ∀ x y z, R x y → R y z → R x z) : ∀ {a b : List α}, a.Pairwise R → b.Pairwise R → (∀ x, x ∈ a ↔ x ∈ b) → a = b
  | [], [], _, _, _ => rfl
  | [], y :: b, _, _, h => absurd ((h y).2 (by simp)) (by simp)
  | x :: a, [], _, _, h => absurd ((h x).1 (by simp)) (by simp)
  | x :: a, y :: b, ha, hb, h => by
    rw [List.pairwise_cons] at ha hb
    have e : x = y := by
      rcases List.mem_cons.1 ((h x).1 (by simp)) with h1 | h1
      · exact h1
      · rcases List.mem_cons.1 ((h y).2 (by simp)) with h2 | h2
        · exact h2.symm
        · exact absurd (tr _ _ _ (hb.1 x h1) (ha.1 y h2)) (irr y)
    subst e
    rw [rising_ext irr tr ha.2 hb.2 fun z => ?_]
    constructor
    · intro hz
      rcases List.mem_cons.1 ((h z).1 (List.mem_cons_of_mem _ hz)) with h1 | h1
      · exact absurd (h1 ▸ ha.1 z hz) (irr _)
      · exact h1
    · intro hz
      rcases List.mem_cons.1 ((h z).2 (List.mem_cons_of_mem _ hz)) with h1 | h1
      · exact absurd (h1 ▸ hb.1 z hz) (irr _)
      · exact h1
def RisingN (l : List (ByteArray × Int)) : Prop := l.Pairwise fun a b => lt a.1 b.1 = true
theorem zip_rising : ∀ {ks : List ByteArray} {vs : List Int}, Rising ks → RisingN (ks.zip vs)
 | [], vs, _ => by simp [RisingN]
 | k :: ks, [], _ => by simp [RisingN]
 | k :: ks, v :: vs, h => by
   unfold Rising at h
   rw [List.pairwise_cons] at h
   unfold RisingN
   rw [List.zip_cons_cons, List.pairwise_cons]
   exact ⟨fun p hp => h.1 _ (List.of_mem_zip hp).1, zip_rising h.2⟩
theorem mem_zip_iff {ks : List ByteArray} {vs : List Int} (hr : Rising ks) {x : ByteArray} {v : Int} : (x, v) ∈ ks.zip vs ↔ look ks vs x = some v := by
 rw [look_iff hr]
 constructor
 · intro h
   obtain ⟨i, hi, e⟩ := List.mem_iff_getElem.1 h
   rw [List.getElem_zip] at e
   rw [List.length_zip] at hi
   injection e with e1 e2
   exact ⟨i, List.getElem?_eq_some_iff.2 ⟨by omega, e1⟩, List.getElem?_eq_some_iff.2 ⟨by omega, e2⟩⟩
 · rintro ⟨i, h1, h2⟩
   obtain ⟨i1, rfl⟩ := List.getElem?_eq_some_iff.1 h1
   obtain ⟨i2, rfl⟩ := List.getElem?_eq_some_iff.1 h2
   exact List.mem_iff_getElem.2 ⟨i, by rw [List.length_zip]; omega, by rw [List.getElem_zip]⟩
theorem atR_mem {l : List (ByteArray × Int)} (hr : RisingN l) {x : ByteArray} {v : Int} (h : (x, v) ∈ l) : atR l x = v := by
 induction l with
 | nil => simp at h
 | cons p l ih =>
   unfold RisingN at hr
   rw [List.pairwise_cons] at hr
   rw [atR]
   rcases List.mem_cons.1 h with h1 | h1
   · rw [← h1, if_pos rfl]
   · have := hr.1 _ h1
     rw [if_neg (fun e => by rw [e, lt_irrefl] at this; cases this)]
     exact ih hr.2 h1
theorem atR_look {ks : List ByteArray} {vs : List Int} (hr : Rising ks) (x : ByteArray) : atR (ks.zip vs) x = (look ks vs x).getD (-1) := by
 cases h : look ks vs x with
 | none =>
   refine atR_none fun p hp e => ?_
   have : (x, p.2) ∈ ks.zip vs := by rw [← e]; exact hp
   rw [mem_zip_iff hr, h] at this
   cases this
 | some v => exact atR_mem (zip_rising hr) ((mem_zip_iff hr).2 h)
theorem backK_low {out : List (ByteArray × Int)} (hr : RisingN out) {n : ByteArray} (hn : ∀ p ∈ out, p.1 ≠ n) : ∀ k, k ≤ out.length → (∀ p ∈ out.drop k, lt n p.1 = true) → backK out n k ≤ k ∧ (∀ p ∈ out.take (backK out n k), lt p.1 n = true) ∧ ∀ p ∈ out.drop (backK out n k), lt n p.1 = true
  | 0, _, h => by simpa [backK] using h
  | k + 1, hk, h => by
    have hg : out[k]? = some out[k] := List.getElem?_eq_getElem (by omega)
    unfold backK
    rw [hg]
    dsimp only
    split
    · rename_i hb
      have h1 : lt n out[k].1 = true := by
        simp only [Bool.not_eq_true', Bool.or_eq_false_iff] at hb
        cases h2 : lt n out[k].1 with
        | true => rfl
        | false => exact absurd (lt_total hb.1 h2) (hn _ (List.getElem_mem _))
      obtain ⟨a1, a2, a3⟩ := backK_low hr hn k (by omega) (fun p hp => by
        rw [List.drop_eq_getElem_cons (by omega)] at hp
        rcases List.mem_cons.1 hp with h2 | h2
        · rw [h2]; exact h1
        · exact h p h2)
      exact ⟨by omega, a2, a3⟩
    · rename_i hb
      refine ⟨Nat.le_refl _, fun p hp => ?_, h⟩
      have h1 : lt out[k].1 n = true := by
        cases h2 : lt out[k].1 n with
        | true => rfl
        | false =>
          cases h3 : out[k].1.toList == n.toList with
          | true => exact absurd (toList_inj (by simpa using h3)) (hn _ (List.getElem_mem _))
          | false =>
            have h4 : Op.bytesLess out[k].1.toList n.toList = false := h2
            rw [h4, h3] at hb
            simp at hb
      rw [List.take_succ_eq_append_getElem (by omega)] at hp
      rcases List.mem_append.1 hp with h2 | h2
      · obtain ⟨i, hi, rfl⟩ := List.mem_iff_getElem.1 h2
        rw [List.length_take] at hi
        rw [List.getElem_take]
        exact lt_trans (List.pairwise_iff_getElem.1 hr i k (by omega) (by omega) (by omega)) h1
      · rw [List.mem_singleton.1 h2]; exact h1
theorem fltR_mem {c : ByteArray × ByteArray × Int} {l : List (ByteArray × Int)} {p : ByteArray × Int} : p ∈ fltR c l ↔ p ∈ l ∧ p.1 ≠ c.1 ∧ p.1 ≠ c.2.1 := by
 unfold fltR keepN
 rw [List.mem_filter]
 simp
theorem fltR_rising {c : ByteArray × ByteArray × Int} {l : List (ByteArray × Int)} (h : RisingN l) : RisingN (fltR c l) := List.Pairwise.sublist List.filter_sublist h
theorem applyR_rising {c : ByteArray × ByteArray × Int} {l : List (ByteArray × Int)} (h : RisingN l) : RisingN (applyR l c) := by
 unfold applyR
 split
 · exact fltR_rising h
 · have hn : ∀ p ∈ fltR c l, p.1 ≠ c.2.1 := fun p hp => (fltR_mem.1 hp).2.2
   obtain ⟨b1, b2, b3⟩ := backK_low (fltR_rising (c := c) h) hn _ (Nat.le_refl _) (by simp)
   have hr := fltR_rising (c := c) h
   generalize backK (fltR c l) c.2.1 (fltR c l).length = k at *
   unfold insR RisingN
   rw [List.pairwise_append, List.pairwise_cons]
   refine ⟨List.Pairwise.sublist (List.take_sublist _ _) hr, ⟨fun p hp => b3 p hp, List.Pairwise.sublist (List.drop_sublist _ _) hr⟩, fun p hp q hq => ?_⟩
   rcases List.mem_cons.1 hq with h1 | h1
   · rw [h1]; exact b2 p hp
   · exact lt_trans (b2 p hp) (b3 q h1)
theorem applyR_mem {c : ByteArray × ByteArray × Int} {l : List (ByteArray × Int)} {p : ByteArray × Int} : p ∈ applyR l c ↔ (p ∈ l ∧ p.1 ≠ c.1 ∧ p.1 ≠ c.2.1) ∨ (c.2.1.size ≠ 0 ∧ p = (c.2.1, c.2.2)) := by
  have e : c.2.1.toList = (ByteArray.mk #[]).toList ↔ c.2.1.size = 0 := by
    constructor
    · intro h; rw [toList_inj h]; rfl
    · intro h
      have : c.2.1 = ByteArray.mk #[] := by
        cases hc : c.2.1 with
        | mk d =>
          rw [hc] at h
          congr 1
          exact Array.eq_empty_of_size_eq_zero h
      rw [this]
  unfold applyR
  split
  · rename_i h
    rw [fltR_mem]
    simp [e.1 h]
  · rename_i h
    have h2 : c.2.1.size ≠ 0 := fun h3 => h (e.2 h3)
    unfold insR
    rw [List.mem_append, List.mem_cons, ← fltR_mem]
    constructor
    · rintro (h3 | h3 | h3)
      · exact .inl (List.mem_of_mem_take h3)
      · exact .inr ⟨h2, h3⟩
      · exact .inl (List.mem_of_mem_drop h3)
    · rintro (h3 | h3)
      · rw [← List.take_append_drop (backK (fltR c l) c.2.1 (fltR c l).length) (fltR c l)] at h3
        rcases List.mem_append.1 h3 with h4 | h4
        · exact .inl h4
        · exact .inr (.inr h4)
      · exact .inr (.inl h3.2)
theorem applyR_zip {ks : List ByteArray} {vs : List Int} (hr : Rising ks) (hv : vs.length = ks.length) (hn : ∀ k ∈ ks, k.size ≠ 0) (g n : ByteArray) (k : Int) :
    applyR (ks.zip vs) (g, n, k) = (kapply ks vs g n k).1.zip (kapply ks vs g n k).2 := by
  refine rising_ext (R := fun a b : ByteArray × Int => lt a.1 b.1 = true) (fun x h => by rw [lt_irrefl] at h; cases h) (fun x y z h h' => lt_trans h h') (applyR_rising (zip_rising hr)) (zip_rising (kapply_rising hr)) fun p => ?_
  obtain ⟨x, v⟩ := p
  rw [applyR_mem, mem_zip_iff hr, mem_zip_iff (kapply_rising hr), look_apply hr hv]
  dsimp only
  have hx : look ks vs x = some v → x.size ≠ 0 := fun h => by
    obtain ⟨i, h1, _⟩ := (look_iff hr).1 h
    exact hn x (List.mem_of_getElem? h1)
  constructor
  · rintro (⟨h1, h2, h3⟩ | ⟨h1, h2⟩)
    · rw [if_neg (by rintro ⟨_, h4⟩; exact h3 h4), if_neg (by rintro ⟨_, h4⟩; exact h2 h4)]
      exact h1
    · injection h2 with h3 h4
      subst h3; subst h4
      rw [if_pos ⟨h1, rfl⟩]
  · intro h
    split at h
    · rename_i h1
      injection h with h2
      exact .inr ⟨h1.1, by rw [h1.2, h2]⟩
    · rename_i h1
      split at h
      · cases h
      · rename_i h2
        have h3 := hx h
        refine .inl ⟨h, fun e => h2 ⟨by rw [← e]; exact h3, e⟩, fun e => h1 ⟨by rw [← e]; exact h3, e⟩⟩
def Rof (d : Dk) (t : Int) : Rk := { files := d.files, now := d.nk.zip d.nv, sure := d.sk.zip d.sv, ch := d.ch, quota := d.quota, full := d.full, off := d.off, stop := t, calls := d.calls }
structure Rb (t : Int) : Prop where
  lo : -1 ≤ t
  hi : t < 9223372036854775808
structure Rt (d : Dk) (t : Int) : Prop where
  eq : d.off = false → t = d.stop ∨ t = -1 ∧ 0 < d.stop
  b : Rb t
structure Dk.Nm (d : Dk) : Prop where
  nk : ∀ k ∈ d.nk, k.size ≠ 0
  sk : ∀ k ∈ d.sk, k.size ≠ 0
theorem Rof_ok {d : Dk} {t : Int} {N : Nat} (h : d.Ok N) (ht : Rb t) : (Rof d t).Ok N := by
 refine ⟨fun p hp => h.nn p.2 (List.of_mem_zip hp).2, h.fs, h.fl, ?_, h.chl, h.c0, h.cl, ht.lo, ht.hi, h.q0, h.q1, h.nb⟩
 have := h.nkl
 show (d.nk.zip d.nv).length ≤ N
 rw [List.length_zip]; omega
theorem Rof_len {d : Dk} {t : Int} {N : Nat} (h : d.Ok N) : (Rof d t).now.length = d.nk.length := by
 have := h.nl
 show (d.nk.zip d.nv).length = _
 rw [List.length_zip]; omega
theorem Rof_at {d : Dk} {t : Int} {N : Nat} (h : d.Ok N) (x : ByteArray) : atR (Rof d t).now x = (look d.nk d.nv x).getD (-1) := atR_look h.nr x
theorem map_zip_snd {α β γ : Type} (f : β → γ) : ∀ {a : List α} {b : List β}, b.length = a.length → (a.zip b).map (fun p => f p.2) = b.map f
 | [], [], _ => rfl
 | [], _ :: _, h => by simp at h
 | _ :: _, [], h => by simp at h
 | x :: a, y :: b, h => by simp only [List.zip_cons_cons, List.map_cons]; rw [map_zip_snd f (by simpa using h)]
theorem Rof_used {d : Dk} {t : Int} {N : Nat} (h : d.Ok N) : (Rof d t).used = d.used := by
 unfold Rk.used Dk.used
 exact congrArg List.sum (map_zip_snd (fun k : Int => (d.file k.toNat).1.length) h.nl)
def tb (d : Dk) (t : Int) : Int := if d.off then t else if t = -1 then -1 else if d.stop = 0 then 0 else d.begun.stop
theorem Rof_begun {d : Dk} {t : Int} {N : Nat} (h : d.Ok N) (ht : Rt d t) : (Rof d t).begun = Rof d.begun (tb d t) ∧ Rb (tb d t) := by
  have h0 := h.s0
  have h1 := h.s1
  obtain ⟨e, lo, hi⟩ := ht
  unfold tb Rk.begun Dk.begun
  by_cases ho : d.off = true
  · rw [if_pos ho, if_pos ho, if_pos (show (Rof d t).off = true from ho)]
    exact ⟨rfl, lo, hi⟩
  · have ho' : d.off = false := by simpa using ho
    rw [if_neg ho, if_neg ho, if_neg (show ¬ (Rof d t).off = true from ho)]
    by_cases hm : t = -1
    · rw [if_pos hm, if_neg (show ¬ (Rof d t).stop = 0 by show ¬ t = 0; omega), if_neg (show ¬ 0 < (Rof d t).stop by show ¬ 0 < t; omega)]
      have hs : d.stop ≠ 0 := by rcases e ho' with h2 | h2 <;> omega
      exact ⟨by simp [Rof, ho', hs, hm], ⟨by omega, by omega⟩⟩
    · have et : t = d.stop := by rcases e ho' with h2 | h2 <;> omega
      subst et
      rw [if_neg hm]
      by_cases hz : d.stop = 0
      · rw [if_pos hz, if_pos (show (Rof d d.stop).stop = 0 from hz)]
        exact ⟨by simp [Rof, hz], ⟨by omega, by omega⟩⟩
      · rw [if_neg hz, if_neg (show ¬ (Rof d d.stop).stop = 0 from hz), if_pos (show 0 < (Rof d d.stop).stop by show 0 < d.stop; omega)]
        have e2 : (if -1 > d.stop - 1 then (-1 : Int) else d.stop - 1) = d.stop - 1 := if_neg (by omega)
        dsimp only
        rw [e2]
        exact ⟨by simp [Rof, hz, ho'], ⟨by omega, by omega⟩⟩
theorem tb_eq {d : Dk} {t : Int} {N : Nat} (h : d.Ok N) (e : d.off = false → t = d.stop) : d.begun.off = false → tb d t = d.begun.stop := by
 have h0 := h.s0
 unfold tb Dk.begun
 by_cases ho : d.off = true
 · rw [if_pos ho]; intro h2; rw [ho] at h2; cases h2
 · have ho' : d.off = false := by simpa using ho
   have et := e ho'
   subst et
   rw [if_neg ho, if_neg ho]
   dsimp only
   intro h2
   have hz : d.stop ≠ 0 := by simpa using h2
   by_cases hm : d.stop = -1
   · rw [if_pos hm, hm]; rfl
   · rw [if_neg hm, if_neg hz]
theorem begun_nm {d : Dk} (h : d.Nm) : d.begun.Nm := by
 unfold Dk.begun; split
 · exact h
 · exact ⟨h.nk, h.sk⟩
theorem kapply_keys {ks : List ByteArray} {vs : List Int} (hr : Rising ks) (hv : vs.length = ks.length) {g n : ByteArray} {k : Int} {z : ByteArray} (hz : z ∈ (kapply ks vs g n k).1) : z ∈ ks ∨ (n.size ≠ 0 ∧ z = n) := by
 obtain ⟨i, hi, rfl⟩ := List.mem_iff_getElem.1 hz
 have hl := kapply_len (g := g) (n := n) (k := k) hv
 have h1 : look (kapply ks vs g n k).1 (kapply ks vs g n k).2 (kapply ks vs g n k).1[i] = some ((kapply ks vs g n k).2[i]'(by omega)) :=
   (look_iff (kapply_rising hr)).2 ⟨i, List.getElem?_eq_getElem hi, List.getElem?_eq_getElem (by omega)⟩
 rw [look_apply hr hv] at h1
 split at h1
 · rename_i h2; exact .inr h2
 · split at h1
   · cases h1
   · obtain ⟨j, h3, _⟩ := (look_iff hr).1 h1
     exact .inl (List.mem_of_getElem? h3)
theorem turn_nm {d : Dk} {N : Nat} (hk : d.Ok N) (h : d.Nm) (g n : ByteArray) (k : Int) : (d.turn g n k).Nm := by
 refine ⟨fun z hz => ?_, h.sk⟩
 rcases kapply_keys hk.nr hk.nl hz with h1 | ⟨h1, rfl⟩
 · exact h.nk z h1
 · exact h1
theorem Rof_turn {d : Dk} {t : Int} {N : Nat} (hk : d.Ok N) (h : d.Nm) (g n : ByteArray) (k : Int) : ({ Rof d t with now := applyR (Rof d t).now (g, n, k), ch := (Rof d t).ch ++ [(g, n, k)] } : Rk) = Rof (d.turn g n k) t := by
 have := applyR_zip hk.nr hk.nl h.nk g n k
 unfold Rof Dk.turn at *
 dsimp only
 rw [this]
theorem kind3 (b : Rk) (N : Nat) (h : b.Ok N) (x y : ByteArray) (v4 : V) :
  AW Try.prog 77 none 3 (G77 47 [false, false, false]) (mk 214 [(0, .ptr 0 0 0), (1, .d (.int .i64 3)), (2, .d (.str x)), (3, .d (.str y)), (4, v4), (10, .d (.int .i64 0))]) (SR b false) [] fun r σ' => r = .ret (.d (.int .i64 0)) ∧ σ' = SR { b with sure := b.now, ch := [] } true := by
 have hnl := h.nl
 have hnb := h.nb
 refine .sge 29 [0, 1, 2, 3, 4, 10, 60, 61, 62, 63, 64] (G77 76 [false, false, false, false]) ?_
 refine .cd (G77 77 [false, false, false, false]) F102 (@spec_102 (b.now) (x) (by omega)) ?_
 refine .seg 76 [0, 10, 12] (T' := cgo 153 [false, false, false, false, false, false, false, false, true] [.code B77]) (tm' := mk 214 [(0, .ptr 0 0 0), (10, .d (.int .i64 0)), (12, .ptr 3 0 0)]) (σ' := [.cells [.row 1, .d (.list 2 (map nmD b.now)), .d (.list 2 (map nmD b.now)), .ex 3 [], .d (.int .i64 b.quota), .d (.bool b.full), .d (.bool b.off), .d (.int .i64 b.stop), .d (.int .i64 b.calls)], .row 2 (map fileD b.files) false, .row 3 (map chD b.ch) false, .cells [.d (.str (ByteArray.mk #[])), .d (.str (ByteArray.mk #[])), .d (.int .i64 0)]]) (by kernel_rfl) ?_
 refine .virtX 0 3 3 rfl rfl ?_
 refine .raises [1, 4] ?_
 refine .kp [10] ?_
 refine .subM [0, 1, 4] (mk 214 [(10, .d (.int .i64 0))]) (SR { b with sure := b.now, ch := [] } true) none [] ⟨rfl, by kernel_rfl, by kernel_rfl⟩ (by kernel_rfl) ⟨Nat.le_of_ble_eq_true (by kernel_rfl), by kernel_rfl⟩ (by kernel_rfl) ⟨by kernel_rfl, by kernel_rfl⟩ ⟨rfl, rfl⟩ ?_
 refine .rt F77 (V.d (D.int IntKind.i64 0)) ?_
 exact ⟨rfl, by kernel_rfl⟩
theorem kind2 (b : Rk) (N : Nat) (h : b.Ok N) (x y : ByteArray) (hx : x.size < 1000000000) (v4 : V) (hm : mayName x = true) (h0 : 0 ≤ atR b.now x) (f : List UInt8 × Nat) (hf : b.files[(atR b.now x).toNat]? = some f) :
    AW Try.prog 77 none 3 (G77 47 [false, false, false]) (mk 214 [(0, .ptr 0 0 0), (1, .d (.int .i64 2)), (2, .d (.str x)), (3, .d (.str y)), (4, v4), (10, .d (.int .i64 0))]) (SR b false) [] fun r σ' => r = .ret (.d (.int .i64 0)) ∧ σ' = SR { b with files := b.files.set (atR b.now x).toNat (f.1, f.1.length) } true := by
  have hnl := h.nl
  have hnb := h.nb
  have hfl := h.fl
  have hfs := (h.fs f (List.mem_of_getElem? hf)).2
  refine .sg0 7 [0, 1, 2, 3, 4, 10, 44, 45, 46, 47] (G77 54 [false, false, false]) [(44, .d (.int .i64 2)), (45, .d (.bool true)), (46, .d (.bool true)), (47, .d (.str x))] ?_
  refine .cd (G77 55 [false, false, false]) F29 (@spec_29 (x) (by omega)) ?_
  refine .sg0 3 [0, 1, 2, 3, 4, 10, 44, 45, 46, 47, 48, 49, 50, 51] (G77 58 [false, false, false]) [(49, .d (.bool !mayName x)), (50, .d (.bool !mayName x)), (51, .d (.bool !mayName x))] ?_
  rcases Bool.eq_false_or_eq_true (!mayName x) with h1 | h1
  · rw [h1]
    simp only [bsX] at h1
    simp_all
  · rw [h1]
    simp only [bsX] at h1
    refine .sg0 18 [0, 1, 2, 3, 4, 10, 60, 61, 62, 63, 64] (G77 76 [false, false, false, false]) [(60, .ptr 0 0 0), (61, .ptr 0 0 0), (62, .ptr 0 0 1), (63, .d (.list 2 (map nmD b.now))), (64, .d (.str x))] ?_
    refine .cd (G77 77 [false, false, false, false]) F102 (@spec_102 (b.now) (x) (by omega)) ?_
    refine .sg0 16 [0, 1, 2, 3, 4, 10, 11, 75] (G77 93 [false, false, false, false]) [(11, .d (.int .i64 (atR b.now x))), (75, .d (.bool (decide (atR b.now x < 0))))] ?_
    refine .if' (decide (atR b.now x < 0)) (G77 94 [false, false, false, false, true]) (G77 94 [false, false, false, false, false]) (fun h2 => ?_) (fun h2 => ?_)
    · simp only [bsX] at h2
      omega
    · simp only [bsX] at h2
      refine .sg 32 [0, 10, 11, 12] (G77 126 [false, false, false, false, false, false, false, true]) [(12, .ptr 3 0 0)] [(3, .cells [.d (.str (ByteArray.mk #[])), .d (.str (ByteArray.mk #[])), .d (.int .i64 0)])] ?_
      refine .dr (G77 127 [false, false, false, false, false, false, false, true]) [(160, .ptr 0 0 0), (161, .ptr 0 0 0), (162, .ptr 0 0 0), (163, .row 1), (164, .d (.int .i64 (atR b.now x))), (165, .ptr 0 0 0), (166, .ptr 0 0 0), (167, .ptr 0 0 0), (168, .row 1), (169, .d (.int .i64 (atR b.now x))), (170, .ptr 1 (atR b.now x).toNat 0), (171, .ptr 1 (atR b.now x).toNat 0), (172, .d (.list 1 (map u8 f.fst))), (173, .d (.int .i64 (↑(map u8 f.fst).length : Int))), (174, .ptr 1 (atR b.now x).toNat 0), (175, .ptr 1 (atR b.now x).toNat 1)] [(1, .row 2 ((map fileD b.files).set (atR b.now x).toNat (D.agg [D.list 1 (map u8 f.fst), D.int IntKind.i64 (↑(map u8 f.fst).length : Int)])) false)] (fun kz L hL => ?_) ?_
      · refine ⟨[fO 0, fA 0, fA 0, fX [0] [] [] [1] [0, 1, 2], nF, fO 0, fA 0, fA 0, fX [0] [] [] [1] [0, 1, 2], nF, fX [1] [] [] [1] [1], fA 1, fR 1, nF, fX [1] [] [] [1] [1], fA 1, fX [1] [1] [] [] [1]], run_amongF hL _ [] [0, 1, 2, 3, 4, 5, 6, 7, 8, 9, 10, 11, 12, 13, 14, 15, 16] (by intro p hp; cases hp) (by kernel_rfl) ?_⟩
        refine Run.ap [0, 1, 2, 3, 4, 5, 6, 7, 8, 9] [(160, .ptr 0 0 0), (161, .ptr 0 0 0), (162, .ptr 0 0 0), (163, .row 1), (164, .d (.int .i64 (atR b.now x))), (165, .ptr 0 0 0), (166, .ptr 0 0 0), (167, .ptr 0 0 0), (168, .row 1), (169, .d (.int .i64 (atR b.now x)))] [] ?_
        refine Run.lk 10 (.ptr 1 (atR b.now x).toNat 0) [(.tmp 168), (.tmp 169)] (fun tm' σ2 hv hr => ixRow_ok (t := 68) (x := (.tmp 168)) (i := (.tmp 169)) (k := IntKind.i64) (n := atR b.now x) (l := 1) (sz := 2) (xs := map fileD b.files) (mv := false) (by kernel_rfl) (evv hv) (evv hv) (atr hr) (by kernel_rfl) (by assumption) (by grind)) ?_
        refine Run.ap [11] [(171, .ptr 1 (atR b.now x).toNat 0)] [] ?_
        refine Run.lk 12 (.d (.list 1 (map u8 f.fst))) [(.tmp 171)] (fun tm' σ2 hv hr => ldRow_ok (t := 22) (x := (.tmp 171)) (l := 1) (i := (atR b.now x).toNat) (s := 0) (sz := 2) (xs := map fileD b.files) (mv := false) (d := fileD f) (v := .d (.list 1 (map u8 f.fst))) (by kernel_rfl) (evv hv) (atr hr) (map_get hf) (by kernel_rfl)) ?_
        refine Run.ap [13] [(173, .d (.int .i64 (↑(map u8 f.fst).length : Int)))] [] ?_
        refine Run.lk 14 (.ptr 1 (atR b.now x).toNat 0) [(.tmp 163), (.tmp 164)] (fun tm' σ2 hv hr => ixRow_ok (t := 68) (x := (.tmp 163)) (i := (.tmp 164)) (k := IntKind.i64) (n := atR b.now x) (l := 1) (sz := 2) (xs := map fileD b.files) (mv := false) (by kernel_rfl) (evv hv) (evv hv) (atr hr) (by kernel_rfl) (by assumption) (by grind)) ?_
        refine Run.ap [15] [(175, .ptr 1 (atR b.now x).toNat 1)] [] ?_
        refine Run.one (StepF.sets (o := ((drawOf (G77 126 [false, false, false, false, false, false, false, true]))[16]?).getD default) (v := .undef) [(.tmp 175), (.tmp 173)] 1 (.row 2 ((map fileD b.files).set (atR b.now x).toNat (D.agg [D.list 1 (map u8 f.fst), D.int IntKind.i64 (↑(map u8 f.fst).length : Int)])) false) (by kernel_rfl) rfl (by kernel_rfl) (by kernel_rfl) (by kernel_rfl) (by kernel_rfl) (by kernel_rfl) (fun tm' σ2 hv hr => stRow_ok (t := 3) (x := (.tmp 175)) (y := (.tmp 173)) (l := 1) (i := (atR b.now x).toNat) (s := 1) (sz := 2) (xs := map fileD b.files) (mv := false) (d := fileD f) (d' := D.agg [D.list 1 (map u8 f.fst), D.int IntKind.i64 (↑(map u8 f.fst).length : Int)]) (by kernel_rfl) (evv hv) (atr hr) (map_get hf) (by unfold storeE; rw [hv _ (by simp)]; kernel_rfl))) ?_
        exact Run.fin
      refine .sg0 4 [0, 10, 12] (G77 131 [false, false, false, false, false, false, false, true]) [] ?_
      simp only [List.length_map]
      refine .raises [1, 2] ?_
      refine .kp [10] ?_
      refine .su [0, 1, 2] (mk 214 [(10, .d (.int .i64 0))]) [.cells (rC 1 2 b), .row 2 ((map fileD b.files).set (atR b.now x).toNat (D.agg [D.list 1 (map u8 f.fst), D.int IntKind.i64 (↑f.fst.length : Int)])) true, .row 3 (map chD b.ch) true] ?_
      refine .rt F77 (V.d (D.int IntKind.i64 0)) ?_
      exact ⟨rfl, by simp [rC, SR, fileD, bsD, i64, List.map_set]⟩
theorem tail77 (b : Rk) (N : Nat) (h : b.Ok N) (c : ByteArray × ByteArray × Int) :
   AW Try.prog 77 none 3 (G77 147 [false, false, false, false, false, false, false, false, false, true]) (mk 214 [(0, .ptr 0 0 0), (10, .d (.int .i64 0)), (12, .ptr 3 0 0)]) ([.cells [.row 1, .d (.list 2 (b.now.map nmD)), .d (.list 2 (b.sure.map nmD)), .row 2, .d (.int .i64 b.quota), .d (.bool b.full), .d (.bool b.off), .d (.int .i64 b.stop), .d (.int .i64 b.calls)],
    .row 2 (b.files.map fileD) true, .row 3 (b.ch.map chD) true, .cells [.d (.str c.1), .d (.str c.2.1), .d (.int .i64 c.2.2)]]) [] fun r σ' => r = .ret (.d (.int .i64 0)) ∧ σ' = SR { b with now := applyR b.now c, ch := b.ch ++ [c] } true := by
 have hnl := h.nl
 have hnb := h.nb
 have hcl := h.chl
 refine .dr (G77 148 [false, false, false, false, false, false, false, false, false, true]) [(195, .ptr 0 0 0), (196, .ptr 0 0 0), (197, .ptr 0 0 0), (198, .ptr 0 0 1), (199, .d (.list 2 (map nmD b.now))), (200, .d (.agg [D.str c.fst, D.str c.snd.fst, D.int IntKind.i64 c.snd.snd])), (201, .d (.list 2 (map nmD (applyR b.now c)))), (202, .ptr 0 0 0), (203, .ptr 0 0 1)] [(0, .cells [.row 1, .d (.list 2 (map nmD (applyR b.now c))), .d (.list 2 (map nmD b.sure)), .row 2, .d (.int .i64 b.quota), .d (.bool b.full), .d (.bool b.off), .d (.int .i64 b.stop), .d (.int .i64 b.calls)])] (fun kz L hL => ?_) ?_
 · refine ⟨[fO 0, fO 0, fA 0, fA 0, fX [0] [] [] [] [0, 1, 2], fR 3, nF, fA 0, fA 0, fX [0] [0] [] [1, 2] [0, 1, 2]], run_amongF hL _ [] [0, 1, 2, 3, 4, 5, 6, 7, 8, 9] (by intro p hp; cases hp) (by kernel_rfl) ?_⟩
   refine Run.ap [0, 1, 2, 3, 4, 5] [(195, .ptr 0 0 0), (196, .ptr 0 0 0), (197, .ptr 0 0 0), (198, .ptr 0 0 1), (199, .d (.list 2 (map nmD b.now))), (200, .d (.agg [D.str c.fst, D.str c.snd.fst, D.int IntKind.i64 c.snd.snd]))] [] ?_
   refine Run.one (StepF.data (o := ((drawOf (G77 147 [false, false, false, false, false, false, false, false, false, true]))[6]?).getD default) (v := .d (.list 2 (map nmD (applyR b.now c)))) (by kernel_rfl) rfl (by kernel_rfl) (by kernel_rfl) (by kernel_rfl) (fun s => sem_data0 (x := (.func 103)) (args := #[(.tmp 199), (.tmp 200)]) (ts := #[69, 157]) (first := []) (cap := []) (ds := [.d (.list 2 (map nmD b.now)), .d (.agg [D.str c.fst, D.str c.snd.fst, D.int IntKind.i64 c.snd.snd])]) (v := .d (.list 2 (map nmD (applyR b.now c)))) F103 (@spec_103 (b.now) (c) (by omega)) (by kernel_rfl) (by kernel_rfl) (by kernel_rfl) (by kernel_rfl) (by kernel_rfl) (by kernel_rfl) _)) ?_
   exact Run.fin
 refine .sg0 1 [0, 10, 12] (G77 149 [false, false, false, false, false, false, false, false, false, true]) [] ?_
 refine .newVirt 3 ?_
 refine .dr (G77 150 [false, false, false, false, false, false, false, false, false, true]) [(204, .ptr 0 0 0), (205, .ptr 0 0 0), (206, .ptr 0 0 0), (207, .ptr 0 0 3), (209, .d (.agg [D.str c.fst, D.str c.snd.fst, D.int IntKind.i64 c.snd.snd])), (210, .row 4), (211, .row 2), (212, .ptr 0 0 0), (213, .ptr 0 0 3)] [(2, .row 3 (map chD b.ch ++ [D.agg [D.str c.fst, D.str c.snd.fst, D.int IntKind.i64 c.snd.snd]]) true), (4, .row 3 [D.agg [D.str c.fst, D.str c.snd.fst, D.int IntKind.i64 c.snd.snd]] true)] (fun kz L hL => ?_) ?_
 · refine ⟨[fO 0, fO 0, fA 0, fA 0, fX [0] [] [] [2] [0, 1, 2], fR 3, fX [4] [4] [4] [4] [], fX [2, 4] [2] [2] [2] [2, 4], fA 0, fA 0, ⟨[0], [0], [], [1, 2], [0, 2, 1], [], false, false⟩], run_amongF hL _ [] [0, 1, 2, 3, 4, 5, 6, 7, 8, 9, 10] (by intro p hp; cases hp) (by kernel_rfl) ?_⟩
   refine Run.ap [0, 1, 2, 3, 4, 5] [(204, .ptr 0 0 0), (205, .ptr 0 0 0), (206, .ptr 0 0 0), (207, .ptr 0 0 3), (208, .row 2), (209, .d (.agg [D.str c.fst, D.str c.snd.fst, D.int IntKind.i64 c.snd.snd]))] [] ?_
   refine Run.one (StepF.build (o := ((drawOf (G77 149 [false, false, false, false, false, false, false, false, false, true]))[6]?).getD default) (t := 70) (len := 1) (parts := #[(0, (.tmp 209))]) (l := 4) (ds := [D.agg [D.str c.fst, D.str c.snd.fst, D.int IntKind.i64 c.snd.snd]]) (sz := 3) (mv := false) (by kernel_rfl) rfl (by kernel_rfl) (by kernel_rfl) (by kernel_rfl) (by kernel_rfl) (by kernel_rfl) (by kernel_rfl) (by kernel_rfl) (by kernel_rfl)) ?_
   refine Run.one (StepF.moves (o := ((drawOf (G77 149 [false, false, false, false, false, false, false, false, false, true]))[7]?).getD default) (v := .row 2) [(.tmp 208), (.tmp 210)] 2 (.row 3 (map chD b.ch ++ [D.agg [D.str c.fst, D.str c.snd.fst, D.int IntKind.i64 c.snd.snd]]) true) (by kernel_rfl) rfl (by kernel_rfl) (by kernel_rfl) (by kernel_rfl) (by kernel_rfl) (by kernel_rfl) (by kernel_rfl) (fun tm' σ2 hv hr => appRow_ok (s := (.tmp 208)) (x := (.tmp 210)) (t := 70) (t2 := 70) (sz := 3) (by' := 40) (ys := [D.agg [D.str c.fst, D.str c.snd.fst, D.int IntKind.i64 c.snd.snd]]) (l := 2) (xs := map chD b.ch) (mv := true) (by kernel_rfl) (evv hv) (atr hr) (by rw [hv _ (by simp)]; exact (cont_at fun l hl => hr l (subB_in (by kernel_rfl) hl)).trans (by kernel_rfl)) (by kernel_rfl) (by kernel_rfl) (by simp <;> omega) (by first | (simp [maxLen] <;> omega) | omega))) ?_
   exact Run.fin
 refine .sg0 4 [10] (G77 154 [false, false, false, false, false, false, false, false, false, true]) [] ?_
 refine .kp [10] ?_
 refine .su [0, 1, 2] (mk 214 [(10, .d (.int .i64 0))]) [.cells [.row 1, .d (.list 2 (map nmD (applyR b.now c))), .d (.list 2 (map nmD b.sure)), .row 2, .d (.int .i64 b.quota), .d (.bool b.full), .d (.bool b.off), .d (.int .i64 b.stop), .d (.int .i64 b.calls)], .row 2 (map fileD b.files) true, .row 3 (map chD b.ch ++ [D.agg [D.str c.fst, D.str c.snd.fst, D.int IntKind.i64 c.snd.snd]]) true] ?_
 refine .rt F77 (V.d (D.int IntKind.i64 0)) ?_
 exact ⟨rfl, by simp [rC, SR, chD]⟩
theorem kind5 (b : Rk) (N : Nat) (h : b.Ok N) (x y : ByteArray) (hx : x.size < 1000000000) (v4 : V) (hm : mayName x = true) (h0 : 0 ≤ atR b.now x) :
   AW Try.prog 77 none 3 (G77 47 [false, false, false]) (mk 214 [(0, .ptr 0 0 0), (1, .d (.int .i64 5)), (2, .d (.str x)), (3, .d (.str y)), (4, v4), (10, .d (.int .i64 0))]) (SR b false) [] fun r σ' => r = .ret (.d (.int .i64 0)) ∧ σ' = SR { b with now := applyR b.now (x, noName, 0), ch := b.ch ++ [(x, noName, 0)] } true := by
 have hnl := h.nl
 have hnb := h.nb
 have hfl := h.fl
 have hfs := h.fs
 refine .raises [1, 2] ?_
 have hend := tail77 b N h (x, noName, 0)
 clear h hfs
 refine .sge 7 [0, 1, 2, 3, 4, 10, 44, 45, 46, 47] (G77 54 [false, false, false]) ?_
 refine .cd (G77 55 [false, false, false]) F29 (@spec_29 (x) (by omega)) ?_
 refine .sg0 3 [0, 1, 2, 3, 4, 10, 44, 45, 46, 47, 48, 49, 50, 51] (G77 58 [false, false, false]) [(49, .d (.bool !mayName x)), (50, .d (.bool !mayName x)), (51, .d (.bool !mayName x))] ?_
 rcases Bool.eq_false_or_eq_true (!mayName x) with h1 | h1
 · rw [h1]
   simp only [bsX] at h1
   simp_all
 · rw [h1]
   simp only [bsX] at h1
   refine .sge 18 [0, 1, 2, 3, 4, 10, 60, 61, 62, 63, 64] (G77 76 [false, false, false, false]) ?_
   refine .cd (G77 77 [false, false, false, false]) F102 (@spec_102 (b.now) (x) (by omega)) ?_
   refine .sge 16 [0, 1, 2, 3, 4, 10, 11, 75] (G77 93 [false, false, false, false]) ?_
   refine .if' (decide (atR b.now x < 0)) (G77 94 [false, false, false, false, true]) (G77 94 [false, false, false, false, false]) (fun h2 => ?_) (fun h2 => ?_)
   · simp only [bsX] at h2
     omega
   · simp only [bsX] at h2
     refine .sg 50 [0, 10, 12] (G77 144 [false, false, false, false, false, false, false, false, false, false]) [(12, .ptr 3 0 0)] [(3, .cells [.d (.str x), .d (.str (ByteArray.mk #[])), .d (.int .i64 0)])] ?_
     exact .goes [0, 10, 12] (by kernel_rfl) (by kernel_rfl) (by kernel_rfl) hend
theorem kind4 (b : Rk) (N : Nat) (h : b.Ok N) (x y : ByteArray) (hx : x.size < 1000000000) (hy : y.size < 1000000000) (v4 : V) (hm : mayName x = true) (hm2 : mayName y = true) (h0 : 0 ≤ atR b.now x) :
    AW Try.prog 77 none 3 (G77 47 [false, false, false]) (mk 214 [(0, .ptr 0 0 0), (1, .d (.int .i64 4)), (2, .d (.str x)), (3, .d (.str y)), (4, v4), (10, .d (.int .i64 0))]) (SR b false) [] fun r σ' => r = .ret (.d (.int .i64 0)) ∧ σ' = SR { b with now := applyR b.now (x, y, atR b.now x), ch := b.ch ++ [(x, y, atR b.now x)] } true := by
  have hnl := h.nl
  have hnb := h.nb
  have hfl := h.fl
  have hfs := h.fs
  refine .raises [1, 2] ?_
  have hend := tail77 b N h (x, y, atR b.now x)
  clear h hfs
  refine .sge 7 [0, 1, 2, 3, 4, 10, 44, 45, 46, 47] (G77 54 [false, false, false]) ?_
  refine .cd (G77 55 [false, false, false]) F29 (@spec_29 (x) (by omega)) ?_
  refine .sg0 3 [0, 1, 2, 3, 4, 10, 44, 45, 46, 47, 48, 49, 50, 51] (G77 58 [false, false, false]) [(49, .d (.bool !mayName x)), (50, .d (.bool !mayName x)), (51, .d (.bool !mayName x))] ?_
  rcases Bool.eq_false_or_eq_true (!mayName x) with h1 | h1
  · rw [h1]
    simp only [bsX] at h1
    simp_all
  · rw [h1]
    simp only [bsX] at h1
    refine .sge 4 [0, 1, 2, 3, 4, 10, 44, 45, 46, 47, 48, 49, 50, 51, 52, 53, 54, 55] (G77 62 [false, false, false]) ?_
    refine .cd (G77 63 [false, false, false]) F29 (@spec_29 (y) (by omega)) ?_
    refine .sg0 4 [0, 1, 2, 3, 4, 10, 59] (G77 67 [false, false, false]) [(59, .d (.bool !mayName y))] ?_
    refine .if' (!mayName y) (G77 68 [false, false, false, true]) (G77 68 [false, false, false, false]) (fun h2 => ?_) (fun h2 => ?_)
    · simp only [bsX] at h2
      simp_all
    · simp only [bsX] at h2
      refine .sge 8 [0, 1, 2, 3, 4, 10, 60, 61, 62, 63, 64] (G77 76 [false, false, false, false]) ?_
      refine .cd (G77 77 [false, false, false, false]) F102 (@spec_102 (b.now) (x) (by omega)) ?_
      refine .sge 16 [0, 1, 2, 3, 4, 10, 11, 75] (G77 93 [false, false, false, false]) ?_
      refine .if' (decide (atR b.now x < 0)) (G77 94 [false, false, false, false, true]) (G77 94 [false, false, false, false, false]) (fun h3 => ?_) (fun h3 => ?_)
      · simp only [bsX] at h3
        omega
      · simp only [bsX] at h3
        refine .sg 53 [0, 10, 12] (G77 147 [false, false, false, false, false, false, false, false, false, true]) [(12, .ptr 3 0 0)] [(3, .cells [.d (.str x), .d (.str y), .d (.int .i64 (atR b.now x))])] ?_
        exact .goes [0, 10, 12] (by kernel_rfl) (by kernel_rfl) (by kernel_rfl) hend
end Go.Proofs.Ytoelkgbeefoplaa
