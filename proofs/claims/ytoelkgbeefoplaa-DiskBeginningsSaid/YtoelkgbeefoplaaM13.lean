/- Part 13 of this proof. -/
import Derived.Test.YtoelkgbeefoplaaM12
set_option linter.unusedSimpArgs false
set_option linter.unusedVariables false
set_option linter.constructorNameAsVariable false
namespace Go.Proofs.Ytoelkgbeefoplaa
open Go Go.Br Go.Proofs
open List (map)
noncomputable def B35 : Code := (Try.f35.body).getD .skip
noncomputable def G35 (n l) := cgo n l [.code B35]
theorem F35 : Fnc Try.prog 35 Try.f35 B35 := ⟨Try.func35, by kernel_rfl, by kernel_rfl⟩
theorem kfold_snoc : ∀ (cs : List (ByteArray × ByteArray × Int)) (c : ByteArray × ByteArray × Int) (p : List ByteArray × List Int), kfold (cs ++ [c]) p = kapply (kfold cs p).1 (kfold cs p).2 c.1 c.2.1 c.2.2
 | [], c, p => rfl
 | c' :: cs, c, p => by simp only [List.cons_append, kfold]; exact kfold_snoc cs c _
def SA (d : Dk) (dir : Int) (keep : List Int) (p : List ByteArray × List Int) : Store :=
  [.cells [.row 1, .ptr 2 0 0, .ep 2 (dirD d.sk d.sv) 0, .row 5, .d (.int .i64 d.quota), .d (.bool d.full), .d (.bool d.off), .d (.int .i64 d.stop), .d (.int .i64 d.calls)], .row 2 (d.files.map fileD) false, .cells [.row 3, .row 4], .row 1 (d.nk.map strD) false, .row 1 (d.nv.map intD) false, .row 3 (d.ch.map chD) false,
    .cells [.ptr 0 0 0], .cells [.d (.int .i64 dir), .d (.list 1 (keep.map intD))], .cells [.row 9, .row 10], .row 1 (p.1.map strD) true, .row 1 (p.2.map intD) true]
theorem loA (d : Dk) (N : Nat) (h : d.Ok N) (dir : Int) (keep : List Int) (K : Nat) (hK : K ≤ d.ch.length) (Q : AE → Store → Prop)
   (hnext : AW Try.prog 35 none 6 (G35 34 [false, false]) (mk 133 [(2, .ptr 6 0 0), (3, .ptr 7 0 0), (4, .ptr 8 0 0)]) (SA d dir keep (kfold (d.ch.take K) (d.sk, d.sv))) [] Q) : ∀ (m i : Nat), i + m = K →
   AW Try.prog 35 none 6 (G35 27 [false]) (mk 133 [(2, .ptr 6 0 0), (3, .ptr 7 0 0), (4, .ptr 8 0 0), (37, .sl 5 0 K none), (38, .d (.int .i64 (K : Nat))), (39, .d (.int .i64 (i : Nat)))]) (SA d dir keep (kfold (d.ch.take i) (d.sk, d.sv))) [] Q := by
 have q0 := h.chl
 have q4 := h.nb
 have q5 := h.skc
 intro m
 induction m with
 | zero =>
   intro i hi
   have hi : i = K := by omega
   subst hi
   refine .sge 5 [2, 3, 4, 37, 38, 39, 40] (G35 32 [false]) ?_
   refine .if' (decide ((↑i : Int) < (↑i : Int))) (G35 33 [false, true]) (G35 33 [false, false]) (fun h1 => ?_) (fun h1 => ?_)
   · simp only [bsX] at h1
     omega
   · simp only [bsX] at h1
     refine .sg0 1 [2, 3, 4] (G35 34 [false, false]) [] ?_
     exact .goes [2, 3, 4] (by kernel_rfl) (by kernel_rfl) (by kernel_rfl) hnext
 | succ m ih =>
   intro i hi
   obtain ⟨c, hc⟩ := get_some (l := d.ch) (i := i) (by omega)
   obtain ⟨g1, g2, g3, g4⟩ := kfold_ok (n := d.files.length) (d.ch.take i) (d.sk, d.sv) h.sr h.sl h.sn (fun c hc => h.cn c (List.mem_of_mem_take hc))
   simp only [List.length_take] at g4
   have hc2 : kfold (d.ch.take (i + 1)) (d.sk, d.sv) = kapply (kfold (d.ch.take i) (d.sk, d.sv)).1 (kfold (d.ch.take i) (d.sk, d.sv)).2 c.1 c.2.1 c.2.2 := by
     obtain ⟨hlt, rfl⟩ := List.getElem?_eq_some_iff.1 hc
     rw [List.take_succ_eq_append_getElem hlt, kfold_snoc]
   have g5 : (kfold (d.ch.take i) (d.sk, d.sv)).1.length < 999990 := by omega
   have ihn := ih (i + 1) (by omega)
   rw [hc2] at ihn
   generalize kfold (d.ch.take i) (d.sk, d.sv) = p at *
   refine .sge 5 [2, 3, 4, 37, 38, 39, 40] (G35 32 [false]) ?_
   refine .if' (decide ((↑i : Int) < (↑K : Int))) (G35 33 [false, true]) (G35 33 [false, false]) (fun h1 => ?_) (fun h1 => ?_)
   · simp only [bsX] at h1
     refine .sg0 5 [2, 3, 4, 37, 38, 39, 40] (G35 38 [false, true]) [] ?_
     refine .op' (G35 39 [false, true]) (ixSl0_ok (t := 106) (x := (.tmp 37)) (i := (.tmp 39)) (k := IntKind.i64) (n := (↑i : Int)) (l := 5) (len := K) (c := none) (sz := 3) (xs := map chD d.ch) (mv := false) (by kernel_rfl) (by kernel_rfl) (by kernel_rfl) (by kernel_rfl) (by kernel_rfl) (by omega) (by omega)) ?_
     refine .ld (G35 40 [false, true]) (xs := map chD d.ch) (map_get hc) ?_
     refine .sge 6 [2, 3, 4, 6, 37, 38, 39, 40, 41, 42, 43, 44] (G35 46 [false, true]) ?_
     refine .ca [8, 9, 10] (G35 47 [false, true]) F71 (@spec_71 (p.fst) (p.snd) (c.fst) (c.snd.fst) (c.snd.snd) (by assumption) (by assumption) (by assumption)) ?_
     rintro r1 s1 ⟨rfl, rfl⟩
     refine ⟨_, rfl, ?_⟩
     refine .sg0 6 [2, 3, 4, 6, 37, 38, 39, 40, 41, 42, 43, 44, 46] (G35 53 [false, true]) [(39, .d (.int .i64 (IntKind.i64.wrap ((↑i : Int) + 1)))), (46, .d (.int .i64 (IntKind.i64.wrap ((↑i : Int) + 1))))] ?_
     simp (disch := omega) only [bsW]
     refine .kp [2, 3, 4, 37, 38, 39] ?_
     refine .su [0, 1, 2, 3, 4, 5, 6, 7, 8, 9, 10] (mk 133 [(2, .ptr 6 0 0), (3, .ptr 7 0 0), (4, .ptr 8 0 0), (37, .sl 5 0 K none), (38, .d (.int .i64 (K : Nat))), (39, .d (.int .i64 ((i + 1 : Nat) : Int)))]) (SA d dir keep (kapply p.1 p.2 c.1 c.2.1 c.2.2)) ?_
     exact .seg 1 [2, 3, 4, 37, 38, 39] (by kernel_rfl) ihn
   · simp only [bsX] at h1
     omega
def bitsAll (l : List Int) : List (BitVec 64) := l.foldl (fun ws k => bitsPut ws k.toNat) []
theorem bitsAll_snoc (l : List Int) (k : Int) : bitsAll (l ++ [k]) = bitsPut (bitsAll l) k.toNat := by simp [bitsAll, List.foldl_append]
theorem bitsF_len : ∀ (l : List Int) (ws : List (BitVec 64)), ws.length ≤ 1024 → (∀ v ∈ l, 0 ≤ v ∧ v < 60000) → (l.foldl (fun ws k => bitsPut ws k.toNat) ws).length ≤ 1024
 | [], ws, h, _ => h
 | k :: l, ws, h, hn => by
   have := hn k (by simp)
   exact bitsF_len l _ (bitsPut_len _ _ (by omega) h) (fun v hv => hn v (by simp [hv]))
theorem bitsAll_len (l : List Int) (h : ∀ v ∈ l, 0 ≤ v ∧ v < 60000) : (bitsAll l).length ≤ 1024 := bitsF_len l [] (by simp) h
theorem bitsF_has : ∀ (l : List Int) (ws : List (BitVec 64)) (m : Nat), (∀ v ∈ l, 0 ≤ v ∧ v < 60000) → bitsHas (l.foldl (fun ws k => bitsPut ws k.toNat) ws) m = (decide ((m : Int) ∈ l) || bitsHas ws m)
 | [], ws, m, _ => by simp
 | k :: l, ws, m, hn => by
   have hk := hn k (by simp)
   simp only [List.foldl_cons]
   rw [bitsF_has l _ m (fun v hv => hn v (by simp [hv])), bitsHas_put]
   by_cases h1 : m = k.toNat
   · have h2 : (m : Int) = k := by omega
     simp [h2, ← h1]
   · have h2 : ¬ (m : Int) = k := by omega
     have h3 : (m == k.toNat) = false := by rw [beq_eq_false_iff_ne]; exact h1
     rw [h3, Bool.false_or]
     simp [h2]
theorem bitsAll_has (l : List Int) (h : ∀ v ∈ l, 0 ≤ v ∧ v < 60000) (m : Nat) : bitsHas (bitsAll l) m = decide ((m : Int) ∈ l) := by
 unfold bitsAll
 rw [bitsF_has l [] m h]
 simp [bitsHas]
noncomputable def R35 : List Item := [.code (rfAs (G35 54 [false, false])), .beginRound, .code (rfBd (G35 54 [false, false]))]
noncomputable def S35 (d : Dk) (dir : Int) (keep : List Int) (p : List ByteArray × List Int) (i : Nat) (st : LoopState) : Store :=
  [.cells [.row 1, .ptr 2 0 0, .ep 2 (dirD d.sk d.sv) 0, .row 5, .d (.int .i64 d.quota), .d (.bool d.full), .d (.bool d.off), .d (.int .i64 d.stop), .d (.int .i64 d.calls)], .row 2 (d.files.map fileD) false, .cells [.row 3, .row 4], .row 1 (d.nk.map strD) false, .row 1 (d.nv.map intD) false, .row 3 (d.ch.map chD) false,
    .cells [.ptr 0 0 0], .cells [.d (.int .i64 dir), .d (.list 1 (keep.map intD))], .cells [.row 9, .row 10], .row 1 (p.1.map strD) true, .row 1 (p.2.map intD) true,
    .map [], .cells [.map 11], .cells [.row 17], .cells [.ptr 13 0 0], .cells [.ptr 8 0 0], .cells [.fn (.func 98) [] []], .row 1 ((bitsAll (p.2.take i)).map w64) true, .defd, lp (G35 54 [false, false]) 35 (mk 133 [(2, V.ptr 6 0 0), (3, V.ptr 7 0 0), (4, V.ptr 8 0 0), (7, V.ptr 12 0 0), (8, V.ptr 14 0 0), (51, V.fn (Fn.func 109) [] [V.ptr 15 0 0, V.ptr 16 0 0])]) st]
theorem body35 (d : Dk) (dir : Int) (keep : List Int) (p : List ByteArray × List Int) (hl : p.1.length < 60000) (hv : p.2.length = p.1.length) (hn : ∀ v ∈ p.2, 0 ≤ v ∧ v < 60000) (i : Nat) (x : ByteArray) (v : Int) (hx : p.1[i]? = some x) (hy : p.2[i]? = some v) :
  AW Try.prog 35 (some 19) 20 R35 (mk 133 [(2, V.ptr 6 0 0), (3, V.ptr 7 0 0), (4, V.ptr 8 0 0), (7, V.ptr 12 0 0), (8, V.ptr 14 0 0), (51, V.fn (Fn.func 109) [] [V.ptr 15 0 0, V.ptr 16 0 0]), (52, .d (.str x)), (53, .d (.int .i64 v))]) (S35 d dir keep p i .ready) [] fun a σ' => a = .ret (.d (.bool true)) ∧ σ' = S35 d dir keep p (i + 1) .ready := by
 refine .at (T' := cgo 0 [] R35) rfl ?_
 have hvb := hn v (List.mem_of_getElem? hy)
 obtain ⟨k, rfl⟩ : ∃ k : Nat, v = k := ⟨v.toNat, by omega⟩
 have hk : k < 65536 := by omega
 have hwl := bitsAll_len (p.2.take i) (fun v hv => hn v (List.mem_of_mem_take hv))
 have hwl2 : (bitsAll (p.2.take i)).length < 900000000 := by omega
 have he : bitsAll (p.2.take (i + 1)) = bitsPut (bitsAll (p.2.take i)) k := by
  obtain ⟨hlt, he⟩ := List.getElem?_eq_some_iff.1 hy
  rw [List.take_succ_eq_append_getElem hlt, he, bitsAll_snoc]; rfl
 refine .sg0 3 [2, 3, 4, 7, 8, 10, 51, 53] (cgo 3 [] R35) [(10, .d (.int .i64 (↑k : Int)))] ?_
 refine .beginL (T0 := cgo 54 [false, false] [Item.code B35]) (fn := 35) (tml := (mk 133 [(2, V.ptr 6 0 0), (3, V.ptr 7 0 0), (4, V.ptr 8 0 0), (7, V.ptr 12 0 0), (8, V.ptr 14 0 0), (51, V.fn (Fn.func 109) [] [V.ptr 15 0 0, V.ptr 16 0 0])])) (by kernel_rfl) (T' := cgo 4 [] R35) (by kernel_rfl) (σ' := (SP 1 2 d false [.cells [.ptr 0 0 0], .cells [.d (.int .i64 dir), .d (.list 1 (map intD keep))], .cells [.row 9, .row 10], .row 1 (map strD p.fst) true, .row 1 (map intD p.snd) true, .map [], .cells [.map 11], .cells [.row 17], .cells [.ptr 13 0 0], .cells [.ptr 8 0 0], .cells [.fn (Fn.func 98) [] []], .row 1 (map w64 (bitsAll (List.take i p.snd))) true, .defd, lp (G35 54 [false, false]) 35 (mk 133 [(2, .ptr 6 0 0), (3, .ptr 7 0 0), (4, .ptr 8 0 0), (7, .ptr 12 0 0), (8, .ptr 14 0 0), (51, .fn (Fn.func 109) [] [.ptr 15 0 0, .ptr 16 0 0])]) LoopState.busy])) (by kernel_rfl) (by kernel_rfl) ?_
 refine .sg0 4 [8, 10, 54, 55] (cgo 8 [] R35) [(54, .ptr 13 0 0), (55, .d (.int .i64 (↑k : Int)))] ?_
 refine .ca [13, 17] (cgo 9 [] R35) F73 (@spec_73 (bitsAll (List.take i p.snd)) (k) (by assumption) (by assumption)) ?_
 rintro r0 s0 ⟨rfl, rfl⟩
 refine ⟨_, rfl, ?_⟩
 refine .sg 2 [] (cgo 11 [] R35) [] [(19, lp (G35 54 [false, false]) 35 (mk 133 [(2, .ptr 6 0 0), (3, .ptr 7 0 0), (4, .ptr 8 0 0), (7, .ptr 12 0 0), (8, .ptr 14 0 0), (51, .fn (Fn.func 109) [] [.ptr 15 0 0, .ptr 16 0 0])]) LoopState.busy)] ?_
 refine .roundEndL (T0 := cgo 54 [false, false] [Item.code B35]) (fn := 35) (tml := (mk 133 [(2, V.ptr 6 0 0), (3, V.ptr 7 0 0), (4, V.ptr 8 0 0), (7, V.ptr 12 0 0), (8, V.ptr 14 0 0), (51, V.fn (Fn.func 109) [] [V.ptr 15 0 0, V.ptr 16 0 0])])) (st := LoopState.busy) (by kernel_rfl) (by kernel_rfl) (σ' := (SP 1 2 d false [.cells [.ptr 0 0 0], .cells [.d (.int .i64 dir), .d (.list 1 (map intD keep))], .cells [.row 9, .row 10], .row 1 (map strD p.fst) true, .row 1 (map intD p.snd) true, .map [], .cells [.map 11], .cells [.row 17], .cells [.ptr 13 0 0], .cells [.ptr 8 0 0], .cells [.fn (Fn.func 98) [] []], .row 1 (map w64 (bitsPut (bitsAll (List.take i p.snd)) k)) true, .defd, lp (G35 54 [false, false]) 35 (mk 133 [(2, .ptr 6 0 0), (3, .ptr 7 0 0), (4, .ptr 8 0 0), (7, .ptr 12 0 0), (8, .ptr 14 0 0), (51, .fn (Fn.func 109) [] [.ptr 15 0 0, .ptr 16 0 0])]) LoopState.ready])) (by kernel_rfl) ?_
 simp_all [S35, dirD]
theorem lo35a (d : Dk) (dir : Int) (keep : List Int) (p : List ByteArray × List Int) (hl : p.1.length < 60000) (hv : p.2.length = p.1.length) (hn : ∀ v ∈ p.2, 0 ≤ v ∧ v < 60000) : ∀ (m i : Nat), i + m = (p.1).length →
    AW Try.prog 109 none 20 (G109 24 [false]) (mk 43 [(0, V.yield 19), (5, V.d (.list 1 ((p.1).map strD))), (6, V.d (.list 1 ((p.2).map intD))), (27, V.d (.int .i64 ((p.1).length : Nat))), (28, V.d (.int .i64 (i : Nat)))]) (S35 d dir keep p i .ready) [] fun r σ' => r = .ret (.tuple []) ∧ σ' = S35 d dir keep p (p.1).length .ready := by
  intro m
  induction m with
  | zero =>
    intro i hi
    have hi : i = (p.1).length := by omega
    subst hi
    refine .sge 5 [0, 5, 6, 27, 28, 29] (G109 29 [false]) ?_
    refine .if' (decide ((↑p.fst.length : Int) < (↑p.fst.length : Int))) (G109 30 [false, true]) (G109 30 [false, false]) (fun h1 => ?_) (fun h1 => ?_)
    · simp only [bsX] at h1
      omega
    · simp only [bsX] at h1
      refine .sge 1 [] (cgo 31 [false, false] [.code B109]) ?_
      refine .rt F109 (V.tuple []) ?_
      exact ⟨rfl, by kernel_rfl⟩
  | succ m ih =>
    intro i hi
    obtain ⟨x, hx⟩ := get_some (l := p.1) (i := i) (by omega)
    obtain ⟨v, hy⟩ := get_some (l := p.2) (i := i) (by omega)
    have hYi := body35 d dir keep p hl hv hn i x v hx hy
    refine .sge 5 [0, 5, 6, 27, 28, 29] (G109 29 [false]) ?_
    refine .if' (decide ((↑i : Int) < (↑p.fst.length : Int))) (G109 30 [false, true]) (G109 30 [false, false]) (fun h1 => ?_) (fun h1 => ?_)
    · simp only [bsX] at h1
      refine .sge 9 [0, 5, 6, 7, 27, 28, 29, 30] (G109 39 [false, true]) ?_
      refine .dr (G109 40 [false, true]) [(31, .yield 19), (32, .d (.list 1 (map strD p.fst))), (33, .d (.int .i64 (↑i : Int))), (34, .ep 1 (D.str x) 0), (35, .d (.str x)), (36, .d (.list 1 (map intD p.snd))), (37, .d (.int .i64 (↑i : Int))), (38, .ep 1 (D.int IntKind.i64 v) 0), (39, .d (.int .i64 v)), (40, .d (.bool true)), (41, .d (.bool false))] [(17, .row 1 (map w64 (bitsAll (List.take (i + 1) p.snd))) true)] (fun kz L hL => ?_) ?_
      · refine ⟨[fO 19, nF, nF, nF, nF, nF, nF, nF, nF, ⟨[], [], [], [], [], [], false, true⟩, nF], run_amongF hL _ [] [0, 1, 2, 3, 4, 5, 6, 7, 8, 9, 10] (by intro p hp; cases hp) (by kernel_rfl) ?_⟩
        refine Run.ap [0, 1, 2] [(31, .yield 19), (32, .d (.list 1 (map strD p.fst))), (33, .d (.int .i64 (↑i : Int)))] [] ?_
        refine Run.lk 3 (.ep 1 (D.str x) 0) [(.tmp 32), (.tmp 33)] (fun tm' σ2 hv hr => ixData_ok (t := 66) (x := (.tmp 32)) (i := (.tmp 33)) (k := IntKind.i64) (n := (↑i : Int)) (sz := 1) (xs := map strD p.fst) (d := strD x) (by kernel_rfl) (evl hv) (evv hv) (by kernel_rfl) (by omega) (map_get hx)) ?_
        refine Run.ap [4, 5, 6] [(35, .d (.str x)), (36, .d (.list 1 (map intD p.snd))), (37, .d (.int .i64 (↑i : Int)))] [] ?_
        refine Run.lk 7 (.ep 1 (D.int IntKind.i64 v) 0) [(.tmp 36), (.tmp 37)] (fun tm' σ2 hv hr => ixData_ok (t := 46) (x := (.tmp 36)) (i := (.tmp 37)) (k := IntKind.i64) (n := (↑i : Int)) (sz := 1) (xs := map intD p.snd) (d := intD v) (by kernel_rfl) (evl hv) (evv hv) (by kernel_rfl) (by omega) (map_get hy)) ?_
        refine Run.ap [8] [(39, .d (.int .i64 v))] [] ?_
        refine Run.yi 9 (cgo 54 [false, false] [.code B35]) hYi ?_
        exact Run.fin
      refine .sg0 7 [0, 5, 6, 27, 28] (cgo 47 [false, true, false] [.code B109]) [(28, .d (.int .i64 (IntKind.i64.wrap ((↑i : Int) + 1))))] ?_
      simp (disch := omega) only [bsW]
      exact .seg 1 [0, 5, 6, 27, 28] (by kernel_rfl) (ih (i + 1) (by omega))
    · simp only [bsX] at h1
      omega
theorem it35a (d : Dk) (dir : Int) (keep : List Int) (p : List ByteArray × List Int) (hl : p.1.length < 60000) (hv : p.2.length = p.1.length) (hn : ∀ v ∈ p.2, 0 ≤ v ∧ v < 60000) : CallsA Try.prog 109 [.yield 19, .ptr 15 0 0, .ptr 16 0 0] (S35 d dir keep p 0 .ready) fun r σ' => r = .ret (.tuple []) ∧ σ' = S35 d dir keep p (p.1).length .ready := by
 refine CallsA.start F109 (tm := mk (Try.f109.ntmps) [(0, .yield 19), (1, .ptr 15 0 0), (2, .ptr 16 0 0)]) (by kernel_rfl) ?_
 refine .sg0 11 [0, 1, 2, 10] (G109 11 [false]) [(10, .fn (Fn.func 98) [] [])] ?_
 refine .cd (G109 12 [false]) F98 (@spec_98) ?_
 refine .sg0 3 [0, 1, 4] (G109 15 [false]) [(4, .d (.int .i64 0))] ?_
 refine .dr (G109 16 [false]) [(5, .d (.list 1 (List.take ((map strD p.fst).length - 0) (List.drop 0 (map strD p.fst))))), (6, .d (.list 1 (List.take ((map intD p.snd).length - 0) (List.drop 0 (map intD p.snd))))), (12, .ptr 8 0 0), (13, .ptr 8 0 0), (14, .ptr 8 0 0), (15, .row 9), (16, .d (.int .i64 0)), (17, .sl 9 0 ((map strD p.fst).length - 0) none), (18, .d (.list 1 (List.take ((map strD p.fst).length - 0) (List.drop 0 (map strD p.fst))))), (19, .ptr 8 0 0), (20, .ptr 8 0 0), (21, .ptr 8 0 1), (22, .row 10), (23, .d (.int .i64 0)), (24, .sl 10 0 ((map intD p.snd).length - 0) none), (25, .d (.list 1 (List.take ((map intD p.snd).length - 0) (List.drop 0 (map intD p.snd)))))] [] (fun kz L hL => ?_) ?_
 · refine ⟨[fB 15 8, fA 8, fA 8, fX [8] [] [] [9] [8, 9, 10], nF, fX [9] [] [] [9] [9], fX [9] [9] [] [] [9], fB 15 8, fA 8, fA 8, fX [8] [] [] [10] [8, 9, 10], nF, fX [10] [] [] [10] [10], fR 10, nF, nF], run_amongF hL _ [] [0, 1, 2, 3, 4, 5, 7, 8, 9, 10, 11, 12, 6, 13, 14, 15] (by intro p hp; cases hp) (by kernel_rfl) ?_⟩
   refine Run.ap [0, 1, 2, 3, 4] [(12, .ptr 8 0 0), (13, .ptr 8 0 0), (14, .ptr 8 0 0), (15, .row 9), (16, .d (.int .i64 0))] [] ?_
   refine Run.lk 5 (.sl 9 0 ((map strD p.fst).length - 0) none) [(.tmp 15), (.tmp 16)] (fun tm' σ2 hv hr => slRow_ok (t := 66) (x := (.tmp 15)) (lo := (some (.tmp 16))) (hi := none) (lc := 9) (sz := 1) (xs := map strD p.fst) (mv := true) (0) ((map strD p.fst).length) (by kernel_rfl) (evv hv) (atr hr) (by kernel_rfl) (bnd_some (k := IntKind.i64) (i := 0) (evv hv) (by omega) (by rfl)) rfl (by omega) (by omega)) ?_
   refine Run.ap [7, 8, 9, 10, 11] [(19, .ptr 8 0 0), (20, .ptr 8 0 0), (21, .ptr 8 0 1), (22, .row 10), (23, .d (.int .i64 0))] [] ?_
   refine Run.lk 12 (.sl 10 0 ((map intD p.snd).length - 0) none) [(.tmp 22), (.tmp 23)] (fun tm' σ2 hv hr => slRow_ok (t := 46) (x := (.tmp 22)) (lo := (some (.tmp 23))) (hi := none) (lc := 10) (sz := 1) (xs := map intD p.snd) (mv := true) (0) ((map intD p.snd).length) (by kernel_rfl) (evv hv) (atr hr) (by kernel_rfl) (bnd_some (k := IntKind.i64) (i := 0) (evv hv) (by omega) (by rfl)) rfl (by omega) (by omega)) ?_
   refine Run.cl 6 [9] F110 (@spec_110b (map strD p.fst) (0) ((map strD p.fst).length - 0) (none) (by omega) (by simp <;> omega)) ?_
   refine Run.cll 13 [10] F111 (@spec_111b (map intD p.snd) (0) ((map intD p.snd).length - 0) (none) (by omega) (by simp <;> omega)) ?_
   exact Run.fin
 refine .seg 7 [0, 5, 6, 27, 28] (T' := cgo 23 [false] [.code B109]) (tm' := mk 43 [(0, .yield 19), (5, .d (.list 1 (List.take ((map strD p.fst).length - 0) (List.drop 0 (map strD p.fst))))), (6, .d (.list 1 (List.take ((map intD p.snd).length - 0) (List.drop 0 (map intD p.snd))))), (27, .d (.int .i64 (↑(List.take ((map strD p.fst).length - 0) (List.drop 0 (map strD p.fst))).length : Int))), (28, .d (.int .i64 0))]) (σ' := (SP 1 2 d false [.cells [.ptr 0 0 0], .cells [.d (.int .i64 dir), .d (.list 1 (map intD keep))], .cells [.row 9, .row 10], .row 1 (map strD p.fst) true, .row 1 (map intD p.snd) true, .map [], .cells [.map 11], .cells [.row 17], .cells [.ptr 13 0 0], .cells [.ptr 8 0 0], .cells [.fn (Fn.func 98) [] []], .row 1 [] true, .defd, lp (G35 54 [false, false]) 35 (mk 133 [(2, .ptr 6 0 0), (3, .ptr 7 0 0), (4, .ptr 8 0 0), (7, .ptr 12 0 0), (8, .ptr 14 0 0), (51, .fn (Fn.func 109) [] [.ptr 15 0 0, .ptr 16 0 0])]) LoopState.ready])) (by kernel_rfl) ?_
 simp only [List.length_map]
 rw [eachL (p.1) strD, eachL (p.2) intD, List.length_map]
 exact .seg 1 [0, 5, 6, 27, 28] (by kernel_rfl) (lo35a d dir keep p hl hv hn (p.1).length 0 (by omega))
def SB (d : Dk) (dir : Int) (keep : List Int) (p : List ByteArray × List Int) (ws : List (BitVec 64)) (es : List (Value × D)) : Store :=
  [.cells [.row 1, .ptr 2 0 0, .ep 2 (dirD d.sk d.sv) 0, .row 5, .d (.int .i64 d.quota), .d (.bool d.full), .d (.bool d.off), .d (.int .i64 d.stop), .d (.int .i64 d.calls)], .row 2 (d.files.map fileD) false, .cells [.row 3, .row 4], .row 1 (d.nk.map strD) false, .row 1 (d.nv.map intD) false, .row 3 (d.ch.map chD) false,
    .cells [.ptr 0 0 0], .cells [.d (.int .i64 dir), .d (.list 1 (keep.map intD))], .cells [.row 9, .row 10], .row 1 (p.1.map strD) true, .row 1 (p.2.map intD) true,
    .map es, .cells [.map 11], .cells [.row 15], .cells [.ptr 13 0 0], .row 1 (ws.map w64) true, .defd]
theorem stB (d : Dk) (dir : Int) (keep : List Int) (p : List ByteArray × List Int) (hl : p.1.length < 60000) (hv : p.2.length = p.1.length) (hn : ∀ v ∈ p.2, 0 ≤ v ∧ v < 60000) (Q : AE → Store → Prop)
  (hnext : AW Try.prog 35 none 6 (G35 55 [false, false]) (mk 133 [(2, .ptr 6 0 0), (3, .ptr 7 0 0), (4, .ptr 8 0 0), (7, .ptr 12 0 0), (8, .ptr 14 0 0)]) (SB d dir keep p (bitsAll p.2) []) [16] Q) :
  AW Try.prog 35 none 6 (G35 34 [false, false]) (mk 133 [(2, .ptr 6 0 0), (3, .ptr 7 0 0), (4, .ptr 8 0 0)]) (SA d dir keep p) [] Q := by
 refine .sg0 2 [2, 3, 4] (G35 36 [false, false]) [] ?_
 refine .op' (G35 37 [false, false]) (makeMap_ok (t := 122) (by kernel_rfl)) ?_
 refine .sge 14 [2, 3, 4, 7, 8, 50] (G35 51 [false, false]) ?_
 refine .ca [8, 9, 10] (G35 52 [false, false]) F72 (@spec_72 (map strD p.fst) (map intD p.snd)) ?_
 rintro r0 s0 ⟨rfl, rfl⟩
 refine ⟨_, rfl, ?_⟩
 refine .seg 2 [2, 3, 4, 7, 8, 51] (T' := cgo 54 [false, false] [.code B35]) (tm' := mk 133 [(2, .ptr 6 0 0), (3, .ptr 7 0 0), (4, .ptr 8 0 0), (7, .ptr 12 0 0), (8, .ptr 14 0 0), (51, .fn (Fn.func 109) [] [.ptr 15 0 0, .ptr 16 0 0])]) (σ' := (SP 1 2 d false [.cells [.ptr 0 0 0], .cells [.d (.int .i64 dir), .d (.list 1 (map intD keep))], .cells [.row 9, .row 10], .row 1 (map strD p.fst) true, .row 1 (map intD p.snd) true, .map [], .cells [.map 11], .cells [.ex 1 []], .cells [.ptr 13 0 0], .cells [.ptr 8 0 0], .cells [.fn (Fn.func 98) [] []]])) (by kernel_rfl) ?_
 refine .virtX 13 0 1 rfl rfl ?_
 refine .raises [17] ?_
 refine .rangeH (first := []) (cap := [.ptr 15 0 0, .ptr 16 0 0]) (List.range 20) [.yield 19, .ptr 15 0 0, .ptr 16 0 0] (S35 d dir keep p 0 .ready) F109 (by kernel_rfl) (T' := cgo 55 [false, false] [Item.code B35]) (by kernel_rfl) (by kernel_rfl) (it35a d dir keep p hl hv hn) (by kernel_rfl) (by kernel_rfl) (by refine ⟨rfl, by kernel_rfl, ?_⟩; kernel_rfl) ?_
 rintro r σc' ⟨rfl, rfl⟩
 refine ⟨.tuple [], .ready, (mk 133 [(2, V.ptr 6 0 0), (3, V.ptr 7 0 0), (4, V.ptr 8 0 0), (7, V.ptr 12 0 0), (8, V.ptr 14 0 0), (51, V.fn (Fn.func 109) [] [V.ptr 15 0 0, V.ptr 16 0 0])]), rfPs (G35 54 [false, false]), rfAs (G35 54 [false, false]), rfBd (G35 54 [false, false]), 35, rfl, by simp, by kernel_rfl, ?_⟩
 have e1 : bitsAll (p.2.take p.1.length) = bitsAll p.2 := by rw [← hv, List.take_length]
 rw [← e1] at hnext
 refine .kp [2, 3, 4, 7, 8] ?_
 exact .sub [0, 1, 2, 3, 4, 5, 6, 7, 8, 9, 10, 11, 12, 13, 14, 17, 18] (mk 133 [(2, .ptr 6 0 0), (3, .ptr 7 0 0), (4, .ptr 8 0 0), (7, .ptr 12 0 0), (8, .ptr 14 0 0)]) (SB d dir keep p (bitsAll (p.2.take p.1.length)) []) none [16] ⟨rfl, rfl, by kernel_rfl⟩ (by kernel_rfl) ⟨Nat.le_of_ble_eq_true (by kernel_rfl), by kernel_rfl⟩ (by kernel_rfl) ⟨by kernel_rfl, by kernel_rfl⟩ ⟨rfl, rfl⟩ hnext
def numE (has : Nat → Bool) : Nat → List (Value × D)
  | 0 => []
  | i + 1 => if has i then numE has i ++ [(.int .i64 (i : Nat), .int .i64 (rank has i : Nat))] else numE has i
theorem numE_keys (has : Nat → Bool) : ∀ (i : Nat), ∀ e ∈ numE has i, ∃ j : Nat, j < i ∧ has j = true ∧ e = (.int .i64 (j : Nat), .int .i64 (rank has j : Nat))
 | 0, e, h => by simp [numE] at h
 | i + 1, e, h => by
   simp only [numE] at h
   split at h
   · rcases List.mem_append.1 h with h | h
     · obtain ⟨j, h1, h2⟩ := numE_keys has i e h; exact ⟨j, by omega, h2⟩
     · rw [List.mem_singleton] at h; subst h; exact ⟨i, by omega, by assumption, rfl⟩
   · obtain ⟨j, h1, h2⟩ := numE_keys has i e h; exact ⟨j, by omega, h2⟩
theorem numE_ok (has : Nat → Bool) (i : Nat) : keysOk (.int .i64) (numE has i) := by
 intro e he
 obtain ⟨j, _, _, rfl⟩ := numE_keys has i e he
 exact rfl
theorem mapPut_new : ∀ (es : List (Value × D)) (k : Value) (d : D), (∀ e ∈ es, keyB k e.1 = false) → mapPut k d es = es ++ [(k, d)]
 | [], k, d, _ => rfl
 | e :: es, k, d, h => by
   simp only [mapPut, h e (by simp), Bool.false_eq_true, if_false, List.cons_append]
   rw [mapPut_new es k d fun e he => h e (by simp [he])]
theorem mapFind_app : ∀ (es : List (Value × D)) (k : Value) (p : Value × D), (∀ e ∈ es, keyB k e.1 = false) → mapFind k (es ++ [p]) = if keyB k p.1 then some p.2 else none
 | [], k, p, _ => by simp [mapFind]
 | e :: es, k, p, h => by
   simp only [List.cons_append, mapFind, h e (by simp), Bool.false_eq_true, if_false]
   exact mapFind_app es k p fun e he => h e (by simp [he])
theorem mapFind_old : ∀ (es : List (Value × D)) (k : Value) (p : Value × D), keyB k p.1 = false → mapFind k (es ++ [p]) = mapFind k es
 | [], k, p, h => by simp [mapFind, h]
 | e :: es, k, p, h => by
   rw [List.cons_append]
   unfold mapFind
   rw [mapFind_old es k p h]
theorem keyB_int (a b : Nat) : keyB (.int .i64 (a : Nat)) (.int .i64 (b : Nat)) = (a == b) := by
 show ((a : Int) == (b : Int)) = (a == b)
 by_cases h : a = b
 · rw [h, beq_self_eq_true, beq_self_eq_true]
 · rw [beq_eq_false_iff_ne.2 h, beq_eq_false_iff_ne.2 (by omega)]
theorem numE_put (has : Nat → Bool) (i : Nat) (h : has i = true) : mapPut (.int .i64 (i : Nat)) (.int .i64 (rank has i : Nat)) (numE has i) = numE has (i + 1) := by
 have e := mapPut_new (numE has i) (.int .i64 (i : Nat)) (.int .i64 (rank has i : Nat)) (fun e he => by
  obtain ⟨j, hj, _, rfl⟩ := numE_keys has i e he
  rw [keyB_int, beq_eq_false_iff_ne]; omega)
 rw [e]
 show _ = if has i then _ else _
 rw [if_pos h]
theorem numE_find (has : Nat → Bool) : ∀ (n j : Nat), j < n → has j = true → mapFind (.int .i64 (j : Nat)) (numE has n) = some (.int .i64 (rank has j : Nat))
  | 0, j, h, _ => by omega
  | n + 1, j, h, hj => by
    simp only [numE]
    by_cases he : j = n
    · subst he
      rw [if_pos hj, mapFind_app]
      · rw [keyB_int]; simp
      · intro e he
        obtain ⟨k, hk, _, rfl⟩ := numE_keys has j e he
        rw [keyB_int]; simp; omega
    · split
      · rw [mapFind_old]
        · exact numE_find has n j (by omega) hj
        · rw [keyB_int]; simp; omega
      · exact numE_find has n j (by omega) hj
theorem kept_snoc (has : Nat → Bool) (keep : List Int) (f : List UInt8 × Nat) : ∀ (fs : List (List UInt8 × Nat)) (i : Nat), kept has keep i (fs ++ [f]) = kept has keep i fs ++ if has (i + fs.length) then [(f.1.take (leftOf f (i + fs.length) keep), leftOf f (i + fs.length) keep)] else []
 | [], i => by simp only [List.nil_append, kept, List.length_nil, Nat.add_zero]
 | g :: fs, i => by
   simp only [List.cons_append, kept]
   rw [kept_snoc has keep f fs (i + 1)]
   rw [show i + 1 + fs.length = i + (g :: fs).length by simp; omega]
   split <;> simp
theorem kept_len0 (has : Nat → Bool) (keep : List Int) (fs : List (List UInt8 × Nat)) : (kept has keep 0 fs).length = rank has fs.length := by
 have := kept_length has keep fs 0
 simpa [rank] using this
def SC (d : Dk) (dir : Int) (keep : List Int) (p : List ByteArray × List Int) (ws : List (BitVec 64)) (es : List (Value × D)) (fs : List (List UInt8 × Nat)) : Store :=
  SB d dir keep p ws es ++ [.row 2 (fs.map fileD) true]
theorem loC (d : Dk) (N : Nat) (h : d.Ok N) (dir : Int) (keep : List Int) (hk : keep.length < 1000000000) (hkv : ∀ v ∈ keep, -9223372036854775808 ≤ v ∧ v < 9223372036854775808) (p : List ByteArray × List Int) (ws : List (BitVec 64)) (hw : ws.length < 1000000000) (Q : AE → Store → Prop)
    (hnext : AW Try.prog 35 none 6 (G35 79 [false, false, false]) (mk 133 [(2, .ptr 6 0 0), (4, .ptr 8 0 0), (7, .ptr 12 0 0), (11, .row 17)]) (SC d dir keep p ws (numE (bitsHas ws) d.files.length) (kept (bitsHas ws) keep 0 d.files)) [16] Q) : ∀ (m i : Nat), i + m = d.files.length →
    AW Try.prog 35 none 6 (G35 72 [false, false]) (mk 133 [(2, .ptr 6 0 0), (3, .ptr 7 0 0), (4, .ptr 8 0 0), (7, .ptr 12 0 0), (8, .ptr 14 0 0), (11, .row 17), (60, .row 1), (61, .d (.int .i64 (d.files.length : Nat))), (62, .d (.int .i64 (i : Nat)))]) (SC d dir keep p ws (numE (bitsHas ws) i) (kept (bitsHas ws) keep 0 (d.files.take i))) [16] Q := by
  have q0 := h.fl
  have q4 := h.nb
  intro m
  induction m with
  | zero =>
    intro i hi
    have hi : i = d.files.length := by omega
    subst hi
    rw [List.take_length]
    refine .sge 5 [2, 3, 4, 7, 8, 11, 60, 61, 62, 63] (G35 77 [false, false]) ?_
    refine .if' (decide ((↑d.files.length : Int) < (↑d.files.length : Int))) (G35 78 [false, false, true]) (G35 78 [false, false, false]) (fun h1 => ?_) (fun h1 => ?_)
    · simp only [bsX] at h1
      omega
    · simp only [bsX] at h1
      refine .sg0 1 [2, 4, 7, 11] (G35 79 [false, false, false]) [] ?_
      exact .goes [2, 4, 7, 11] (by kernel_rfl) (by kernel_rfl) (by kernel_rfl) hnext
  | succ m ih =>
    intro i hi
    obtain ⟨f, hf⟩ := get_some (l := d.files) (i := i) (by omega)
    have hm := h.fs f (List.mem_of_getElem? hf)
    have hko := numE_ok (bitsHas ws) i
    have hlen : (d.files.take i).length = i := by simp; omega
    have hkl := kept_len0 (bitsHas ws) keep (d.files.take i)
    rw [hlen] at hkl
    have hrk : rank (bitsHas ws) i ≤ i := by unfold rank; exact Nat.le_trans (List.length_filter_le _ _) (by simp)
    have hlf : f.2 ≤ leftOf (f.1, f.2) i keep ∧ leftOf (f.1, f.2) i keep ≤ f.1.length := leftOf_le hm.1 i keep
    have hlf1 := hlf.1
    have hlf2 := hlf.2
    have hi2 : i < 1000000000 := by omega
    have hsn := kept_snoc (bitsHas ws) keep f (d.files.take i) 0
    rw [hlen, Nat.zero_add] at hsn
    have hsn2 : kept (bitsHas ws) keep 0 (d.files.take (i + 1)) = kept (bitsHas ws) keep 0 (d.files.take i) ++ if bitsHas ws i then [(f.1.take (leftOf (f.1, f.2) i keep), leftOf (f.1, f.2) i keep)] else [] := by
      obtain ⟨hlt, he⟩ := List.getElem?_eq_some_iff.1 hf
      have hsn3 : kept (bitsHas ws) keep 0 (d.files.take i ++ [f]) = kept (bitsHas ws) keep 0 (d.files.take i) ++ if bitsHas ws i then [(f.1.take (leftOf (f.1, f.2) i keep), leftOf (f.1, f.2) i keep)] else [] := hsn
      rw [← hsn3, List.take_succ_eq_append_getElem hlt, he]
    have hput := numE_put (bitsHas ws) i
    have hih := ih (i + 1) (by omega)
    rw [hsn2] at hih
    generalize hfs : kept (bitsHas ws) keep 0 (d.files.take i) = fs at *
    cases hb : bitsHas ws i with
    | false =>
      rw [hb] at hih
      have hn2 : numE (bitsHas ws) (i + 1) = numE (bitsHas ws) i := by simp [numE, hb]
      rw [hn2] at hih
      simp only [Bool.false_eq_true, if_false, List.append_nil] at hih
      clear ih hsn hsn2 hput hn2 hfs hnext
      refine .sge 5 [2, 3, 4, 7, 8, 11, 60, 61, 62, 63] (G35 77 [false, false]) ?_
      refine .if' (decide ((↑i : Int) < (↑d.files.length : Int))) (G35 78 [false, false, true]) (G35 78 [false, false, false]) (fun h1 => ?_) (fun h1 => ?_)
      · simp only [bsX] at h1
        refine .sge 6 [2, 3, 4, 7, 8, 11, 60, 61, 62, 63, 64] (G35 84 [false, false, true]) ?_
        refine .op' (G35 85 [false, false, true]) (ixRow_ok (t := 105) (x := (.tmp 60)) (i := (.tmp 62)) (k := IntKind.i64) (n := (↑i : Int)) (l := 1) (sz := 2) (xs := map fileD d.files) (mv := false) (by kernel_rfl) (by kernel_rfl) (by kernel_rfl) (by kernel_rfl) (by kernel_rfl) (by omega) (by simp <;> omega)) ?_
        refine .ld (G35 86 [false, false, true]) (xs := map fileD d.files) (map_get hf) ?_
        refine .sge 9 [2, 3, 4, 7, 8, 11, 12, 13, 60, 61, 62, 63, 64, 65, 66, 67, 68] (G35 95 [false, false, true]) ?_
        refine .ca [13, 15] (G35 96 [false, false, true]) F74 (@spec_74 (ws) (i) (by assumption) (by assumption)) ?_
        rintro r1 s1 ⟨rfl, rfl⟩
        refine ⟨_, rfl, ?_⟩
        refine .sge 2 [2, 3, 4, 7, 8, 11, 12, 13, 60, 61, 62, 63, 64, 65, 66, 67, 68, 69, 70] (G35 98 [false, false, true]) ?_
        refine .if' (!bitsHas ws i) (G35 99 [false, false, true, true]) (G35 99 [false, false, true, false]) (fun h3 => ?_) (fun h3 => ?_)
        · simp only [bsX] at h3
          refine .sg0 5 [2, 3, 4, 7, 8, 11, 12, 13, 60, 61, 62, 63, 64, 65, 66, 67, 68, 69, 70, 90] (G35 104 [false, false, true, true]) [(62, .d (.int .i64 (IntKind.i64.wrap ((↑i : Int) + 1)))), (90, .d (.int .i64 (IntKind.i64.wrap ((↑i : Int) + 1))))] ?_
          simp (disch := omega) only [bsW]
          refine .kp [2, 3, 4, 7, 8, 11, 60, 61, 62] ?_
          refine .sub (List.range 18) (mk 133 [(2, .ptr 6 0 0), (3, .ptr 7 0 0), (4, .ptr 8 0 0), (7, .ptr 12 0 0), (8, .ptr 14 0 0), (11, .row 17), (60, .row 1), (61, .d (.int .i64 (d.files.length : Nat))), (62, .d (.int .i64 ((i + 1 : Nat) : Int)))]) (SC d dir keep p ws (numE (bitsHas ws) i) fs) none [16] ⟨rfl, by kernel_rfl, by kernel_rfl⟩ (by kernel_rfl) ⟨Nat.le_of_ble_eq_true (by kernel_rfl), by kernel_rfl⟩ (by kernel_rfl) ⟨by kernel_rfl, by kernel_rfl⟩ ⟨rfl, rfl⟩ ?_
          exact .seg 1 [2, 3, 4, 7, 8, 11, 60, 61, 62] (by kernel_rfl) hih
        · simp only [bsX] at h3
          simp_all
      · simp only [bsX] at h1
        omega
    | true =>
      rw [hb] at hih
      rw [← hput hb] at hih
      simp only [if_true] at hih
      clear ih hsn hsn2 hput hfs hnext
      refine .sge 5 [2, 3, 4, 7, 8, 11, 60, 61, 62, 63] (G35 77 [false, false]) ?_
      refine .if' (decide ((↑i : Int) < (↑d.files.length : Int))) (G35 78 [false, false, true]) (G35 78 [false, false, false]) (fun h1 => ?_) (fun h1 => ?_)
      · simp only [bsX] at h1
        refine .sge 6 [2, 3, 4, 7, 8, 11, 60, 61, 62, 63, 64] (G35 84 [false, false, true]) ?_
        refine .op' (G35 85 [false, false, true]) (ixRow_ok (t := 105) (x := (.tmp 60)) (i := (.tmp 62)) (k := IntKind.i64) (n := (↑i : Int)) (l := 1) (sz := 2) (xs := map fileD d.files) (mv := false) (by kernel_rfl) (by kernel_rfl) (by kernel_rfl) (by kernel_rfl) (by kernel_rfl) (by omega) (by simp <;> omega)) ?_
        refine .ld (G35 86 [false, false, true]) (xs := map fileD d.files) (map_get hf) ?_
        refine .sge 9 [2, 3, 4, 7, 8, 11, 12, 13, 60, 61, 62, 63, 64, 65, 66, 67, 68] (G35 95 [false, false, true]) ?_
        refine .ca [13, 15] (G35 96 [false, false, true]) F74 (@spec_74 (ws) (i) (by assumption) (by assumption)) ?_
        rintro r1 s1 ⟨rfl, rfl⟩
        refine ⟨_, rfl, ?_⟩
        refine .sge 2 [2, 3, 4, 7, 8, 11, 12, 13, 60, 61, 62, 63, 64, 65, 66, 67, 68, 69, 70] (G35 98 [false, false, true]) ?_
        refine .if' (!bitsHas ws i) (G35 99 [false, false, true, true]) (G35 99 [false, false, true, false]) (fun h3 => ?_) (fun h3 => ?_)
        · simp only [bsX] at h3
          simp_all
        · simp only [bsX] at h3
          refine .sge 7 [2, 3, 4, 7, 8, 11, 12, 13, 60, 61, 62, 63, 64, 65, 66, 67, 68, 69, 70, 71, 72, 73, 74] (G35 106 [false, false, true, false]) ?_
          refine .cd (G35 107 [false, false, true, false]) F75 (@spec_75 (f.fst) (f.snd) (i) (keep) (by assumption) (by assumption) (by assumption) (by assumption)) ?_
          refine .sg0 8 [2, 3, 4, 7, 8, 11, 12, 13, 14, 60, 61, 62, 63, 64, 65, 66, 67, 68, 69, 70, 71, 72, 73, 74, 75, 76, 77, 78, 79] (G35 115 [false, false, true, false]) [(14, .d (.int .i64 (↑(leftOf (f.fst, f.snd) i keep) : Int))), (76, .map 11), (77, .d (.int .i64 (↑i : Int))), (78, .row 17), (79, .d (.int .i64 (↑(map fileD fs).length : Int)))] ?_
          simp only [List.length_map]
          refine .op' (G35 116 [false, false, true, false]) (mapUpd_ok (t := 122) (m := (.tmp 76)) (k := (.tmp 77)) (x := (.tmp 79)) (l := 11) (es := numE (bitsHas ws) i) (dk := D.int IntKind.i64 (↑i : Int)) (dx := D.int IntKind.i64 (↑fs.length : Int)) (kv := (Value.int IntKind.i64 ((↑i : Int)))) (kd := (TypeDesc.int IntKind.i64)) (kt := 3) (et := 3) (by kernel_rfl) (by kernel_rfl) (by kernel_rfl) (by kernel_rfl) (by kernel_rfl) (by kernel_rfl) (by kernel_rfl) (by kernel_rfl) (by exact rfl) hko) ?_
          refine .sg0 7 [2, 3, 4, 7, 8, 11, 12, 13, 14, 60, 61, 62, 63, 64, 65, 66, 67, 68, 69, 70, 71, 72, 73, 74, 75, 76, 77, 78, 79, 80, 81, 82, 83, 84] (G35 123 [false, false, true, false]) [(80, .row 17), (81, .ptr 18 0 0), (82, .d (.list 1 (map u8 f.fst))), (83, .d (.int .i64 (↑(leftOf (f.fst, f.snd) i keep) : Int))), (84, .d (.int .i64 (↑(leftOf (f.fst, f.snd) i keep) : Int)))] ?_
          simp only [List.length_map]
          refine .op' (G35 124 [false, false, true, false]) (sl3Data_ok (t := 22) (x := (.tmp 82)) (lo := none) (y := (.tmp 83)) (z := (.tmp 84)) (sz := 1) (xs := map u8 f.fst) (0) (leftOf (f.fst, f.snd) i keep) (by kernel_rfl) (by kernel_rfl) (by kernel_rfl) rfl (bnd_some (k := IntKind.i64) (i := (↑(leftOf (f.fst, f.snd) i keep) : Int)) (by kernel_rfl) (by omega) (by rfl)) (bnd_some (k := IntKind.i64) (i := (↑(leftOf (f.fst, f.snd) i keep) : Int)) (by kernel_rfl) (by omega) (by rfl)) (by omega) (by simp <;> omega)) ?_
          simp only [List.take_length, List.drop_zero, ← List.map_take, ← List.map_drop]
          refine .sg 3 [2, 3, 4, 7, 8, 11, 12, 13, 14, 60, 61, 62, 63, 64, 65, 66, 67, 68, 69, 70, 71, 72, 73, 74, 75, 76, 77, 78, 79, 80, 81, 82, 83, 84, 85, 86, 87, 88] (G35 127 [false, false, true, false]) [(86, .d (.int .i64 (↑(leftOf (f.fst, f.snd) i keep) : Int))), (87, .d (.agg [D.list 1 (map u8 (List.take (leftOf (f.fst, f.snd) i keep) f.fst)), D.int IntKind.i64 (↑(leftOf (f.fst, f.snd) i keep) : Int)])), (88, .row 19)] [(19, .row 2 [D.agg [D.list 1 (map u8 (List.take (leftOf (f.fst, f.snd) i keep) f.fst)), D.int IntKind.i64 (↑(leftOf (f.fst, f.snd) i keep) : Int)]] false)] ?_
          simp only [List.length_map]
          refine .op' (G35 128 [false, false, true, false]) (appRow_ok (s := (.tmp 80)) (x := (.tmp 88)) (t := 105) (t2 := 105) (sz := 2) (by' := 32) (ys := [D.agg [D.list 1 (map u8 (List.take (leftOf (f.fst, f.snd) i keep) f.fst)), D.int IntKind.i64 (↑(leftOf (f.fst, f.snd) i keep) : Int)]]) (l := 17) (xs := map fileD fs) (mv := true) (by kernel_rfl) (by kernel_rfl) (by kernel_rfl) (by kernel_rfl) (by kernel_rfl) (by kernel_rfl) (by simp <;> omega) (by first | (simp [maxLen] <;> omega) | omega)) ?_
          refine .sg0 7 [2, 3, 4, 7, 8, 11, 12, 13, 14, 60, 61, 62, 63, 64, 65, 66, 67, 68, 69, 70, 71, 72, 73, 74, 75, 76, 77, 79, 81, 82, 83, 84, 85, 86, 87, 88, 89, 90] (G35 135 [false, false, true, false]) [(11, .row 17), (62, .d (.int .i64 (IntKind.i64.wrap ((↑i : Int) + 1)))), (90, .d (.int .i64 (IntKind.i64.wrap ((↑i : Int) + 1))))] ?_
          simp only [List.length_map]
          simp (disch := omega) only [bsW]
          rw [hkl, show List.map fileD fs ++ [D.agg [D.list 1 (List.map u8 (List.take (leftOf (f.fst, f.snd) i keep) f.fst)), D.int IntKind.i64 (↑(leftOf (f.fst, f.snd) i keep) : Int)]] = List.map fileD (fs ++ [(f.1.take (leftOf (f.1, f.2) i keep), leftOf (f.1, f.2) i keep)]) by simp [fileD, bsD, i64]]
          refine .kp [2, 3, 4, 7, 8, 11, 60, 61, 62] ?_
          refine .sub (List.range 18) (mk 133 [(2, .ptr 6 0 0), (3, .ptr 7 0 0), (4, .ptr 8 0 0), (7, .ptr 12 0 0), (8, .ptr 14 0 0), (11, .row 17), (60, .row 1), (61, .d (.int .i64 (d.files.length : Nat))), (62, .d (.int .i64 ((i + 1 : Nat) : Int)))]) (SC d dir keep p ws (mapPut (.int .i64 (i : Nat)) (.int .i64 (rank (bitsHas ws) i : Nat)) (numE (bitsHas ws) i)) (fs ++ [(f.1.take (leftOf (f.1, f.2) i keep), leftOf (f.1, f.2) i keep)])) none [16] ⟨rfl, by kernel_rfl, by kernel_rfl⟩ (by kernel_rfl) ⟨Nat.le_of_ble_eq_true (by kernel_rfl), by kernel_rfl⟩ (by kernel_rfl) ⟨by kernel_rfl, by kernel_rfl⟩ ⟨rfl, rfl⟩ ?_
          exact .seg 1 [2, 3, 4, 7, 8, 11, 60, 61, 62] (by kernel_rfl) hih
      · simp only [bsX] at h1
        omega
def nums (has : Nat → Bool) (l : List Int) : List Int := l.map fun k => (rank has k.toNat : Int)
noncomputable def R35b : List Item := [.code (rfAs (G35 88 [false, false, false])), .beginRound, .code (rfBd (G35 88 [false, false, false]))]
noncomputable def S35b (d : Dk) (dir : Int) (keep : List Int) (p : List ByteArray × List Int) (ws : List (BitVec 64)) (n : Nat) (fs : List (List UInt8 × Nat)) (i : Nat) (st : LoopState) : Store :=
  [.cells [.row 17, .ptr 18 0 0, .ep 2 (dirD d.sk d.sv) 0, .row 5, .d (.int .i64 d.quota), .d (.bool d.full), .d (.bool d.off), .d (.int .i64 d.stop), .d (.int .i64 d.calls)], .row 2 (d.files.map fileD) false, .cells [.row 3, .row 4], .row 1 (d.nk.map strD) false, .row 1 (d.nv.map intD) false, .row 3 (d.ch.map chD) false,
    .cells [.ptr 0 0 0], .cells [.d (.int .i64 dir), .d (.list 1 (keep.map intD))], .cells [.row 9, .row 10], .row 1 (p.1.map strD) true, .row 1 (p.2.map intD) true,
    .map (numE (bitsHas ws) n), .cells [.map 11], .cells [.row 15], .cells [.ptr 13 0 0], .row 1 (ws.map w64) true, .defd, .row 2 (fs.map fileD) true, .cells [.row 21, .row 22], .cells [.ptr 8 0 0], .cells [.fn (.func 98) [] []],
    .row 1 ((p.1.take i).map strD) true, .row 1 (((nums (bitsHas ws) p.2).take i).map intD) true, .defd, lp (G35 88 [false, false, false]) 35 (mk 133 [(2, V.ptr 6 0 0), (7, V.ptr 12 0 0), (101, V.fn (Fn.func 109) [] [V.ptr 19 0 0, V.ptr 20 0 0])]) st]
theorem body35b (d : Dk) (dir : Int) (keep : List Int) (p : List ByteArray × List Int) (ws : List (BitVec 64)) (n : Nat) (fs : List (List UInt8 × Nat)) (hr : Rising p.1) (hl : p.1.length < 60000) (hv : p.2.length = p.1.length) (hn : ∀ v ∈ p.2, 0 ≤ v ∧ v < n ∧ bitsHas ws v.toNat = true) (i : Nat) (x : ByteArray) (v : Int) (hx : p.1[i]? = some x) (hy : p.2[i]? = some v) :
   AW Try.prog 35 (some 24) 25 R35b (mk 133 [(2, V.ptr 6 0 0), (7, V.ptr 12 0 0), (101, V.fn (Fn.func 109) [] [V.ptr 19 0 0, V.ptr 20 0 0]), (102, .d (.str x)), (103, .d (.int .i64 v))]) (S35b d dir keep p ws n fs i .ready) [] fun a σ' => a = .ret (.d (.bool true)) ∧ σ' = S35b d dir keep p ws n fs (i + 1) .ready := by
 refine .at (T' := cgo 0 [] R35b) rfl ?_
 have hvb := hn v (List.mem_of_getElem? hy)
 obtain ⟨k, rfl⟩ : ∃ k : Nat, v = k := ⟨v.toNat, by omega⟩
 rw [Int.toNat_natCast] at hvb
 have hko := numE_ok (bitsHas ws) n
 have hfind := numE_find (bitsHas ws) n k (by omega) hvb.2.2
 have hi := (List.getElem?_eq_some_iff.1 hx).1
 have hnl : (nums (bitsHas ws) p.2).length = p.1.length := by simp [nums, hv]
 have hk : kput (p.1.take i) ((nums (bitsHas ws) p.2).take i) x (rank (bitsHas ws) k : Nat) = (p.1.take (i + 1), (nums (bitsHas ws) p.2).take (i + 1)) := by
   obtain ⟨_, rfl⟩ := List.getElem?_eq_some_iff.1 hx
   obtain ⟨h2, h3⟩ := List.getElem?_eq_some_iff.1 hy
   have := kput_next hr hnl i hi
   simp only [nums, List.getElem_map, h3, Int.toNat_natCast] at this
   exact this
 have hr2 : Rising (p.1.take i) := List.Pairwise.sublist (List.take_sublist _ _) hr
 have hl2 : (p.1.take i).length < 1000000 := by simp; omega
 have hv2 : ((nums (bitsHas ws) p.2).take i).length = (p.1.take i).length := by simp [hnl]
 clear hn
 refine .sg0 7 [2, 7, 15, 16, 101, 102, 103] (cgo 7 [] R35b) [(15, .d (.str x)), (16, .d (.int .i64 (↑k : Int)))] ?_
 refine .beginL (T0 := cgo 88 [false, false, false] [Item.code B35]) (fn := 35) (tml := (mk 133 [(2, V.ptr 6 0 0), (7, V.ptr 12 0 0), (101, V.fn (Fn.func 109) [] [V.ptr 19 0 0, V.ptr 20 0 0])])) (by kernel_rfl) (T' := cgo 8 [] R35b) (by kernel_rfl) (σ' := (SP 17 18 d false [.cells [.ptr 0 0 0], .cells [.d (.int .i64 dir), .d (.list 1 (map intD keep))], .cells [.row 9, .row 10], .row 1 (map strD p.fst) true, .row 1 (map intD p.snd) true, .map (numE (bitsHas ws) n), .cells [.map 11], .cells [.row 15], .cells [.ptr 13 0 0], .row 1 (map w64 ws) true, .defd, .row 2 (map fileD fs) true, .cells [.row 21, .row 22], .cells [.ptr 8 0 0], .cells [.fn (Fn.func 98) [] []], .row 1 (map strD (List.take i p.fst)) true, .row 1 (map intD (List.take i (nums (bitsHas ws) p.snd))) true, .defd, lp (G35 88 [false, false, false]) 35 (mk 133 [(2, .ptr 6 0 0), (7, .ptr 12 0 0), (101, .fn (Fn.func 109) [] [.ptr 19 0 0, .ptr 20 0 0])]) LoopState.busy])) (by kernel_rfl) (by kernel_rfl) ?_
 refine .sg0 1 [2, 7, 15, 16] (cgo 9 [] R35b) [] ?_
 refine .dr (cgo 10 [] R35b) [(104, .ptr 0 0 0), (105, .ptr 0 0 0), (106, .ptr 0 0 1), (107, .ptr 18 0 0), (108, .d (.str x)), (109, .map 11), (110, .d (.int .i64 (↑k : Int))), (111, .d (.int .i64 (↑(rank (bitsHas ws) k) : Int))), (112, .d (.bool !decide ((List.take i p.fst)[pos (List.take i p.fst) x]? = some x)))] [(21, .row 1 (map strD (kput (List.take i p.fst) (List.take i (nums (bitsHas ws) p.snd)) x (↑(rank (bitsHas ws) k) : Int)).fst) true), (22, .row 1 (map intD (kput (List.take i p.fst) (List.take i (nums (bitsHas ws) p.snd)) x (↑(rank (bitsHas ws) k) : Int)).snd) true)] (fun kz L hL => ?_) ?_
 · refine ⟨[fB 6 0, fA 0, fA 0, fX [0] [] [] [18] [0, 17, 18, 5], nF, fB 12 11, nF, fR 11, fX [18, 21, 22] [18, 21, 22] [21, 22] [21, 22] [18, 21, 22]], run_amongF hL _ [] [0, 1, 2, 3, 4, 5, 6, 7, 8] (by intro p hp; cases hp) (by kernel_rfl) ?_⟩
   refine Run.ap [0, 1, 2, 3, 4, 5, 6] [(104, .ptr 0 0 0), (105, .ptr 0 0 0), (106, .ptr 0 0 1), (107, .ptr 18 0 0), (108, .d (.str x)), (109, .map 11), (110, .d (.int .i64 (↑k : Int)))] [] ?_
   refine Run.lk 7 (.d (.int .i64 (↑(rank (bitsHas ws) k) : Int))) [(.tmp 109), (.tmp 110)] (fun tm' σ2 hv hr => lookupF_ok (t := 122) (m := (.tmp 109)) (k := (.tmp 110)) (l := 11) (es := numE (bitsHas ws) n) (dk := D.int IntKind.i64 (↑k : Int)) (dz := D.int IntKind.i64 0) (d0 := D.int IntKind.i64 (↑(rank (bitsHas ws) k) : Int)) (kv := (Value.int IntKind.i64 ((↑k : Int)))) (zv := (Value.int IntKind.i64 (0))) (kd := (TypeDesc.int IntKind.i64)) (kt := 3) (et := 3) (by kernel_rfl) (by kernel_rfl) (by kernel_rfl) (evv hv) (atr hr) (evv hv) (by kernel_rfl) (by kernel_rfl) (by kernel_rfl) (by exact rfl) hko hfind) ?_
   refine Run.cl 8 [18, 21, 22] F76 (@spec_76 (List.take i p.fst) (x) (List.take i (nums (bitsHas ws) p.snd)) ((↑(rank (bitsHas ws) k) : Int)) (by assumption) (by assumption) (by assumption)) ?_
   exact Run.fin
 refine .sg0 1 [] (cgo 11 [] R35b) [] ?_
 refine .roundEndL (T0 := cgo 88 [false, false, false] [Item.code B35]) (fn := 35) (tml := (mk 133 [(2, V.ptr 6 0 0), (7, V.ptr 12 0 0), (101, V.fn (Fn.func 109) [] [V.ptr 19 0 0, V.ptr 20 0 0])])) (st := LoopState.busy) (by kernel_rfl) (by kernel_rfl) (σ' := (SP 17 18 d false [.cells [.ptr 0 0 0], .cells [.d (.int .i64 dir), .d (.list 1 (map intD keep))], .cells [.row 9, .row 10], .row 1 (map strD p.fst) true, .row 1 (map intD p.snd) true, .map (numE (bitsHas ws) n), .cells [.map 11], .cells [.row 15], .cells [.ptr 13 0 0], .row 1 (map w64 ws) true, .defd, .row 2 (map fileD fs) true, .cells [.row 21, .row 22], .cells [.ptr 8 0 0], .cells [.fn (Fn.func 98) [] []], .row 1 (map strD (kput (List.take i p.fst) (List.take i (nums (bitsHas ws) p.snd)) x (↑(rank (bitsHas ws) k) : Int)).fst) true, .row 1 (map intD (kput (List.take i p.fst) (List.take i (nums (bitsHas ws) p.snd)) x (↑(rank (bitsHas ws) k) : Int)).snd) true, .defd, lp (G35 88 [false, false, false]) 35 (mk 133 [(2, .ptr 6 0 0), (7, .ptr 12 0 0), (101, .fn (Fn.func 109) [] [.ptr 19 0 0, .ptr 20 0 0])]) LoopState.ready])) (by kernel_rfl) ?_
 simp_all [S35b, dirD]
theorem lo35b (d : Dk) (dir : Int) (keep : List Int) (p : List ByteArray × List Int) (ws : List (BitVec 64)) (n : Nat) (fs : List (List UInt8 × Nat)) (hr : Rising p.1) (hl : p.1.length < 60000) (hv : p.2.length = p.1.length) (hn : ∀ v ∈ p.2, 0 ≤ v ∧ v < n ∧ bitsHas ws v.toNat = true) : ∀ (m i : Nat), i + m = (p.1).length →
    AW Try.prog 109 none 25 (G109 24 [false]) (mk 43 [(0, V.yield 24), (5, V.d (.list 1 ((p.1).map strD))), (6, V.d (.list 1 ((p.2).map intD))), (27, V.d (.int .i64 ((p.1).length : Nat))), (28, V.d (.int .i64 (i : Nat)))]) (S35b d dir keep p ws n fs i .ready) [] fun r σ' => r = .ret (.tuple []) ∧ σ' = S35b d dir keep p ws n fs (p.1).length .ready := by
  intro m
  induction m with
  | zero =>
    intro i hi
    have hi : i = (p.1).length := by omega
    subst hi
    refine .sge 5 [0, 5, 6, 27, 28, 29] (G109 29 [false]) ?_
    refine .if' (decide ((↑p.fst.length : Int) < (↑p.fst.length : Int))) (G109 30 [false, true]) (G109 30 [false, false]) (fun h1 => ?_) (fun h1 => ?_)
    · simp only [bsX] at h1
      omega
    · simp only [bsX] at h1
      refine .sge 1 [] (cgo 31 [false, false] [.code B109]) ?_
      refine .rt F109 (V.tuple []) ?_
      exact ⟨rfl, by kernel_rfl⟩
  | succ m ih =>
    intro i hi
    obtain ⟨x, hx⟩ := get_some (l := p.1) (i := i) (by omega)
    obtain ⟨v, hy⟩ := get_some (l := p.2) (i := i) (by omega)
    have hYi := body35b d dir keep p ws n fs hr hl hv hn i x v hx hy
    refine .sge 5 [0, 5, 6, 27, 28, 29] (G109 29 [false]) ?_
    refine .if' (decide ((↑i : Int) < (↑p.fst.length : Int))) (G109 30 [false, true]) (G109 30 [false, false]) (fun h1 => ?_) (fun h1 => ?_)
    · simp only [bsX] at h1
      refine .sge 9 [0, 5, 6, 7, 27, 28, 29, 30] (G109 39 [false, true]) ?_
      refine .dr (G109 40 [false, true]) [(31, .yield 24), (32, .d (.list 1 (map strD p.fst))), (33, .d (.int .i64 (↑i : Int))), (34, .ep 1 (D.str x) 0), (35, .d (.str x)), (36, .d (.list 1 (map intD p.snd))), (37, .d (.int .i64 (↑i : Int))), (38, .ep 1 (D.int IntKind.i64 v) 0), (39, .d (.int .i64 v)), (40, .d (.bool true)), (41, .d (.bool false))] [(21, .row 1 (map strD (List.take (i + 1) p.fst)) true), (22, .row 1 (map intD (List.take (i + 1) (nums (bitsHas ws) p.snd))) true)] (fun kz L hL => ?_) ?_
      · refine ⟨[fO 24, nF, nF, nF, nF, nF, nF, nF, nF, ⟨[], [], [], [], [], [], false, true⟩, nF], run_amongF hL _ [] [0, 1, 2, 3, 4, 5, 6, 7, 8, 9, 10] (by intro p hp; cases hp) (by kernel_rfl) ?_⟩
        refine Run.ap [0, 1, 2] [(31, .yield 24), (32, .d (.list 1 (map strD p.fst))), (33, .d (.int .i64 (↑i : Int)))] [] ?_
        refine Run.lk 3 (.ep 1 (D.str x) 0) [(.tmp 32), (.tmp 33)] (fun tm' σ2 hv hr => ixData_ok (t := 66) (x := (.tmp 32)) (i := (.tmp 33)) (k := IntKind.i64) (n := (↑i : Int)) (sz := 1) (xs := map strD p.fst) (d := strD x) (by kernel_rfl) (evl hv) (evv hv) (by kernel_rfl) (by omega) (map_get hx)) ?_
        refine Run.ap [4, 5, 6] [(35, .d (.str x)), (36, .d (.list 1 (map intD p.snd))), (37, .d (.int .i64 (↑i : Int)))] [] ?_
        refine Run.lk 7 (.ep 1 (D.int IntKind.i64 v) 0) [(.tmp 36), (.tmp 37)] (fun tm' σ2 hv hr => ixData_ok (t := 46) (x := (.tmp 36)) (i := (.tmp 37)) (k := IntKind.i64) (n := (↑i : Int)) (sz := 1) (xs := map intD p.snd) (d := intD v) (by kernel_rfl) (evl hv) (evv hv) (by kernel_rfl) (by omega) (map_get hy)) ?_
        refine Run.ap [8] [(39, .d (.int .i64 v))] [] ?_
        refine Run.yi 9 (cgo 88 [false, false, false] [.code B35]) hYi ?_
        exact Run.fin
      refine .sg0 7 [0, 5, 6, 27, 28] (cgo 47 [false, true, false] [.code B109]) [(28, .d (.int .i64 (IntKind.i64.wrap ((↑i : Int) + 1))))] ?_
      simp (disch := omega) only [bsW]
      exact .seg 1 [0, 5, 6, 27, 28] (by kernel_rfl) (ih (i + 1) (by omega))
    · simp only [bsX] at h1
      omega
theorem it35b (d : Dk) (dir : Int) (keep : List Int) (p : List ByteArray × List Int) (ws : List (BitVec 64)) (n : Nat) (fs : List (List UInt8 × Nat)) (hr : Rising p.1) (hl : p.1.length < 60000) (hv : p.2.length = p.1.length) (hn : ∀ v ∈ p.2, 0 ≤ v ∧ v < n ∧ bitsHas ws v.toNat = true) : CallsA Try.prog 109 [.yield 24, .ptr 19 0 0, .ptr 20 0 0] (S35b d dir keep p ws n fs 0 .ready) fun r σ' => r = .ret (.tuple []) ∧ σ' = S35b d dir keep p ws n fs (p.1).length .ready := by
 refine CallsA.start F109 (tm := mk (Try.f109.ntmps) [(0, .yield 24), (1, .ptr 19 0 0), (2, .ptr 20 0 0)]) (by kernel_rfl) ?_
 refine .sg0 11 [0, 1, 2, 10] (G109 11 [false]) [(10, .fn (Fn.func 98) [] [])] ?_
 refine .cd (G109 12 [false]) F98 (@spec_98) ?_
 refine .sg0 3 [0, 1, 4] (G109 15 [false]) [(4, .d (.int .i64 0))] ?_
 refine .dr (G109 16 [false]) [(5, .d (.list 1 (List.take ((map strD p.fst).length - 0) (List.drop 0 (map strD p.fst))))), (6, .d (.list 1 (List.take ((map intD p.snd).length - 0) (List.drop 0 (map intD p.snd))))), (12, .ptr 8 0 0), (13, .ptr 8 0 0), (14, .ptr 8 0 0), (15, .row 9), (16, .d (.int .i64 0)), (17, .sl 9 0 ((map strD p.fst).length - 0) none), (18, .d (.list 1 (List.take ((map strD p.fst).length - 0) (List.drop 0 (map strD p.fst))))), (19, .ptr 8 0 0), (20, .ptr 8 0 0), (21, .ptr 8 0 1), (22, .row 10), (23, .d (.int .i64 0)), (24, .sl 10 0 ((map intD p.snd).length - 0) none), (25, .d (.list 1 (List.take ((map intD p.snd).length - 0) (List.drop 0 (map intD p.snd)))))] [] (fun kz L hL => ?_) ?_
 · refine ⟨[fB 19 8, fA 8, fA 8, fX [8] [] [] [9] [8, 9, 10], nF, fX [9] [] [] [9] [9], fX [9] [9] [] [] [9], fB 19 8, fA 8, fA 8, fX [8] [] [] [10] [8, 9, 10], nF, fX [10] [] [] [10] [10], fR 10, nF, nF], run_amongF hL _ [] [0, 1, 2, 3, 4, 5, 7, 8, 9, 10, 11, 12, 6, 13, 14, 15] (by intro p hp; cases hp) (by kernel_rfl) ?_⟩
   refine Run.ap [0, 1, 2, 3, 4] [(12, .ptr 8 0 0), (13, .ptr 8 0 0), (14, .ptr 8 0 0), (15, .row 9), (16, .d (.int .i64 0))] [] ?_
   refine Run.lk 5 (.sl 9 0 ((map strD p.fst).length - 0) none) [(.tmp 15), (.tmp 16)] (fun tm' σ2 hv hr => slRow_ok (t := 66) (x := (.tmp 15)) (lo := (some (.tmp 16))) (hi := none) (lc := 9) (sz := 1) (xs := map strD p.fst) (mv := true) (0) ((map strD p.fst).length) (by kernel_rfl) (evv hv) (atr hr) (by kernel_rfl) (bnd_some (k := IntKind.i64) (i := 0) (evv hv) (by omega) (by rfl)) rfl (by omega) (by omega)) ?_
   refine Run.ap [7, 8, 9, 10, 11] [(19, .ptr 8 0 0), (20, .ptr 8 0 0), (21, .ptr 8 0 1), (22, .row 10), (23, .d (.int .i64 0))] [] ?_
   refine Run.lk 12 (.sl 10 0 ((map intD p.snd).length - 0) none) [(.tmp 22), (.tmp 23)] (fun tm' σ2 hv hr => slRow_ok (t := 46) (x := (.tmp 22)) (lo := (some (.tmp 23))) (hi := none) (lc := 10) (sz := 1) (xs := map intD p.snd) (mv := true) (0) ((map intD p.snd).length) (by kernel_rfl) (evv hv) (atr hr) (by kernel_rfl) (bnd_some (k := IntKind.i64) (i := 0) (evv hv) (by omega) (by rfl)) rfl (by omega) (by omega)) ?_
   refine Run.cl 6 [9] F110 (@spec_110b (map strD p.fst) (0) ((map strD p.fst).length - 0) (none) (by omega) (by simp <;> omega)) ?_
   refine Run.cll 13 [10] F111 (@spec_111b (map intD p.snd) (0) ((map intD p.snd).length - 0) (none) (by omega) (by simp <;> omega)) ?_
   exact Run.fin
 refine .seg 7 [0, 5, 6, 27, 28] (T' := cgo 23 [false] [.code B109]) (tm' := mk 43 [(0, .yield 24), (5, .d (.list 1 (List.take ((map strD p.fst).length - 0) (List.drop 0 (map strD p.fst))))), (6, .d (.list 1 (List.take ((map intD p.snd).length - 0) (List.drop 0 (map intD p.snd))))), (27, .d (.int .i64 (↑(List.take ((map strD p.fst).length - 0) (List.drop 0 (map strD p.fst))).length : Int))), (28, .d (.int .i64 0))]) (σ' := (SP 17 18 d false [.cells [.ptr 0 0 0], .cells [.d (.int .i64 dir), .d (.list 1 (map intD keep))], .cells [.row 9, .row 10], .row 1 (map strD p.fst) true, .row 1 (map intD p.snd) true, .map (numE (bitsHas ws) n), .cells [.map 11], .cells [.row 15], .cells [.ptr 13 0 0], .row 1 (map w64 ws) true, .defd, .row 2 (map fileD fs) true, .cells [.row 21, .row 22], .cells [.ptr 8 0 0], .cells [.fn (Fn.func 98) [] []], .row 1 [] true, .row 1 [] true, .defd, lp (G35 88 [false, false, false]) 35 (mk 133 [(2, .ptr 6 0 0), (7, .ptr 12 0 0), (101, .fn (Fn.func 109) [] [.ptr 19 0 0, .ptr 20 0 0])]) LoopState.ready])) (by kernel_rfl) ?_
 simp only [List.length_map]
 rw [eachL (p.1) strD, eachL (p.2) intD, List.length_map]
 exact .seg 1 [0, 5, 6, 27, 28] (by kernel_rfl) (lo35b d dir keep p ws n fs hr hl hv hn (p.1).length 0 (by omega))
def qF1 : List FP := [fB 6 0, fB 6 0, fB 6 0, fA 0, fA 0, fX [0] [] [] [8] [0, 7, 8, 5], ⟨[], [], [], [], [], [], false, true⟩, fA 0, fA 0, fX [0] [0] [] [7, 8, 13, 5] [0, 13, 7, 8, 5], fA 0, fA 0, fX [0] [0] [] [7, 8, 13] [0, 7, 8, 13, 5]]
def qF2 : List FP := [fB 6 0, fB 6 0, fO 17, nF, ⟨[], [], [], [], [], [], false, true⟩, fA 0, fA 0, fX [0] [0] [] [17, 2, 5] [0, 17, 1, 2, 5], fA 0, fA 0, fX [0] [0] [] [17, 18, 5] [0, 18, 17, 2, 5]]
def SE (d : Dk) (nk : List ByteArray) (nv : List Int) (fs : List (List UInt8 × Nat)) : Store :=
  [.cells [.row 7, .ptr 8 0 0, .ep 2 (dirD d.sk d.sv) 0, .row 5, .d (.int .i64 d.quota), .d (.bool d.full), .d (.bool d.off), .d (.int .i64 d.stop), .d (.int .i64 d.calls)], .row 2 (d.files.map fileD) false, .cells [.row 3, .row 4], .row 1 (d.nk.map strD) false, .row 1 (d.nv.map intD) false, .row 3 (d.ch.map chD) false,
    .cells [.ptr 0 0 0], .row 2 (fs.map fileD) true, .cells [.row 9, .row 10], .row 1 (nk.map strD) true, .row 1 (nv.map intD) true, .defd, .defd]
def SDc (d0 d : Dk) : Store := [.cells [.row 1, .ptr 6 0 0, .ep 2 (dirD d.sk d.sv) 0, .row 5, .d (.int .i64 d.quota), .d (.bool d.full), .d (.bool d.off), .d (.int .i64 d.stop), .d (.int .i64 d.calls)],
  .row 2 (d.files.map fileD) true, .cells [.row 3, .row 4], .row 1 (d0.nk.map strD) false, .row 1 (d0.nv.map intD) false, .row 3 (d.ch.map chD) true, .cells [.row 7, .row 8], .row 1 (d.nk.map strD) true, .row 1 (d.nv.map intD) true]
theorem stE (d : Dk) (nk : List ByteArray) (nv : List Int) (fs : List (List UInt8 × Nat)) (hr : Rising nk) (hl : nk.length < 60000) (hv : nv.length = nk.length) :
    AW Try.prog 35 none 6 (G35 89 [false, false, false]) (mk 133 [(2, .ptr 6 0 0)]) (SE d nk nv fs) [12, 11] fun r σ' => r = .ret (.tuple []) ∧ σ' = SDc d { d with files := fs, nk := nk, nv := nv, sk := nk, sv := nv, ch := [], off := false, stop := -1, full := false } := by
  refine .sg0 2 [2] (G35 91 [false, false, false]) [] ?_
  refine .dr (G35 92 [false, false, false]) [(113, .ptr 0 0 0), (114, .ptr 0 0 0), (115, .ptr 0 0 0), (116, .ptr 0 0 0), (117, .ptr 0 0 1), (118, .ptr 8 0 0), (119, .ptr 13 0 0), (120, .ptr 0 0 0), (121, .ptr 0 0 2), (122, .ptr 0 0 0), (123, .ptr 0 0 3)] [(0, .cells [.row 7, .ptr 8 0 0, .ptr 13 0 0, .ex 3 [], .d (.int .i64 d.quota), .d (.bool d.full), .d (.bool d.off), .d (.int .i64 d.stop), .d (.int .i64 d.calls)]), (13, .cells [.row 14, .row 15]), (14, .row 1 (map strD nk) true), (15, .row 1 (map intD nv) true)] (fun kz L hL => ?_) ?_
  · rcases ahead_or' hL 0 6 (by kernel_rfl) with o4 | o4
    · rcases ahead_or' hL 1 6 (by kernel_rfl) with o6 | o6
      · refine ⟨qF1, run_amongF hL _ [(0, 6), (1, 6)] [0, 1, 2, 3, 4, 5, 6, 7, 8, 9, 10, 11, 12] (by simp [o4, o6]) (by kernel_rfl) ?_⟩
        refine Run.ap [0, 1, 2, 3, 4, 5] [(113, .ptr 0 0 0), (114, .ptr 0 0 0), (115, .ptr 0 0 0), (116, .ptr 0 0 0), (117, .ptr 0 0 1), (118, .ptr 8 0 0)] [] ?_
        refine Run.cn 6 [8, 9, 10] F69 (@spec_69 (nk) (nv) (by assumption) (by assumption) (by assumption)) ?_
        exact Run.fin
      · refine ⟨qF1, run_amongF hL _ [(0, 6), (6, 1)] [0, 2, 3, 4, 5, 6, 1, 7, 8, 9, 10, 11, 12] (by simp [o4, o6]) (by kernel_rfl) ?_⟩
        refine Run.ap [0, 2, 3, 4, 5] [(113, .ptr 0 0 0), (115, .ptr 0 0 0), (116, .ptr 0 0 0), (117, .ptr 0 0 1), (118, .ptr 8 0 0)] [] ?_
        refine Run.cn 6 [8, 9, 10] F69 (@spec_69 (nk) (nv) (by assumption) (by assumption) (by assumption)) ?_
        exact Run.fin
    · rcases ahead_or' hL 1 6 (by kernel_rfl) with o10 | o10
      · refine ⟨qF1, run_amongF hL _ [(6, 0), (1, 6)] [1, 2, 3, 4, 5, 6, 0, 7, 8, 9, 10, 11, 12] (by simp [o4, o10]) (by kernel_rfl) ?_⟩
        refine Run.ap [1, 2, 3, 4, 5] [(114, .ptr 0 0 0), (115, .ptr 0 0 0), (116, .ptr 0 0 0), (117, .ptr 0 0 1), (118, .ptr 8 0 0)] [] ?_
        refine Run.cn 6 [8, 9, 10] F69 (@spec_69 (nk) (nv) (by assumption) (by assumption) (by assumption)) ?_
        exact Run.fin
      · refine ⟨qF1, run_amongF hL _ [(6, 0), (6, 1)] [2, 3, 4, 5, 6, 0, 1, 7, 8, 9, 10, 11, 12] (by simp [o4, o10]) (by kernel_rfl) ?_⟩
        refine Run.ap [2, 3, 4, 5] [(115, .ptr 0 0 0), (116, .ptr 0 0 0), (117, .ptr 0 0 1), (118, .ptr 8 0 0)] [] ?_
        refine Run.cn 6 [8, 9, 10] F69 (@spec_69 (nk) (nv) (by assumption) (by assumption) (by assumption)) ?_
        exact Run.fin
  refine .dr (G35 93 [false, false, false]) [(124, .ptr 0 0 0), (125, .ptr 0 0 0), (126, .ptr 0 0 0), (127, .ptr 0 0 0), (128, .ptr 0 0 6), (129, .ptr 0 0 0), (130, .ptr 0 0 7), (131, .ptr 0 0 0), (132, .ptr 0 0 5)] [(0, .cells [.row 7, .ptr 8 0 0, .ptr 13 0 0, .ex 3 [], .d (.int .i64 d.quota), .d (.bool false), .d (.bool false), .d (.int .i64 (-1)), .d (.int .i64 d.calls)])] (fun kz L hL => ?_) ?_
  · refine ⟨[fB 6 0, fB 6 0, fB 6 0, fA 0, fA 0, fX [0] [0] [] [7, 8, 13] [0, 7, 8, 13], fA 0, fA 0, fX [0] [0] [] [7, 8, 13] [0, 7, 8, 13], fA 0, fA 0, fX [0] [0] [] [7, 8, 13] [0, 7, 8, 13]], run_amongF hL _ [] [0, 1, 2, 3, 4, 5, 6, 7, 8, 9, 10, 11] (by intro p hp; cases hp) (by kernel_rfl) ?_⟩
    exact Run.fin
  refine .freeze 14 (sz := 1) (xs := map strD nk) (mv := true) (by kernel_rfl) ?_
  refine .freeze 15 (sz := 1) (xs := map intD nv) (mv := true) (by kernel_rfl) ?_
  refine .freezeC 13 (cs0 := [.d (.list 1 (map strD nk)), .d (.list 1 (map intD nv))]) (ds := [D.list 1 (map strD nk), D.list 1 (map intD nv)]) (by kernel_rfl) (by kernel_rfl) ?_
  refine .virtX 0 3 3 rfl rfl ?_
  refine .raises [16] ?_
  refine .kp [] ?_
  refine .subM [0, 7, 2, 3, 4, 16, 8, 9, 10, 11, 12] (mk 133 []) (SDc d { d with files := fs, nk := nk, nv := nv, sk := nk, sv := nv, ch := [], off := false, stop := -1, full := false } ++ [.defd, .defd]) none [10, 9] ⟨rfl, by kernel_rfl, by kernel_rfl⟩ (by kernel_rfl) ⟨Nat.le_of_ble_eq_true (by kernel_rfl), by kernel_rfl⟩ (by kernel_rfl) ⟨by kernel_rfl, by kernel_rfl⟩ ⟨rfl, rfl⟩ ?_
  refine .retX (v := V.tuple []) [0, 1, 2, 3, 4, 5, 6, 7, 8] (V.tuple []) F35 (by kernel_rfl) ⟨by kernel_rfl, by kernel_rfl⟩ (σ1 := SDc d { d with files := fs, nk := nk, nv := nv, sk := nk, sv := nv, ch := [], off := false, stop := -1, full := false } ++ [.dead, .dead]) (by kernel_rfl) (by kernel_rfl) (σ2 := SDc d { d with files := fs, nk := nk, nv := nv, sk := nk, sv := nv, ch := [], off := false, stop := -1, full := false }) ⟨rfl, rfl, by kernel_rfl⟩ (by kernel_rfl) ⟨Nat.le_of_ble_eq_true (by kernel_rfl), by kernel_rfl⟩ (by kernel_rfl) ?_
  exact ⟨rfl, rfl⟩
theorem stD (d : Dk) (dir : Int) (keep : List Int) (p : List ByteArray × List Int) (ws : List (BitVec 64)) (n : Nat) (fs : List (List UInt8 × Nat)) (hr : Rising p.1) (hl : p.1.length < 60000) (hv : p.2.length = p.1.length) (hn : ∀ v ∈ p.2, 0 ≤ v ∧ v < n ∧ bitsHas ws v.toNat = true) (Q : AE → Store → Prop)
    (hnext : AW Try.prog 35 none 6 (G35 89 [false, false, false]) (mk 133 [(2, .ptr 6 0 0)]) (SE d p.1 (nums (bitsHas ws) p.2) fs) [12, 11] Q) :
    AW Try.prog 35 none 6 (G35 79 [false, false, false]) (mk 133 [(2, .ptr 6 0 0), (4, .ptr 8 0 0), (7, .ptr 12 0 0), (11, .row 17)]) (SC d dir keep p ws (numE (bitsHas ws) n) fs) [16] Q := by
  refine .sg0 1 [2, 4, 7, 11] (G35 80 [false, false, false]) [] ?_
  refine .dr (G35 81 [false, false, false]) [(91, .ptr 0 0 0), (92, .ptr 0 0 0), (93, .row 17), (94, .agg [.ex 1 [], .ex 1 []]), (95, .ptr 18 0 0), (96, .ptr 0 0 0), (97, .ptr 0 0 0), (98, .ptr 0 0 0), (99, .ptr 0 0 1)] [(0, .cells (hC 17 18 5 d)), (18, .cells [.ex 1 [], .ex 1 []])] (fun kz L hL => ?_) ?_
  · rcases ahead_or' hL 0 4 (by kernel_rfl) with o1 | o1
    · rcases ahead_or' hL 1 4 (by kernel_rfl) with o2 | o2
      · rcases ahead_or' hL 2 4 (by kernel_rfl) with o3 | o3
        · rcases ahead_or' hL 4 5 (by kernel_rfl) with o4 | o4
          · refine ⟨qF2, run_amongF hL _ [(0, 4), (1, 4), (2, 4), (4, 5)] [0, 1, 2, 3, 4, 5, 6, 7, 8, 9, 10] (by simp [o1, o2, o3, o4]) (by kernel_rfl) ?_⟩
            refine Run.ap [0, 1, 2, 3] [(91, .ptr 0 0 0), (92, .ptr 0 0 0), (93, .row 17), (94, .agg [.ex 1 [], .ex 1 []])] [] ?_
            refine Run.mo 4 ?_
            exact Run.fin
          · rcases ahead_or' hL 4 6 (by kernel_rfl) with o5 | o5
            · refine ⟨qF2, run_amongF hL _ [(0, 4), (1, 4), (2, 4), (5, 4), (4, 6)] [0, 1, 2, 3, 5, 4, 6, 7, 8, 9, 10] (by simp [o1, o2, o3, o4, o5]) (by kernel_rfl) ?_⟩
              refine Run.ap [0, 1, 2, 3, 5] [(91, .ptr 0 0 0), (92, .ptr 0 0 0), (93, .row 17), (94, .agg [.ex 1 [], .ex 1 []]), (96, .ptr 0 0 0)] [] ?_
              refine Run.mo 4 ?_
              exact Run.fin
            · rcases ahead_or' hL 4 7 (by kernel_rfl) with o6 | o6
              · refine ⟨qF2, run_amongF hL _ [(0, 4), (1, 4), (2, 4), (5, 4), (6, 4), (4, 7)] [0, 1, 2, 3, 5, 6, 4, 7, 8, 9, 10] (by simp [o1, o2, o3, o4, o5, o6]) (by kernel_rfl) ?_⟩
                refine Run.ap [0, 1, 2, 3, 5, 6] [(91, .ptr 0 0 0), (92, .ptr 0 0 0), (93, .row 17), (94, .agg [.ex 1 [], .ex 1 []]), (96, .ptr 0 0 0), (97, .ptr 0 0 0)] [] ?_
                refine Run.mo 4 ?_
                exact Run.fin
              · refine ⟨qF2, run_amongF hL _ [(0, 4), (1, 4), (2, 4), (5, 4), (6, 4), (7, 4)] [0, 1, 2, 3, 5, 6, 7, 4, 8, 9, 10] (by simp [o1, o2, o3, o4, o5, o6]) (by kernel_rfl) ?_⟩
                refine Run.ap [0, 1, 2, 3, 5, 6, 7] [(91, .ptr 0 0 0), (92, .ptr 0 0 0), (93, .row 17), (94, .agg [.ex 1 [], .ex 1 []]), (96, .ptr 0 0 0), (97, .ptr 0 0 0)] [(0, .cells (hC 17 2 5 d))] ?_
                refine Run.mo 4 ?_
                exact Run.fin
        · refine ⟨qF2, run_amongF hL _ [(0, 4), (1, 4), (4, 2)] [0, 1, 3, 4, 2, 5, 6, 7, 8, 9, 10] (by simp [o1, o2, o3]) (by kernel_rfl) ?_⟩
          refine Run.ap [0, 1, 3] [(91, .ptr 0 0 0), (92, .ptr 0 0 0), (94, .agg [.ex 1 [], .ex 1 []])] [] ?_
          refine Run.mo 4 ?_
          exact Run.fin
      · rcases ahead_or' hL 2 4 (by kernel_rfl) with o7 | o7
        · rcases ahead_or' hL 4 5 (by kernel_rfl) with o8 | o8
          · refine ⟨qF2, run_amongF hL _ [(0, 4), (4, 1), (2, 4), (4, 5)] [0, 2, 3, 4, 1, 5, 6, 7, 8, 9, 10] (by simp [o1, o2, o7, o8]) (by kernel_rfl) ?_⟩
            refine Run.ap [0, 2, 3] [(91, .ptr 0 0 0), (93, .row 17), (94, .agg [.ex 1 [], .ex 1 []])] [] ?_
            refine Run.mo 4 ?_
            exact Run.fin
          · rcases ahead_or' hL 4 6 (by kernel_rfl) with o9 | o9
            · refine ⟨qF2, run_amongF hL _ [(0, 4), (4, 1), (2, 4), (5, 4), (4, 6)] [0, 2, 3, 5, 4, 1, 6, 7, 8, 9, 10] (by simp [o1, o2, o7, o8, o9]) (by kernel_rfl) ?_⟩
              refine Run.ap [0, 2, 3, 5] [(91, .ptr 0 0 0), (93, .row 17), (94, .agg [.ex 1 [], .ex 1 []]), (96, .ptr 0 0 0)] [] ?_
              refine Run.mo 4 ?_
              exact Run.fin
            · rcases ahead_or' hL 4 7 (by kernel_rfl) with o10 | o10
              · refine ⟨qF2, run_amongF hL _ [(0, 4), (4, 1), (2, 4), (5, 4), (6, 4), (4, 7)] [0, 2, 3, 5, 6, 4, 1, 7, 8, 9, 10] (by simp [o1, o2, o7, o8, o9, o10]) (by kernel_rfl) ?_⟩
                refine Run.ap [0, 2, 3, 5, 6] [(91, .ptr 0 0 0), (93, .row 17), (94, .agg [.ex 1 [], .ex 1 []]), (96, .ptr 0 0 0), (97, .ptr 0 0 0)] [] ?_
                refine Run.mo 4 ?_
                exact Run.fin
              · refine ⟨qF2, run_amongF hL _ [(0, 4), (4, 1), (2, 4), (5, 4), (6, 4), (7, 4)] [0, 2, 3, 5, 6, 7, 4, 1, 8, 9, 10] (by simp [o1, o2, o7, o8, o9, o10]) (by kernel_rfl) ?_⟩
                refine Run.ap [0, 2, 3, 5, 6, 7] [(91, .ptr 0 0 0), (93, .row 17), (94, .agg [.ex 1 [], .ex 1 []]), (96, .ptr 0 0 0), (97, .ptr 0 0 0)] [(0, .cells (hC 17 2 5 d))] ?_
                refine Run.mo 4 ?_
                exact Run.fin
        · refine ⟨qF2, run_amongF hL _ [(0, 4), (4, 1), (4, 2)] [0, 3, 4, 1, 2, 5, 6, 7, 8, 9, 10] (by simp [o1, o2, o7]) (by kernel_rfl) ?_⟩
          refine Run.ap [0, 3] [(91, .ptr 0 0 0), (94, .agg [.ex 1 [], .ex 1 []])] [] ?_
          refine Run.mo 4 ?_
          exact Run.fin
    · rcases ahead_or' hL 1 4 (by kernel_rfl) with o11 | o11
      · rcases ahead_or' hL 2 4 (by kernel_rfl) with o12 | o12
        · refine ⟨qF2, run_amongF hL _ [(4, 0), (1, 4), (2, 4)] [1, 2, 3, 4, 0, 5, 6, 7, 8, 9, 10] (by simp [o1, o11, o12]) (by kernel_rfl) ?_⟩
          refine Run.ap [1, 2, 3] [(92, .ptr 0 0 0), (93, .row 17), (94, .agg [.ex 1 [], .ex 1 []])] [] ?_
          refine Run.mo 4 ?_
          exact Run.fin
        · refine ⟨qF2, run_amongF hL _ [(4, 0), (1, 4), (4, 2)] [1, 3, 4, 0, 2, 5, 6, 7, 8, 9, 10] (by simp [o1, o11, o12]) (by kernel_rfl) ?_⟩
          refine Run.ap [1, 3] [(92, .ptr 0 0 0), (94, .agg [.ex 1 [], .ex 1 []])] [] ?_
          refine Run.mo 4 ?_
          exact Run.fin
      · rcases ahead_or' hL 2 4 (by kernel_rfl) with o13 | o13
        · refine ⟨qF2, run_amongF hL _ [(4, 0), (4, 1), (2, 4)] [2, 3, 4, 0, 1, 5, 6, 7, 8, 9, 10] (by simp [o1, o11, o13]) (by kernel_rfl) ?_⟩
          refine Run.ap [2, 3] [(93, .row 17), (94, .agg [.ex 1 [], .ex 1 []])] [] ?_
          refine Run.mo 4 ?_
          exact Run.fin
        · refine ⟨qF2, run_amongF hL _ [(4, 0), (4, 1), (4, 2)] [3, 4, 0, 1, 2, 5, 6, 7, 8, 9, 10] (by simp [o1, o11, o13]) (by kernel_rfl) ?_⟩
          refine Run.ap [3] [(94, .agg [.ex 1 [], .ex 1 []])] [] ?_
          refine Run.mo 4 ?_
          exact Run.fin
  refine .sg0 4 [2, 4, 7, 100] (G35 85 [false, false, false]) [(100, .ptr 8 0 0)] ?_
  refine .ca [8, 9, 10] (G35 86 [false, false, false]) F72 (@spec_72 (map strD p.fst) (map intD p.snd)) ?_
  rintro r13 s13 ⟨rfl, rfl⟩
  refine ⟨_, rfl, ?_⟩
  refine .seg 2 [2, 7, 101] (T' := cgo 88 [false, false, false] [.code B35]) (tm' := mk 133 [(2, .ptr 6 0 0), (7, .ptr 12 0 0), (101, .fn (Fn.func 109) [] [.ptr 19 0 0, .ptr 20 0 0])]) (σ' := (SP 17 18 d false [.cells [.ptr 0 0 0], .cells [.d (.int .i64 dir), .d (.list 1 (map intD keep))], .cells [.row 9, .row 10], .row 1 (map strD p.fst) true, .row 1 (map intD p.snd) true, .map (numE (bitsHas ws) n), .cells [.map 11], .cells [.row 15], .cells [.ptr 13 0 0], .row 1 (map w64 ws) true, .defd, .row 2 (map fileD fs) true, .cells [.ex 1 [], .ex 1 []], .cells [.ptr 8 0 0], .cells [.fn (Fn.func 98) [] []]])) (by kernel_rfl) ?_
  refine .virtX 18 0 1 rfl rfl ?_
  refine .virtX 18 1 1 rfl rfl ?_
  refine .raises [21, 22] ?_
  refine .rangeH (first := []) (cap := [.ptr 19 0 0, .ptr 20 0 0]) (List.range 25) [.yield 24, .ptr 19 0 0, .ptr 20 0 0] (S35b d dir keep p ws n fs 0 .ready) F109 (by kernel_rfl) (T' := cgo 89 [false, false, false] [Item.code B35]) (by kernel_rfl) (by kernel_rfl) (it35b d dir keep p ws n fs hr hl hv hn) (by kernel_rfl) (by kernel_rfl) (by refine ⟨rfl, by kernel_rfl, ?_⟩; kernel_rfl) ?_
  rintro r σc' ⟨rfl, rfl⟩
  refine ⟨.tuple [], .ready, (mk 133 [(2, V.ptr 6 0 0), (7, V.ptr 12 0 0), (101, V.fn (Fn.func 109) [] [V.ptr 19 0 0, V.ptr 20 0 0])]), rfPs (G35 88 [false, false, false]), rfAs (G35 88 [false, false, false]), rfBd (G35 88 [false, false, false]), 35, rfl, by simp, by kernel_rfl, ?_⟩
  have e1 : p.1.take p.1.length = p.1 := List.take_length
  have e2 : (nums (bitsHas ws) p.2).take p.1.length = nums (bitsHas ws) p.2 := by rw [← hv]; unfold nums; rw [List.take_of_length_le (by simp)]
  rw [show SE d p.1 (nums (bitsHas ws) p.2) fs = SE d (p.1.take p.1.length) ((nums (bitsHas ws) p.2).take p.1.length) fs by rw [e1, e2]] at hnext
  refine .kp [2] ?_
  exact .sub [0, 1, 2, 3, 4, 5, 6, 17, 18, 21, 22, 16, 23] (mk 133 [(2, .ptr 6 0 0)]) (SE d (p.1.take p.1.length) ((nums (bitsHas ws) p.2).take p.1.length) fs) none [12, 11] ⟨rfl, by kernel_rfl, by kernel_rfl⟩ (by kernel_rfl) ⟨Nat.le_of_ble_eq_true (by kernel_rfl), by kernel_rfl⟩ (by kernel_rfl) ⟨by kernel_rfl, by kernel_rfl⟩ ⟨rfl, rfl⟩ hnext
theorem stC (d : Dk) (N : Nat) (h : d.Ok N) (dir : Int) (keep : List Int) (hk : keep.length < 1000000000) (hkv : ∀ v ∈ keep, -9223372036854775808 ≤ v ∧ v < 9223372036854775808) (p : List ByteArray × List Int) (ws : List (BitVec 64)) (hw : ws.length < 1000000000) (Q : AE → Store → Prop)
  (hnext : AW Try.prog 35 none 6 (G35 79 [false, false, false]) (mk 133 [(2, .ptr 6 0 0), (4, .ptr 8 0 0), (7, .ptr 12 0 0), (11, .row 17)]) (SC d dir keep p ws (numE (bitsHas ws) d.files.length) (kept (bitsHas ws) keep 0 d.files)) [16] Q) :
  AW Try.prog 35 none 6 (G35 55 [false, false]) (mk 133 [(2, .ptr 6 0 0), (3, .ptr 7 0 0), (4, .ptr 8 0 0), (7, .ptr 12 0 0), (8, .ptr 14 0 0)]) (SB d dir keep p ws []) [16] Q := by
 refine .seg 16 [2, 3, 4, 7, 8, 11, 60, 61, 62] (T' := cgo 71 [false, false] [.code B35]) (tm' := mk 133 [(2, .ptr 6 0 0), (3, .ptr 7 0 0), (4, .ptr 8 0 0), (7, .ptr 12 0 0), (8, .ptr 14 0 0), (11, .nils), (60, .row 1), (61, .d (.int .i64 (↑(map fileD d.files).length : Int))), (62, .d (.int .i64 0))]) (σ' := (SP 1 2 d false [.cells [.ptr 0 0 0], .cells [.d (.int .i64 dir), .d (.list 1 (map intD keep))], .cells [.row 9, .row 10], .row 1 (map strD p.fst) true, .row 1 (map intD p.snd) true, .map [], .cells [.map 11], .cells [.row 15], .cells [.ptr 13 0 0], .row 1 (map w64 ws) true, .defd])) (by kernel_rfl) ?_
 simp only [List.length_map]
 refine .virtT 11 2 (by kernel_rfl) ?_
 refine .raises [17] ?_
 exact .seg 1 [2, 3, 4, 7, 8, 11, 60, 61, 62] (by kernel_rfl) (loC d N h dir keep hk hkv p ws hw Q hnext d.files.length 0 (by omega))
theorem spec_35 (d : Dk) (N : Nat) (h : d.Ok N) (dir : Int) (keep : List Int) (hk : keep.length < 1000000000) (hkv : ∀ v ∈ keep, -9223372036854775808 ≤ v ∧ v < 9223372036854775808) :
   CallsA Try.prog 35 [.ptr 0 0 0, .d (.agg [.int .i64 dir, .list 1 (keep.map intD)])] (SD d false) fun r σ' => r = .ret (.tuple []) ∧ σ' = SDc d (d.crash dir keep) := by
 refine CallsA.start F35 (tm := mk (Try.f35.ntmps) [(0, .ptr 0 0 0), (1, .d (.agg [.int .i64 dir, .list 1 (keep.map intD)]))]) (by kernel_rfl) ?_
 have q1 := h.sr
 have q2 := h.sl
 have q3 := h.skl
 have q4 := h.nb
 have q5 := h.fl
 refine .sg 19 [2, 3, 19, 20, 21, 22] (G35 19 [false]) [(2, .ptr 6 0 0), (3, .ptr 7 0 0), (19, .ptr 0 0 0), (20, .ptr 0 0 0), (21, .ptr 0 0 2), (22, .ep 2 (D.agg [D.list 1 (map strD d.sk), D.list 1 (map intD d.sv)]) 0)] [(6, .cells [.ptr 0 0 0]), (7, .cells [.d (.int .i64 dir), .d (.list 1 (map intD keep))])] ?_
 refine .ca [] (G35 20 [false]) F69 (@spec_69e (d.sk) (d.sv) (by assumption) (by omega) (by assumption)) ?_
 rintro r0 s0 ⟨rfl, rfl⟩
 refine ⟨_, rfl, ?_⟩
 refine .sg0 4 [2, 3, 4] (G35 24 [false]) [(4, .ptr 8 0 0)] ?_
 refine .dr (G35 25 [false]) [(24, .ptr 0 0 0), (25, .ptr 0 0 0), (26, .ptr 0 0 3), (27, .row 5), (28, .ptr 7 0 0), (29, .d (.int .i64 dir)), (30, .ptr 0 0 0), (31, .ptr 0 0 0), (32, .ptr 0 0 3), (33, .row 5), (34, .d (.int .i64 (↑(map chD d.ch).length : Int))), (35, .d (.int .i64 (if (↑(map chD d.ch).length : Int) < dir then (↑(map chD d.ch).length : Int) else dir))), (36, .d (.int .i64 (if (if (↑(map chD d.ch).length : Int) < dir then (↑(map chD d.ch).length : Int) else dir) > 0 then if (↑(map chD d.ch).length : Int) < dir then (↑(map chD d.ch).length : Int) else dir else 0))), (37, .sl 5 0 ((if (if (↑(map chD d.ch).length : Int) < dir then (↑(map chD d.ch).length : Int) else dir) > 0 then if (↑(map chD d.ch).length : Int) < dir then (↑(map chD d.ch).length : Int) else dir else 0).toNat - 0) none), (38, .d (.int .i64 (↑((if (if (↑(map chD d.ch).length : Int) < dir then (↑(map chD d.ch).length : Int) else dir) > 0 then if (↑(map chD d.ch).length : Int) < dir then (↑(map chD d.ch).length : Int) else dir else 0).toNat - 0) : Int))), (39, .d (.int .i64 0))] [] (fun kz L hL => ?_) ?_
 · refine ⟨[fB 6 0, fA 0, fA 0, fX [0] [] [] [5] [0, 1, 2, 5], fA 7, fR 7, fB 6 0, fA 0, fA 0, fX [0] [] [] [5] [0, 1, 2, 5], fR 5, nF, nF, fX [5] [] [] [5] [5], fR 5, nF], run_amongF hL _ [] [0, 1, 2, 3, 4, 5, 6, 7, 8, 9, 15, 10, 11, 12, 13, 14] (by intro p hp; cases hp) (by kernel_rfl) ?_⟩
   refine Run.ap [0, 1, 2, 3, 4, 5, 6, 7, 8, 9, 15, 10, 11, 12] [(24, .ptr 0 0 0), (25, .ptr 0 0 0), (26, .ptr 0 0 3), (27, .row 5), (28, .ptr 7 0 0), (29, .d (.int .i64 dir)), (30, .ptr 0 0 0), (31, .ptr 0 0 0), (32, .ptr 0 0 3), (33, .row 5), (34, .d (.int .i64 (↑(map chD d.ch).length : Int))), (35, .d (.int .i64 (if (↑(map chD d.ch).length : Int) < dir then (↑(map chD d.ch).length : Int) else dir))), (36, .d (.int .i64 (if (if (↑(map chD d.ch).length : Int) < dir then (↑(map chD d.ch).length : Int) else dir) > 0 then if (↑(map chD d.ch).length : Int) < dir then (↑(map chD d.ch).length : Int) else dir else 0))), (39, .d (.int .i64 0))] [] ?_
   refine Run.lk 13 (.sl 5 0 ((if (if (↑(map chD d.ch).length : Int) < dir then (↑(map chD d.ch).length : Int) else dir) > 0 then if (↑(map chD d.ch).length : Int) < dir then (↑(map chD d.ch).length : Int) else dir else 0).toNat - 0) none) [(.tmp 27), (.tmp 36)] (fun tm' σ2 hv hr => slRow_ok (t := 106) (x := (.tmp 27)) (lo := none) (hi := (some (.tmp 36))) (lc := 5) (sz := 3) (xs := map chD d.ch) (mv := false) (0) ((if (if (↑(map chD d.ch).length : Int) < dir then (↑(map chD d.ch).length : Int) else dir) > 0 then if (↑(map chD d.ch).length : Int) < dir then (↑(map chD d.ch).length : Int) else dir else 0).toNat) (by kernel_rfl) (evv hv) (atr hr) (by kernel_rfl) rfl (bnd_some (k := IntKind.i64) (i := if (if (↑(map chD d.ch).length : Int) < dir then (↑(map chD d.ch).length : Int) else dir) > 0 then if (↑(map chD d.ch).length : Int) < dir then (↑(map chD d.ch).length : Int) else dir else 0) (evv hv) (by omega) (by rfl)) (by omega) (by omega)) ?_
   exact Run.fin
 refine .sg0 1 [2, 3, 4, 37, 38, 39] (G35 26 [false]) [] ?_
 simp only [List.length_map]
 obtain ⟨n1, n2, n3, n4⟩ := Dk.names_ok h dir
 have hb60 : ∀ v ∈ (d.names dir).2, 0 ≤ v ∧ v < 60000 := fun v hv => by have := n3 v hv; omega
 have eK : ((if (if ((d.ch.length : Nat) : Int) < dir then ((d.ch.length : Nat) : Int) else dir) > 0 then if ((d.ch.length : Nat) : Int) < dir then ((d.ch.length : Nat) : Int) else dir else 0).toNat - 0) = (min dir d.ch.length).toNat := by
   split <;> split <;> omega
 rw [eK]
 have hhas : bitsHas (bitsAll (d.names dir).2) = d.has dir := funext fun m => by rw [bitsAll_has _ hb60]; rfl
 refine .seg 1 [2, 3, 4, 37, 38, 39] (by kernel_rfl) (loA d N h dir keep (min dir d.ch.length).toNat (by omega) _ ?_ (min dir d.ch.length).toNat 0 (by omega))
 show AW Try.prog 35 none 6 _ _ (SA d dir keep (d.names dir)) [] _
 refine stB d dir keep (d.names dir) (by omega) n2 hb60 _ ?_
 refine stC d N h dir keep hk hkv (d.names dir) (bitsAll (d.names dir).2) (by have := bitsAll_len _ hb60; omega) _ ?_
 refine stD d dir keep (d.names dir) (bitsAll (d.names dir).2) d.files.length _ n1 (by omega) n2 (fun v hv => ?_) _ ?_
 · have := n3 v hv
   refine ⟨this.1, this.2, ?_⟩
   rw [hhas]
   simp only [Dk.has, decide_eq_true_eq]
   rw [show ((v.toNat : Nat) : Int) = v by omega]; exact hv
 · refine (stE d (d.names dir).1 (nums (bitsHas (bitsAll (d.names dir).2)) (d.names dir).2) _ n1 (by omega) (by simp [nums, n2])).mono ?_
   rintro r σ' ⟨rfl, rfl⟩
   exact ⟨rfl, by rw [hhas]; rfl⟩
end Go.Proofs.Ytoelkgbeefoplaa
