/- Texts of this proof, part 14: CrashD, CrashE, LivesD, DoC, GlueG, TrnC. -/
import Derived.Test.YtoelkgbeefoplaaM13
set_option linter.unusedSimpArgs false
set_option linter.unusedVariables false
set_option linter.constructorNameAsVariable false
namespace Go.Proofs.Ytoelkgbeefoplaa
open Go Go.Br Go.Proofs
open List (map)
def nums (has : Nat → Bool) (l : List Int) : List Int := l.map fun k => (rank has k.toNat : Int)
noncomputable def R35b : List Item := [.code (rfAs (G35 88 [false, false, false])), .beginRound, .code (rfBd (G35 88 [false, false, false]))]
noncomputable def S35b (d : Dk) (dir : Int) (keep : List Int) (p : List ByteArray × List Int) (ws : List (BitVec 64)) (n : Nat) (fs : List (List UInt8 × Nat)) (i : Nat) (st : LoopState) : Store :=
  [.cells [.row 17, .ptr 18 0 0, .ep 2 (dirD d.sk d.sv) 0, .row 5, .d (.int .i64 d.quota), .d (.bool d.full), .d (.bool d.off), .d (.int .i64 d.stop), .d (.int .i64 d.calls)], .row 2 (d.files.map fileD) false, .cells [.row 3, .row 4], .row 1 (d.nk.map strD) false, .row 1 (d.nv.map intD) false, .row 3 (d.ch.map chD) false,
    .cells [.ptr 0 0 0], .cells [.d (.int .i64 dir), .d (.list 1 (keep.map intD))], .cells [.row 9, .row 10], .row 1 (p.1.map strD) true, .row 1 (p.2.map intD) true,
    .map (numE (bitsHas ws) n), .cells [.map 11], .cells [.row 15], .cells [.ptr 13 0 0], .row 1 (ws.map w64) true, .defd, .row 2 (fs.map fileD) true, .cells [.row 21, .row 22], .cells [.ptr 8 0 0], .cells [.fn (.func 98) [] []],
    .row 1 ((p.1.take i).map strD) true, .row 1 (((nums (bitsHas ws) p.2).take i).map intD) true, .defd, lp (G35 88 [false, false, false]) 35 (mk 133 [(2, V.ptr 6 0 0), (7, V.ptr 12 0 0), (101, V.fn (Fn.func 109) [] [V.ptr 19 0 0, V.ptr 20 0 0])]) st]
theorem body35b (d : Dk) (dir : Int) (keep : List Int) (p : List ByteArray × List Int) (ws : List (BitVec 64)) (n : Nat) (fs : List (List UInt8 × Nat)) (hr : Rising p.1) (hl : p.1.length < 60000) (hv : p.2.length = p.1.length) (hn : ∀ v ∈ p.2, 0 ≤ v ∧ v < n ∧ bitsHas ws v.toNat = true) (i : Nat) (x : ByteArray) (v : Int) (hx : p.1[i]? = some x) (hy : p.2[i]? = some v) :
   AW Try.prog 35 (some 24) 25 R35b (mk 133 [(2, V.ptr 6 0 0), (7, V.ptr 12 0 0), (101, V.fn (Fn.func 109) [] [V.ptr 19 0 0, V.ptr 20 0 0]), (102, .d (.str x)), (103, .d (.int .i64 v))]) (S35b d dir keep p ws n fs i .ready) [] fun a σ' => a = .ret (.d (.bool true)) ∧ σ' = S35b d dir keep p ws n fs (i + 1) .ready := by
 refine .at (T' := cgo 0 [] R35b) rfl ?_
 have hvb := hn v (List.mem_of_getElem? hy)
 obtain ⟨k, rfl⟩ : ∃ k : Nat, v = k := ⟨v.toNat, by omega⟩
 rw [Int.toNat_natCast] at hvb
 have hko := numE_ok (bitsHas ws) n
 have hfind := numE_find (bitsHas ws) n k (by omega) hvb.2.2
 have hi := (List.getElem?_eq_some_iff.1 hx).1
 have hnl : (nums (bitsHas ws) p.2).length = p.1.length := by simp [nums, hv]
 have hk : kput (p.1.take i) ((nums (bitsHas ws) p.2).take i) x (rank (bitsHas ws) k : Nat) = (p.1.take (i + 1), (nums (bitsHas ws) p.2).take (i + 1)) := by
   obtain ⟨_, rfl⟩ := List.getElem?_eq_some_iff.1 hx
   obtain ⟨h2, h3⟩ := List.getElem?_eq_some_iff.1 hy
   have := kput_next hr hnl i hi
   simp only [nums, List.getElem_map, h3, Int.toNat_natCast] at this
   exact this
 have hr2 : Rising (p.1.take i) := List.Pairwise.sublist (List.take_sublist _ _) hr
 have hl2 : (p.1.take i).length < 1000000 := by simp; omega
 have hv2 : ((nums (bitsHas ws) p.2).take i).length = (p.1.take i).length := by simp [hnl]
 clear hn
 refine .sg0 7 [2, 7, 15, 16, 101, 102, 103] (cgo 7 [] R35b) [(15, .d (.str x)), (16, .d (.int .i64 (↑k : Int)))] ?_
 refine .beginL (T0 := cgo 88 [false, false, false] [Item.code B35]) (fn := 35) (tml := (mk 133 [(2, V.ptr 6 0 0), (7, V.ptr 12 0 0), (101, V.fn (Fn.func 109) [] [V.ptr 19 0 0, V.ptr 20 0 0])])) (by kernel_rfl) (T' := cgo 8 [] R35b) (by kernel_rfl) (σ' := (SP 17 18 d false [.cells [.ptr 0 0 0], .cells [.d (.int .i64 dir), .d (.list 1 (map intD keep))], .cells [.row 9, .row 10], .row 1 (map strD p.fst) true, .row 1 (map intD p.snd) true, .map (numE (bitsHas ws) n), .cells [.map 11], .cells [.row 15], .cells [.ptr 13 0 0], .row 1 (map w64 ws) true, .defd, .row 2 (map fileD fs) true, .cells [.row 21, .row 22], .cells [.ptr 8 0 0], .cells [.fn (Fn.func 98) [] []], .row 1 (map strD (List.take i p.fst)) true, .row 1 (map intD (List.take i (nums (bitsHas ws) p.snd))) true, .defd, lp (G35 88 [false, false, false]) 35 (mk 133 [(2, .ptr 6 0 0), (7, .ptr 12 0 0), (101, .fn (Fn.func 109) [] [.ptr 19 0 0, .ptr 20 0 0])]) LoopState.busy])) (by kernel_rfl) (by kernel_rfl) ?_
 refine .sg0 1 [2, 7, 15, 16] (cgo 9 [] R35b) [] ?_
 refine .dr (cgo 10 [] R35b) [(104, .ptr 0 0 0), (105, .ptr 0 0 0), (106, .ptr 0 0 1), (107, .ptr 18 0 0), (108, .d (.str x)), (109, .map 11), (110, .d (.int .i64 (↑k : Int))), (111, .d (.int .i64 (↑(rank (bitsHas ws) k) : Int))), (112, .d (.bool !decide ((List.take i p.fst)[pos (List.take i p.fst) x]? = some x)))] [(21, .row 1 (map strD (kput (List.take i p.fst) (List.take i (nums (bitsHas ws) p.snd)) x (↑(rank (bitsHas ws) k) : Int)).fst) true), (22, .row 1 (map intD (kput (List.take i p.fst) (List.take i (nums (bitsHas ws) p.snd)) x (↑(rank (bitsHas ws) k) : Int)).snd) true)] (fun kz L hL => ?_) ?_
 · refine ⟨[fB 6 0, fA 0, fA 0, ⟨[0], [], [], [18], [0, 17, 18, 5], [], true, false⟩, nF, fB 12 11, nF, fR 11, ⟨[18, 21, 22], [18, 21, 22], [21, 22], [21, 22], [18, 21, 22], [], true, false⟩], run_amongF hL _ [] [0, 1, 2, 3, 4, 5, 6, 7, 8] (by intro p hp; cases hp) (by kernel_rfl) ?_⟩
   refine Run.ap [0, 1, 2, 3, 4, 5, 6] [(104, .ptr 0 0 0), (105, .ptr 0 0 0), (106, .ptr 0 0 1), (107, .ptr 18 0 0), (108, .d (.str x)), (109, .map 11), (110, .d (.int .i64 (↑k : Int)))] [] ?_
   refine Run.lk 7 (.d (.int .i64 (↑(rank (bitsHas ws) k) : Int))) [(.tmp 109), (.tmp 110)] (fun tm' σ2 hv hr => lookupF_ok (t := 122) (m := (.tmp 109)) (k := (.tmp 110)) (l := 11) (es := numE (bitsHas ws) n) (dk := D.int IntKind.i64 (↑k : Int)) (dz := D.int IntKind.i64 0) (d0 := D.int IntKind.i64 (↑(rank (bitsHas ws) k) : Int)) (kv := (Value.int IntKind.i64 ((↑k : Int)))) (zv := (Value.int IntKind.i64 (0))) (kd := (TypeDesc.int IntKind.i64)) (kt := 3) (et := 3) (by kernel_rfl) (by kernel_rfl) (by kernel_rfl) (evv hv) (atr hr) (evv hv) (by kernel_rfl) (by kernel_rfl) (by kernel_rfl) (by exact rfl) hko hfind) ?_
   refine Run.cl 8 [18, 21, 22] F76 (@spec_76 (List.take i p.fst) (x) (List.take i (nums (bitsHas ws) p.snd)) ((↑(rank (bitsHas ws) k) : Int)) (by assumption) (by assumption) (by assumption)) ?_
   exact Run.fin
 refine .sg0 1 [] (cgo 11 [] R35b) [] ?_
 refine .roundEndL (T0 := cgo 88 [false, false, false] [Item.code B35]) (fn := 35) (tml := (mk 133 [(2, V.ptr 6 0 0), (7, V.ptr 12 0 0), (101, V.fn (Fn.func 109) [] [V.ptr 19 0 0, V.ptr 20 0 0])])) (st := LoopState.busy) (by kernel_rfl) (by kernel_rfl) (σ' := (SP 17 18 d false [.cells [.ptr 0 0 0], .cells [.d (.int .i64 dir), .d (.list 1 (map intD keep))], .cells [.row 9, .row 10], .row 1 (map strD p.fst) true, .row 1 (map intD p.snd) true, .map (numE (bitsHas ws) n), .cells [.map 11], .cells [.row 15], .cells [.ptr 13 0 0], .row 1 (map w64 ws) true, .defd, .row 2 (map fileD fs) true, .cells [.row 21, .row 22], .cells [.ptr 8 0 0], .cells [.fn (Fn.func 98) [] []], .row 1 (map strD (kput (List.take i p.fst) (List.take i (nums (bitsHas ws) p.snd)) x (↑(rank (bitsHas ws) k) : Int)).fst) true, .row 1 (map intD (kput (List.take i p.fst) (List.take i (nums (bitsHas ws) p.snd)) x (↑(rank (bitsHas ws) k) : Int)).snd) true, .defd, lp (G35 88 [false, false, false]) 35 (mk 133 [(2, .ptr 6 0 0), (7, .ptr 12 0 0), (101, .fn (Fn.func 109) [] [.ptr 19 0 0, .ptr 20 0 0])]) LoopState.ready])) (by kernel_rfl) ?_
 simp_all [S35b, dirD]
theorem lo35b (d : Dk) (dir : Int) (keep : List Int) (p : List ByteArray × List Int) (ws : List (BitVec 64)) (n : Nat) (fs : List (List UInt8 × Nat)) (hr : Rising p.1) (hl : p.1.length < 60000) (hv : p.2.length = p.1.length) (hn : ∀ v ∈ p.2, 0 ≤ v ∧ v < n ∧ bitsHas ws v.toNat = true) : ∀ (m i : Nat), i + m = (p.1).length →
    AW Try.prog 109 none 25 (G109 24 [false]) (mk 43 [(0, V.yield 24), (5, V.d (.list 1 ((p.1).map strD))), (6, V.d (.list 1 ((p.2).map intD))), (27, V.d (.int .i64 ((p.1).length : Nat))), (28, V.d (.int .i64 (i : Nat)))]) (S35b d dir keep p ws n fs i .ready) [] fun r σ' => r = .ret (.tuple []) ∧ σ' = S35b d dir keep p ws n fs (p.1).length .ready := by
  intro m
  induction m with
  | zero =>
    intro i hi
    have hi : i = (p.1).length := by omega
    subst hi
    refine .sg0 5 [0, 5, 6, 27, 28, 29] (G109 29 [false]) [(29, .d (.bool (decide ((↑p.fst.length : Int) < (↑p.fst.length : Int)))))] ?_
    refine .if' (decide ((↑p.fst.length : Int) < (↑p.fst.length : Int))) (G109 30 [false, true]) (G109 30 [false, false]) (fun h1 => ?_) (fun h1 => ?_)
    · simp only [bsX] at h1
      omega
    · simp only [bsX] at h1
      refine .seg 1 [] (T' := cgo 31 [false, false] [.code B109]) (tm' := mk 43 []) (σ' := [.cells (hC 17 18 5 d), .row 2 (map fileD d.files) false, .cells [.row 3, .row 4], .row 1 (map strD d.nk) false, .row 1 (map intD d.nv) false, .row 3 (map chD d.ch) false, .cells [.ptr 0 0 0], .cells [.d (.int .i64 dir), .d (.list 1 (map intD keep))], .cells [.row 9, .row 10], .row 1 (map strD p.fst) true, .row 1 (map intD p.snd) true, .map (numE (bitsHas ws) n), .cells [.map 11], .cells [.row 15], .cells [.ptr 13 0 0], .row 1 (map w64 ws) true, .defd, .row 2 (map fileD fs) true, .cells [.row 21, .row 22], .cells [.ptr 8 0 0], .cells [.fn (Fn.func 98) [] []], .row 1 (map strD (List.take p.fst.length p.fst)) true, .row 1 (map intD (List.take p.fst.length (nums (bitsHas ws) p.snd))) true, .defd, lp (G35 88 [false, false, false]) 35 (mk 133 [(2, .ptr 6 0 0), (7, .ptr 12 0 0), (101, .fn (Fn.func 109) [] [.ptr 19 0 0, .ptr 20 0 0])]) LoopState.ready]) (by kernel_rfl) ?_
      refine .rt F109 (V.tuple []) ?_
      exact ⟨rfl, rfl⟩
  | succ m ih =>
    intro i hi
    obtain ⟨x, hx⟩ := get_some (l := p.1) (i := i) (by omega)
    obtain ⟨v, hy⟩ := get_some (l := p.2) (i := i) (by omega)
    have hYi := body35b d dir keep p ws n fs hr hl hv hn i x v hx hy
    refine .sg0 5 [0, 5, 6, 27, 28, 29] (G109 29 [false]) [(29, .d (.bool (decide ((↑i : Int) < (↑p.fst.length : Int)))))] ?_
    refine .if' (decide ((↑i : Int) < (↑p.fst.length : Int))) (G109 30 [false, true]) (G109 30 [false, false]) (fun h1 => ?_) (fun h1 => ?_)
    · simp only [bsX] at h1
      refine .sg0 9 [0, 5, 6, 7, 27, 28, 29, 30] (G109 39 [false, true]) [(7, .d (.int .i64 (↑i : Int))), (30, .d (.int .i64 (↑i : Int)))] ?_
      refine .dr (G109 40 [false, true]) [(31, .yield 24), (32, .d (.list 1 (map strD p.fst))), (33, .d (.int .i64 (↑i : Int))), (34, .ep 1 (D.str x) 0), (35, .d (.str x)), (36, .d (.list 1 (map intD p.snd))), (37, .d (.int .i64 (↑i : Int))), (38, .ep 1 (D.int IntKind.i64 v) 0), (39, .d (.int .i64 v)), (40, .d (.bool true)), (41, .d (.bool false))] [(21, .row 1 (map strD (List.take (i + 1) p.fst)) true), (22, .row 1 (map intD (List.take (i + 1) (nums (bitsHas ws) p.snd))) true)] (fun kz L hL => ?_) ?_
      · refine ⟨[fO 24, nF, nF, nF, nF, nF, nF, nF, nF, ⟨[], [], [], [], [], [], false, true⟩, nF], run_amongF hL _ [] [0, 1, 2, 3, 4, 5, 6, 7, 8, 9, 10] (by intro p hp; cases hp) (by kernel_rfl) ?_⟩
        refine Run.ap [0, 1, 2] [(31, .yield 24), (32, .d (.list 1 (map strD p.fst))), (33, .d (.int .i64 (↑i : Int)))] [] ?_
        refine Run.lk 3 (.ep 1 (D.str x) 0) [(.tmp 32), (.tmp 33)] (fun tm' σ2 hv hr => ixData_ok (t := 66) (x := (.tmp 32)) (i := (.tmp 33)) (k := IntKind.i64) (n := (↑i : Int)) (sz := 1) (xs := map strD p.fst) (d := strD x) (by kernel_rfl) (evl hv) (evv hv) (by kernel_rfl) (by omega) (map_get hx)) ?_
        refine Run.ap [4, 5, 6] [(35, .d (.str x)), (36, .d (.list 1 (map intD p.snd))), (37, .d (.int .i64 (↑i : Int)))] [] ?_
        refine Run.lk 7 (.ep 1 (D.int IntKind.i64 v) 0) [(.tmp 36), (.tmp 37)] (fun tm' σ2 hv hr => ixData_ok (t := 46) (x := (.tmp 36)) (i := (.tmp 37)) (k := IntKind.i64) (n := (↑i : Int)) (sz := 1) (xs := map intD p.snd) (d := intD v) (by kernel_rfl) (evl hv) (evv hv) (by kernel_rfl) (by omega) (map_get hy)) ?_
        refine Run.ap [8] [(39, .d (.int .i64 v))] [] ?_
        refine Run.one (s1 := (mk 43 [(0, .yield 24), (5, .d (.list 1 (map strD p.fst))), (6, .d (.list 1 (map intD p.snd))), (7, .d (.int .i64 (↑i : Int))), (27, .d (.int .i64 (↑p.fst.length : Int))), (28, .d (.int .i64 (↑i : Int))), (29, .d (.bool (decide ((↑i : Int) < (↑p.fst.length : Int))))), (30, .d (.int .i64 (↑i : Int))), (31, .yield 24), (32, .d (.list 1 (map strD p.fst))), (33, .d (.int .i64 (↑i : Int))), (34, .ep 1 (D.str x) 0), (35, .d (.str x)), (36, .d (.list 1 (map intD p.snd))), (37, .d (.int .i64 (↑i : Int))), (38, .ep 1 (D.int IntKind.i64 v) 0), (39, .d (.int .i64 v)), (40, .d (.bool true))], [.cells (hC 17 18 5 d), .row 2 (map fileD d.files) false, .cells [.row 3, .row 4], .row 1 (map strD d.nk) false, .row 1 (map intD d.nv) false, .row 3 (map chD d.ch) false, .cells [.ptr 0 0 0], .cells [.d (.int .i64 dir), .d (.list 1 (map intD keep))], .cells [.row 9, .row 10], .row 1 (map strD p.fst) true, .row 1 (map intD p.snd) true, .map (numE (bitsHas ws) n), .cells [.map 11], .cells [.row 15], .cells [.ptr 13 0 0], .row 1 (map w64 ws) true, .defd, .row 2 (map fileD fs) true, .cells [.row 21, .row 22], .cells [.ptr 8 0 0], .cells [.fn (Fn.func 98) [] []], .row 1 (map strD (List.take (i + 1) p.fst)) true, .row 1 (map intD (List.take (i + 1) (nums (bitsHas ws) p.snd))) true, .defd, lp (G35 88 [false, false, false]) 35 (mk 133 [(2, .ptr 6 0 0), (7, .ptr 12 0 0), (101, .fn (Fn.func 109) [] [.ptr 19 0 0, .ptr 20 0 0])]) LoopState.ready])) (StepF.all (o := ((drawOf (G109 39 [false, true]))[9]?).getD default) (by kernel_rfl) (by kernel_rfl) fun rest hn => AW.yieldD (T0 := cgo 88 [false, false, false] [Item.code B35]) (x := (.tmp 31)) (args := #[(.tmp 35), (.tmp 39)]) (ts := #[9, 3]) (l := 24) (st := LoopState.ready) (fn := 35) (tml := (mk 133 [(2, .ptr 6 0 0), (7, .ptr 12 0 0), (101, .fn (Fn.func 109) [] [.ptr 19 0 0, .ptr 20 0 0])])) (R := R35b) (o := ((drawOf (G109 39 [false, true]))[9]?).getD default) (N := 25) (by kernel_rfl) (by kernel_rfl) (by kernel_rfl) (by kernel_rfl) (by kernel_rfl) (by kernel_rfl) (by kernel_rfl) (by kernel_rfl) (by kernel_rfl) hYi (by rintro r s ⟨rfl, rfl⟩; exact ⟨_, rfl, AW.as (by kernel_rfl) (by kernel_rfl) hn⟩)) ?_
        exact Run.fin
      refine .seg 7 [0, 5, 6, 7, 27, 28, 29, 30, 31, 32, 33, 34, 35, 36, 37, 38, 39, 40, 41, 42] (T' := cgo 47 [false, true, false] [.code B109]) (tm' := mk 43 [(0, .yield 24), (5, .d (.list 1 (map strD p.fst))), (6, .d (.list 1 (map intD p.snd))), (7, .d (.int .i64 (↑i : Int))), (27, .d (.int .i64 (↑p.fst.length : Int))), (28, .d (.int .i64 (IntKind.i64.wrap ((↑i : Int) + 1)))), (29, .d (.bool (decide ((↑i : Int) < (↑p.fst.length : Int))))), (30, .d (.int .i64 (↑i : Int))), (31, .yield 24), (32, .d (.list 1 (map strD p.fst))), (33, .d (.int .i64 (↑i : Int))), (34, .ep 1 (D.str x) 0), (35, .d (.str x)), (36, .d (.list 1 (map intD p.snd))), (37, .d (.int .i64 (↑i : Int))), (38, .ep 1 (D.int IntKind.i64 v) 0), (39, .d (.int .i64 v)), (40, .d (.bool true)), (41, .d (.bool false)), (42, .d (.int .i64 (IntKind.i64.wrap ((↑i : Int) + 1))))]) (σ' := [.cells (hC 17 18 5 d), .row 2 (map fileD d.files) false, .cells [.row 3, .row 4], .row 1 (map strD d.nk) false, .row 1 (map intD d.nv) false, .row 3 (map chD d.ch) false, .cells [.ptr 0 0 0], .cells [.d (.int .i64 dir), .d (.list 1 (map intD keep))], .cells [.row 9, .row 10], .row 1 (map strD p.fst) true, .row 1 (map intD p.snd) true, .map (numE (bitsHas ws) n), .cells [.map 11], .cells [.row 15], .cells [.ptr 13 0 0], .row 1 (map w64 ws) true, .defd, .row 2 (map fileD fs) true, .cells [.row 21, .row 22], .cells [.ptr 8 0 0], .cells [.fn (Fn.func 98) [] []], .row 1 (map strD (List.take (i + 1) p.fst)) true, .row 1 (map intD (List.take (i + 1) (nums (bitsHas ws) p.snd))) true, .defd, lp (G35 88 [false, false, false]) 35 (mk 133 [(2, .ptr 6 0 0), (7, .ptr 12 0 0), (101, .fn (Fn.func 109) [] [.ptr 19 0 0, .ptr 20 0 0])]) LoopState.ready]) (by kernel_rfl) ?_
      simp (disch := omega) only [bsW]
      exact .seg 1 [0, 5, 6, 27, 28] (by kernel_rfl) (ih (i + 1) (by omega))
    · simp only [bsX] at h1
      omega
theorem it35b (d : Dk) (dir : Int) (keep : List Int) (p : List ByteArray × List Int) (ws : List (BitVec 64)) (n : Nat) (fs : List (List UInt8 × Nat)) (hr : Rising p.1) (hl : p.1.length < 60000) (hv : p.2.length = p.1.length) (hn : ∀ v ∈ p.2, 0 ≤ v ∧ v < n ∧ bitsHas ws v.toNat = true) : CallsA Try.prog 109 [.yield 24, .ptr 19 0 0, .ptr 20 0 0] (S35b d dir keep p ws n fs 0 .ready) fun r σ' => r = .ret (.tuple []) ∧ σ' = S35b d dir keep p ws n fs (p.1).length .ready := by
 refine CallsA.start F109 (tm := mk (Try.f109.ntmps) [(0, .yield 24), (1, .ptr 19 0 0), (2, .ptr 20 0 0)]) (by kernel_rfl) ?_
 refine .sg0 11 [0, 1, 2, 10] (G109 11 [false]) [(10, .fn (Fn.func 98) [] [])] ?_
 refine .cd (G109 12 [false]) F98 (@spec_98) ?_
 refine .sg0 3 [0, 1, 4] (G109 15 [false]) [(4, .d (.int .i64 0))] ?_
 refine .dr (G109 16 [false]) [(5, .d (.list 1 (List.take ((map strD p.fst).length - 0) (List.drop 0 (map strD p.fst))))), (6, .d (.list 1 (List.take ((map intD p.snd).length - 0) (List.drop 0 (map intD p.snd))))), (12, .ptr 8 0 0), (13, .ptr 8 0 0), (14, .ptr 8 0 0), (15, .row 9), (16, .d (.int .i64 0)), (17, .sl 9 0 ((map strD p.fst).length - 0) none), (18, .d (.list 1 (List.take ((map strD p.fst).length - 0) (List.drop 0 (map strD p.fst))))), (19, .ptr 8 0 0), (20, .ptr 8 0 0), (21, .ptr 8 0 1), (22, .row 10), (23, .d (.int .i64 0)), (24, .sl 10 0 ((map intD p.snd).length - 0) none), (25, .d (.list 1 (List.take ((map intD p.snd).length - 0) (List.drop 0 (map intD p.snd)))))] [] (fun kz L hL => ?_) ?_
 · refine ⟨[fB 19 8, fA 8, fA 8, ⟨[8], [], [], [9], [8, 9, 10], [], true, false⟩, nF, ⟨[9], [], [], [9], [9], [], true, false⟩, ⟨[9], [9], [], [], [9], [], true, false⟩, fB 19 8, fA 8, fA 8, ⟨[8], [], [], [10], [8, 9, 10], [], true, false⟩, nF, ⟨[10], [], [], [10], [10], [], true, false⟩, fR 10, nF, nF], run_amongF hL _ [] [0, 1, 2, 3, 4, 5, 7, 8, 9, 10, 11, 12, 6, 13, 14, 15] (by intro p hp; cases hp) (by kernel_rfl) ?_⟩
   refine Run.ap [0, 1, 2, 3, 4] [(12, .ptr 8 0 0), (13, .ptr 8 0 0), (14, .ptr 8 0 0), (15, .row 9), (16, .d (.int .i64 0))] [] ?_
   refine Run.lk 5 (.sl 9 0 ((map strD p.fst).length - 0) none) [(.tmp 15), (.tmp 16)] (fun tm' σ2 hv hr => slRow_ok (t := 66) (x := (.tmp 15)) (lo := (some (.tmp 16))) (hi := none) (lc := 9) (sz := 1) (xs := map strD p.fst) (mv := true) (0) ((map strD p.fst).length) (by kernel_rfl) (evv hv) (atr hr) (by kernel_rfl) (bnd_some (k := IntKind.i64) (i := 0) (evv hv) (by omega) (by rfl)) rfl (by omega) (by omega)) ?_
   refine Run.ap [7, 8, 9, 10, 11] [(19, .ptr 8 0 0), (20, .ptr 8 0 0), (21, .ptr 8 0 1), (22, .row 10), (23, .d (.int .i64 0))] [] ?_
   refine Run.lk 12 (.sl 10 0 ((map intD p.snd).length - 0) none) [(.tmp 22), (.tmp 23)] (fun tm' σ2 hv hr => slRow_ok (t := 46) (x := (.tmp 22)) (lo := (some (.tmp 23))) (hi := none) (lc := 10) (sz := 1) (xs := map intD p.snd) (mv := true) (0) ((map intD p.snd).length) (by kernel_rfl) (evv hv) (atr hr) (by kernel_rfl) (bnd_some (k := IntKind.i64) (i := 0) (evv hv) (by omega) (by rfl)) rfl (by omega) (by omega)) ?_
   refine Run.cl 6 [9] F110 (@spec_110b (map strD p.fst) (0) ((map strD p.fst).length - 0) (none) (by omega) (by simp <;> omega)) ?_
   refine Run.cll 13 [10] F111 (@spec_111b (map intD p.snd) (0) ((map intD p.snd).length - 0) (none) (by omega) (by simp <;> omega)) ?_
   exact Run.fin
 refine .seg 7 [0, 5, 6, 27, 28] (T' := cgo 23 [false] [.code B109]) (tm' := mk 43 [(0, .yield 24), (5, .d (.list 1 (List.take ((map strD p.fst).length - 0) (List.drop 0 (map strD p.fst))))), (6, .d (.list 1 (List.take ((map intD p.snd).length - 0) (List.drop 0 (map intD p.snd))))), (27, .d (.int .i64 (↑(List.take ((map strD p.fst).length - 0) (List.drop 0 (map strD p.fst))).length : Int))), (28, .d (.int .i64 0))]) (σ' := [.cells (hC 17 18 5 d), .row 2 (map fileD d.files) false, .cells [.row 3, .row 4], .row 1 (map strD d.nk) false, .row 1 (map intD d.nv) false, .row 3 (map chD d.ch) false, .cells [.ptr 0 0 0], .cells [.d (.int .i64 dir), .d (.list 1 (map intD keep))], .cells [.row 9, .row 10], .row 1 (map strD p.fst) true, .row 1 (map intD p.snd) true, .map (numE (bitsHas ws) n), .cells [.map 11], .cells [.row 15], .cells [.ptr 13 0 0], .row 1 (map w64 ws) true, .defd, .row 2 (map fileD fs) true, .cells [.row 21, .row 22], .cells [.ptr 8 0 0], .cells [.fn (Fn.func 98) [] []], .row 1 [] true, .row 1 [] true, .defd, lp (G35 88 [false, false, false]) 35 (mk 133 [(2, .ptr 6 0 0), (7, .ptr 12 0 0), (101, .fn (Fn.func 109) [] [.ptr 19 0 0, .ptr 20 0 0])]) LoopState.ready]) (by kernel_rfl) ?_
 simp only [List.length_map]
 rw [eachL (p.1) strD, eachL (p.2) intD, List.length_map]
 exact .seg 1 [0, 5, 6, 27, 28] (by kernel_rfl) (lo35b d dir keep p ws n fs hr hl hv hn (p.1).length 0 (by omega))
end Go.Proofs.Ytoelkgbeefoplaa
namespace Go.Proofs.Ytoelkgbeefoplaa
open Go Go.Br Go.Proofs
open List (map)
def qF1 : List FP := [fB 6 0, fB 6 0, fB 6 0, fA 0, fA 0, ⟨[0], [], [], [8], [0, 7, 8, 5], [], true, false⟩, ⟨[], [], [], [], [], [], false, true⟩, fA 0, fA 0, ⟨[0], [0], [], [7, 8, 13, 5], [0, 13, 7, 8, 5], [], true, false⟩, fA 0, fA 0, ⟨[0], [0], [], [7, 8, 13], [0, 7, 8, 13, 5], [], true, false⟩]
def qF2 : List FP := [fB 6 0, fB 6 0, fO 17, nF, ⟨[], [], [], [], [], [], false, true⟩, fA 0, fA 0, ⟨[0], [0], [], [17, 2, 5], [0, 17, 1, 2, 5], [], true, false⟩, fA 0, fA 0, ⟨[0], [0], [], [17, 18, 5], [0, 18, 17, 2, 5], [], true, false⟩]
def SE (d : Dk) (nk : List ByteArray) (nv : List Int) (fs : List (List UInt8 × Nat)) : Store :=
  [.cells [.row 7, .ptr 8 0 0, .ep 2 (dirD d.sk d.sv) 0, .row 5, .d (.int .i64 d.quota), .d (.bool d.full), .d (.bool d.off), .d (.int .i64 d.stop), .d (.int .i64 d.calls)], .row 2 (d.files.map fileD) false, .cells [.row 3, .row 4], .row 1 (d.nk.map strD) false, .row 1 (d.nv.map intD) false, .row 3 (d.ch.map chD) false,
    .cells [.ptr 0 0 0], .row 2 (fs.map fileD) true, .cells [.row 9, .row 10], .row 1 (nk.map strD) true, .row 1 (nv.map intD) true, .defd, .defd]
def SDc (d0 d : Dk) : Store := [.cells [.row 1, .ptr 6 0 0, .ep 2 (dirD d.sk d.sv) 0, .row 5, .d (.int .i64 d.quota), .d (.bool d.full), .d (.bool d.off), .d (.int .i64 d.stop), .d (.int .i64 d.calls)],
  .row 2 (d.files.map fileD) true, .cells [.row 3, .row 4], .row 1 (d0.nk.map strD) false, .row 1 (d0.nv.map intD) false, .row 3 (d.ch.map chD) true, .cells [.row 7, .row 8], .row 1 (d.nk.map strD) true, .row 1 (d.nv.map intD) true]
theorem stE (d : Dk) (nk : List ByteArray) (nv : List Int) (fs : List (List UInt8 × Nat)) (hr : Rising nk) (hl : nk.length < 60000) (hv : nv.length = nk.length) :
    AW Try.prog 35 none 6 (G35 89 [false, false, false]) (mk 133 [(2, .ptr 6 0 0)]) (SE d nk nv fs) [12, 11] fun r σ' => r = .ret (.tuple []) ∧ σ' = SDc d { d with files := fs, nk := nk, nv := nv, sk := nk, sv := nv, ch := [], off := false, stop := -1, full := false } := by
  refine .sg0 2 [2] (G35 91 [false, false, false]) [] ?_
  refine .dr (G35 92 [false, false, false]) [(113, .ptr 0 0 0), (114, .ptr 0 0 0), (115, .ptr 0 0 0), (116, .ptr 0 0 0), (117, .ptr 0 0 1), (118, .ptr 8 0 0), (119, .ptr 13 0 0), (120, .ptr 0 0 0), (121, .ptr 0 0 2), (122, .ptr 0 0 0), (123, .ptr 0 0 3)] [(0, .cells [.row 7, .ptr 8 0 0, .ptr 13 0 0, .ex 3 [], .d (.int .i64 d.quota), .d (.bool d.full), .d (.bool d.off), .d (.int .i64 d.stop), .d (.int .i64 d.calls)]), (13, .cells [.row 14, .row 15]), (14, .row 1 (map strD nk) true), (15, .row 1 (map intD nv) true)] (fun kz L hL => ?_) ?_
  · rcases ahead_or' hL 0 6 (by kernel_rfl) with o4 | o4
    · rcases ahead_or' hL 1 6 (by kernel_rfl) with o6 | o6
      · refine ⟨qF1, run_amongF hL _ [(0, 6), (1, 6)] [0, 1, 2, 3, 4, 5, 6, 7, 8, 9, 10, 11, 12] (by simp [o4, o6]) (by kernel_rfl) ?_⟩
        refine Run.ap [0, 1, 2, 3, 4, 5] [(113, .ptr 0 0 0), (114, .ptr 0 0 0), (115, .ptr 0 0 0), (116, .ptr 0 0 0), (117, .ptr 0 0 1), (118, .ptr 8 0 0)] [] ?_
        refine Run.one (s1 := (mk 133 [(2, .ptr 6 0 0), (113, .ptr 0 0 0), (114, .ptr 0 0 0), (115, .ptr 0 0 0), (116, .ptr 0 0 0), (117, .ptr 0 0 1), (118, .ptr 8 0 0), (119, .ptr 13 0 0)], [.cells (hC 7 8 5 d), .row 2 (map fileD d.files) false, .cells [.row 3, .row 4], .row 1 (map strD d.nk) false, .row 1 (map intD d.nv) false, .row 3 (map chD d.ch) false, .cells [.ptr 0 0 0], .row 2 (map fileD fs) true, .cells [.row 9, .row 10], .row 1 (map strD nk) true, .row 1 (map intD nv) true, .defd, .defd, .cells [.row 14, .row 15], .row 1 (map strD nk) true, .row 1 (map intD nv) true])) (StepF.all (o := ((drawOf (G35 91 [false, false, false]))[6]?).getD default) (by kernel_rfl) (by kernel_rfl) fun rest hn => AW.call (o := ((drawOf (G35 91 [false, false, false]))[6]?).getD default) (x := (.func 69)) (args := #[(.tmp 118)]) (ts := #[102]) (first := []) (cap := []) [8, 9, 10] [.ptr 0 0 0] [.cells [.row 1, .row 2], .row 1 (map strD nk) false, .row 1 (map intD nv) false] F69 (@spec_69 (nk) (nv) (by assumption) (by assumption) (by assumption)) (by kernel_rfl) (by kernel_rfl) (by kernel_rfl) (by kernel_rfl) (by kernel_rfl) (by kernel_rfl) ⟨rfl, rfl, by kernel_rfl⟩ (by rintro r s ⟨rfl, rfl⟩; refine ⟨_, rfl, AW.as (by kernel_rfl) (by kernel_rfl) hn⟩)) ?_
        exact Run.fin
      · refine ⟨qF1, run_amongF hL _ [(0, 6), (6, 1)] [0, 2, 3, 4, 5, 6, 1, 7, 8, 9, 10, 11, 12] (by simp [o4, o6]) (by kernel_rfl) ?_⟩
        refine Run.ap [0, 2, 3, 4, 5] [(113, .ptr 0 0 0), (115, .ptr 0 0 0), (116, .ptr 0 0 0), (117, .ptr 0 0 1), (118, .ptr 8 0 0)] [] ?_
        refine Run.one (s1 := (mk 133 [(2, .ptr 6 0 0), (113, .ptr 0 0 0), (115, .ptr 0 0 0), (116, .ptr 0 0 0), (117, .ptr 0 0 1), (118, .ptr 8 0 0), (119, .ptr 13 0 0)], [.cells (hC 7 8 5 d), .row 2 (map fileD d.files) false, .cells [.row 3, .row 4], .row 1 (map strD d.nk) false, .row 1 (map intD d.nv) false, .row 3 (map chD d.ch) false, .cells [.ptr 0 0 0], .row 2 (map fileD fs) true, .cells [.row 9, .row 10], .row 1 (map strD nk) true, .row 1 (map intD nv) true, .defd, .defd, .cells [.row 14, .row 15], .row 1 (map strD nk) true, .row 1 (map intD nv) true])) (StepF.all (o := ((drawOf (G35 91 [false, false, false]))[6]?).getD default) (by kernel_rfl) (by kernel_rfl) fun rest hn => AW.call (o := ((drawOf (G35 91 [false, false, false]))[6]?).getD default) (x := (.func 69)) (args := #[(.tmp 118)]) (ts := #[102]) (first := []) (cap := []) [8, 9, 10] [.ptr 0 0 0] [.cells [.row 1, .row 2], .row 1 (map strD nk) false, .row 1 (map intD nv) false] F69 (@spec_69 (nk) (nv) (by assumption) (by assumption) (by assumption)) (by kernel_rfl) (by kernel_rfl) (by kernel_rfl) (by kernel_rfl) (by kernel_rfl) (by kernel_rfl) ⟨rfl, rfl, by kernel_rfl⟩ (by rintro r s ⟨rfl, rfl⟩; refine ⟨_, rfl, AW.as (by kernel_rfl) (by kernel_rfl) hn⟩)) ?_
        exact Run.fin
    · rcases ahead_or' hL 1 6 (by kernel_rfl) with o10 | o10
      · refine ⟨qF1, run_amongF hL _ [(6, 0), (1, 6)] [1, 2, 3, 4, 5, 6, 0, 7, 8, 9, 10, 11, 12] (by simp [o4, o10]) (by kernel_rfl) ?_⟩
        refine Run.ap [1, 2, 3, 4, 5] [(114, .ptr 0 0 0), (115, .ptr 0 0 0), (116, .ptr 0 0 0), (117, .ptr 0 0 1), (118, .ptr 8 0 0)] [] ?_
        refine Run.one (s1 := (mk 133 [(2, .ptr 6 0 0), (114, .ptr 0 0 0), (115, .ptr 0 0 0), (116, .ptr 0 0 0), (117, .ptr 0 0 1), (118, .ptr 8 0 0), (119, .ptr 13 0 0)], [.cells (hC 7 8 5 d), .row 2 (map fileD d.files) false, .cells [.row 3, .row 4], .row 1 (map strD d.nk) false, .row 1 (map intD d.nv) false, .row 3 (map chD d.ch) false, .cells [.ptr 0 0 0], .row 2 (map fileD fs) true, .cells [.row 9, .row 10], .row 1 (map strD nk) true, .row 1 (map intD nv) true, .defd, .defd, .cells [.row 14, .row 15], .row 1 (map strD nk) true, .row 1 (map intD nv) true])) (StepF.all (o := ((drawOf (G35 91 [false, false, false]))[6]?).getD default) (by kernel_rfl) (by kernel_rfl) fun rest hn => AW.call (o := ((drawOf (G35 91 [false, false, false]))[6]?).getD default) (x := (.func 69)) (args := #[(.tmp 118)]) (ts := #[102]) (first := []) (cap := []) [8, 9, 10] [.ptr 0 0 0] [.cells [.row 1, .row 2], .row 1 (map strD nk) false, .row 1 (map intD nv) false] F69 (@spec_69 (nk) (nv) (by assumption) (by assumption) (by assumption)) (by kernel_rfl) (by kernel_rfl) (by kernel_rfl) (by kernel_rfl) (by kernel_rfl) (by kernel_rfl) ⟨rfl, rfl, by kernel_rfl⟩ (by rintro r s ⟨rfl, rfl⟩; refine ⟨_, rfl, AW.as (by kernel_rfl) (by kernel_rfl) hn⟩)) ?_
        exact Run.fin
      · refine ⟨qF1, run_amongF hL _ [(6, 0), (6, 1)] [2, 3, 4, 5, 6, 0, 1, 7, 8, 9, 10, 11, 12] (by simp [o4, o10]) (by kernel_rfl) ?_⟩
        refine Run.ap [2, 3, 4, 5] [(115, .ptr 0 0 0), (116, .ptr 0 0 0), (117, .ptr 0 0 1), (118, .ptr 8 0 0)] [] ?_
        refine Run.one (s1 := (mk 133 [(2, .ptr 6 0 0), (115, .ptr 0 0 0), (116, .ptr 0 0 0), (117, .ptr 0 0 1), (118, .ptr 8 0 0), (119, .ptr 13 0 0)], [.cells (hC 7 8 5 d), .row 2 (map fileD d.files) false, .cells [.row 3, .row 4], .row 1 (map strD d.nk) false, .row 1 (map intD d.nv) false, .row 3 (map chD d.ch) false, .cells [.ptr 0 0 0], .row 2 (map fileD fs) true, .cells [.row 9, .row 10], .row 1 (map strD nk) true, .row 1 (map intD nv) true, .defd, .defd, .cells [.row 14, .row 15], .row 1 (map strD nk) true, .row 1 (map intD nv) true])) (StepF.all (o := ((drawOf (G35 91 [false, false, false]))[6]?).getD default) (by kernel_rfl) (by kernel_rfl) fun rest hn => AW.call (o := ((drawOf (G35 91 [false, false, false]))[6]?).getD default) (x := (.func 69)) (args := #[(.tmp 118)]) (ts := #[102]) (first := []) (cap := []) [8, 9, 10] [.ptr 0 0 0] [.cells [.row 1, .row 2], .row 1 (map strD nk) false, .row 1 (map intD nv) false] F69 (@spec_69 (nk) (nv) (by assumption) (by assumption) (by assumption)) (by kernel_rfl) (by kernel_rfl) (by kernel_rfl) (by kernel_rfl) (by kernel_rfl) (by kernel_rfl) ⟨rfl, rfl, by kernel_rfl⟩ (by rintro r s ⟨rfl, rfl⟩; refine ⟨_, rfl, AW.as (by kernel_rfl) (by kernel_rfl) hn⟩)) ?_
        exact Run.fin
  refine .dr (G35 93 [false, false, false]) [(124, .ptr 0 0 0), (125, .ptr 0 0 0), (126, .ptr 0 0 0), (127, .ptr 0 0 0), (128, .ptr 0 0 6), (129, .ptr 0 0 0), (130, .ptr 0 0 7), (131, .ptr 0 0 0), (132, .ptr 0 0 5)] [(0, .cells [.row 7, .ptr 8 0 0, .ptr 13 0 0, .ex 3 [], .d (.int .i64 d.quota), .d (.bool false), .d (.bool false), .d (.int .i64 (-1)), .d (.int .i64 d.calls)])] (fun kz L hL => ?_) ?_
  · refine ⟨[fB 6 0, fB 6 0, fB 6 0, fA 0, fA 0, ⟨[0], [0], [], [7, 8, 13], [0, 7, 8, 13], [], true, false⟩, fA 0, fA 0, ⟨[0], [0], [], [7, 8, 13], [0, 7, 8, 13], [], true, false⟩, fA 0, fA 0, ⟨[0], [0], [], [7, 8, 13], [0, 7, 8, 13], [], true, false⟩], run_amongF hL _ [] [0, 1, 2, 3, 4, 5, 6, 7, 8, 9, 10, 11] (by intro p hp; cases hp) (by kernel_rfl) ?_⟩
    exact Run.fin
  refine .freeze 14 (sz := 1) (xs := map strD nk) (mv := true) (by kernel_rfl) ?_
  refine .freeze 15 (sz := 1) (xs := map intD nv) (mv := true) (by kernel_rfl) ?_
  refine .freezeC 13 (cs0 := [.d (.list 1 (map strD nk)), .d (.list 1 (map intD nv))]) (ds := [D.list 1 (map strD nk), D.list 1 (map intD nv)]) (by kernel_rfl) (by kernel_rfl) ?_
  refine .virtX 0 3 3 rfl rfl ?_
  refine .raises [16] ?_
  refine .kp [] ?_
  refine .subM [0, 7, 2, 3, 4, 16, 8, 9, 10, 11, 12] (mk 133 []) (SDc d { d with files := fs, nk := nk, nv := nv, sk := nk, sv := nv, ch := [], off := false, stop := -1, full := false } ++ [.defd, .defd]) none [10, 9] ⟨rfl, by kernel_rfl, by kernel_rfl⟩ (by kernel_rfl) ⟨Nat.le_of_ble_eq_true (by kernel_rfl), by kernel_rfl⟩ (by kernel_rfl) ⟨by kernel_rfl, by kernel_rfl⟩ ⟨rfl, rfl⟩ ?_
  refine .retX (v := V.tuple []) [0, 1, 2, 3, 4, 5, 6, 7, 8] (V.tuple []) F35 (by kernel_rfl) ⟨by kernel_rfl, by kernel_rfl⟩ (σ1 := SDc d { d with files := fs, nk := nk, nv := nv, sk := nk, sv := nv, ch := [], off := false, stop := -1, full := false } ++ [.dead, .dead]) (by kernel_rfl) (by kernel_rfl) (σ2 := SDc d { d with files := fs, nk := nk, nv := nv, sk := nk, sv := nv, ch := [], off := false, stop := -1, full := false }) ⟨rfl, rfl, by kernel_rfl⟩ (by kernel_rfl) ⟨Nat.le_of_ble_eq_true (by kernel_rfl), by kernel_rfl⟩ (by kernel_rfl) ?_
  exact ⟨rfl, rfl⟩
theorem stD (d : Dk) (dir : Int) (keep : List Int) (p : List ByteArray × List Int) (ws : List (BitVec 64)) (n : Nat) (fs : List (List UInt8 × Nat)) (hr : Rising p.1) (hl : p.1.length < 60000) (hv : p.2.length = p.1.length) (hn : ∀ v ∈ p.2, 0 ≤ v ∧ v < n ∧ bitsHas ws v.toNat = true) (Q : AE → Store → Prop)
    (hnext : AW Try.prog 35 none 6 (G35 89 [false, false, false]) (mk 133 [(2, .ptr 6 0 0)]) (SE d p.1 (nums (bitsHas ws) p.2) fs) [12, 11] Q) :
    AW Try.prog 35 none 6 (G35 79 [false, false, false]) (mk 133 [(2, .ptr 6 0 0), (4, .ptr 8 0 0), (7, .ptr 12 0 0), (11, .row 17)]) (SC d dir keep p ws (numE (bitsHas ws) n) fs) [16] Q := by
  refine .sg0 1 [2, 4, 7, 11] (G35 80 [false, false, false]) [] ?_
  refine .dr (G35 81 [false, false, false]) [(91, .ptr 0 0 0), (92, .ptr 0 0 0), (93, .row 17), (94, .agg [.ex 1 [], .ex 1 []]), (95, .ptr 18 0 0), (96, .ptr 0 0 0), (97, .ptr 0 0 0), (98, .ptr 0 0 0), (99, .ptr 0 0 1)] [(0, .cells (hC 17 18 5 d)), (18, .cells [.ex 1 [], .ex 1 []])] (fun kz L hL => ?_) ?_
  · rcases ahead_or' hL 0 4 (by kernel_rfl) with o1 | o1
    · rcases ahead_or' hL 1 4 (by kernel_rfl) with o2 | o2
      · rcases ahead_or' hL 2 4 (by kernel_rfl) with o3 | o3
        · rcases ahead_or' hL 4 5 (by kernel_rfl) with o4 | o4
          · refine ⟨qF2, run_amongF hL _ [(0, 4), (1, 4), (2, 4), (4, 5)] [0, 1, 2, 3, 4, 5, 6, 7, 8, 9, 10] (by simp [o1, o2, o3, o4]) (by kernel_rfl) ?_⟩
            refine Run.ap [0, 1, 2, 3] [(91, .ptr 0 0 0), (92, .ptr 0 0 0), (93, .row 17), (94, .agg [.ex 1 [], .ex 1 []])] [] ?_
            refine Run.one (StepF.mopAll (o := ((drawOf (G35 80 [false, false, false]))[4]?).getD default) (v := .ptr 18 0 0) (σ' := [.cells (hC 1 2 5 d), .row 2 (map fileD d.files) false, .cells [.row 3, .row 4], .row 1 (map strD d.nk) false, .row 1 (map intD d.nv) false, .row 3 (map chD d.ch) false, .cells [.ptr 0 0 0], .cells [.d (.int .i64 dir), .d (.list 1 (map intD keep))], .cells [.row 9, .row 10], .row 1 (map strD p.fst) true, .row 1 (map intD p.snd) true, .map (numE (bitsHas ws) n), .cells [.map 11], .cells [.row 15], .cells [.ptr 13 0 0], .row 1 (map w64 ws) true, .defd, .row 2 (map fileD fs) true, .cells [.ex 1 [], .ex 1 []]]) (by kernel_rfl) (by kernel_rfl) (by kernel_rfl) (by kernel_rfl)) ?_
            exact Run.fin
          · rcases ahead_or' hL 4 6 (by kernel_rfl) with o5 | o5
            · refine ⟨qF2, run_amongF hL _ [(0, 4), (1, 4), (2, 4), (5, 4), (4, 6)] [0, 1, 2, 3, 5, 4, 6, 7, 8, 9, 10] (by simp [o1, o2, o3, o4, o5]) (by kernel_rfl) ?_⟩
              refine Run.ap [0, 1, 2, 3, 5] [(91, .ptr 0 0 0), (92, .ptr 0 0 0), (93, .row 17), (94, .agg [.ex 1 [], .ex 1 []]), (96, .ptr 0 0 0)] [] ?_
              refine Run.one (StepF.mopAll (o := ((drawOf (G35 80 [false, false, false]))[4]?).getD default) (v := .ptr 18 0 0) (σ' := [.cells (hC 1 2 5 d), .row 2 (map fileD d.files) false, .cells [.row 3, .row 4], .row 1 (map strD d.nk) false, .row 1 (map intD d.nv) false, .row 3 (map chD d.ch) false, .cells [.ptr 0 0 0], .cells [.d (.int .i64 dir), .d (.list 1 (map intD keep))], .cells [.row 9, .row 10], .row 1 (map strD p.fst) true, .row 1 (map intD p.snd) true, .map (numE (bitsHas ws) n), .cells [.map 11], .cells [.row 15], .cells [.ptr 13 0 0], .row 1 (map w64 ws) true, .defd, .row 2 (map fileD fs) true, .cells [.ex 1 [], .ex 1 []]]) (by kernel_rfl) (by kernel_rfl) (by kernel_rfl) (by kernel_rfl)) ?_
              exact Run.fin
            · rcases ahead_or' hL 4 7 (by kernel_rfl) with o6 | o6
              · refine ⟨qF2, run_amongF hL _ [(0, 4), (1, 4), (2, 4), (5, 4), (6, 4), (4, 7)] [0, 1, 2, 3, 5, 6, 4, 7, 8, 9, 10] (by simp [o1, o2, o3, o4, o5, o6]) (by kernel_rfl) ?_⟩
                refine Run.ap [0, 1, 2, 3, 5, 6] [(91, .ptr 0 0 0), (92, .ptr 0 0 0), (93, .row 17), (94, .agg [.ex 1 [], .ex 1 []]), (96, .ptr 0 0 0), (97, .ptr 0 0 0)] [] ?_
                refine Run.one (StepF.mopAll (o := ((drawOf (G35 80 [false, false, false]))[4]?).getD default) (v := .ptr 18 0 0) (σ' := [.cells (hC 1 2 5 d), .row 2 (map fileD d.files) false, .cells [.row 3, .row 4], .row 1 (map strD d.nk) false, .row 1 (map intD d.nv) false, .row 3 (map chD d.ch) false, .cells [.ptr 0 0 0], .cells [.d (.int .i64 dir), .d (.list 1 (map intD keep))], .cells [.row 9, .row 10], .row 1 (map strD p.fst) true, .row 1 (map intD p.snd) true, .map (numE (bitsHas ws) n), .cells [.map 11], .cells [.row 15], .cells [.ptr 13 0 0], .row 1 (map w64 ws) true, .defd, .row 2 (map fileD fs) true, .cells [.ex 1 [], .ex 1 []]]) (by kernel_rfl) (by kernel_rfl) (by kernel_rfl) (by kernel_rfl)) ?_
                exact Run.fin
              · refine ⟨qF2, run_amongF hL _ [(0, 4), (1, 4), (2, 4), (5, 4), (6, 4), (7, 4)] [0, 1, 2, 3, 5, 6, 7, 4, 8, 9, 10] (by simp [o1, o2, o3, o4, o5, o6]) (by kernel_rfl) ?_⟩
                refine Run.ap [0, 1, 2, 3, 5, 6, 7] [(91, .ptr 0 0 0), (92, .ptr 0 0 0), (93, .row 17), (94, .agg [.ex 1 [], .ex 1 []]), (96, .ptr 0 0 0), (97, .ptr 0 0 0)] [(0, .cells (hC 17 2 5 d))] ?_
                refine Run.one (StepF.mopAll (o := ((drawOf (G35 80 [false, false, false]))[4]?).getD default) (v := .ptr 18 0 0) (σ' := [.cells (hC 17 2 5 d), .row 2 (map fileD d.files) false, .cells [.row 3, .row 4], .row 1 (map strD d.nk) false, .row 1 (map intD d.nv) false, .row 3 (map chD d.ch) false, .cells [.ptr 0 0 0], .cells [.d (.int .i64 dir), .d (.list 1 (map intD keep))], .cells [.row 9, .row 10], .row 1 (map strD p.fst) true, .row 1 (map intD p.snd) true, .map (numE (bitsHas ws) n), .cells [.map 11], .cells [.row 15], .cells [.ptr 13 0 0], .row 1 (map w64 ws) true, .defd, .row 2 (map fileD fs) true, .cells [.ex 1 [], .ex 1 []]]) (by kernel_rfl) (by kernel_rfl) (by kernel_rfl) (by kernel_rfl)) ?_
                exact Run.fin
        · refine ⟨qF2, run_amongF hL _ [(0, 4), (1, 4), (4, 2)] [0, 1, 3, 4, 2, 5, 6, 7, 8, 9, 10] (by simp [o1, o2, o3]) (by kernel_rfl) ?_⟩
          refine Run.ap [0, 1, 3] [(91, .ptr 0 0 0), (92, .ptr 0 0 0), (94, .agg [.ex 1 [], .ex 1 []])] [] ?_
          refine Run.one (StepF.mopAll (o := ((drawOf (G35 80 [false, false, false]))[4]?).getD default) (v := .ptr 18 0 0) (σ' := [.cells (hC 1 2 5 d), .row 2 (map fileD d.files) false, .cells [.row 3, .row 4], .row 1 (map strD d.nk) false, .row 1 (map intD d.nv) false, .row 3 (map chD d.ch) false, .cells [.ptr 0 0 0], .cells [.d (.int .i64 dir), .d (.list 1 (map intD keep))], .cells [.row 9, .row 10], .row 1 (map strD p.fst) true, .row 1 (map intD p.snd) true, .map (numE (bitsHas ws) n), .cells [.map 11], .cells [.row 15], .cells [.ptr 13 0 0], .row 1 (map w64 ws) true, .defd, .row 2 (map fileD fs) true, .cells [.ex 1 [], .ex 1 []]]) (by kernel_rfl) (by kernel_rfl) (by kernel_rfl) (by kernel_rfl)) ?_
          exact Run.fin
      · rcases ahead_or' hL 2 4 (by kernel_rfl) with o7 | o7
        · rcases ahead_or' hL 4 5 (by kernel_rfl) with o8 | o8
          · refine ⟨qF2, run_amongF hL _ [(0, 4), (4, 1), (2, 4), (4, 5)] [0, 2, 3, 4, 1, 5, 6, 7, 8, 9, 10] (by simp [o1, o2, o7, o8]) (by kernel_rfl) ?_⟩
            refine Run.ap [0, 2, 3] [(91, .ptr 0 0 0), (93, .row 17), (94, .agg [.ex 1 [], .ex 1 []])] [] ?_
            refine Run.one (StepF.mopAll (o := ((drawOf (G35 80 [false, false, false]))[4]?).getD default) (v := .ptr 18 0 0) (σ' := [.cells (hC 1 2 5 d), .row 2 (map fileD d.files) false, .cells [.row 3, .row 4], .row 1 (map strD d.nk) false, .row 1 (map intD d.nv) false, .row 3 (map chD d.ch) false, .cells [.ptr 0 0 0], .cells [.d (.int .i64 dir), .d (.list 1 (map intD keep))], .cells [.row 9, .row 10], .row 1 (map strD p.fst) true, .row 1 (map intD p.snd) true, .map (numE (bitsHas ws) n), .cells [.map 11], .cells [.row 15], .cells [.ptr 13 0 0], .row 1 (map w64 ws) true, .defd, .row 2 (map fileD fs) true, .cells [.ex 1 [], .ex 1 []]]) (by kernel_rfl) (by kernel_rfl) (by kernel_rfl) (by kernel_rfl)) ?_
            exact Run.fin
          · rcases ahead_or' hL 4 6 (by kernel_rfl) with o9 | o9
            · refine ⟨qF2, run_amongF hL _ [(0, 4), (4, 1), (2, 4), (5, 4), (4, 6)] [0, 2, 3, 5, 4, 1, 6, 7, 8, 9, 10] (by simp [o1, o2, o7, o8, o9]) (by kernel_rfl) ?_⟩
              refine Run.ap [0, 2, 3, 5] [(91, .ptr 0 0 0), (93, .row 17), (94, .agg [.ex 1 [], .ex 1 []]), (96, .ptr 0 0 0)] [] ?_
              refine Run.one (StepF.mopAll (o := ((drawOf (G35 80 [false, false, false]))[4]?).getD default) (v := .ptr 18 0 0) (σ' := [.cells (hC 1 2 5 d), .row 2 (map fileD d.files) false, .cells [.row 3, .row 4], .row 1 (map strD d.nk) false, .row 1 (map intD d.nv) false, .row 3 (map chD d.ch) false, .cells [.ptr 0 0 0], .cells [.d (.int .i64 dir), .d (.list 1 (map intD keep))], .cells [.row 9, .row 10], .row 1 (map strD p.fst) true, .row 1 (map intD p.snd) true, .map (numE (bitsHas ws) n), .cells [.map 11], .cells [.row 15], .cells [.ptr 13 0 0], .row 1 (map w64 ws) true, .defd, .row 2 (map fileD fs) true, .cells [.ex 1 [], .ex 1 []]]) (by kernel_rfl) (by kernel_rfl) (by kernel_rfl) (by kernel_rfl)) ?_
              exact Run.fin
            · rcases ahead_or' hL 4 7 (by kernel_rfl) with o10 | o10
              · refine ⟨qF2, run_amongF hL _ [(0, 4), (4, 1), (2, 4), (5, 4), (6, 4), (4, 7)] [0, 2, 3, 5, 6, 4, 1, 7, 8, 9, 10] (by simp [o1, o2, o7, o8, o9, o10]) (by kernel_rfl) ?_⟩
                refine Run.ap [0, 2, 3, 5, 6] [(91, .ptr 0 0 0), (93, .row 17), (94, .agg [.ex 1 [], .ex 1 []]), (96, .ptr 0 0 0), (97, .ptr 0 0 0)] [] ?_
                refine Run.one (StepF.mopAll (o := ((drawOf (G35 80 [false, false, false]))[4]?).getD default) (v := .ptr 18 0 0) (σ' := [.cells (hC 1 2 5 d), .row 2 (map fileD d.files) false, .cells [.row 3, .row 4], .row 1 (map strD d.nk) false, .row 1 (map intD d.nv) false, .row 3 (map chD d.ch) false, .cells [.ptr 0 0 0], .cells [.d (.int .i64 dir), .d (.list 1 (map intD keep))], .cells [.row 9, .row 10], .row 1 (map strD p.fst) true, .row 1 (map intD p.snd) true, .map (numE (bitsHas ws) n), .cells [.map 11], .cells [.row 15], .cells [.ptr 13 0 0], .row 1 (map w64 ws) true, .defd, .row 2 (map fileD fs) true, .cells [.ex 1 [], .ex 1 []]]) (by kernel_rfl) (by kernel_rfl) (by kernel_rfl) (by kernel_rfl)) ?_
                exact Run.fin
              · refine ⟨qF2, run_amongF hL _ [(0, 4), (4, 1), (2, 4), (5, 4), (6, 4), (7, 4)] [0, 2, 3, 5, 6, 7, 4, 1, 8, 9, 10] (by simp [o1, o2, o7, o8, o9, o10]) (by kernel_rfl) ?_⟩
                refine Run.ap [0, 2, 3, 5, 6, 7] [(91, .ptr 0 0 0), (93, .row 17), (94, .agg [.ex 1 [], .ex 1 []]), (96, .ptr 0 0 0), (97, .ptr 0 0 0)] [(0, .cells (hC 17 2 5 d))] ?_
                refine Run.one (StepF.mopAll (o := ((drawOf (G35 80 [false, false, false]))[4]?).getD default) (v := .ptr 18 0 0) (σ' := [.cells (hC 17 2 5 d), .row 2 (map fileD d.files) false, .cells [.row 3, .row 4], .row 1 (map strD d.nk) false, .row 1 (map intD d.nv) false, .row 3 (map chD d.ch) false, .cells [.ptr 0 0 0], .cells [.d (.int .i64 dir), .d (.list 1 (map intD keep))], .cells [.row 9, .row 10], .row 1 (map strD p.fst) true, .row 1 (map intD p.snd) true, .map (numE (bitsHas ws) n), .cells [.map 11], .cells [.row 15], .cells [.ptr 13 0 0], .row 1 (map w64 ws) true, .defd, .row 2 (map fileD fs) true, .cells [.ex 1 [], .ex 1 []]]) (by kernel_rfl) (by kernel_rfl) (by kernel_rfl) (by kernel_rfl)) ?_
                exact Run.fin
        · refine ⟨qF2, run_amongF hL _ [(0, 4), (4, 1), (4, 2)] [0, 3, 4, 1, 2, 5, 6, 7, 8, 9, 10] (by simp [o1, o2, o7]) (by kernel_rfl) ?_⟩
          refine Run.ap [0, 3] [(91, .ptr 0 0 0), (94, .agg [.ex 1 [], .ex 1 []])] [] ?_
          refine Run.one (StepF.mopAll (o := ((drawOf (G35 80 [false, false, false]))[4]?).getD default) (v := .ptr 18 0 0) (σ' := [.cells (hC 1 2 5 d), .row 2 (map fileD d.files) false, .cells [.row 3, .row 4], .row 1 (map strD d.nk) false, .row 1 (map intD d.nv) false, .row 3 (map chD d.ch) false, .cells [.ptr 0 0 0], .cells [.d (.int .i64 dir), .d (.list 1 (map intD keep))], .cells [.row 9, .row 10], .row 1 (map strD p.fst) true, .row 1 (map intD p.snd) true, .map (numE (bitsHas ws) n), .cells [.map 11], .cells [.row 15], .cells [.ptr 13 0 0], .row 1 (map w64 ws) true, .defd, .row 2 (map fileD fs) true, .cells [.ex 1 [], .ex 1 []]]) (by kernel_rfl) (by kernel_rfl) (by kernel_rfl) (by kernel_rfl)) ?_
          exact Run.fin
    · rcases ahead_or' hL 1 4 (by kernel_rfl) with o11 | o11
      · rcases ahead_or' hL 2 4 (by kernel_rfl) with o12 | o12
        · refine ⟨qF2, run_amongF hL _ [(4, 0), (1, 4), (2, 4)] [1, 2, 3, 4, 0, 5, 6, 7, 8, 9, 10] (by simp [o1, o11, o12]) (by kernel_rfl) ?_⟩
          refine Run.ap [1, 2, 3] [(92, .ptr 0 0 0), (93, .row 17), (94, .agg [.ex 1 [], .ex 1 []])] [] ?_
          refine Run.one (StepF.mopAll (o := ((drawOf (G35 80 [false, false, false]))[4]?).getD default) (v := .ptr 18 0 0) (σ' := [.cells (hC 1 2 5 d), .row 2 (map fileD d.files) false, .cells [.row 3, .row 4], .row 1 (map strD d.nk) false, .row 1 (map intD d.nv) false, .row 3 (map chD d.ch) false, .cells [.ptr 0 0 0], .cells [.d (.int .i64 dir), .d (.list 1 (map intD keep))], .cells [.row 9, .row 10], .row 1 (map strD p.fst) true, .row 1 (map intD p.snd) true, .map (numE (bitsHas ws) n), .cells [.map 11], .cells [.row 15], .cells [.ptr 13 0 0], .row 1 (map w64 ws) true, .defd, .row 2 (map fileD fs) true, .cells [.ex 1 [], .ex 1 []]]) (by kernel_rfl) (by kernel_rfl) (by kernel_rfl) (by kernel_rfl)) ?_
          exact Run.fin
        · refine ⟨qF2, run_amongF hL _ [(4, 0), (1, 4), (4, 2)] [1, 3, 4, 0, 2, 5, 6, 7, 8, 9, 10] (by simp [o1, o11, o12]) (by kernel_rfl) ?_⟩
          refine Run.ap [1, 3] [(92, .ptr 0 0 0), (94, .agg [.ex 1 [], .ex 1 []])] [] ?_
          refine Run.one (StepF.mopAll (o := ((drawOf (G35 80 [false, false, false]))[4]?).getD default) (v := .ptr 18 0 0) (σ' := [.cells (hC 1 2 5 d), .row 2 (map fileD d.files) false, .cells [.row 3, .row 4], .row 1 (map strD d.nk) false, .row 1 (map intD d.nv) false, .row 3 (map chD d.ch) false, .cells [.ptr 0 0 0], .cells [.d (.int .i64 dir), .d (.list 1 (map intD keep))], .cells [.row 9, .row 10], .row 1 (map strD p.fst) true, .row 1 (map intD p.snd) true, .map (numE (bitsHas ws) n), .cells [.map 11], .cells [.row 15], .cells [.ptr 13 0 0], .row 1 (map w64 ws) true, .defd, .row 2 (map fileD fs) true, .cells [.ex 1 [], .ex 1 []]]) (by kernel_rfl) (by kernel_rfl) (by kernel_rfl) (by kernel_rfl)) ?_
          exact Run.fin
      · rcases ahead_or' hL 2 4 (by kernel_rfl) with o13 | o13
        · refine ⟨qF2, run_amongF hL _ [(4, 0), (4, 1), (2, 4)] [2, 3, 4, 0, 1, 5, 6, 7, 8, 9, 10] (by simp [o1, o11, o13]) (by kernel_rfl) ?_⟩
          refine Run.ap [2, 3] [(93, .row 17), (94, .agg [.ex 1 [], .ex 1 []])] [] ?_
          refine Run.one (StepF.mopAll (o := ((drawOf (G35 80 [false, false, false]))[4]?).getD default) (v := .ptr 18 0 0) (σ' := [.cells (hC 1 2 5 d), .row 2 (map fileD d.files) false, .cells [.row 3, .row 4], .row 1 (map strD d.nk) false, .row 1 (map intD d.nv) false, .row 3 (map chD d.ch) false, .cells [.ptr 0 0 0], .cells [.d (.int .i64 dir), .d (.list 1 (map intD keep))], .cells [.row 9, .row 10], .row 1 (map strD p.fst) true, .row 1 (map intD p.snd) true, .map (numE (bitsHas ws) n), .cells [.map 11], .cells [.row 15], .cells [.ptr 13 0 0], .row 1 (map w64 ws) true, .defd, .row 2 (map fileD fs) true, .cells [.ex 1 [], .ex 1 []]]) (by kernel_rfl) (by kernel_rfl) (by kernel_rfl) (by kernel_rfl)) ?_
          exact Run.fin
        · refine ⟨qF2, run_amongF hL _ [(4, 0), (4, 1), (4, 2)] [3, 4, 0, 1, 2, 5, 6, 7, 8, 9, 10] (by simp [o1, o11, o13]) (by kernel_rfl) ?_⟩
          refine Run.ap [3] [(94, .agg [.ex 1 [], .ex 1 []])] [] ?_
          refine Run.one (StepF.mopAll (o := ((drawOf (G35 80 [false, false, false]))[4]?).getD default) (v := .ptr 18 0 0) (σ' := [.cells (hC 1 2 5 d), .row 2 (map fileD d.files) false, .cells [.row 3, .row 4], .row 1 (map strD d.nk) false, .row 1 (map intD d.nv) false, .row 3 (map chD d.ch) false, .cells [.ptr 0 0 0], .cells [.d (.int .i64 dir), .d (.list 1 (map intD keep))], .cells [.row 9, .row 10], .row 1 (map strD p.fst) true, .row 1 (map intD p.snd) true, .map (numE (bitsHas ws) n), .cells [.map 11], .cells [.row 15], .cells [.ptr 13 0 0], .row 1 (map w64 ws) true, .defd, .row 2 (map fileD fs) true, .cells [.ex 1 [], .ex 1 []]]) (by kernel_rfl) (by kernel_rfl) (by kernel_rfl) (by kernel_rfl)) ?_
          exact Run.fin
  refine .sg0 4 [2, 4, 7, 100] (G35 85 [false, false, false]) [(100, .ptr 8 0 0)] ?_
  refine .ca [8, 9, 10] (G35 86 [false, false, false]) F72 (@spec_72 (map strD p.fst) (map intD p.snd)) ?_
  rintro r13 s13 ⟨rfl, rfl⟩
  refine ⟨_, rfl, ?_⟩
  refine .seg 2 [2, 7, 101] (T' := cgo 88 [false, false, false] [.code B35]) (tm' := mk 133 [(2, .ptr 6 0 0), (7, .ptr 12 0 0), (101, .fn (Fn.func 109) [] [.ptr 19 0 0, .ptr 20 0 0])]) (σ' := [.cells (hC 17 18 5 d), .row 2 (map fileD d.files) false, .cells [.row 3, .row 4], .row 1 (map strD d.nk) false, .row 1 (map intD d.nv) false, .row 3 (map chD d.ch) false, .cells [.ptr 0 0 0], .cells [.d (.int .i64 dir), .d (.list 1 (map intD keep))], .cells [.row 9, .row 10], .row 1 (map strD p.fst) true, .row 1 (map intD p.snd) true, .map (numE (bitsHas ws) n), .cells [.map 11], .cells [.row 15], .cells [.ptr 13 0 0], .row 1 (map w64 ws) true, .defd, .row 2 (map fileD fs) true, .cells [.ex 1 [], .ex 1 []], .cells [.ptr 8 0 0], .cells [.fn (Fn.func 98) [] []]]) (by kernel_rfl) ?_
  refine .virtX 18 0 1 rfl rfl ?_
  refine .virtX 18 1 1 rfl rfl ?_
  refine .raise 21 rfl rfl ?_
  refine .raise 22 rfl rfl ?_
  refine .rangeH (first := []) (cap := [.ptr 19 0 0, .ptr 20 0 0]) (List.range 25) [.yield 24, .ptr 19 0 0, .ptr 20 0 0] (S35b d dir keep p ws n fs 0 .ready) F109 (by kernel_rfl) (T' := cgo 89 [false, false, false] [Item.code B35]) (by kernel_rfl) (by kernel_rfl) (it35b d dir keep p ws n fs hr hl hv hn) (by kernel_rfl) (by kernel_rfl) (by refine ⟨rfl, by kernel_rfl, ?_⟩; kernel_rfl) ?_
  rintro r σc' ⟨rfl, rfl⟩
  refine ⟨.tuple [], .ready, (mk 133 [(2, V.ptr 6 0 0), (7, V.ptr 12 0 0), (101, V.fn (Fn.func 109) [] [V.ptr 19 0 0, V.ptr 20 0 0])]), rfPs (G35 88 [false, false, false]), rfAs (G35 88 [false, false, false]), rfBd (G35 88 [false, false, false]), 35, rfl, by simp, by kernel_rfl, ?_⟩
  have e1 : p.1.take p.1.length = p.1 := List.take_length
  have e2 : (nums (bitsHas ws) p.2).take p.1.length = nums (bitsHas ws) p.2 := by rw [← hv]; unfold nums; rw [List.take_of_length_le (by simp)]
  rw [show SE d p.1 (nums (bitsHas ws) p.2) fs = SE d (p.1.take p.1.length) ((nums (bitsHas ws) p.2).take p.1.length) fs by rw [e1, e2]] at hnext
  refine .kp [2] ?_
  exact .sub [0, 1, 2, 3, 4, 5, 6, 17, 18, 21, 22, 16, 23] (mk 133 [(2, .ptr 6 0 0)]) (SE d (p.1.take p.1.length) ((nums (bitsHas ws) p.2).take p.1.length) fs) none [12, 11] ⟨rfl, by kernel_rfl, by kernel_rfl⟩ (by kernel_rfl) ⟨Nat.le_of_ble_eq_true (by kernel_rfl), by kernel_rfl⟩ (by kernel_rfl) ⟨by kernel_rfl, by kernel_rfl⟩ ⟨rfl, rfl⟩ hnext
theorem stC (d : Dk) (N : Nat) (h : d.Ok N) (dir : Int) (keep : List Int) (hk : keep.length < 1000000000) (hkv : ∀ v ∈ keep, -9223372036854775808 ≤ v ∧ v < 9223372036854775808) (p : List ByteArray × List Int) (ws : List (BitVec 64)) (hw : ws.length < 1000000000) (Q : AE → Store → Prop)
  (hnext : AW Try.prog 35 none 6 (G35 79 [false, false, false]) (mk 133 [(2, .ptr 6 0 0), (4, .ptr 8 0 0), (7, .ptr 12 0 0), (11, .row 17)]) (SC d dir keep p ws (numE (bitsHas ws) d.files.length) (kept (bitsHas ws) keep 0 d.files)) [16] Q) :
  AW Try.prog 35 none 6 (G35 55 [false, false]) (mk 133 [(2, .ptr 6 0 0), (3, .ptr 7 0 0), (4, .ptr 8 0 0), (7, .ptr 12 0 0), (8, .ptr 14 0 0)]) (SB d dir keep p ws []) [16] Q := by
 refine .seg 16 [2, 3, 4, 7, 8, 11, 60, 61, 62] (T' := cgo 71 [false, false] [.code B35]) (tm' := mk 133 [(2, .ptr 6 0 0), (3, .ptr 7 0 0), (4, .ptr 8 0 0), (7, .ptr 12 0 0), (8, .ptr 14 0 0), (11, .nils), (60, .row 1), (61, .d (.int .i64 (↑(map fileD d.files).length : Int))), (62, .d (.int .i64 0))]) (σ' := [.cells (hC 1 2 5 d), .row 2 (map fileD d.files) false, .cells [.row 3, .row 4], .row 1 (map strD d.nk) false, .row 1 (map intD d.nv) false, .row 3 (map chD d.ch) false, .cells [.ptr 0 0 0], .cells [.d (.int .i64 dir), .d (.list 1 (map intD keep))], .cells [.row 9, .row 10], .row 1 (map strD p.fst) true, .row 1 (map intD p.snd) true, .map [], .cells [.map 11], .cells [.row 15], .cells [.ptr 13 0 0], .row 1 (map w64 ws) true, .defd]) (by kernel_rfl) ?_
 simp only [List.length_map]
 refine .virtT 11 2 (by kernel_rfl) ?_
 refine .raise 17 rfl rfl ?_
 exact .seg 1 [2, 3, 4, 7, 8, 11, 60, 61, 62] (by kernel_rfl) (loC d N h dir keep hk hkv p ws hw Q hnext d.files.length 0 (by omega))
theorem spec_35 (d : Dk) (N : Nat) (h : d.Ok N) (dir : Int) (keep : List Int) (hk : keep.length < 1000000000) (hkv : ∀ v ∈ keep, -9223372036854775808 ≤ v ∧ v < 9223372036854775808) :
   CallsA Try.prog 35 [.ptr 0 0 0, .d (.agg [.int .i64 dir, .list 1 (keep.map intD)])] (SD d false) fun r σ' => r = .ret (.tuple []) ∧ σ' = SDc d (d.crash dir keep) := by
 refine CallsA.start F35 (tm := mk (Try.f35.ntmps) [(0, .ptr 0 0 0), (1, .d (.agg [.int .i64 dir, .list 1 (keep.map intD)]))]) (by kernel_rfl) ?_
 have q1 := h.sr
 have q2 := h.sl
 have q3 := h.skl
 have q4 := h.nb
 have q5 := h.fl
 refine .sg 19 [2, 3, 19, 20, 21, 22] (G35 19 [false]) [(2, .ptr 6 0 0), (3, .ptr 7 0 0), (19, .ptr 0 0 0), (20, .ptr 0 0 0), (21, .ptr 0 0 2), (22, .ep 2 (D.agg [D.list 1 (map strD d.sk), D.list 1 (map intD d.sv)]) 0)] [(6, .cells [.ptr 0 0 0]), (7, .cells [.d (.int .i64 dir), .d (.list 1 (map intD keep))])] ?_
 refine .ca [] (G35 20 [false]) F69 (@spec_69e (d.sk) (d.sv) (by assumption) (by omega) (by assumption)) ?_
 rintro r0 s0 ⟨rfl, rfl⟩
 refine ⟨_, rfl, ?_⟩
 refine .sg0 4 [2, 3, 4] (G35 24 [false]) [(4, .ptr 8 0 0)] ?_
 refine .dr (G35 25 [false]) [(24, .ptr 0 0 0), (25, .ptr 0 0 0), (26, .ptr 0 0 3), (27, .row 5), (28, .ptr 7 0 0), (29, .d (.int .i64 dir)), (30, .ptr 0 0 0), (31, .ptr 0 0 0), (32, .ptr 0 0 3), (33, .row 5), (34, .d (.int .i64 (↑(map chD d.ch).length : Int))), (35, .d (.int .i64 (if (↑(map chD d.ch).length : Int) < dir then (↑(map chD d.ch).length : Int) else dir))), (36, .d (.int .i64 (if (if (↑(map chD d.ch).length : Int) < dir then (↑(map chD d.ch).length : Int) else dir) > 0 then if (↑(map chD d.ch).length : Int) < dir then (↑(map chD d.ch).length : Int) else dir else 0))), (37, .sl 5 0 ((if (if (↑(map chD d.ch).length : Int) < dir then (↑(map chD d.ch).length : Int) else dir) > 0 then if (↑(map chD d.ch).length : Int) < dir then (↑(map chD d.ch).length : Int) else dir else 0).toNat - 0) none), (38, .d (.int .i64 (↑((if (if (↑(map chD d.ch).length : Int) < dir then (↑(map chD d.ch).length : Int) else dir) > 0 then if (↑(map chD d.ch).length : Int) < dir then (↑(map chD d.ch).length : Int) else dir else 0).toNat - 0) : Int))), (39, .d (.int .i64 0))] [] (fun kz L hL => ?_) ?_
 · refine ⟨[fB 6 0, fA 0, fA 0, ⟨[0], [], [], [5], [0, 1, 2, 5], [], true, false⟩, fA 7, fR 7, fB 6 0, fA 0, fA 0, ⟨[0], [], [], [5], [0, 1, 2, 5], [], true, false⟩, fR 5, nF, nF, ⟨[5], [], [], [5], [5], [], true, false⟩, fR 5, nF], run_amongF hL _ [] [0, 1, 2, 3, 4, 5, 6, 7, 8, 9, 15, 10, 11, 12, 13, 14] (by intro p hp; cases hp) (by kernel_rfl) ?_⟩
   refine Run.ap [0, 1, 2, 3, 4, 5, 6, 7, 8, 9, 15, 10, 11, 12] [(24, .ptr 0 0 0), (25, .ptr 0 0 0), (26, .ptr 0 0 3), (27, .row 5), (28, .ptr 7 0 0), (29, .d (.int .i64 dir)), (30, .ptr 0 0 0), (31, .ptr 0 0 0), (32, .ptr 0 0 3), (33, .row 5), (34, .d (.int .i64 (↑(map chD d.ch).length : Int))), (35, .d (.int .i64 (if (↑(map chD d.ch).length : Int) < dir then (↑(map chD d.ch).length : Int) else dir))), (36, .d (.int .i64 (if (if (↑(map chD d.ch).length : Int) < dir then (↑(map chD d.ch).length : Int) else dir) > 0 then if (↑(map chD d.ch).length : Int) < dir then (↑(map chD d.ch).length : Int) else dir else 0))), (39, .d (.int .i64 0))] [] ?_
   refine Run.lk 13 (.sl 5 0 ((if (if (↑(map chD d.ch).length : Int) < dir then (↑(map chD d.ch).length : Int) else dir) > 0 then if (↑(map chD d.ch).length : Int) < dir then (↑(map chD d.ch).length : Int) else dir else 0).toNat - 0) none) [(.tmp 27), (.tmp 36)] (fun tm' σ2 hv hr => slRow_ok (t := 106) (x := (.tmp 27)) (lo := none) (hi := (some (.tmp 36))) (lc := 5) (sz := 3) (xs := map chD d.ch) (mv := false) (0) ((if (if (↑(map chD d.ch).length : Int) < dir then (↑(map chD d.ch).length : Int) else dir) > 0 then if (↑(map chD d.ch).length : Int) < dir then (↑(map chD d.ch).length : Int) else dir else 0).toNat) (by kernel_rfl) (evv hv) (atr hr) (by kernel_rfl) rfl (bnd_some (k := IntKind.i64) (i := if (if (↑(map chD d.ch).length : Int) < dir then (↑(map chD d.ch).length : Int) else dir) > 0 then if (↑(map chD d.ch).length : Int) < dir then (↑(map chD d.ch).length : Int) else dir else 0) (evv hv) (by omega) (by rfl)) (by omega) (by omega)) ?_
   exact Run.fin
 refine .sg0 1 [2, 3, 4, 37, 38, 39] (G35 26 [false]) [] ?_
 simp only [List.length_map]
 obtain ⟨n1, n2, n3, n4⟩ := Dk.names_ok h dir
 have hb60 : ∀ v ∈ (d.names dir).2, 0 ≤ v ∧ v < 60000 := fun v hv => by have := n3 v hv; omega
 have eK : ((if (if ((d.ch.length : Nat) : Int) < dir then ((d.ch.length : Nat) : Int) else dir) > 0 then if ((d.ch.length : Nat) : Int) < dir then ((d.ch.length : Nat) : Int) else dir else 0).toNat - 0) = (min dir d.ch.length).toNat := by
   split <;> split <;> omega
 rw [eK]
 have hhas : bitsHas (bitsAll (d.names dir).2) = d.has dir := funext fun m => by rw [bitsAll_has _ hb60]; rfl
 refine .seg 1 [2, 3, 4, 37, 38, 39] (by kernel_rfl) (loA d N h dir keep (min dir d.ch.length).toNat (by omega) _ ?_ (min dir d.ch.length).toNat 0 (by omega))
 show AW Try.prog 35 none 6 _ _ (SA d dir keep (d.names dir)) [] _
 refine stB d dir keep (d.names dir) (by omega) n2 hb60 _ ?_
 refine stC d N h dir keep hk hkv (d.names dir) (bitsAll (d.names dir).2) (by have := bitsAll_len _ hb60; omega) _ ?_
 refine stD d dir keep (d.names dir) (bitsAll (d.names dir).2) d.files.length _ n1 (by omega) n2 (fun v hv => ?_) _ ?_
 · have := n3 v hv
   refine ⟨this.1, this.2, ?_⟩
   rw [hhas]
   simp only [Dk.has, decide_eq_true_eq]
   rw [show ((v.toNat : Nat) : Int) = v by omega]; exact hv
 · refine (stE d (d.names dir).1 (nums (bitsHas (bitsAll (d.names dir).2)) (d.names dir).2) _ n1 (by omega) (by simp [nums, n2])).mono ?_
   rintro r σ' ⟨rfl, rfl⟩
   exact ⟨rfl, by rw [hhas]; rfl⟩
end Go.Proofs.Ytoelkgbeefoplaa
namespace Go.Proofs.Ytoelkgbeefoplaa
open Go Go.Br Go.Proofs
open List (map)
theorem spec_31c (d : Dk) (N : Nat) (h : d.Ok N) (hN : N + 2 ≤ 50000) (x : ByteArray) (hx : x.size < 1000000000) (bs : List UInt8) (ds : List D) (hds : ds = bs.map u8) (hb : bs.length < 1000000000) :
  CallsA Try.prog 31 [.ptr 0 0 0, .d (.str x), .d (.list 1 ds)] (SD d false) fun r σ' => r = .ret (.d (.int .i64 (d.begun.appendE x bs))) ∧ σ' = SD (d.begun.appendD x bs) true := by
 subst hds
 exact spec_31 d N h hN x hx bs hb
theorem spec_35c (d : Dk) (N : Nat) (h : d.Ok N) (dir : Int) (keep : List Int) (ds : List D) (hds : ds = keep.map intD) (hk : keep.length < 1000000000) (hkv : ∀ v ∈ keep, -9223372036854775808 ≤ v ∧ v < 9223372036854775808) :
  CallsA Try.prog 35 [.ptr 0 0 0, .d (.agg [.int .i64 dir, .list 1 ds])] (SD d false) fun r σ' => r = .ret (.tuple []) ∧ σ' = SDc d (d.crash dir keep) := by
 subst hds
 exact spec_35 d N h dir keep hk hkv
noncomputable def B30 : Code := (Try.f30.body).getD .skip
noncomputable def G30 (n : Nat) (l : List Bool) : List Item := cgo n l [.code B30]
theorem F30 : Fnc Try.prog 30 Try.f30 B30 := ⟨Try.func30, by kernel_rfl, by kernel_rfl⟩
def d1 : Dk := (Dk.new 10).begun.createD ⟨#[97]⟩
def d2 : Dk := d1.begun.appendD ⟨#[97]⟩ (List.replicate 12 0)
def d3 : Dk := d2.begun.appendD ⟨#[97]⟩ (List.replicate 5 0)
def d4 : Dk := d3.begun.syncD ⟨#[97]⟩
def d5 : Dk := d4.begun.appendD ⟨#[97]⟩ [1, 2]
def d6 : Dk := d5.begun.syncDirD
def d7 : Dk := d6.crash 0 [1]
theorem e2 : (Dk.new 10).begun.createE ⟨#[97]⟩ = 0 := by kernel_rfl
theorem e3 : d1.begun.appendE ⟨#[97]⟩ (List.replicate 12 0) = 4 := by kernel_rfl
theorem e4 : d2.begun.appendE ⟨#[97]⟩ (List.replicate 5 0) = 0 := by kernel_rfl
theorem e5 : d3.begun.err true [⟨#[97]⟩] = 0 := by kernel_rfl
theorem e6 : d4.begun.appendE ⟨#[97]⟩ [1, 2] = 0 := by kernel_rfl
theorem e7 : d5.begun.err false [] = 0 := by kernel_rfl
theorem e8 : (look d7.nk d7.nv ⟨#[97]⟩).isSome = true := by kernel_rfl
theorem lv30 (d : Dk) (hd : d = Dk.new 10) :
   AW Try.prog 30 none 0 (G30 9 []) (mk 66 [(1, .ptr 0 0 0)]) (SD d true) [] fun r σ' => r = .ret (.d (.bool true)) := by
 have h0 : d.Ok 0 := hd ▸ Dk.new_ok (by decide)
 have ha : (ByteArray.mk #[97]).size < 1000000000 := by decide
 have h1 := Dk.createD_ok (Dk.begun_ok h0 (by omega)) (by omega) (ByteArray.mk #[97])
 have b12 : List.replicate 12 (D.int IntKind.u8 0) = List.map u8 (List.replicate 12 0) := rfl
 have b5 : List.replicate 5 (D.int IntKind.u8 0) = List.map u8 (List.replicate 5 0) := rfl
 have h2 := Dk.appendD_ok (Dk.begun_ok h1 (by omega)) (ByteArray.mk #[97]) (List.replicate 12 0)
 have h3 := Dk.appendD_ok (Dk.begun_ok h2 (by omega)) (ByteArray.mk #[97]) (List.replicate 5 0)
 have h4 := Dk.syncD_ok (Dk.begun_ok h3 (by omega)) (ByteArray.mk #[97])
 have b2 : [D.int IntKind.u8 1, D.int IntKind.u8 2] = List.map u8 [1, 2] := rfl
 have h5 := Dk.appendD_ok (Dk.begun_ok h4 (by omega)) (ByteArray.mk #[97]) [1, 2]
 have h6 := Dk.syncDirD_ok (Dk.begun_ok h5 (by omega))
 have k1 : [D.int IntKind.i64 1] = List.map intD [1] := rfl
 have h7 := Dk.crash_ok h6 0 [1]
 refine .sg0 1 [1] (G30 10 []) [] ?_
 refine .dr (G30 11 []) [(2, .d (.int .i64 (d.begun.createE (ByteArray.mk #[97])))), (3, .d (.int .i64 ((d.begun.createD (ByteArray.mk #[97])).begun.appendE (ByteArray.mk #[97]) (List.replicate 12 0)))), (4, .d (.int .i64 (((d.begun.createD (ByteArray.mk #[97])).begun.appendD (ByteArray.mk #[97]) (List.replicate 12 0)).begun.appendE (ByteArray.mk #[97]) (List.replicate 5 0)))), (11, .ptr 0 0 0), (12, .d (.int .i64 (d.begun.createE (ByteArray.mk #[97])))), (13, .ptr 0 0 0), (14, .d (.list 1 [D.int IntKind.u8 0, D.int IntKind.u8 0, D.int IntKind.u8 0, D.int IntKind.u8 0, D.int IntKind.u8 0, D.int IntKind.u8 0, D.int IntKind.u8 0, D.int IntKind.u8 0, D.int IntKind.u8 0, D.int IntKind.u8 0, D.int IntKind.u8 0, D.int IntKind.u8 0])), (15, .d (.int .i64 ((d.begun.createD (ByteArray.mk #[97])).begun.appendE (ByteArray.mk #[97]) (List.replicate 12 0)))), (16, .ptr 0 0 0), (17, .d (.list 1 [D.int IntKind.u8 0, D.int IntKind.u8 0, D.int IntKind.u8 0, D.int IntKind.u8 0, D.int IntKind.u8 0])), (18, .d (.int .i64 (((d.begun.createD (ByteArray.mk #[97])).begun.appendD (ByteArray.mk #[97]) (List.replicate 12 0)).begun.appendE (ByteArray.mk #[97]) (List.replicate 5 0))))] [(0, .cells (hC 1 2 5 (((d.begun.createD (ByteArray.mk #[97])).begun.appendD (ByteArray.mk #[97]) (List.replicate 12 0)).begun.appendD (ByteArray.mk #[97]) (List.replicate 5 0)))), (1, .row 2 (map fileD (((d.begun.createD (ByteArray.mk #[97])).begun.appendD (ByteArray.mk #[97]) (List.replicate 12 0)).begun.appendD (ByteArray.mk #[97]) (List.replicate 5 0)).files) true), (3, .row 1 (map strD (((d.begun.createD (ByteArray.mk #[97])).begun.appendD (ByteArray.mk #[97]) (List.replicate 12 0)).begun.appendD (ByteArray.mk #[97]) (List.replicate 5 0)).nk) true), (4, .row 1 (map intD (((d.begun.createD (ByteArray.mk #[97])).begun.appendD (ByteArray.mk #[97]) (List.replicate 12 0)).begun.appendD (ByteArray.mk #[97]) (List.replicate 5 0)).nv) true), (5, .row 3 (map chD (((d.begun.createD (ByteArray.mk #[97])).begun.appendD (ByteArray.mk #[97]) (List.replicate 12 0)).begun.appendD (ByteArray.mk #[97]) (List.replicate 5 0)).ch) true)] (fun kz L hL => ?_) ?_
 · refine ⟨[fO 0, ⟨[0, 1, 2, 3, 4, 5], [0, 1, 2, 3, 4, 5], [1, 3, 4, 5], [1, 2, 5, 3, 4], [0, 1, 2, 5, 3, 4], [], true, false⟩, fO 0, nF, ⟨[0, 1, 2, 3, 4, 5], [0, 1, 2, 3, 4, 5], [1, 3, 4, 5], [1, 2, 5, 3, 4], [0, 1, 2, 5, 3, 4], [], true, false⟩, fO 0, nF, ⟨[0, 1, 2, 3, 4, 5], [0, 1, 2, 3, 4, 5], [1, 3, 4, 5], [1, 2, 5, 3, 4], [0, 1, 2, 5, 3, 4], [], true, false⟩, nF, nF, nF], run_amongF hL _ [] [0, 2, 3, 5, 6, 1, 4, 7, 8, 9, 10] (by intro p hp; cases hp) (by kernel_rfl) ?_⟩
   refine Run.ap [0, 2] [(11, .ptr 0 0 0), (13, .ptr 0 0 0)] [] ?_
   refine Run.lk 3 (.d (.list 1 [D.int IntKind.u8 0, D.int IntKind.u8 0, D.int IntKind.u8 0, D.int IntKind.u8 0, D.int IntKind.u8 0, D.int IntKind.u8 0, D.int IntKind.u8 0, D.int IntKind.u8 0, D.int IntKind.u8 0, D.int IntKind.u8 0, D.int IntKind.u8 0, D.int IntKind.u8 0])) [(.const (Value.int IntKind.i64 12)), (.const (Value.int IntKind.i64 12))] (fun tm' σ2 hv hr => makeD_ok (t := 22) (l := (.const (Value.int IntKind.i64 12))) (c := (.const (Value.int IntKind.i64 12))) (e := 5) (z := (Value.int IntKind.u8 (0))) (dz := D.int IntKind.u8 0) (bytes := 1) (n := 12) (kl := IntKind.i64) (kc := IntKind.i64) (by kernel_rfl) (by kernel_rfl) (by kernel_rfl) (by kernel_rfl) (evv hv) (evv hv) (by omega) (by first | (simp [maxLen] <;> omega) | omega)) ?_
   refine Run.ap [5] [(16, .ptr 0 0 0)] [] ?_
   refine Run.lk 6 (.d (.list 1 [D.int IntKind.u8 0, D.int IntKind.u8 0, D.int IntKind.u8 0, D.int IntKind.u8 0, D.int IntKind.u8 0])) [(.const (Value.int IntKind.i64 5)), (.const (Value.int IntKind.i64 5))] (fun tm' σ2 hv hr => makeD_ok (t := 22) (l := (.const (Value.int IntKind.i64 5))) (c := (.const (Value.int IntKind.i64 5))) (e := 5) (z := (Value.int IntKind.u8 (0))) (dz := D.int IntKind.u8 0) (bytes := 1) (n := 5) (kl := IntKind.i64) (kc := IntKind.i64) (by kernel_rfl) (by kernel_rfl) (by kernel_rfl) (by kernel_rfl) (evv hv) (evv hv) (by omega) (by first | (simp [maxLen] <;> omega) | omega)) ?_
   refine Run.cl 1 [0, 1, 2, 3, 4, 5] F26 (@spec_26 (d) (0) (by assumption) (by omega) (ByteArray.mk #[97]) (by assumption)) ?_
   refine Run.cl 4 [0, 1, 2, 3, 4, 5] F31 (@spec_31c (d.begun.createD (ByteArray.mk #[97])) (0 + 1 + 1) (by assumption) (by omega) (ByteArray.mk #[97]) (by assumption) (List.replicate 12 0) ([D.int IntKind.u8 0, D.int IntKind.u8 0, D.int IntKind.u8 0, D.int IntKind.u8 0, D.int IntKind.u8 0, D.int IntKind.u8 0, D.int IntKind.u8 0, D.int IntKind.u8 0, D.int IntKind.u8 0, D.int IntKind.u8 0, D.int IntKind.u8 0, D.int IntKind.u8 0]) (by assumption) (by simp; done)) ?_
   refine Run.cl 7 [0, 1, 2, 3, 4, 5] F31 (@spec_31c ((d.begun.createD (ByteArray.mk #[97])).begun.appendD (ByteArray.mk #[97]) (List.replicate 12 0)) (0 + 1 + 1 + 1) (by assumption) (by omega) (ByteArray.mk #[97]) (by assumption) (List.replicate 5 0) ([D.int IntKind.u8 0, D.int IntKind.u8 0, D.int IntKind.u8 0, D.int IntKind.u8 0, D.int IntKind.u8 0]) (by assumption) (by simp; done)) ?_
   exact Run.fin
 refine .sg0 3 [1, 2, 3, 4, 19] (G30 14 []) [(19, .ptr 0 0 0)] ?_
 refine .ca [0, 1, 2, 3, 4, 5] (G30 15 []) F32 (@spec_32 (((d.begun.createD (ByteArray.mk #[97])).begun.appendD (ByteArray.mk #[97]) (List.replicate 12 0)).begun.appendD (ByteArray.mk #[97]) (List.replicate 5 0)) (0 + 1 + 1 + 1 + 1) (by assumption) (by omega) (ByteArray.mk #[97]) (by assumption)) ?_
 rintro r9 s9 ⟨rfl, rfl⟩
 refine ⟨_, rfl, ?_⟩
 refine .sg 6 [1, 2, 3, 4, 5, 21, 22] (G30 21 []) [(5, .d (.int .i64 ((((d.begun.createD (ByteArray.mk #[97])).begun.appendD (ByteArray.mk #[97]) (List.replicate 12 0)).begun.appendD (ByteArray.mk #[97]) (List.replicate 5 0)).begun.err true [ByteArray.mk #[97]]))), (21, .ptr 0 0 0), (22, .row 6)] [(6, .row 1 [D.int IntKind.u8 1, D.int IntKind.u8 2] false)] ?_
 refine .freeze 6 (sz := 1) (xs := [D.int IntKind.u8 1, D.int IntKind.u8 2]) (mv := false) (by kernel_rfl) ?_
 refine .ca [0, 1, 2, 3, 4, 5] (G30 22 []) F31 (@spec_31c ((((d.begun.createD (ByteArray.mk #[97])).begun.appendD (ByteArray.mk #[97]) (List.replicate 12 0)).begun.appendD (ByteArray.mk #[97]) (List.replicate 5 0)).begun.syncD (ByteArray.mk #[97])) (0 + 1 + 1 + 1 + 1 + 1) (by assumption) (by omega) (ByteArray.mk #[97]) (by assumption) ([1, 2]) ([D.int IntKind.u8 1, D.int IntKind.u8 2]) (by assumption) (by simp; done)) ?_
 rintro r10 s10 ⟨rfl, rfl⟩
 refine ⟨_, rfl, ?_⟩
 refine .sg0 1 [1, 2, 3, 4, 5, 21, 22, 23, 24] (G30 23 []) [(24, .ptr 0 0 0)] ?_
 refine .ca [0, 1, 2, 3, 4, 5] (G30 24 []) F33 (@spec_33 (((((d.begun.createD (ByteArray.mk #[97])).begun.appendD (ByteArray.mk #[97]) (List.replicate 12 0)).begun.appendD (ByteArray.mk #[97]) (List.replicate 5 0)).begun.syncD (ByteArray.mk #[97])).begun.appendD (ByteArray.mk #[97]) [1, 2]) (0 + 1 + 1 + 1 + 1 + 1 + 1) (by assumption) (by omega)) ?_
 rintro r11 s11 ⟨rfl, rfl⟩
 refine ⟨_, rfl, ?_⟩
 refine .sg 8 [1, 2, 3, 4, 5, 6, 7, 26, 27, 28] (G30 32 []) [(6, .d (.int .i64 (((((d.begun.createD (ByteArray.mk #[97])).begun.appendD (ByteArray.mk #[97]) (List.replicate 12 0)).begun.appendD (ByteArray.mk #[97]) (List.replicate 5 0)).begun.syncD (ByteArray.mk #[97])).begun.appendE (ByteArray.mk #[97]) [1, 2]))), (7, .d (.int .i64 ((((((d.begun.createD (ByteArray.mk #[97])).begun.appendD (ByteArray.mk #[97]) (List.replicate 12 0)).begun.appendD (ByteArray.mk #[97]) (List.replicate 5 0)).begun.syncD (ByteArray.mk #[97])).begun.appendD (ByteArray.mk #[97]) [1, 2]).begun.err false []))), (26, .ptr 0 0 0), (27, .row 7), (28, .agg [.d (.int .i64 0), .row 7])] [(7, .row 1 [D.int IntKind.i64 1] false)] ?_
 refine .freeze 7 (sz := 1) (xs := [D.int IntKind.i64 1]) (mv := false) (by kernel_rfl) ?_
 refine .ca [0, 1, 2, 3, 4, 5] (G30 33 []) F35 (@spec_35c ((((((d.begun.createD (ByteArray.mk #[97])).begun.appendD (ByteArray.mk #[97]) (List.replicate 12 0)).begun.appendD (ByteArray.mk #[97]) (List.replicate 5 0)).begun.syncD (ByteArray.mk #[97])).begun.appendD (ByteArray.mk #[97]) [1, 2]).begun.syncDirD) (0 + 1 + 1 + 1 + 1 + 1 + 1 + 1) (by assumption) (0) ([1]) ([D.int IntKind.i64 1]) (by assumption) (by assumption) (by simp; done)) ?_
 rintro r12 s12 ⟨rfl, rfl⟩
 refine ⟨_, rfl, ?_⟩
 refine .sg0 4 [1, 2, 3, 4, 5, 6, 7, 31] (G30 37 []) [(31, .ptr 0 0 0)] ?_
 refine .ca [0, 1, 8, 9, 10, 5] (G30 38 []) F27 (@spec_27 ((((((d.begun.createD (ByteArray.mk #[97])).begun.appendD (ByteArray.mk #[97]) (List.replicate 12 0)).begun.appendD (ByteArray.mk #[97]) (List.replicate 5 0)).begun.syncD (ByteArray.mk #[97])).begun.appendD (ByteArray.mk #[97]) [1, 2]).begun.syncDirD.crash 0 [1]) (0 + 1 + 1 + 1 + 1 + 1 + 1 + 1) (by assumption) (ByteArray.mk #[97])) ?_
 rintro r13 s13 ⟨rfl, rfl⟩
 refine ⟨_, rfl, ?_⟩
 refine .sg0 7 [2, 3, 4, 5, 6, 7, 8, 9] (G30 45 []) [(8, .d (if (look ((((((d.begun.createD (ByteArray.mk #[97])).begun.appendD (ByteArray.mk #[97]) (List.replicate 12 0)).begun.appendD (ByteArray.mk #[97]) (List.replicate 5 0)).begun.syncD (ByteArray.mk #[97])).begun.appendD (ByteArray.mk #[97]) [1, 2]).begun.syncDirD.crash 0 [1]).nk ((((((d.begun.createD (ByteArray.mk #[97])).begun.appendD (ByteArray.mk #[97]) (List.replicate 12 0)).begun.appendD (ByteArray.mk #[97]) (List.replicate 5 0)).begun.syncD (ByteArray.mk #[97])).begun.appendD (ByteArray.mk #[97]) [1, 2]).begun.syncDirD.crash 0 [1]).nv (ByteArray.mk #[97])).isSome = true then bsD (((((((d.begun.createD (ByteArray.mk #[97])).begun.appendD (ByteArray.mk #[97]) (List.replicate 12 0)).begun.appendD (ByteArray.mk #[97]) (List.replicate 5 0)).begun.syncD (ByteArray.mk #[97])).begun.appendD (ByteArray.mk #[97]) [1, 2]).begun.syncDirD.crash 0 [1]).file (((((((d.begun.createD (ByteArray.mk #[97])).begun.appendD (ByteArray.mk #[97]) (List.replicate 12 0)).begun.appendD (ByteArray.mk #[97]) (List.replicate 5 0)).begun.syncD (ByteArray.mk #[97])).begun.appendD (ByteArray.mk #[97]) [1, 2]).begun.syncDirD.crash 0 [1]).num (ByteArray.mk #[97]))).fst else D.list 1 [])), (9, .d (.int .i64 (if (look ((((((d.begun.createD (ByteArray.mk #[97])).begun.appendD (ByteArray.mk #[97]) (List.replicate 12 0)).begun.appendD (ByteArray.mk #[97]) (List.replicate 5 0)).begun.syncD (ByteArray.mk #[97])).begun.appendD (ByteArray.mk #[97]) [1, 2]).begun.syncDirD.crash 0 [1]).nk ((((((d.begun.createD (ByteArray.mk #[97])).begun.appendD (ByteArray.mk #[97]) (List.replicate 12 0)).begun.appendD (ByteArray.mk #[97]) (List.replicate 5 0)).begun.syncD (ByteArray.mk #[97])).begun.appendD (ByteArray.mk #[97]) [1, 2]).begun.syncDirD.crash 0 [1]).nv (ByteArray.mk #[97])).isSome = true then 0 else 3)))] ?_
 subst hd
 refine .goes [2, 3, 4, 5, 6, 7, 8, 9] (tm' := mk 66 [(2, .d (.int .i64 0)), (3, .d (.int .i64 4)), (4, .d (.int .i64 0)), (5, .d (.int .i64 0)), (6, .d (.int .i64 0)), (7, .d (.int .i64 0)), (8, .d (bsD [0, 0, 0, 0, 0, 1])), (9, .d (.int .i64 0))]) rfl (by kernel_rfl) rfl ?_
 refine .sg0 34 [0] (G30 79 []) [(0, .d (.bool true))] ?_
 refine .kp [0] ?_
 refine .su [] (mk 66 [(0, .d (.bool true))]) [] ?_
 refine .rt F30 (V.d (D.bool true)) ?_
 exact rfl
theorem spec_30 : Br.Pure Try.prog 30 [] (.d (.bool true)) := by
 refine CallsA.pure ?_ rfl
 refine CallsA.start F30 (tm := mk (Try.f30.ntmps) []) (by kernel_rfl) ?_
 refine .sg0 6 [0] (G30 6 []) [(0, .d (.bool false))] ?_
 refine .ca [] (G30 7 []) F25 (@spec_25 (10)) ?_
 rintro r0 s0 ⟨rfl, rfl⟩
 refine ⟨_, rfl, ?_⟩
 refine .sg0 2 [0, 1] (G30 9 []) [(1, .ptr 0 0 0)] ?_
 exact .goes [1] (by kernel_rfl) (by kernel_rfl) (by kernel_rfl) (lv30 (Dk.new 10) rfl)
end Go.Proofs.Ytoelkgbeefoplaa
namespace Go.Proofs.Ytoelkgbeefoplaa
open Go Go.Br Go.Proofs
open List (map)
theorem spec_77a (d : Dk) (t : Int) (N : Nat) (h : d.Ok N) (hn : d.Nm) (hN : N + 3 ≤ 50000) (ht : Rt d t) (x y : ByteArray) (hx : x.size < 1000000000) (v4 : V) :
 CallsA Try.prog 77 [.ptr 0 0 0, .d (.int .i64 0), .d (.str x), .d (.str y), v4] (SR (Rof d t) false) fun r σ' => r = .ret (.d (.int .i64 (d.begun.createE x))) ∧ σ' = SR (Rof (d.begun.createD x) (tb d t)) true := call0 d t N h hn hN ht x y hx v4
theorem spec_77a2 (d : Dk) (t : Int) (N : Nat) (h : d.Ok N) (hN : N + 3 ≤ 50000) (ht : Rt d t) (x : ByteArray) (hx : x.size < 1000000000) (bs : List UInt8) (hb : bs.length < 1000000) :
 CallsA Try.prog 77 [.ptr 0 0 0, .d (.int .i64 1), .d (.str x), .d (.str (ByteArray.mk #[])), .d (.list 1 (bs.map u8))] (SR (Rof d t) false) fun r σ' => r = .ret (.d (.int .i64 (d.begun.appendE x bs))) ∧ σ' = SR (Rof (d.begun.appendD x bs) (tb d t)) true := call1 d t N h hN ht x _ hx (by decide) bs hb
theorem spec_77a3 (d : Dk) (t : Int) (N : Nat) (h : d.Ok N) (hN : N + 3 ≤ 50000) (ht : Rt d t) (x : ByteArray) (hx : x.size < 1000000000) (v4 : V) :
 CallsA Try.prog 77 [.ptr 0 0 0, .d (.int .i64 2), .d (.str x), .d (.str (ByteArray.mk #[])), v4] (SR (Rof d t) false) fun r σ' => r = .ret (.d (.int .i64 (d.begun.err true [x]))) ∧ σ' = SR (Rof (d.begun.syncD x) (tb d t)) true := call2 d t N h hN ht x _ hx (by decide) v4
theorem spec_77a4 (d : Dk) (t : Int) (N : Nat) (h : d.Ok N) (hN : N + 3 ≤ 50000) (ht : Rt d t) (x y : ByteArray) (v4 : V) :
 CallsA Try.prog 77 [.ptr 0 0 0, .d (.int .i64 3), .d (.str x), .d (.str y), v4] (SR (Rof d t) false) fun r σ' => r = .ret (.d (.int .i64 (d.begun.err false []))) ∧ σ' = SR (Rof (d.begun.syncDirD) (tb d t)) true := call3 d t N h hN ht x y v4
theorem spec_77a5 (d : Dk) (t : Int) (N : Nat) (h : d.Ok N) (hn : d.Nm) (hN : N + 3 ≤ 50000) (ht : Rt d t) (x y : ByteArray) (hx : x.size < 1000000000) (hy : y.size < 1000000000) (v4 : V) :
 CallsA Try.prog 77 [.ptr 0 0 0, .d (.int .i64 4), .d (.str x), .d (.str y), v4] (SR (Rof d t) false) fun r σ' => r = .ret (.d (.int .i64 (d.begun.err true [x, y]))) ∧ σ' = SR (Rof (d.begun.renameD x y) (tb d t)) true := call4 d t N h hn hN ht x y hx hy v4
theorem spec_77a6 (d : Dk) (t : Int) (N : Nat) (h : d.Ok N) (hn : d.Nm) (hN : N + 3 ≤ 50000) (ht : Rt d t) (x : ByteArray) (hx : x.size < 1000000000) (v4 : V) :
 CallsA Try.prog 77 [.ptr 0 0 0, .d (.int .i64 5), .d (.str x), .d (.str (ByteArray.mk #[])), v4] (SR (Rof d t) false) fun r σ' => r = .ret (.d (.int .i64 (d.begun.err true [x]))) ∧ σ' = SR (Rof (d.begun.removeD x) (tb d t)) true := call5 d t N h hn hN ht x _ hx (by decide) v4
structure DOp where
  kind : Nat
  a : ByteArray
  b : ByteArray
  data : List UInt8
  n : Int
  dir : Int
  keep : List Int
def dopD (o : DOp) : D := .agg [.int .u64 o.kind, .str o.a, .str o.b, bsD o.data, .int .i64 o.n, .int .i64 o.dir, .list 1 (o.keep.map intD)]
structure DOp.fits (o : DOp) : Prop where
  k : o.kind < 18446744073709551616
  d : o.data.length ≤ maxLen
  n0 : -9223372036854775808 ≤ o.n
  n1 : o.n < 9223372036854775808
  kl : o.keep.length ≤ maxLen
  kv : ∀ v ∈ o.keep, -9223372036854775808 ≤ v ∧ v < 9223372036854775808
structure DOp.small (o : DOp) : Prop where
  a : o.a.size ≤ 300
  b : o.b.size ≤ 300
  d : o.data.length ≤ 300
  kl : o.keep.length ≤ 300
def SX (d : Dk) (t : Int) (m : Bool) : Store := [.cells [.row 1, .ptr 2 0 0, .ep 2 (dirD d.sk d.sv) 0, .row 5, .d (.int .i64 d.quota), .d (.bool d.full), .d (.bool d.off), .d (.int .i64 d.stop), .d (.int .i64 d.calls)],
  .row 2 (d.files.map fileD) m, .cells [.row 3, .row 4], .row 1 (d.nk.map strD) m, .row 1 (d.nv.map intD) m, .row 3 (d.ch.map chD) m,
  .cells [.row 7, .d (.list 2 ((Rof d t).now.map nmD)), .d (.list 2 ((Rof d t).sure.map nmD)), .row 8, .d (.int .i64 d.quota), .d (.bool d.full), .d (.bool d.off), .d (.int .i64 t), .d (.int .i64 d.calls)], .row 2 (d.files.map fileD) m, .row 3 (d.ch.map chD) m]
noncomputable def B42 : Code := (Try.f42.body).getD .skip
noncomputable def G42 (n : Nat) (l : List Bool) : List Item := cgo n l [.code B42]
theorem F42 : Fnc Try.prog 42 Try.f42 B42 := ⟨Try.func42, by kernel_rfl, by kernel_rfl⟩
end Go.Proofs.Ytoelkgbeefoplaa
namespace Go.Proofs.Ytoelkgbeefoplaa
open Go Go.Br Go.Proofs
open List (map)
set_option maxRecDepth 100000 in
theorem rd_62 {n : Nat} {x : D} (h : WtE Try.prog n 62 x) : ∃ o : DOp, x = dopD o ∧ o.fits := by
 have hu : ∃ fs, Try.prog.underlying 62 = some (.struct fs) ∧ fs.toList.map (fun f => (f.type, f.offset)) = [(33, 0), (9, 1), (9, 2), (22, 3), (3, 4), (48, 5)] := ⟨_, rfl, by kernel_rfl⟩
 obtain ⟨fs, hu, hf⟩ := hu
 obtain ⟨cs, rfl, hl, hc⟩ := h.struct hu
 obtain ⟨f0, fs0, hfs, h0, hf⟩ := List.map_eq_cons_iff.1 hf
 obtain ⟨f1, fs1, rfl, h1, hf⟩ := List.map_eq_cons_iff.1 hf
 obtain ⟨f2, fs2, rfl, h2, hf⟩ := List.map_eq_cons_iff.1 hf
 obtain ⟨f3, fs3, rfl, h3, hf⟩ := List.map_eq_cons_iff.1 hf
 obtain ⟨f4, fs4, rfl, h4, hf⟩ := List.map_eq_cons_iff.1 hf
 obtain ⟨f5, fs5, rfl, h5, -⟩ := List.map_eq_cons_iff.1 hf
 have c0 := hc f0 (by rw [hfs]; simp)
 have c1 := hc f1 (by rw [hfs]; simp)
 have c2 := hc f2 (by rw [hfs]; simp)
 have c3 := hc f3 (by rw [hfs]; simp)
 have c4 := hc f4 (by rw [hfs]; simp)
 have c5 := hc f5 (by rw [hfs]; simp)
 simp only [Prod.mk.injEq] at h0 h1 h2 h3 h4 h5
 rw [h0.1, h0.2, show Try.prog.cellsOf 33 = 1 by kernel_rfl] at c0
 rw [h1.1, h1.2, show Try.prog.cellsOf 9 = 1 by kernel_rfl] at c1
 rw [h2.1, h2.2, show Try.prog.cellsOf 9 = 1 by kernel_rfl] at c2
 rw [h3.1, h3.2, show Try.prog.cellsOf 22 = 1 by kernel_rfl] at c3
 rw [h4.1, h4.2, show Try.prog.cellsOf 3 = 1 by kernel_rfl] at c4
 rw [h5.1, h5.2, show Try.prog.cellsOf 48 = 2 by kernel_rfl] at c5
 rw [show Try.prog.cellsOf 62 = 7 by kernel_rfl] at hl
 obtain ⟨x0, e0, w0⟩ := c0.one (by kernel_rfl)
 obtain ⟨x1, e1, w1⟩ := c1.one (by kernel_rfl)
 obtain ⟨x2, e2, w2⟩ := c2.one (by kernel_rfl)
 obtain ⟨x3, e3, w3⟩ := c3.one (by kernel_rfl)
 obtain ⟨x4, e4, w4⟩ := c4.one (by kernel_rfl)
 match cs, hl with
 | [y0, y1, y2, y3, y4, y5, y6], _ =>
   simp only [List.drop_zero, List.take_succ_cons, List.take_zero, List.drop_succ_cons, List.cons.injEq, and_true] at e0 e1 e2 e3 e4 c5
   subst e0 e1 e2 e3 e4
   obtain ⟨a, rfl, ha⟩ := rd_33 w0
   obtain ⟨s, rfl, hs⟩ := rd_9 w1
   obtain ⟨u, rfl, hu2⟩ := rd_9 w2
   obtain ⟨l, rfl, hl2⟩ := rd_22 w3
   obtain ⟨m, rfl, hm⟩ := rd_3 w4
   have w5 : WtE Try.prog (n - 1) 48 (.agg [y5, y6]) := by
    unfold WtE
    rw [if_pos (show isAggB Try.prog 48 = true by kernel_rfl)]
    exact ⟨_, rfl, by kernel_rfl, c5⟩
   obtain ⟨p, hp, hp1, hp2, hp3⟩ := rd_48 w5
   simp only [D.agg.injEq, List.cons.injEq, and_true] at hp
   obtain ⟨rfl, rfl⟩ := hp
   exact ⟨⟨a, s, u, l, m, p.1, p.2⟩, rfl, ⟨ha, hl2, hm.1, hm.2, hp2, hp3⟩⟩
set_option maxRecDepth 100000 in
theorem rd_54 {n : Nat} {x : D} (h : WtE Try.prog n 54 x) : ∃ l : List DOp, x = .list 7 (l.map dopD) ∧ l.length ≤ maxLen ∧ ∀ o ∈ l, o.fits := by
 obtain ⟨l, rfl, h1, h2⟩ := WtE.slice_map (P := Try.prog) (e := 62) (t := 54) dopD (fun o => o.fits) h (show Try.prog.underlying 54 = some (.slice 62) by kernel_rfl) fun y hy => rd_62 hy
 exact ⟨l, by rw [show Try.prog.cellsOf 62 = 7 by kernel_rfl], h1, h2⟩
end Go.Proofs.Ytoelkgbeefoplaa
namespace Go.Proofs.Ytoelkgbeefoplaa
open Go Go.Br Go.Proofs
open List (map)
noncomputable def B80 : Code := (Try.f80.body).getD .skip
noncomputable def G80 (n : Nat) (l : List Bool) : List Item := cgo n l [.code B80]
theorem F80 : Fnc Try.prog 80 Try.f80 B80 := ⟨Try.func80, by kernel_rfl, by kernel_rfl⟩
noncomputable def B81 : Code := (Try.f81.body).getD .skip
noncomputable def G81 (n : Nat) (l : List Bool) : List Item := cgo n l [.code B81]
theorem F81 : Fnc Try.prog 81 Try.f81 B81 := ⟨Try.func81, by kernel_rfl, by kernel_rfl⟩
def turnB (bs : List UInt8) (i : Nat) (m : UInt8) : List UInt8 := bs.set i (bs.getD i 0 ^^^ m)
def Dk.turnOk (d : Dk) (x : ByteArray) (at_ : Int) : Bool := (look d.nk d.nv x).isSome && decide (0 ≤ at_) && decide (at_ < ((d.file (d.num x)).1.length : Int))
def Dk.turnD (d : Dk) (x : ByteArray) (at_ : Int) (m : UInt8) : Dk := if d.turnOk x at_ then { d with files := d.files.set (d.num x) (turnB (d.file (d.num x)).1 at_.toNat m, (d.file (d.num x)).2) } else d
theorem xor_u8 (b m : UInt8) : IntKind.u8.wrap ((BitVec.ofInt IntKind.u8.bits (b.toNat : Int) ^^^ BitVec.ofInt IntKind.u8.bits (m.toNat : Int)).toNat : Int) = ((b ^^^ m).toNat : Int) := by
 have e : ∀ c : UInt8, BitVec.ofInt IntKind.u8.bits (c.toNat : Int) = c.toBitVec := by
  intro c
  apply BitVec.eq_of_toNat_eq
  have := c.toNat_lt
  simp only [BitVec.toNat_ofInt, IntKind.bits]
  show ((c.toNat : Int) % ((2 ^ 8 : Nat) : Int)).toNat = c.toNat
  omega
 rw [e, e]
 have h : ((b.toBitVec ^^^ m.toBitVec).toNat : Int) = ((b ^^^ m).toNat : Int) := rfl
 have h2 := (b ^^^ m).toNat_lt
 have h3 : (((b ^^^ m).toNat : Nat) : Int) < 256 := by omega
 exact wrap_u8s (n := ((b ^^^ m).toNat : Int)) (by omega) h3
theorem turn_set {bs : List UInt8} {i : Nat} {b : UInt8} (m : UInt8) (h : bs[i]? = some b) :
  (List.map u8 bs).set i (D.int IntKind.u8 (IntKind.u8.wrap ((BitVec.ofInt IntKind.u8.bits (b.toNat : Int) ^^^ BitVec.ofInt IntKind.u8.bits (m.toNat : Int)).toNat : Int))) = List.map u8 (turnB bs i m) := by
 rw [xor_u8]
 unfold turnB
 rw [List.getD_eq_getElem?_getD, h, List.map_set]; rfl
theorem turnB_len (bs : List UInt8) (i : Nat) (m : UInt8) : (turnB bs i m).length = bs.length := by simp [turnB]
end Go.Proofs.Ytoelkgbeefoplaa
