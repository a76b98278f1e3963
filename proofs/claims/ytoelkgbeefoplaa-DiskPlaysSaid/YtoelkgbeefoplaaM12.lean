/- Texts of this proof, part 12: RefE, RefF, RefG, RefH, RefI, RefL, RefJ, RefK, RefM. -/
import Derived.Test.YtoelkgbeefoplaaM11
set_option linter.unusedSimpArgs false
set_option linter.unusedVariables false
set_option linter.constructorNameAsVariable false
namespace Go.Proofs.Ytoelkgbeefoplaa
open Go Go.Br Go.Proofs
open List (map)
theorem kind3 (b : Rk) (N : Nat) (h : b.Ok N) (x y : ByteArray) (v4 : V) :
  AW Try.prog 77 none 3 (G77 47 [false, false, false]) (mk 214 [(0, .ptr 0 0 0), (1, .d (.int .i64 3)), (2, .d (.str x)), (3, .d (.str y)), (4, v4), (10, .d (.int .i64 0))]) (SR b false) [] fun r σ' => r = .ret (.d (.int .i64 0)) ∧ σ' = SR { b with sure := b.now, ch := [] } true := by
 have hnl := h.nl
 have hnb := h.nb
 refine .sg0 29 [0, 1, 2, 3, 4, 10, 60, 61, 62, 63, 64] (G77 76 [false, false, false, false]) [(60, .ptr 0 0 0), (61, .ptr 0 0 0), (62, .ptr 0 0 1), (63, .d (.list 2 (map nmD b.now))), (64, .d (.str x))] ?_
 refine .cd (G77 77 [false, false, false, false]) F102 (@spec_102 (b.now) (x) (by omega)) ?_
 refine .seg 76 [0, 10, 12] (T' := cgo 153 [false, false, false, false, false, false, false, false, true] [.code B77]) (tm' := mk 214 [(0, .ptr 0 0 0), (10, .d (.int .i64 0)), (12, .ptr 3 0 0)]) (σ' := [.cells [.row 1, .d (.list 2 (map nmD b.now)), .d (.list 2 (map nmD b.now)), .ex 3 [], .d (.int .i64 b.quota), .d (.bool b.full), .d (.bool b.off), .d (.int .i64 b.stop), .d (.int .i64 b.calls)], .row 2 (map fileD b.files) false, .row 3 (map chD b.ch) false, .cells [.d (.str (ByteArray.mk #[])), .d (.str (ByteArray.mk #[])), .d (.int .i64 0)]]) (by kernel_rfl) ?_
 refine .virtX 0 3 3 rfl rfl ?_
 refine .raises [1, 4] ?_
 refine .kp [10] ?_
 refine .subM [0, 1, 4] (mk 214 [(10, .d (.int .i64 0))]) (SR { b with sure := b.now, ch := [] } true) none [] ⟨rfl, by kernel_rfl, by kernel_rfl⟩ (by kernel_rfl) ⟨Nat.le_of_ble_eq_true (by kernel_rfl), by kernel_rfl⟩ (by kernel_rfl) ⟨by kernel_rfl, by kernel_rfl⟩ ⟨rfl, rfl⟩ ?_
 refine .rt F77 (V.d (D.int IntKind.i64 0)) ?_
 exact ⟨rfl, rfl⟩
end Go.Proofs.Ytoelkgbeefoplaa
namespace Go.Proofs.Ytoelkgbeefoplaa
open Go Go.Br Go.Proofs
open List (map)
def Rk.num (b : Rk) (x : ByteArray) : Nat := (atR b.now x).toNat
theorem kind2 (b : Rk) (N : Nat) (h : b.Ok N) (x y : ByteArray) (hx : x.size < 1000000000) (v4 : V) (hm : mayName x = true) (h0 : 0 ≤ atR b.now x) (f : List UInt8 × Nat) (hf : b.files[(atR b.now x).toNat]? = some f) :
    AW Try.prog 77 none 3 (G77 47 [false, false, false]) (mk 214 [(0, .ptr 0 0 0), (1, .d (.int .i64 2)), (2, .d (.str x)), (3, .d (.str y)), (4, v4), (10, .d (.int .i64 0))]) (SR b false) [] fun r σ' => r = .ret (.d (.int .i64 0)) ∧ σ' = SR { b with files := b.files.set (atR b.now x).toNat (f.1, f.1.length) } true := by
  have hnl := h.nl
  have hnb := h.nb
  have hfl := h.fl
  have hfs := (h.fs f (List.mem_of_getElem? hf)).2
  refine .sg0 7 [0, 1, 2, 3, 4, 10, 44, 45, 46, 47] (G77 54 [false, false, false]) [(44, .d (.int .i64 2)), (45, .d (.bool true)), (46, .d (.bool true)), (47, .d (.str x))] ?_
  refine .cd (G77 55 [false, false, false]) F29 (@spec_29 (x) (by omega)) ?_
  refine .sg0 3 [0, 1, 2, 3, 4, 10, 44, 45, 46, 47, 48, 49, 50, 51] (G77 58 [false, false, false]) [(49, .d (.bool !mayName x)), (50, .d (.bool !mayName x)), (51, .d (.bool !mayName x))] ?_
  rcases Bool.eq_false_or_eq_true (!mayName x) with h1 | h1
  · rw [h1]
    simp only [bsX] at h1
    simp_all
  · rw [h1]
    simp only [bsX] at h1
    refine .sg0 18 [0, 1, 2, 3, 4, 10, 60, 61, 62, 63, 64] (G77 76 [false, false, false, false]) [(60, .ptr 0 0 0), (61, .ptr 0 0 0), (62, .ptr 0 0 1), (63, .d (.list 2 (map nmD b.now))), (64, .d (.str x))] ?_
    refine .cd (G77 77 [false, false, false, false]) F102 (@spec_102 (b.now) (x) (by omega)) ?_
    refine .sg0 16 [0, 1, 2, 3, 4, 10, 11, 75] (G77 93 [false, false, false, false]) [(11, .d (.int .i64 (atR b.now x))), (75, .d (.bool (decide (atR b.now x < 0))))] ?_
    refine .if' (decide (atR b.now x < 0)) (G77 94 [false, false, false, false, true]) (G77 94 [false, false, false, false, false]) (fun h2 => ?_) (fun h2 => ?_)
    · simp only [bsX] at h2
      omega
    · simp only [bsX] at h2
      refine .sg 32 [0, 10, 11, 12] (G77 126 [false, false, false, false, false, false, false, true]) [(12, .ptr 3 0 0)] [(3, .cells [.d (.str (ByteArray.mk #[])), .d (.str (ByteArray.mk #[])), .d (.int .i64 0)])] ?_
      refine .dr (G77 127 [false, false, false, false, false, false, false, true]) [(160, .ptr 0 0 0), (161, .ptr 0 0 0), (162, .ptr 0 0 0), (163, .row 1), (164, .d (.int .i64 (atR b.now x))), (165, .ptr 0 0 0), (166, .ptr 0 0 0), (167, .ptr 0 0 0), (168, .row 1), (169, .d (.int .i64 (atR b.now x))), (170, .ptr 1 (atR b.now x).toNat 0), (171, .ptr 1 (atR b.now x).toNat 0), (172, .d (.list 1 (map u8 f.fst))), (173, .d (.int .i64 (↑(map u8 f.fst).length : Int))), (174, .ptr 1 (atR b.now x).toNat 0), (175, .ptr 1 (atR b.now x).toNat 1)] [(1, .row 2 ((map fileD b.files).set (atR b.now x).toNat (D.agg [D.list 1 (map u8 f.fst), D.int IntKind.i64 (↑(map u8 f.fst).length : Int)])) false)] (fun kz L hL => ?_) ?_
      · refine ⟨[fO 0, fA 0, fA 0, ⟨[0], [], [], [1], [0, 1, 2], [], true, false⟩, nF, fO 0, fA 0, fA 0, ⟨[0], [], [], [1], [0, 1, 2], [], true, false⟩, nF, ⟨[1], [], [], [1], [1], [], true, false⟩, fA 1, fR 1, nF, ⟨[1], [], [], [1], [1], [], true, false⟩, fA 1, ⟨[1], [1], [], [], [1], [], true, false⟩], run_amongF hL _ [] [0, 1, 2, 3, 4, 5, 6, 7, 8, 9, 10, 11, 12, 13, 14, 15, 16] (by intro p hp; cases hp) (by kernel_rfl) ?_⟩
        refine Run.ap [0, 1, 2, 3, 4, 5, 6, 7, 8, 9] [(160, .ptr 0 0 0), (161, .ptr 0 0 0), (162, .ptr 0 0 0), (163, .row 1), (164, .d (.int .i64 (atR b.now x))), (165, .ptr 0 0 0), (166, .ptr 0 0 0), (167, .ptr 0 0 0), (168, .row 1), (169, .d (.int .i64 (atR b.now x)))] [] ?_
        refine Run.lk 10 (.ptr 1 (atR b.now x).toNat 0) [(.tmp 168), (.tmp 169)] (fun tm' σ2 hv hr => ixRow_ok (t := 68) (x := (.tmp 168)) (i := (.tmp 169)) (k := IntKind.i64) (n := atR b.now x) (l := 1) (sz := 2) (xs := map fileD b.files) (mv := false) (by kernel_rfl) (evv hv) (evv hv) (atr hr) (by kernel_rfl) (by assumption) (by grind)) ?_
        refine Run.ap [11] [(171, .ptr 1 (atR b.now x).toNat 0)] [] ?_
        refine Run.lk 12 (.d (.list 1 (map u8 f.fst))) [(.tmp 171)] (fun tm' σ2 hv hr => ldRow_ok (t := 22) (x := (.tmp 171)) (l := 1) (i := (atR b.now x).toNat) (s := 0) (sz := 2) (xs := map fileD b.files) (mv := false) (d := fileD f) (v := .d (.list 1 (map u8 f.fst))) (by kernel_rfl) (evv hv) (atr hr) (map_get hf) (by kernel_rfl)) ?_
        refine Run.ap [13] [(173, .d (.int .i64 (↑(map u8 f.fst).length : Int)))] [] ?_
        refine Run.lk 14 (.ptr 1 (atR b.now x).toNat 0) [(.tmp 163), (.tmp 164)] (fun tm' σ2 hv hr => ixRow_ok (t := 68) (x := (.tmp 163)) (i := (.tmp 164)) (k := IntKind.i64) (n := atR b.now x) (l := 1) (sz := 2) (xs := map fileD b.files) (mv := false) (by kernel_rfl) (evv hv) (evv hv) (atr hr) (by kernel_rfl) (by assumption) (by grind)) ?_
        refine Run.ap [15] [(175, .ptr 1 (atR b.now x).toNat 1)] [] ?_
        refine Run.one (StepF.sets (o := ((drawOf (G77 126 [false, false, false, false, false, false, false, true]))[16]?).getD default) (v := .undef) [(.tmp 175), (.tmp 173)] 1 (.row 2 ((map fileD b.files).set (atR b.now x).toNat (D.agg [D.list 1 (map u8 f.fst), D.int IntKind.i64 (↑(map u8 f.fst).length : Int)])) false) (by kernel_rfl) rfl (by kernel_rfl) (by kernel_rfl) (by kernel_rfl) (by kernel_rfl) (by kernel_rfl) (fun tm' σ2 hv hr => stRow_ok (t := 3) (x := (.tmp 175)) (y := (.tmp 173)) (l := 1) (i := (atR b.now x).toNat) (s := 1) (sz := 2) (xs := map fileD b.files) (mv := false) (d := fileD f) (d' := D.agg [D.list 1 (map u8 f.fst), D.int IntKind.i64 (↑(map u8 f.fst).length : Int)]) (by kernel_rfl) (evv hv) (atr hr) (map_get hf) (by unfold storeE; rw [hv _ (by simp)]; kernel_rfl))) ?_
        exact Run.fin
      refine .sg0 4 [0, 10, 12] (G77 131 [false, false, false, false, false, false, false, true]) [] ?_
      simp only [List.length_map]
      refine .raises [1, 2] ?_
      refine .kp [10] ?_
      refine .su [0, 1, 2] (mk 214 [(10, .d (.int .i64 0))]) [.cells (rC 1 2 b), .row 2 ((map fileD b.files).set (atR b.now x).toNat (D.agg [D.list 1 (map u8 f.fst), D.int IntKind.i64 (↑f.fst.length : Int)])) true, .row 3 (map chD b.ch) true] ?_
      refine .rt F77 (V.d (D.int IntKind.i64 0)) ?_
      exact ⟨rfl, by simp [rC, SR, fileD, bsD, i64, List.map_set]⟩
end Go.Proofs.Ytoelkgbeefoplaa
namespace Go.Proofs.Ytoelkgbeefoplaa
open Go Go.Br Go.Proofs
open List (map)
theorem tail77 (b : Rk) (N : Nat) (h : b.Ok N) (c : ByteArray × ByteArray × Int) :
   AW Try.prog 77 none 3 (G77 147 [false, false, false, false, false, false, false, false, false, true]) (mk 214 [(0, .ptr 0 0 0), (10, .d (.int .i64 0)), (12, .ptr 3 0 0)]) ([.cells [.row 1, .d (.list 2 (b.now.map nmD)), .d (.list 2 (b.sure.map nmD)), .row 2, .d (.int .i64 b.quota), .d (.bool b.full), .d (.bool b.off), .d (.int .i64 b.stop), .d (.int .i64 b.calls)],
    .row 2 (b.files.map fileD) true, .row 3 (b.ch.map chD) true, .cells [.d (.str c.1), .d (.str c.2.1), .d (.int .i64 c.2.2)]]) [] fun r σ' => r = .ret (.d (.int .i64 0)) ∧ σ' = SR { b with now := applyR b.now c, ch := b.ch ++ [c] } true := by
 have hnl := h.nl
 have hnb := h.nb
 have hcl := h.chl
 refine .dr (G77 148 [false, false, false, false, false, false, false, false, false, true]) [(195, .ptr 0 0 0), (196, .ptr 0 0 0), (197, .ptr 0 0 0), (198, .ptr 0 0 1), (199, .d (.list 2 (map nmD b.now))), (200, .d (.agg [D.str c.fst, D.str c.snd.fst, D.int IntKind.i64 c.snd.snd])), (201, .d (.list 2 (map nmD (applyR b.now c)))), (202, .ptr 0 0 0), (203, .ptr 0 0 1)] [(0, .cells [.row 1, .d (.list 2 (map nmD (applyR b.now c))), .d (.list 2 (map nmD b.sure)), .row 2, .d (.int .i64 b.quota), .d (.bool b.full), .d (.bool b.off), .d (.int .i64 b.stop), .d (.int .i64 b.calls)])] (fun kz L hL => ?_) ?_
 · refine ⟨[fO 0, fO 0, fA 0, fA 0, ⟨[0], [], [], [], [0, 1, 2], [], true, false⟩, fR 3, nF, fA 0, fA 0, ⟨[0], [0], [], [1, 2], [0, 1, 2], [], true, false⟩], run_amongF hL _ [] [0, 1, 2, 3, 4, 5, 6, 7, 8, 9] (by intro p hp; cases hp) (by kernel_rfl) ?_⟩
   refine Run.ap [0, 1, 2, 3, 4, 5] [(195, .ptr 0 0 0), (196, .ptr 0 0 0), (197, .ptr 0 0 0), (198, .ptr 0 0 1), (199, .d (.list 2 (map nmD b.now))), (200, .d (.agg [D.str c.fst, D.str c.snd.fst, D.int IntKind.i64 c.snd.snd]))] [] ?_
   refine Run.one (StepF.data (o := ((drawOf (G77 147 [false, false, false, false, false, false, false, false, false, true]))[6]?).getD default) (v := .d (.list 2 (map nmD (applyR b.now c)))) (by kernel_rfl) rfl (by kernel_rfl) (by kernel_rfl) (by kernel_rfl) (fun s => sem_data0 (x := (.func 103)) (args := #[(.tmp 199), (.tmp 200)]) (ts := #[69, 157]) (first := []) (cap := []) (ds := [.d (.list 2 (map nmD b.now)), .d (.agg [D.str c.fst, D.str c.snd.fst, D.int IntKind.i64 c.snd.snd])]) (v := .d (.list 2 (map nmD (applyR b.now c)))) F103 (@spec_103 (b.now) (c) (by omega)) (by kernel_rfl) (by kernel_rfl) (by kernel_rfl) (by kernel_rfl) (by kernel_rfl) (by kernel_rfl) _)) ?_
   exact Run.fin
 refine .sg0 1 [0, 10, 12] (G77 149 [false, false, false, false, false, false, false, false, false, true]) [] ?_
 refine .newVirt 3 ?_
 refine .dr (G77 150 [false, false, false, false, false, false, false, false, false, true]) [(204, .ptr 0 0 0), (205, .ptr 0 0 0), (206, .ptr 0 0 0), (207, .ptr 0 0 3), (209, .d (.agg [D.str c.fst, D.str c.snd.fst, D.int IntKind.i64 c.snd.snd])), (210, .row 4), (211, .row 2), (212, .ptr 0 0 0), (213, .ptr 0 0 3)] [(2, .row 3 (map chD b.ch ++ [D.agg [D.str c.fst, D.str c.snd.fst, D.int IntKind.i64 c.snd.snd]]) true), (4, .row 3 [D.agg [D.str c.fst, D.str c.snd.fst, D.int IntKind.i64 c.snd.snd]] true)] (fun kz L hL => ?_) ?_
 · refine ⟨[fO 0, fO 0, fA 0, fA 0, ⟨[0], [], [], [2], [0, 1, 2], [], true, false⟩, fR 3, ⟨[4], [4], [4], [4], [], [], true, false⟩, ⟨[2, 4], [2], [2], [2], [2, 4], [], true, false⟩, fA 0, fA 0, ⟨[0], [0], [], [1, 2], [0, 2, 1], [], false, false⟩], run_amongF hL _ [] [0, 1, 2, 3, 4, 5, 6, 7, 8, 9, 10] (by intro p hp; cases hp) (by kernel_rfl) ?_⟩
   refine Run.ap [0, 1, 2, 3, 4, 5] [(204, .ptr 0 0 0), (205, .ptr 0 0 0), (206, .ptr 0 0 0), (207, .ptr 0 0 3), (208, .row 2), (209, .d (.agg [D.str c.fst, D.str c.snd.fst, D.int IntKind.i64 c.snd.snd]))] [] ?_
   refine Run.one (StepF.build (o := ((drawOf (G77 149 [false, false, false, false, false, false, false, false, false, true]))[6]?).getD default) (t := 70) (len := 1) (parts := #[(0, (.tmp 209))]) (l := 4) (ds := [D.agg [D.str c.fst, D.str c.snd.fst, D.int IntKind.i64 c.snd.snd]]) (sz := 3) (mv := false) (by kernel_rfl) rfl (by kernel_rfl) (by kernel_rfl) (by kernel_rfl) (by kernel_rfl) (by kernel_rfl) (by kernel_rfl) (by kernel_rfl) (by kernel_rfl)) ?_
   refine Run.one (StepF.moves (o := ((drawOf (G77 149 [false, false, false, false, false, false, false, false, false, true]))[7]?).getD default) (v := .row 2) [(.tmp 208), (.tmp 210)] 2 (.row 3 (map chD b.ch ++ [D.agg [D.str c.fst, D.str c.snd.fst, D.int IntKind.i64 c.snd.snd]]) true) (by kernel_rfl) rfl (by kernel_rfl) (by kernel_rfl) (by kernel_rfl) (by kernel_rfl) (by kernel_rfl) (by kernel_rfl) (fun tm' σ2 hv hr => appRow_ok (s := (.tmp 208)) (x := (.tmp 210)) (t := 70) (t2 := 70) (sz := 3) (by' := 40) (ys := [D.agg [D.str c.fst, D.str c.snd.fst, D.int IntKind.i64 c.snd.snd]]) (l := 2) (xs := map chD b.ch) (mv := true) (by kernel_rfl) (evv hv) (atr hr) (by rw [hv _ (by simp)]; exact (cont_at fun l hl => hr l (subB_in (by kernel_rfl) hl)).trans (by kernel_rfl)) (by kernel_rfl) (by kernel_rfl) (by simp <;> omega) (by first | (simp [maxLen] <;> omega) | omega))) ?_
   exact Run.fin
 refine .sg0 4 [10] (G77 154 [false, false, false, false, false, false, false, false, false, true]) [] ?_
 refine .kp [10] ?_
 refine .su [0, 1, 2] (mk 214 [(10, .d (.int .i64 0))]) [.cells [.row 1, .d (.list 2 (map nmD (applyR b.now c))), .d (.list 2 (map nmD b.sure)), .row 2, .d (.int .i64 b.quota), .d (.bool b.full), .d (.bool b.off), .d (.int .i64 b.stop), .d (.int .i64 b.calls)], .row 2 (map fileD b.files) true, .row 3 (map chD b.ch ++ [D.agg [D.str c.fst, D.str c.snd.fst, D.int IntKind.i64 c.snd.snd]]) true] ?_
 refine .rt F77 (V.d (D.int IntKind.i64 0)) ?_
 exact ⟨rfl, by simp [rC, SR, chD]⟩
theorem kind5 (b : Rk) (N : Nat) (h : b.Ok N) (x y : ByteArray) (hx : x.size < 1000000000) (v4 : V) (hm : mayName x = true) (h0 : 0 ≤ atR b.now x) :
   AW Try.prog 77 none 3 (G77 47 [false, false, false]) (mk 214 [(0, .ptr 0 0 0), (1, .d (.int .i64 5)), (2, .d (.str x)), (3, .d (.str y)), (4, v4), (10, .d (.int .i64 0))]) (SR b false) [] fun r σ' => r = .ret (.d (.int .i64 0)) ∧ σ' = SR { b with now := applyR b.now (x, noName, 0), ch := b.ch ++ [(x, noName, 0)] } true := by
 have hnl := h.nl
 have hnb := h.nb
 have hfl := h.fl
 have hfs := h.fs
 refine .raises [1, 2] ?_
 have hend := tail77 b N h (x, noName, 0)
 clear h hfs
 refine .sg0 7 [0, 1, 2, 3, 4, 10, 44, 45, 46, 47] (G77 54 [false, false, false]) [(44, .d (.int .i64 5)), (45, .d (.bool true)), (46, .d (.bool true)), (47, .d (.str x))] ?_
 refine .cd (G77 55 [false, false, false]) F29 (@spec_29 (x) (by omega)) ?_
 refine .sg0 3 [0, 1, 2, 3, 4, 10, 44, 45, 46, 47, 48, 49, 50, 51] (G77 58 [false, false, false]) [(49, .d (.bool !mayName x)), (50, .d (.bool !mayName x)), (51, .d (.bool !mayName x))] ?_
 rcases Bool.eq_false_or_eq_true (!mayName x) with h1 | h1
 · rw [h1]
   simp only [bsX] at h1
   simp_all
 · rw [h1]
   simp only [bsX] at h1
   refine .sg0 18 [0, 1, 2, 3, 4, 10, 60, 61, 62, 63, 64] (G77 76 [false, false, false, false]) [(60, .ptr 0 0 0), (61, .ptr 0 0 0), (62, .ptr 0 0 1), (63, .d (.list 2 (map nmD b.now))), (64, .d (.str x))] ?_
   refine .cd (G77 77 [false, false, false, false]) F102 (@spec_102 (b.now) (x) (by omega)) ?_
   refine .sg0 16 [0, 1, 2, 3, 4, 10, 11, 75] (G77 93 [false, false, false, false]) [(11, .d (.int .i64 (atR b.now x))), (75, .d (.bool (decide (atR b.now x < 0))))] ?_
   refine .if' (decide (atR b.now x < 0)) (G77 94 [false, false, false, false, true]) (G77 94 [false, false, false, false, false]) (fun h2 => ?_) (fun h2 => ?_)
   · simp only [bsX] at h2
     omega
   · simp only [bsX] at h2
     refine .sg 50 [0, 10, 12] (G77 144 [false, false, false, false, false, false, false, false, false, false]) [(12, .ptr 3 0 0)] [(3, .cells [.d (.str x), .d (.str (ByteArray.mk #[])), .d (.int .i64 0)])] ?_
     exact .goes [0, 10, 12] (by kernel_rfl) (by kernel_rfl) (by kernel_rfl) hend
theorem kind4 (b : Rk) (N : Nat) (h : b.Ok N) (x y : ByteArray) (hx : x.size < 1000000000) (hy : y.size < 1000000000) (v4 : V) (hm : mayName x = true) (hm2 : mayName y = true) (h0 : 0 ≤ atR b.now x) :
    AW Try.prog 77 none 3 (G77 47 [false, false, false]) (mk 214 [(0, .ptr 0 0 0), (1, .d (.int .i64 4)), (2, .d (.str x)), (3, .d (.str y)), (4, v4), (10, .d (.int .i64 0))]) (SR b false) [] fun r σ' => r = .ret (.d (.int .i64 0)) ∧ σ' = SR { b with now := applyR b.now (x, y, atR b.now x), ch := b.ch ++ [(x, y, atR b.now x)] } true := by
  have hnl := h.nl
  have hnb := h.nb
  have hfl := h.fl
  have hfs := h.fs
  refine .raises [1, 2] ?_
  have hend := tail77 b N h (x, y, atR b.now x)
  clear h hfs
  refine .sg0 7 [0, 1, 2, 3, 4, 10, 44, 45, 46, 47] (G77 54 [false, false, false]) [(44, .d (.int .i64 4)), (45, .d (.bool true)), (46, .d (.bool true)), (47, .d (.str x))] ?_
  refine .cd (G77 55 [false, false, false]) F29 (@spec_29 (x) (by omega)) ?_
  refine .sg0 3 [0, 1, 2, 3, 4, 10, 44, 45, 46, 47, 48, 49, 50, 51] (G77 58 [false, false, false]) [(49, .d (.bool !mayName x)), (50, .d (.bool !mayName x)), (51, .d (.bool !mayName x))] ?_
  rcases Bool.eq_false_or_eq_true (!mayName x) with h1 | h1
  · rw [h1]
    simp only [bsX] at h1
    simp_all
  · rw [h1]
    simp only [bsX] at h1
    refine .sg0 4 [0, 1, 2, 3, 4, 10, 44, 45, 46, 47, 48, 49, 50, 51, 52, 53, 54, 55] (G77 62 [false, false, false]) [(52, .d (.int .i64 4)), (53, .d (.bool true)), (54, .d (.bool true)), (55, .d (.str y))] ?_
    refine .cd (G77 63 [false, false, false]) F29 (@spec_29 (y) (by omega)) ?_
    refine .sg0 4 [0, 1, 2, 3, 4, 10, 59] (G77 67 [false, false, false]) [(59, .d (.bool !mayName y))] ?_
    refine .if' (!mayName y) (G77 68 [false, false, false, true]) (G77 68 [false, false, false, false]) (fun h2 => ?_) (fun h2 => ?_)
    · simp only [bsX] at h2
      simp_all
    · simp only [bsX] at h2
      refine .sg0 8 [0, 1, 2, 3, 4, 10, 60, 61, 62, 63, 64] (G77 76 [false, false, false, false]) [(60, .ptr 0 0 0), (61, .ptr 0 0 0), (62, .ptr 0 0 1), (63, .d (.list 2 (map nmD b.now))), (64, .d (.str x))] ?_
      refine .cd (G77 77 [false, false, false, false]) F102 (@spec_102 (b.now) (x) (by omega)) ?_
      refine .sg0 16 [0, 1, 2, 3, 4, 10, 11, 75] (G77 93 [false, false, false, false]) [(11, .d (.int .i64 (atR b.now x))), (75, .d (.bool (decide (atR b.now x < 0))))] ?_
      refine .if' (decide (atR b.now x < 0)) (G77 94 [false, false, false, false, true]) (G77 94 [false, false, false, false, false]) (fun h3 => ?_) (fun h3 => ?_)
      · simp only [bsX] at h3
        omega
      · simp only [bsX] at h3
        refine .sg 53 [0, 10, 12] (G77 147 [false, false, false, false, false, false, false, false, false, true]) [(12, .ptr 3 0 0)] [(3, .cells [.d (.str x), .d (.str y), .d (.int .i64 (atR b.now x))])] ?_
        exact .goes [0, 10, 12] (by kernel_rfl) (by kernel_rfl) (by kernel_rfl) hend
end Go.Proofs.Ytoelkgbeefoplaa
namespace Go.Proofs.Ytoelkgbeefoplaa
open Go Go.Br Go.Proofs
open List (map)
theorem Rk.file_ok {b : Rk} {N : Nat} (h : b.Ok N) (hN : N + 1 ≤ 50000) : ({ b with files := b.files ++ [([], 0)] } : Rk).Ok (N + 1) := by
 have := h.fl; have := h.nl; have := h.chl; have := h.cl
 refine ⟨fun p hp => ?_, fun f hf => ?_, by simp; omega, by show b.now.length ≤ _; omega, by show b.ch.length ≤ _; omega, h.c0, by show b.calls ≤ _; omega, h.s0, h.s1, h.q0, h.q1, hN⟩
 · have := h.nn p hp
   rw [List.length_append]
   exact ⟨this.1, by omega⟩
 · rcases List.mem_append.1 hf with h1 | h1
   · exact h.fs f h1
   · rw [List.mem_singleton.1 h1]; exact ⟨Nat.le_refl _, by simp⟩
theorem kind0 (b : Rk) (N : Nat) (h : b.Ok N) (hN : N + 1 ≤ 50000) (x y : ByteArray) (hx : x.size < 1000000000) (v4 : V) (hm : mayName x = true) (h0 : 0 ≤ atR b.now x ∨ (b.now.length : Int) < 1024) :
    AW Try.prog 77 none 3 (G77 47 [false, false, false]) (mk 214 [(0, .ptr 0 0 0), (1, .d (.int .i64 0)), (2, .d (.str x)), (3, .d (.str y)), (4, v4), (10, .d (.int .i64 0))]) (SR b false) [] fun r σ' => r = .ret (.d (.int .i64 0)) ∧ σ' = SR { b with files := b.files ++ [([], 0)], now := applyR b.now (noName, x, ((b.files.length : Nat) : Int)), ch := b.ch ++ [(noName, x, ((b.files.length : Nat) : Int))] } true := by
  have hnl := h.nl
  have hnb := h.nb
  have hfl := h.fl
  have hfs := h.fs
  refine .raises [1, 2] ?_
  have hend := tail77 { b with files := b.files ++ [([], 0)] } (N + 1) (Rk.file_ok h hN) (noName, x, ((b.files.length : Nat) : Int))
  have e1 : IntKind.i64.wrap (((List.map fileD b.files ++ [D.agg [D.list 1 [], D.int IntKind.i64 0]]).length : Int) - 1) = (b.files.length : Nat) := by
    rw [wrap_i64 (by simp <;> omega) (by simp <;> omega)]
    simp
  have e2 : List.map fileD b.files ++ [D.agg [D.list 1 [], D.int IntKind.i64 0]] = (b.files ++ [([], 0)]).map fileD := by simp [fileD, bsD, i64]
  clear h hfs
  refine .sg0 7 [0, 1, 2, 3, 4, 10, 44, 45, 46, 47] (G77 54 [false, false, false]) [(44, .d (.int .i64 0)), (45, .d (.bool true)), (46, .d (.bool true)), (47, .d (.str x))] ?_
  refine .cd (G77 55 [false, false, false]) F29 (@spec_29 (x) (by omega)) ?_
  refine .sg0 3 [0, 1, 2, 3, 4, 10, 44, 45, 46, 47, 48, 49, 50, 51] (G77 58 [false, false, false]) [(49, .d (.bool !mayName x)), (50, .d (.bool !mayName x)), (51, .d (.bool !mayName x))] ?_
  rcases Bool.eq_false_or_eq_true (!mayName x) with h1 | h1
  · rw [h1]
    simp only [bsX] at h1
    simp_all
  · rw [h1]
    simp only [bsX] at h1
    refine .sg0 18 [0, 1, 2, 3, 4, 10, 60, 61, 62, 63, 64] (G77 76 [false, false, false, false]) [(60, .ptr 0 0 0), (61, .ptr 0 0 0), (62, .ptr 0 0 1), (63, .d (.list 2 (map nmD b.now))), (64, .d (.str x))] ?_
    refine .cd (G77 77 [false, false, false, false]) F102 (@spec_102 (b.now) (x) (by omega)) ?_
    refine .sg 42 [0, 2, 10, 11, 12, 82, 83, 84] (G77 119 [false, false, false, false, false, true]) [(11, .d (.int .i64 (atR b.now x))), (12, .ptr 3 0 0), (82, .d (.int .i64 (atR b.now x))), (83, .d (.bool (decide (atR b.now x < 0)))), (84, .d (.bool (decide (atR b.now x < 0))))] [(3, .cells [.d (.str (ByteArray.mk #[])), .d (.str (ByteArray.mk #[])), .d (.int .i64 0)])] ?_
    rcases Bool.eq_false_or_eq_true (decide (atR b.now x < 0)) with h2 | h2
    · rw [h2]
      simp only [bsX] at h2
      refine .sg0 8 [0, 2, 10, 12, 91] (G77 127 [false, false, false, false, false, true]) [(91, .d (.bool (decide ((↑(map nmD b.now).length : Int) ≥ 1024))))] ?_
      simp only [List.length_map]
      refine .if' (decide ((↑b.now.length : Int) ≥ 1024)) (G77 128 [false, false, false, false, false, true, true]) (G77 128 [false, false, false, false, false, true, false]) (fun h3 => ?_) (fun h3 => ?_)
      · simp only [bsX] at h3
        omega
      · simp only [bsX] at h3
        refine .sg 10 [0, 2, 10, 12, 92, 93, 94, 95, 96, 97, 98] (G77 138 [false, false, false, false, false, true, false]) [(92, .ptr 0 0 0), (93, .ptr 0 0 0), (94, .ptr 0 0 0), (95, .ptr 0 0 0), (96, .row 1), (97, .agg [.ex 1 [], .d (.int .i64 0)]), (98, .row 4)] [(4, .row 2 [D.agg [D.list 1 [], D.int IntKind.i64 0]] false)] ?_
        refine .op' (G77 139 [false, false, false, false, false, true, false]) (appRow_ok (s := (.tmp 96)) (x := (.tmp 98)) (t := 68) (t2 := 68) (sz := 2) (by' := 32) (ys := [D.agg [D.list 1 [], D.int IntKind.i64 0]]) (l := 1) (xs := map fileD b.files) (mv := true) (by kernel_rfl) (by kernel_rfl) (by kernel_rfl) (by kernel_rfl) (by kernel_rfl) (by kernel_rfl) (by simp <;> omega) (by first | (simp [maxLen] <;> omega) | omega)) ?_
        refine .sg 18 [0, 10, 12] (G77 157 [false, false, false, false, false, true, false]) [] [(0, .cells (rC 1 2 b)), (3, .cells [.d (.str (ByteArray.mk #[])), .d (.str x), .d (.int .i64 (IntKind.i64.wrap ((↑(map fileD b.files ++ [D.agg [D.list 1 [], D.int IntKind.i64 0]]).length : Int) - 1)))])] ?_
        rw [e1, e2]
        refine .su [0, 1, 2, 3] (mk 214 [(0, .ptr 0 0 0), (10, .d (.int .i64 0)), (12, .ptr 3 0 0)]) [.cells [.row 1, .d (.list 2 (b.now.map nmD)), .d (.list 2 (b.sure.map nmD)), .row 2, .d (.int .i64 b.quota), .d (.bool b.full), .d (.bool b.off), .d (.int .i64 b.stop), .d (.int .i64 b.calls)],
          .row 2 ((b.files ++ [([], 0)]).map fileD) true, .row 3 (b.ch.map chD) true, .cells [.d (.str noName), .d (.str x), .d (.int .i64 (b.files.length : Nat))]] ?_
        exact .goes [0, 10, 12] (by kernel_rfl) (by kernel_rfl) (by kernel_rfl) hend
    · rw [h2]
      simp only [bsX] at h2
      refine .sg 19 [0, 2, 10, 12, 92, 93, 94, 95, 96, 97, 98] (G77 138 [false, false, false, false, false, true, false]) [(92, .ptr 0 0 0), (93, .ptr 0 0 0), (94, .ptr 0 0 0), (95, .ptr 0 0 0), (96, .row 1), (97, .agg [.ex 1 [], .d (.int .i64 0)]), (98, .row 4)] [(4, .row 2 [D.agg [D.list 1 [], D.int IntKind.i64 0]] false)] ?_
      refine .op' (G77 139 [false, false, false, false, false, true, false]) (appRow_ok (s := (.tmp 96)) (x := (.tmp 98)) (t := 68) (t2 := 68) (sz := 2) (by' := 32) (ys := [D.agg [D.list 1 [], D.int IntKind.i64 0]]) (l := 1) (xs := map fileD b.files) (mv := true) (by kernel_rfl) (by kernel_rfl) (by kernel_rfl) (by kernel_rfl) (by kernel_rfl) (by kernel_rfl) (by simp <;> omega) (by first | (simp [maxLen] <;> omega) | omega)) ?_
      refine .sg 18 [0, 10, 12] (G77 157 [false, false, false, false, false, true, false]) [] [(0, .cells (rC 1 2 b)), (3, .cells [.d (.str (ByteArray.mk #[])), .d (.str x), .d (.int .i64 (IntKind.i64.wrap ((↑(map fileD b.files ++ [D.agg [D.list 1 [], D.int IntKind.i64 0]]).length : Int) - 1)))])] ?_
      rw [e1, e2]
      refine .su [0, 1, 2, 3] (mk 214 [(0, .ptr 0 0 0), (10, .d (.int .i64 0)), (12, .ptr 3 0 0)]) [.cells [.row 1, .d (.list 2 (b.now.map nmD)), .d (.list 2 (b.sure.map nmD)), .row 2, .d (.int .i64 b.quota), .d (.bool b.full), .d (.bool b.off), .d (.int .i64 b.stop), .d (.int .i64 b.calls)],
        .row 2 ((b.files ++ [([], 0)]).map fileD) true, .row 3 (b.ch.map chD) true, .cells [.d (.str noName), .d (.str x), .d (.int .i64 (b.files.length : Nat))]] ?_
      exact .goes [0, 10, 12] (by kernel_rfl) (by kernel_rfl) (by kernel_rfl) hend
theorem kind0b (b : Rk) (N : Nat) (h : b.Ok N) (x y : ByteArray) (hx : x.size < 1000000000) (v4 : V) (hm : mayName x = true) (h0 : atR b.now x < 0) (h1024 : 1024 ≤ b.now.length) :
    AW Try.prog 77 none 3 (G77 47 [false, false, false]) (mk 214 [(0, .ptr 0 0 0), (1, .d (.int .i64 0)), (2, .d (.str x)), (3, .d (.str y)), (4, v4), (10, .d (.int .i64 0))]) (SR b false) [] fun r σ' => r = .ret (.d (.int .i64 2)) ∧ σ' = SR b true := by
  have hnl := h.nl
  have hnb := h.nb
  have hfl := h.fl
  have hfs := h.fs
  refine .raises [1, 2] ?_
  clear h hfs
  refine .sg0 7 [0, 1, 2, 3, 4, 10, 44, 45, 46, 47] (G77 54 [false, false, false]) [(44, .d (.int .i64 0)), (45, .d (.bool true)), (46, .d (.bool true)), (47, .d (.str x))] ?_
  refine .cd (G77 55 [false, false, false]) F29 (@spec_29 (x) (by omega)) ?_
  refine .sg0 3 [0, 1, 2, 3, 4, 10, 44, 45, 46, 47, 48, 49, 50, 51] (G77 58 [false, false, false]) [(49, .d (.bool !mayName x)), (50, .d (.bool !mayName x)), (51, .d (.bool !mayName x))] ?_
  rcases Bool.eq_false_or_eq_true (!mayName x) with h1 | h1
  · rw [h1]
    simp only [bsX] at h1
    simp_all
  · rw [h1]
    simp only [bsX] at h1
    refine .sg0 18 [0, 1, 2, 3, 4, 10, 60, 61, 62, 63, 64] (G77 76 [false, false, false, false]) [(60, .ptr 0 0 0), (61, .ptr 0 0 0), (62, .ptr 0 0 1), (63, .d (.list 2 (map nmD b.now))), (64, .d (.str x))] ?_
    refine .cd (G77 77 [false, false, false, false]) F102 (@spec_102 (b.now) (x) (by omega)) ?_
    refine .sg 42 [0, 2, 10, 11, 12, 82, 83, 84] (G77 119 [false, false, false, false, false, true]) [(11, .d (.int .i64 (atR b.now x))), (12, .ptr 3 0 0), (82, .d (.int .i64 (atR b.now x))), (83, .d (.bool (decide (atR b.now x < 0)))), (84, .d (.bool (decide (atR b.now x < 0))))] [(3, .cells [.d (.str (ByteArray.mk #[])), .d (.str (ByteArray.mk #[])), .d (.int .i64 0)])] ?_
    rcases Bool.eq_false_or_eq_true (decide (atR b.now x < 0)) with h2 | h2
    · rw [h2]
      simp only [bsX] at h2
      refine .sg0 8 [0, 2, 10, 12, 91] (G77 127 [false, false, false, false, false, true]) [(91, .d (.bool (decide ((↑(map nmD b.now).length : Int) ≥ 1024))))] ?_
      simp only [List.length_map]
      refine .if' (decide ((↑b.now.length : Int) ≥ 1024)) (G77 128 [false, false, false, false, false, true, true]) (G77 128 [false, false, false, false, false, true, false]) (fun h3 => ?_) (fun h3 => ?_)
      · simp only [bsX] at h3
        refine .sg0 4 [0, 2, 10, 12] (G77 132 [false, false, false, false, false, true, true]) [(10, .d (.int .i64 2))] ?_
        refine .kp [10] ?_
        refine .su [0, 1, 2] (mk 214 [(10, .d (.int .i64 2))]) [.cells (rC 1 2 b), .row 2 (map fileD b.files) true, .row 3 (map chD b.ch) true] ?_
        refine .rt F77 (V.d (D.int IntKind.i64 2)) ?_
        exact ⟨rfl, rfl⟩
      · simp only [bsX] at h3
        omega
    · rw [h2]
      simp only [bsX] at h2
      omega
end Go.Proofs.Ytoelkgbeefoplaa
namespace Go.Proofs.Ytoelkgbeefoplaa
open Go Go.Br Go.Proofs
open List (map)
theorem Rk.used_le {d : Rk} {N : Nat} (h : d.Ok N) : d.used ≤ 52428800000 := by
 have h1 := Rk.acc_le h d.now.length
 have h2 := h.nl
 have h3 := h.nb
 unfold Rk.acc at h1
 rw [List.take_length] at h1
 unfold Rk.used
 omega
theorem kind1a (b : Rk) (N : Nat) (h : b.Ok N) (x y : ByteArray) (hx : x.size < 1000000000) (bs : List UInt8) (hb : bs.length < 1000000) (hm : mayName x = true) (h0 : 0 ≤ atR b.now x) (f : List UInt8 × Nat) (hf : b.files[(atR b.now x).toNat]? = some f) (hbig : 1048576 < f.1.length + bs.length) :
    AW Try.prog 77 none 3 (G77 47 [false, false, false]) (mk 214 [(0, .ptr 0 0 0), (1, .d (.int .i64 1)), (2, .d (.str x)), (3, .d (.str y)), (4, .d (.list 1 (bs.map u8))), (10, .d (.int .i64 0))]) (SR b false) [] fun r σ' => r = .ret (.d (.int .i64 2)) ∧ σ' = SR b true := by
  have hnl := h.nl
  have hnb := h.nb
  have hfl := h.fl
  have hfs := h.fs
  refine .raises [1, 2] ?_
  have hff := (hfs f (List.mem_of_getElem? hf)).2
  clear h hfs
  refine .sg0 7 [0, 1, 2, 3, 4, 10, 44, 45, 46, 47] (G77 54 [false, false, false]) [(44, .d (.int .i64 1)), (45, .d (.bool true)), (46, .d (.bool true)), (47, .d (.str x))] ?_
  refine .cd (G77 55 [false, false, false]) F29 (@spec_29 (x) (by omega)) ?_
  refine .sg0 3 [0, 1, 2, 3, 4, 10, 44, 45, 46, 47, 48, 49, 50, 51] (G77 58 [false, false, false]) [(49, .d (.bool !mayName x)), (50, .d (.bool !mayName x)), (51, .d (.bool !mayName x))] ?_
  rcases Bool.eq_false_or_eq_true (!mayName x) with h1 | h1
  · rw [h1]
    simp only [bsX] at h1
    simp_all
  · rw [h1]
    simp only [bsX] at h1
    refine .sg0 18 [0, 1, 2, 3, 4, 10, 60, 61, 62, 63, 64] (G77 76 [false, false, false, false]) [(60, .ptr 0 0 0), (61, .ptr 0 0 0), (62, .ptr 0 0 1), (63, .d (.list 2 (map nmD b.now))), (64, .d (.str x))] ?_
    refine .cd (G77 77 [false, false, false, false]) F102 (@spec_102 (b.now) (x) (by omega)) ?_
    refine .sg0 16 [0, 1, 2, 3, 4, 10, 11, 75] (G77 93 [false, false, false, false]) [(11, .d (.int .i64 (atR b.now x))), (75, .d (.bool (decide (atR b.now x < 0))))] ?_
    refine .if' (decide (atR b.now x < 0)) (G77 94 [false, false, false, false, true]) (G77 94 [false, false, false, false, false]) (fun h2 => ?_) (fun h2 => ?_)
    · simp only [bsX] at h2
      omega
    · simp only [bsX] at h2
      refine .sg 33 [0, 4, 10, 11, 12, 113, 114, 115, 116, 117] (G77 127 [false, false, false, false, false, false, true]) [(12, .ptr 3 0 0), (113, .ptr 0 0 0), (114, .ptr 0 0 0), (115, .ptr 0 0 0), (116, .row 1), (117, .d (.int .i64 (atR b.now x)))] [(3, .cells [.d (.str (ByteArray.mk #[])), .d (.str (ByteArray.mk #[])), .d (.int .i64 0)])] ?_
      refine .op' (G77 128 [false, false, false, false, false, false, true]) (ixRow_ok (t := 68) (x := (.tmp 116)) (i := (.tmp 117)) (k := IntKind.i64) (n := atR b.now x) (l := 1) (sz := 2) (xs := map fileD b.files) (mv := true) (by kernel_rfl) (by kernel_rfl) (by kernel_rfl) (by kernel_rfl) (by kernel_rfl) (by assumption) (by grind)) ?_
      refine .sg0 1 [0, 4, 10, 11, 12, 113, 114, 115, 116, 117, 118, 119] (G77 129 [false, false, false, false, false, false, true]) [(119, .ptr 1 (atR b.now x).toNat 0)] ?_
      refine .op' (G77 130 [false, false, false, false, false, false, true]) (ldRow_ok (t := 22) (x := (.tmp 119)) (l := 1) (i := (atR b.now x).toNat) (s := 0) (sz := 2) (xs := map fileD b.files) (mv := true) (d := fileD f) (v := .d (.list 1 (map u8 f.fst))) (by kernel_rfl) (by kernel_rfl) (by kernel_rfl) (map_get hf) (by kernel_rfl)) ?_
      refine .sg0 6 [0, 4, 10, 11, 12, 125] (G77 136 [false, false, false, false, false, false, true]) [(125, .d (.bool (decide (IntKind.i64.wrap ((↑(map u8 f.fst).length : Int) + (↑(map u8 bs).length : Int)) > 1048576))))] ?_
      simp only [List.length_map]
      simp (disch := omega) only [bsW]
      refine .if' (decide ((↑f.fst.length : Int) + (↑bs.length : Int) > 1048576)) (G77 137 [false, false, false, false, false, false, true, true]) (G77 137 [false, false, false, false, false, false, true, false]) (fun h3 => ?_) (fun h3 => ?_)
      · simp only [bsX] at h3
        refine .sg0 4 [0, 4, 10, 11, 12] (G77 141 [false, false, false, false, false, false, true, true]) [(10, .d (.int .i64 2))] ?_
        refine .kp [10] ?_
        refine .su [0, 1, 2] (mk 214 [(10, .d (.int .i64 2))]) [.cells (rC 1 2 b), .row 2 (map fileD b.files) true, .row 3 (map chD b.ch) true] ?_
        refine .rt F77 (V.d (D.int IntKind.i64 2)) ?_
        exact ⟨rfl, rfl⟩
      · simp only [bsX] at h3
        omega
theorem kind1b (b : Rk) (N : Nat) (h : b.Ok N) (x y : ByteArray) (hx : x.size < 1000000000) (bs : List UInt8) (hb : bs.length < 1000000) (hm : mayName x = true) (h0 : 0 ≤ atR b.now x) (f : List UInt8 × Nat) (hf : b.files[(atR b.now x).toNat]? = some f) (hbig : f.1.length + bs.length ≤ 1048576) (hq : b.quota < b.used + bs.length) :
    AW Try.prog 77 none 3 (G77 47 [false, false, false]) (mk 214 [(0, .ptr 0 0 0), (1, .d (.int .i64 1)), (2, .d (.str x)), (3, .d (.str y)), (4, .d (.list 1 (bs.map u8))), (10, .d (.int .i64 0))]) (SR b false) [] fun r σ' => r = .ret (.d (.int .i64 4)) ∧ σ' = SR { b with full := true } true := by
  have hnl := h.nl
  have hnb := h.nb
  have hfl := h.fl
  have hfs := h.fs
  refine .raises [1, 2] ?_
  have hff := (hfs f (List.mem_of_getElem? hf)).2
  have hu := Rk.used_le h
  have hw : IntKind.i64.wrap ((b.used : Int) + ((bs.map u8).length : Int)) = b.used + bs.length := by rw [List.length_map]; exact wrap_i64 (by omega) (by omega)
  have hw2 : IntKind.i64.wrap ((b.used : Int) + ((bs.map u8).length : Int)) > b.quota := by rw [hw]; omega
  clear hw
  clear hfs
  refine .sg0 7 [0, 1, 2, 3, 4, 10, 44, 45, 46, 47] (G77 54 [false, false, false]) [(44, .d (.int .i64 1)), (45, .d (.bool true)), (46, .d (.bool true)), (47, .d (.str x))] ?_
  refine .cd (G77 55 [false, false, false]) F29 (@spec_29 (x) (by omega)) ?_
  refine .sg0 3 [0, 1, 2, 3, 4, 10, 44, 45, 46, 47, 48, 49, 50, 51] (G77 58 [false, false, false]) [(49, .d (.bool !mayName x)), (50, .d (.bool !mayName x)), (51, .d (.bool !mayName x))] ?_
  rcases Bool.eq_false_or_eq_true (!mayName x) with h1 | h1
  · rw [h1]
    simp only [bsX] at h1
    simp_all
  · rw [h1]
    simp only [bsX] at h1
    refine .sg0 18 [0, 1, 2, 3, 4, 10, 60, 61, 62, 63, 64] (G77 76 [false, false, false, false]) [(60, .ptr 0 0 0), (61, .ptr 0 0 0), (62, .ptr 0 0 1), (63, .d (.list 2 (map nmD b.now))), (64, .d (.str x))] ?_
    refine .cd (G77 77 [false, false, false, false]) F102 (@spec_102 (b.now) (x) (by omega)) ?_
    refine .sg0 16 [0, 1, 2, 3, 4, 10, 11, 75] (G77 93 [false, false, false, false]) [(11, .d (.int .i64 (atR b.now x))), (75, .d (.bool (decide (atR b.now x < 0))))] ?_
    refine .if' (decide (atR b.now x < 0)) (G77 94 [false, false, false, false, true]) (G77 94 [false, false, false, false, false]) (fun h2 => ?_) (fun h2 => ?_)
    · simp only [bsX] at h2
      omega
    · simp only [bsX] at h2
      refine .sg 33 [0, 4, 10, 11, 12, 113, 114, 115, 116, 117] (G77 127 [false, false, false, false, false, false, true]) [(12, .ptr 3 0 0), (113, .ptr 0 0 0), (114, .ptr 0 0 0), (115, .ptr 0 0 0), (116, .row 1), (117, .d (.int .i64 (atR b.now x)))] [(3, .cells [.d (.str (ByteArray.mk #[])), .d (.str (ByteArray.mk #[])), .d (.int .i64 0)])] ?_
      refine .op' (G77 128 [false, false, false, false, false, false, true]) (ixRow_ok (t := 68) (x := (.tmp 116)) (i := (.tmp 117)) (k := IntKind.i64) (n := atR b.now x) (l := 1) (sz := 2) (xs := map fileD b.files) (mv := true) (by kernel_rfl) (by kernel_rfl) (by kernel_rfl) (by kernel_rfl) (by kernel_rfl) (by assumption) (by grind)) ?_
      refine .sg0 1 [0, 4, 10, 11, 12, 113, 114, 115, 116, 117, 118, 119] (G77 129 [false, false, false, false, false, false, true]) [(119, .ptr 1 (atR b.now x).toNat 0)] ?_
      refine .op' (G77 130 [false, false, false, false, false, false, true]) (ldRow_ok (t := 22) (x := (.tmp 119)) (l := 1) (i := (atR b.now x).toNat) (s := 0) (sz := 2) (xs := map fileD b.files) (mv := true) (d := fileD f) (v := .d (.list 1 (map u8 f.fst))) (by kernel_rfl) (by kernel_rfl) (by kernel_rfl) (map_get hf) (by kernel_rfl)) ?_
      refine .sg0 6 [0, 4, 10, 11, 12, 125] (G77 136 [false, false, false, false, false, false, true]) [(125, .d (.bool (decide (IntKind.i64.wrap ((↑(map u8 f.fst).length : Int) + (↑(map u8 bs).length : Int)) > 1048576))))] ?_
      simp only [List.length_map]
      simp (disch := omega) only [bsW]
      refine .if' (decide ((↑f.fst.length : Int) + (↑bs.length : Int) > 1048576)) (G77 137 [false, false, false, false, false, false, true, true]) (G77 137 [false, false, false, false, false, false, true, false]) (fun h3 => ?_) (fun h3 => ?_)
      · simp only [bsX] at h3
        omega
      · simp only [bsX] at h3
        refine .sg0 3 [0, 4, 10, 11, 12] (G77 140 [false, false, false, false, false, false, true, false]) [] ?_
        refine .dr (G77 141 [false, false, false, false, false, false, true, false]) [(126, .ptr 0 0 0), (127, .d (.int .i64 (↑b.used : Int))), (128, .d (.list 1 (map u8 bs))), (129, .d (.int .i64 (↑(map u8 bs).length : Int))), (130, .d (.int .i64 (IntKind.i64.wrap ((↑b.used : Int) + (↑(map u8 bs).length : Int))))), (131, .ptr 0 0 0), (132, .ptr 0 0 0), (133, .ptr 0 0 4), (134, .d (.int .i64 b.quota)), (135, .d (.bool (decide (IntKind.i64.wrap ((↑b.used : Int) + (↑(map u8 bs).length : Int)) > b.quota))))] [] (fun kz L hL => ?_) ?_
        · refine ⟨[fO 0, ⟨[0, 1, 2], [], [], [], [0, 1, 2], [], true, false⟩, nF, nF, nF, fO 0, fA 0, fA 0, ⟨[0], [], [], [], [0, 1, 2], [], true, false⟩, nF], run_amongF hL _ [] [0, 2, 5, 6, 7, 8, 1, 3, 4, 9] (by intro p hp; cases hp) (by kernel_rfl) ?_⟩
          refine Run.ap [0, 2, 5, 6, 7, 8] [(126, .ptr 0 0 0), (128, .d (.list 1 (map u8 bs))), (131, .ptr 0 0 0), (132, .ptr 0 0 0), (133, .ptr 0 0 4), (134, .d (.int .i64 b.quota))] [] ?_
          refine Run.cll 1 [0, 1, 2] F83 (@spec_83 (b) (N) (by assumption)) ?_
          exact Run.fin
        refine .if' (decide (IntKind.i64.wrap ((↑b.used : Int) + (↑(map u8 bs).length : Int)) > b.quota)) (G77 142 [false, false, false, false, false, false, true, false, true]) (G77 142 [false, false, false, false, false, false, true, false, false]) (fun h7 => ?_) (fun h7 => ?_)
        · simp only [bsX] at h7
          refine .sg 11 [0, 4, 10, 11, 12] (G77 153 [false, false, false, false, false, false, true, false, true]) [(10, .d (.int .i64 4))] [(0, .cells [.row 1, .d (.list 2 (map nmD b.now)), .d (.list 2 (map nmD b.sure)), .row 2, .d (.int .i64 b.quota), .d (.bool true), .d (.bool b.off), .d (.int .i64 b.stop), .d (.int .i64 b.calls)])] ?_
          refine .kp [10] ?_
          refine .su [0, 1, 2] (mk 214 [(10, .d (.int .i64 4))]) [.cells [.row 1, .d (.list 2 (map nmD b.now)), .d (.list 2 (map nmD b.sure)), .row 2, .d (.int .i64 b.quota), .d (.bool true), .d (.bool b.off), .d (.int .i64 b.stop), .d (.int .i64 b.calls)], .row 2 (map fileD b.files) true, .row 3 (map chD b.ch) true] ?_
          refine .rt F77 (V.d (D.int IntKind.i64 4)) ?_
          exact ⟨rfl, rfl⟩
        · simp only [bsX] at h7
          omega
end Go.Proofs.Ytoelkgbeefoplaa
namespace Go.Proofs.Ytoelkgbeefoplaa
open Go Go.Br Go.Proofs
open List (map)
theorem kind1c (b : Rk) (N : Nat) (h : b.Ok N) (x y : ByteArray) (hx : x.size < 1000000000) (bs : List UInt8) (hb : bs.length < 1000000) (hm : mayName x = true) (h0 : 0 ≤ atR b.now x) (f : List UInt8 × Nat) (hf : b.files[(atR b.now x).toNat]? = some f) (hbig : f.1.length + bs.length ≤ 1048576) (hq : b.used + bs.length ≤ b.quota) :
    AW Try.prog 77 none 3 (G77 47 [false, false, false]) (mk 214 [(0, .ptr 0 0 0), (1, .d (.int .i64 1)), (2, .d (.str x)), (3, .d (.str y)), (4, .d (.list 1 (bs.map u8))), (10, .d (.int .i64 0))]) (SR b false) [] fun r σ' => r = .ret (.d (.int .i64 0)) ∧ σ' = SR { b with files := b.files.set (atR b.now x).toNat (f.1 ++ bs, f.2) } true := by
  have hnl := h.nl
  have hnb := h.nb
  have hfl := h.fl
  have hfs := h.fs
  refine .raises [1, 2] ?_
  have hff := (hfs f (List.mem_of_getElem? hf)).2
  have hu := Rk.used_le h
  have hw : IntKind.i64.wrap ((b.used : Int) + ((bs.map u8).length : Int)) = b.used + bs.length := by rw [List.length_map]; exact wrap_i64 (by omega) (by omega)
  have hw2 : ¬(IntKind.i64.wrap ((b.used : Int) + ((bs.map u8).length : Int)) > b.quota) := by rw [hw]; omega
  clear hw
  clear hfs
  refine .sg0 7 [0, 1, 2, 3, 4, 10, 44, 45, 46, 47] (G77 54 [false, false, false]) [(44, .d (.int .i64 1)), (45, .d (.bool true)), (46, .d (.bool true)), (47, .d (.str x))] ?_
  refine .cd (G77 55 [false, false, false]) F29 (@spec_29 (x) (by omega)) ?_
  refine .sg0 3 [0, 1, 2, 3, 4, 10, 44, 45, 46, 47, 48, 49, 50, 51] (G77 58 [false, false, false]) [(49, .d (.bool !mayName x)), (50, .d (.bool !mayName x)), (51, .d (.bool !mayName x))] ?_
  rcases Bool.eq_false_or_eq_true (!mayName x) with h1 | h1
  · rw [h1]
    simp only [bsX] at h1
    simp_all
  · rw [h1]
    simp only [bsX] at h1
    refine .sg0 18 [0, 1, 2, 3, 4, 10, 60, 61, 62, 63, 64] (G77 76 [false, false, false, false]) [(60, .ptr 0 0 0), (61, .ptr 0 0 0), (62, .ptr 0 0 1), (63, .d (.list 2 (map nmD b.now))), (64, .d (.str x))] ?_
    refine .cd (G77 77 [false, false, false, false]) F102 (@spec_102 (b.now) (x) (by omega)) ?_
    refine .sg0 16 [0, 1, 2, 3, 4, 10, 11, 75] (G77 93 [false, false, false, false]) [(11, .d (.int .i64 (atR b.now x))), (75, .d (.bool (decide (atR b.now x < 0))))] ?_
    refine .if' (decide (atR b.now x < 0)) (G77 94 [false, false, false, false, true]) (G77 94 [false, false, false, false, false]) (fun h2 => ?_) (fun h2 => ?_)
    · simp only [bsX] at h2
      omega
    · simp only [bsX] at h2
      refine .sg 33 [0, 4, 10, 11, 12, 113, 114, 115, 116, 117] (G77 127 [false, false, false, false, false, false, true]) [(12, .ptr 3 0 0), (113, .ptr 0 0 0), (114, .ptr 0 0 0), (115, .ptr 0 0 0), (116, .row 1), (117, .d (.int .i64 (atR b.now x)))] [(3, .cells [.d (.str (ByteArray.mk #[])), .d (.str (ByteArray.mk #[])), .d (.int .i64 0)])] ?_
      refine .op' (G77 128 [false, false, false, false, false, false, true]) (ixRow_ok (t := 68) (x := (.tmp 116)) (i := (.tmp 117)) (k := IntKind.i64) (n := atR b.now x) (l := 1) (sz := 2) (xs := map fileD b.files) (mv := true) (by kernel_rfl) (by kernel_rfl) (by kernel_rfl) (by kernel_rfl) (by kernel_rfl) (by assumption) (by grind)) ?_
      refine .sg0 1 [0, 4, 10, 11, 12, 113, 114, 115, 116, 117, 118, 119] (G77 129 [false, false, false, false, false, false, true]) [(119, .ptr 1 (atR b.now x).toNat 0)] ?_
      refine .op' (G77 130 [false, false, false, false, false, false, true]) (ldRow_ok (t := 22) (x := (.tmp 119)) (l := 1) (i := (atR b.now x).toNat) (s := 0) (sz := 2) (xs := map fileD b.files) (mv := true) (d := fileD f) (v := .d (.list 1 (map u8 f.fst))) (by kernel_rfl) (by kernel_rfl) (by kernel_rfl) (map_get hf) (by kernel_rfl)) ?_
      refine .sg0 6 [0, 4, 10, 11, 12, 125] (G77 136 [false, false, false, false, false, false, true]) [(125, .d (.bool (decide (IntKind.i64.wrap ((↑(map u8 f.fst).length : Int) + (↑(map u8 bs).length : Int)) > 1048576))))] ?_
      simp only [List.length_map]
      simp (disch := omega) only [bsW]
      refine .if' (decide ((↑f.fst.length : Int) + (↑bs.length : Int) > 1048576)) (G77 137 [false, false, false, false, false, false, true, true]) (G77 137 [false, false, false, false, false, false, true, false]) (fun h3 => ?_) (fun h3 => ?_)
      · simp only [bsX] at h3
        omega
      · simp only [bsX] at h3
        refine .sg0 3 [0, 4, 10, 11, 12] (G77 140 [false, false, false, false, false, false, true, false]) [] ?_
        refine .dr (G77 141 [false, false, false, false, false, false, true, false]) [(126, .ptr 0 0 0), (127, .d (.int .i64 (↑b.used : Int))), (128, .d (.list 1 (map u8 bs))), (129, .d (.int .i64 (↑(map u8 bs).length : Int))), (130, .d (.int .i64 (IntKind.i64.wrap ((↑b.used : Int) + (↑(map u8 bs).length : Int))))), (131, .ptr 0 0 0), (132, .ptr 0 0 0), (133, .ptr 0 0 4), (134, .d (.int .i64 b.quota)), (135, .d (.bool (decide (IntKind.i64.wrap ((↑b.used : Int) + (↑(map u8 bs).length : Int)) > b.quota))))] [] (fun kz L hL => ?_) ?_
        · refine ⟨[fO 0, ⟨[0, 1, 2], [], [], [], [0, 1, 2], [], true, false⟩, nF, nF, nF, fO 0, fA 0, fA 0, ⟨[0], [], [], [], [0, 1, 2], [], true, false⟩, nF], run_amongF hL _ [] [0, 2, 5, 6, 7, 8, 1, 3, 4, 9] (by intro p hp; cases hp) (by kernel_rfl) ?_⟩
          refine Run.ap [0, 2, 5, 6, 7, 8] [(126, .ptr 0 0 0), (128, .d (.list 1 (map u8 bs))), (131, .ptr 0 0 0), (132, .ptr 0 0 0), (133, .ptr 0 0 4), (134, .d (.int .i64 b.quota))] [] ?_
          refine Run.cll 1 [0, 1, 2] F83 (@spec_83 (b) (N) (by assumption)) ?_
          exact Run.fin
        refine .if' (decide (IntKind.i64.wrap ((↑b.used : Int) + (↑(map u8 bs).length : Int)) > b.quota)) (G77 142 [false, false, false, false, false, false, true, false, true]) (G77 142 [false, false, false, false, false, false, true, false, false]) (fun h7 => ?_) (fun h7 => ?_)
        · simp only [bsX] at h7
          omega
        · simp only [bsX] at h7
          refine .sg0 2 [0, 4, 10, 11, 12] (G77 144 [false, false, false, false, false, false, true, false, false]) [] ?_
          refine .newVirt 1 ?_
          refine .dr (G77 145 [false, false, false, false, false, false, true, false, false]) [(139, .ptr 0 0 0), (140, .ptr 0 0 0), (141, .ptr 0 0 0), (142, .row 1), (143, .d (.int .i64 (atR b.now x))), (145, .ptr 0 0 0), (146, .ptr 0 0 0), (147, .ptr 0 0 0), (148, .row 1), (149, .d (.int .i64 (atR b.now x))), (150, .ptr 1 (atR b.now x).toNat 0), (151, .ptr 1 (atR b.now x).toNat 0), (152, .d (.list 1 (map u8 f.fst))), (154, .d (.list 1 (map u8 bs))), (155, .d (.list 1 ([] ++ map u8 f.fst ++ map u8 bs))), (156, .ptr 1 (atR b.now x).toNat 0), (157, .ptr 1 (atR b.now x).toNat 0)] [(1, .row 2 ((map fileD b.files).set (atR b.now x).toNat (D.agg [D.list 1 ([] ++ map u8 f.fst ++ map u8 bs), D.int IntKind.i64 (↑f.snd : Int)])) true), (4, .row 1 [] true)] (fun kz L hL => ?_) ?_
          · refine ⟨[fO 0, fA 0, fA 0, ⟨[0], [], [], [1], [0, 1, 2], [], true, false⟩, nF, ⟨[4], [], [], [4], [], [], true, false⟩, fO 0, fA 0, fA 0, ⟨[0], [], [], [1], [0, 1, 2], [], true, false⟩, nF, ⟨[1], [], [], [1], [1], [], true, false⟩, fA 1, fR 1, ⟨[4], [4], [4], [4], [4], [], true, false⟩, nF, ⟨[4], [4], [4], [], [4], [], true, false⟩, ⟨[1], [], [], [1], [1], [], true, false⟩, fA 1, ⟨[1], [1], [], [], [1], [], true, false⟩], run_amongF hL _ [] [0, 1, 2, 3, 4, 6, 7, 8, 9, 10, 11, 12, 13, 15, 5, 14, 16, 17, 18, 19] (by intro p hp; cases hp) (by kernel_rfl) ?_⟩
            refine Run.ap [0, 1, 2, 3, 4, 6, 7, 8, 9, 10] [(139, .ptr 0 0 0), (140, .ptr 0 0 0), (141, .ptr 0 0 0), (142, .row 1), (143, .d (.int .i64 (atR b.now x))), (145, .ptr 0 0 0), (146, .ptr 0 0 0), (147, .ptr 0 0 0), (148, .row 1), (149, .d (.int .i64 (atR b.now x)))] [] ?_
            refine Run.lk 11 (.ptr 1 (atR b.now x).toNat 0) [(.tmp 148), (.tmp 149)] (fun tm' σ2 hv hr => ixRow_ok (t := 68) (x := (.tmp 148)) (i := (.tmp 149)) (k := IntKind.i64) (n := atR b.now x) (l := 1) (sz := 2) (xs := map fileD b.files) (mv := true) (by kernel_rfl) (evv hv) (evv hv) (atr hr) (by kernel_rfl) (by assumption) (by grind)) ?_
            refine Run.ap [12] [(151, .ptr 1 (atR b.now x).toNat 0)] [] ?_
            refine Run.lk 13 (.d (.list 1 (map u8 f.fst))) [(.tmp 151)] (fun tm' σ2 hv hr => ldRow_ok (t := 22) (x := (.tmp 151)) (l := 1) (i := (atR b.now x).toNat) (s := 0) (sz := 2) (xs := map fileD b.files) (mv := true) (d := fileD f) (v := .d (.list 1 (map u8 f.fst))) (by kernel_rfl) (evv hv) (atr hr) (map_get hf) (by kernel_rfl)) ?_
            refine Run.ap [15] [(154, .d (.list 1 (map u8 bs)))] [] ?_
            refine Run.lk 5 (.row 4) [] (fun tm' σ2 hv hr => build0V_ok (t := 22) (e := 5) (sz := typeSize Try.prog (sliceElem Try.prog 22)) (sz' := typeSize Try.prog (sliceElem Try.prog 22)) (l := 4) (mv := false) (by kernel_rfl) (by kernel_rfl) (by kernel_rfl) (atr hr)) ?_
            refine Run.one (StepF.moves (o := ((drawOf (G77 144 [false, false, false, false, false, false, true, false, false]))[14]?).getD default) (v := .row 4) [(.tmp 144), (.tmp 152)] 4 (.row 1 ([] ++ map u8 f.fst) true) (by kernel_rfl) rfl (by kernel_rfl) (by kernel_rfl) (by kernel_rfl) (by kernel_rfl) (by kernel_rfl) (by kernel_rfl) (fun tm' σ2 hv hr => appRow_ok (s := (.tmp 144)) (x := (.tmp 152)) (t := 22) (t2 := 22) (sz := 1) (by' := 1) (ys := map u8 f.fst) (l := 4) (xs := []) (mv := false) (by kernel_rfl) (evv hv) (atr hr) (by rw [hv _ (by simp)]; exact (cont_at fun l hl => hr l (subB_in (by kernel_rfl) hl)).trans (by kernel_rfl)) (by kernel_rfl) (by kernel_rfl) (by simp <;> omega) (by first | (simp [maxLen] <;> omega) | omega))) ?_
            refine Run.one (StepF.moves (o := ((drawOf (G77 144 [false, false, false, false, false, false, true, false, false]))[16]?).getD default) (v := .d (.list 1 ([] ++ map u8 f.fst ++ map u8 bs))) [(.tmp 153), (.tmp 154)] 4 (.row 1 [] true) (by kernel_rfl) rfl (by kernel_rfl) (by kernel_rfl) (by kernel_rfl) (by kernel_rfl) (by kernel_rfl) (by kernel_rfl) (fun tm' σ2 hv hr => appRowD_ok (s := (.tmp 153)) (x := (.tmp 154)) (t := 22) (t2 := 22) (sz := 1) (by' := 1) (ys := map u8 bs) (l := 4) (xs := [] ++ map u8 f.fst) (mv := true) (by kernel_rfl) (evv hv) (atr hr) (by rw [hv _ (by simp)]; exact (cont_at fun l hl => hr l (subB_in (by kernel_rfl) hl)).trans (by kernel_rfl)) (by kernel_rfl) (by kernel_rfl) (by simp <;> omega) (by first | (simp [maxLen] <;> omega) | omega))) ?_
            refine Run.lk 17 (.ptr 1 (atR b.now x).toNat 0) [(.tmp 142), (.tmp 143)] (fun tm' σ2 hv hr => ixRow_ok (t := 68) (x := (.tmp 142)) (i := (.tmp 143)) (k := IntKind.i64) (n := atR b.now x) (l := 1) (sz := 2) (xs := map fileD b.files) (mv := true) (by kernel_rfl) (evv hv) (evv hv) (atr hr) (by kernel_rfl) (by assumption) (by grind)) ?_
            refine Run.ap [18] [(157, .ptr 1 (atR b.now x).toNat 0)] [] ?_
            refine Run.one (StepF.sets (o := ((drawOf (G77 144 [false, false, false, false, false, false, true, false, false]))[19]?).getD default) (v := .undef) [(.tmp 157), (.tmp 155)] 1 (.row 2 ((map fileD b.files).set (atR b.now x).toNat (D.agg [D.list 1 ([] ++ map u8 f.fst ++ map u8 bs), D.int IntKind.i64 (↑f.snd : Int)])) true) (by kernel_rfl) rfl (by kernel_rfl) (by kernel_rfl) (by kernel_rfl) (by kernel_rfl) (by kernel_rfl) (fun tm' σ2 hv hr => stRow_ok (t := 22) (x := (.tmp 157)) (y := (.tmp 155)) (l := 1) (i := (atR b.now x).toNat) (s := 0) (sz := 2) (xs := map fileD b.files) (mv := true) (d := fileD f) (d' := D.agg [D.list 1 ([] ++ map u8 f.fst ++ map u8 bs), D.int IntKind.i64 (↑f.snd : Int)]) (by kernel_rfl) (evv hv) (atr hr) (map_get hf) (by unfold storeE; rw [hv _ (by simp)]; kernel_rfl))) ?_
            exact Run.fin
          refine .sg0 4 [0, 10, 12] (G77 149 [false, false, false, false, false, false, true, false, false]) [] ?_
          refine .kp [10] ?_
          refine .su [0, 1, 2] (mk 214 [(10, .d (.int .i64 0))]) [.cells (rC 1 2 b), .row 2 ((map fileD b.files).set (atR b.now x).toNat (D.agg [D.list 1 ([] ++ map u8 f.fst ++ map u8 bs), D.int IntKind.i64 (↑f.snd : Int)])) true, .row 3 (map chD b.ch) true] ?_
          refine .rt F77 (V.d (D.int IntKind.i64 0)) ?_
          exact ⟨rfl, by simp [rC, SR, fileD, bsD, List.map_set, i64]⟩
end Go.Proofs.Ytoelkgbeefoplaa
namespace Go.Proofs.Ytoelkgbeefoplaa
open Go Go.Br Go.Proofs
open List (map)
theorem kinde0 (b : Rk) (N : Nat) (h : b.Ok N) (x y : ByteArray) (hx : x.size < 1000000000) (v4 : V) (hm : mayName x = false) :
   AW Try.prog 77 none 3 (G77 47 [false, false, false]) (mk 214 [(0, .ptr 0 0 0), (1, .d (.int .i64 0)), (2, .d (.str x)), (3, .d (.str y)), (4, v4), (10, .d (.int .i64 0))]) (SR b false) [] fun r σ' => r = .ret (.d (.int .i64 1)) ∧ σ' = SR b true := by
 have hnl := h.nl
 have hnb := h.nb
 have hfl := h.fl
 have hfs := h.fs
 refine .raises [1, 2] ?_
 clear h hfs
 refine .sg0 7 [0, 1, 2, 3, 4, 10, 44, 45, 46, 47] (G77 54 [false, false, false]) [(44, .d (.int .i64 0)), (45, .d (.bool true)), (46, .d (.bool true)), (47, .d (.str x))] ?_
 refine .cd (G77 55 [false, false, false]) F29 (@spec_29 (x) (by omega)) ?_
 refine .sg0 3 [0, 1, 2, 3, 4, 10, 44, 45, 46, 47, 48, 49, 50, 51] (G77 58 [false, false, false]) [(49, .d (.bool !mayName x)), (50, .d (.bool !mayName x)), (51, .d (.bool !mayName x))] ?_
 rcases Bool.eq_false_or_eq_true (!mayName x) with h1 | h1
 · rw [h1]
   simp only [bsX] at h1
   refine .seg 14 [0, 1, 2, 3, 4, 10] (T' := cgo 72 [false, false, false, true] [.code B77]) (tm' := mk 214 [(0, .ptr 0 0 0), (1, .d (.int .i64 0)), (2, .d (.str x)), (3, .d (.str y)), (4, v4), (10, .d (.int .i64 1))]) (σ' := [.cells (rC 1 2 b), .row 2 (map fileD b.files) true, .row 3 (map chD b.ch) true]) (by kernel_rfl) ?_
   refine .rt F77 (V.d (D.int IntKind.i64 1)) ?_
   exact ⟨rfl, rfl⟩
 · rw [h1]
   simp only [bsX] at h1
   simp_all
theorem kinde1 (b : Rk) (N : Nat) (h : b.Ok N) (x y : ByteArray) (hx : x.size < 1000000000) (v4 : V) (hm : mayName x = false) :
   AW Try.prog 77 none 3 (G77 47 [false, false, false]) (mk 214 [(0, .ptr 0 0 0), (1, .d (.int .i64 1)), (2, .d (.str x)), (3, .d (.str y)), (4, v4), (10, .d (.int .i64 0))]) (SR b false) [] fun r σ' => r = .ret (.d (.int .i64 1)) ∧ σ' = SR b true := by
 have hnl := h.nl
 have hnb := h.nb
 have hfl := h.fl
 have hfs := h.fs
 refine .raises [1, 2] ?_
 clear h hfs
 refine .sg0 7 [0, 1, 2, 3, 4, 10, 44, 45, 46, 47] (G77 54 [false, false, false]) [(44, .d (.int .i64 1)), (45, .d (.bool true)), (46, .d (.bool true)), (47, .d (.str x))] ?_
 refine .cd (G77 55 [false, false, false]) F29 (@spec_29 (x) (by omega)) ?_
 refine .sg0 3 [0, 1, 2, 3, 4, 10, 44, 45, 46, 47, 48, 49, 50, 51] (G77 58 [false, false, false]) [(49, .d (.bool !mayName x)), (50, .d (.bool !mayName x)), (51, .d (.bool !mayName x))] ?_
 rcases Bool.eq_false_or_eq_true (!mayName x) with h1 | h1
 · rw [h1]
   simp only [bsX] at h1
   refine .seg 14 [0, 1, 2, 3, 4, 10] (T' := cgo 72 [false, false, false, true] [.code B77]) (tm' := mk 214 [(0, .ptr 0 0 0), (1, .d (.int .i64 1)), (2, .d (.str x)), (3, .d (.str y)), (4, v4), (10, .d (.int .i64 1))]) (σ' := [.cells (rC 1 2 b), .row 2 (map fileD b.files) true, .row 3 (map chD b.ch) true]) (by kernel_rfl) ?_
   refine .rt F77 (V.d (D.int IntKind.i64 1)) ?_
   exact ⟨rfl, rfl⟩
 · rw [h1]
   simp only [bsX] at h1
   simp_all
theorem kinde2 (b : Rk) (N : Nat) (h : b.Ok N) (x y : ByteArray) (hx : x.size < 1000000000) (v4 : V) (hm : mayName x = false) :
   AW Try.prog 77 none 3 (G77 47 [false, false, false]) (mk 214 [(0, .ptr 0 0 0), (1, .d (.int .i64 2)), (2, .d (.str x)), (3, .d (.str y)), (4, v4), (10, .d (.int .i64 0))]) (SR b false) [] fun r σ' => r = .ret (.d (.int .i64 1)) ∧ σ' = SR b true := by
 have hnl := h.nl
 have hnb := h.nb
 have hfl := h.fl
 have hfs := h.fs
 refine .raises [1, 2] ?_
 clear h hfs
 refine .sg0 7 [0, 1, 2, 3, 4, 10, 44, 45, 46, 47] (G77 54 [false, false, false]) [(44, .d (.int .i64 2)), (45, .d (.bool true)), (46, .d (.bool true)), (47, .d (.str x))] ?_
 refine .cd (G77 55 [false, false, false]) F29 (@spec_29 (x) (by omega)) ?_
 refine .sg0 3 [0, 1, 2, 3, 4, 10, 44, 45, 46, 47, 48, 49, 50, 51] (G77 58 [false, false, false]) [(49, .d (.bool !mayName x)), (50, .d (.bool !mayName x)), (51, .d (.bool !mayName x))] ?_
 rcases Bool.eq_false_or_eq_true (!mayName x) with h1 | h1
 · rw [h1]
   simp only [bsX] at h1
   refine .seg 14 [0, 1, 2, 3, 4, 10] (T' := cgo 72 [false, false, false, true] [.code B77]) (tm' := mk 214 [(0, .ptr 0 0 0), (1, .d (.int .i64 2)), (2, .d (.str x)), (3, .d (.str y)), (4, v4), (10, .d (.int .i64 1))]) (σ' := [.cells (rC 1 2 b), .row 2 (map fileD b.files) true, .row 3 (map chD b.ch) true]) (by kernel_rfl) ?_
   refine .rt F77 (V.d (D.int IntKind.i64 1)) ?_
   exact ⟨rfl, rfl⟩
 · rw [h1]
   simp only [bsX] at h1
   simp_all
theorem kinde5 (b : Rk) (N : Nat) (h : b.Ok N) (x y : ByteArray) (hx : x.size < 1000000000) (v4 : V) (hm : mayName x = false) :
   AW Try.prog 77 none 3 (G77 47 [false, false, false]) (mk 214 [(0, .ptr 0 0 0), (1, .d (.int .i64 5)), (2, .d (.str x)), (3, .d (.str y)), (4, v4), (10, .d (.int .i64 0))]) (SR b false) [] fun r σ' => r = .ret (.d (.int .i64 1)) ∧ σ' = SR b true := by
 have hnl := h.nl
 have hnb := h.nb
 have hfl := h.fl
 have hfs := h.fs
 refine .raises [1, 2] ?_
 clear h hfs
 refine .sg0 7 [0, 1, 2, 3, 4, 10, 44, 45, 46, 47] (G77 54 [false, false, false]) [(44, .d (.int .i64 5)), (45, .d (.bool true)), (46, .d (.bool true)), (47, .d (.str x))] ?_
 refine .cd (G77 55 [false, false, false]) F29 (@spec_29 (x) (by omega)) ?_
 refine .sg0 3 [0, 1, 2, 3, 4, 10, 44, 45, 46, 47, 48, 49, 50, 51] (G77 58 [false, false, false]) [(49, .d (.bool !mayName x)), (50, .d (.bool !mayName x)), (51, .d (.bool !mayName x))] ?_
 rcases Bool.eq_false_or_eq_true (!mayName x) with h1 | h1
 · rw [h1]
   simp only [bsX] at h1
   refine .seg 14 [0, 1, 2, 3, 4, 10] (T' := cgo 72 [false, false, false, true] [.code B77]) (tm' := mk 214 [(0, .ptr 0 0 0), (1, .d (.int .i64 5)), (2, .d (.str x)), (3, .d (.str y)), (4, v4), (10, .d (.int .i64 1))]) (σ' := [.cells (rC 1 2 b), .row 2 (map fileD b.files) true, .row 3 (map chD b.ch) true]) (by kernel_rfl) ?_
   refine .rt F77 (V.d (D.int IntKind.i64 1)) ?_
   exact ⟨rfl, rfl⟩
 · rw [h1]
   simp only [bsX] at h1
   simp_all
theorem kinde4 (b : Rk) (N : Nat) (h : b.Ok N) (x y : ByteArray) (hx : x.size < 1000000000) (hy : y.size < 1000000000) (v4 : V) (hm : mayName x = false ∨ mayName y = false) :
    AW Try.prog 77 none 3 (G77 47 [false, false, false]) (mk 214 [(0, .ptr 0 0 0), (1, .d (.int .i64 4)), (2, .d (.str x)), (3, .d (.str y)), (4, v4), (10, .d (.int .i64 0))]) (SR b false) [] fun r σ' => r = .ret (.d (.int .i64 1)) ∧ σ' = SR b true := by
  have hnl := h.nl
  have hnb := h.nb
  have hfl := h.fl
  have hfs := h.fs
  refine .raises [1, 2] ?_
  clear h hfs
  rcases Bool.eq_false_or_eq_true (mayName x) with hm1 | hm1
  · rcases hm with hm | hm
    · rw [hm1] at hm; cases hm
    · refine .sg0 7 [0, 1, 2, 3, 4, 10, 44, 45, 46, 47] (G77 54 [false, false, false]) [(44, .d (.int .i64 4)), (45, .d (.bool true)), (46, .d (.bool true)), (47, .d (.str x))] ?_
      refine .cd (G77 55 [false, false, false]) F29 (@spec_29 (x) (by omega)) ?_
      refine .sg0 3 [0, 1, 2, 3, 4, 10, 44, 45, 46, 47, 48, 49, 50, 51] (G77 58 [false, false, false]) [(49, .d (.bool !mayName x)), (50, .d (.bool !mayName x)), (51, .d (.bool !mayName x))] ?_
      rcases Bool.eq_false_or_eq_true (!mayName x) with h1 | h1
      · rw [h1]
        simp only [bsX] at h1
        simp_all
      · rw [h1]
        simp only [bsX] at h1
        refine .sg0 4 [0, 1, 2, 3, 4, 10, 44, 45, 46, 47, 48, 49, 50, 51, 52, 53, 54, 55] (G77 62 [false, false, false]) [(52, .d (.int .i64 4)), (53, .d (.bool true)), (54, .d (.bool true)), (55, .d (.str y))] ?_
        refine .cd (G77 63 [false, false, false]) F29 (@spec_29 (y) (by omega)) ?_
        refine .sg0 4 [0, 1, 2, 3, 4, 10, 59] (G77 67 [false, false, false]) [(59, .d (.bool !mayName y))] ?_
        refine .if' (!mayName y) (G77 68 [false, false, false, true]) (G77 68 [false, false, false, false]) (fun h2 => ?_) (fun h2 => ?_)
        · simp only [bsX] at h2
          refine .seg 4 [0, 1, 2, 3, 4, 10] (T' := cgo 72 [false, false, false, true] [.code B77]) (tm' := mk 214 [(0, .ptr 0 0 0), (1, .d (.int .i64 4)), (2, .d (.str x)), (3, .d (.str y)), (4, v4), (10, .d (.int .i64 1))]) (σ' := [.cells (rC 1 2 b), .row 2 (map fileD b.files) true, .row 3 (map chD b.ch) true]) (by kernel_rfl) ?_
          refine .rt F77 (V.d (D.int IntKind.i64 1)) ?_
          exact ⟨rfl, rfl⟩
        · simp only [bsX] at h2
          simp_all
  · clear hm
    refine .sg0 7 [0, 1, 2, 3, 4, 10, 44, 45, 46, 47] (G77 54 [false, false, false]) [(44, .d (.int .i64 4)), (45, .d (.bool true)), (46, .d (.bool true)), (47, .d (.str x))] ?_
    refine .cd (G77 55 [false, false, false]) F29 (@spec_29 (x) (by omega)) ?_
    refine .sg0 3 [0, 1, 2, 3, 4, 10, 44, 45, 46, 47, 48, 49, 50, 51] (G77 58 [false, false, false]) [(49, .d (.bool !mayName x)), (50, .d (.bool !mayName x)), (51, .d (.bool !mayName x))] ?_
    rcases Bool.eq_false_or_eq_true (!mayName x) with h1 | h1
    · rw [h1]
      simp only [bsX] at h1
      refine .seg 14 [0, 1, 2, 3, 4, 10] (T' := cgo 72 [false, false, false, true] [.code B77]) (tm' := mk 214 [(0, .ptr 0 0 0), (1, .d (.int .i64 4)), (2, .d (.str x)), (3, .d (.str y)), (4, v4), (10, .d (.int .i64 1))]) (σ' := [.cells (rC 1 2 b), .row 2 (map fileD b.files) true, .row 3 (map chD b.ch) true]) (by kernel_rfl) ?_
      refine .rt F77 (V.d (D.int IntKind.i64 1)) ?_
      exact ⟨rfl, rfl⟩
    · rw [h1]
      simp only [bsX] at h1
      simp_all
end Go.Proofs.Ytoelkgbeefoplaa
namespace Go.Proofs.Ytoelkgbeefoplaa
open Go Go.Br Go.Proofs
open List (map)
theorem kindn1 (b : Rk) (N : Nat) (h : b.Ok N) (x y : ByteArray) (hx : x.size < 1000000000) (hy : y.size < 1000000000) (v4 : V) (hm : mayName x = true) (h0 : atR b.now x < 0) :
   AW Try.prog 77 none 3 (G77 47 [false, false, false]) (mk 214 [(0, .ptr 0 0 0), (1, .d (.int .i64 1)), (2, .d (.str x)), (3, .d (.str y)), (4, v4), (10, .d (.int .i64 0))]) (SR b false) [] fun r σ' => r = .ret (.d (.int .i64 3)) ∧ σ' = SR b true := by
 have hnl := h.nl
 have hnb := h.nb
 have hfl := h.fl
 have hfs := h.fs
 refine .raises [1, 2] ?_
 clear h hfs
 refine .sg0 7 [0, 1, 2, 3, 4, 10, 44, 45, 46, 47] (G77 54 [false, false, false]) [(44, .d (.int .i64 1)), (45, .d (.bool true)), (46, .d (.bool true)), (47, .d (.str x))] ?_
 refine .cd (G77 55 [false, false, false]) F29 (@spec_29 (x) (by omega)) ?_
 refine .sg0 3 [0, 1, 2, 3, 4, 10, 44, 45, 46, 47, 48, 49, 50, 51] (G77 58 [false, false, false]) [(49, .d (.bool !mayName x)), (50, .d (.bool !mayName x)), (51, .d (.bool !mayName x))] ?_
 rcases Bool.eq_false_or_eq_true (!mayName x) with h1 | h1
 · rw [h1]
   simp only [bsX] at h1
   simp_all
 · rw [h1]
   simp only [bsX] at h1
   refine .sg0 18 [0, 1, 2, 3, 4, 10, 60, 61, 62, 63, 64] (G77 76 [false, false, false, false]) [(60, .ptr 0 0 0), (61, .ptr 0 0 0), (62, .ptr 0 0 1), (63, .d (.list 2 (map nmD b.now))), (64, .d (.str x))] ?_
   refine .cd (G77 77 [false, false, false, false]) F102 (@spec_102 (b.now) (x) (by omega)) ?_
   refine .sg0 16 [0, 1, 2, 3, 4, 10, 11, 75] (G77 93 [false, false, false, false]) [(11, .d (.int .i64 (atR b.now x))), (75, .d (.bool (decide (atR b.now x < 0))))] ?_
   refine .if' (decide (atR b.now x < 0)) (G77 94 [false, false, false, false, true]) (G77 94 [false, false, false, false, false]) (fun h2 => ?_) (fun h2 => ?_)
   · simp only [bsX] at h2
     refine .seg 4 [0, 1, 2, 3, 4, 10, 11] (T' := cgo 98 [false, false, false, false, true] [.code B77]) (tm' := mk 214 [(0, .ptr 0 0 0), (1, .d (.int .i64 1)), (2, .d (.str x)), (3, .d (.str y)), (4, v4), (10, .d (.int .i64 3)), (11, .d (.int .i64 (atR b.now x)))]) (σ' := [.cells (rC 1 2 b), .row 2 (map fileD b.files) true, .row 3 (map chD b.ch) true]) (by kernel_rfl) ?_
     refine .rt F77 (V.d (D.int IntKind.i64 3)) ?_
     exact ⟨rfl, rfl⟩
   · simp only [bsX] at h2
     omega
theorem kindn2 (b : Rk) (N : Nat) (h : b.Ok N) (x y : ByteArray) (hx : x.size < 1000000000) (hy : y.size < 1000000000) (v4 : V) (hm : mayName x = true) (h0 : atR b.now x < 0) :
   AW Try.prog 77 none 3 (G77 47 [false, false, false]) (mk 214 [(0, .ptr 0 0 0), (1, .d (.int .i64 2)), (2, .d (.str x)), (3, .d (.str y)), (4, v4), (10, .d (.int .i64 0))]) (SR b false) [] fun r σ' => r = .ret (.d (.int .i64 3)) ∧ σ' = SR b true := by
 have hnl := h.nl
 have hnb := h.nb
 have hfl := h.fl
 have hfs := h.fs
 refine .raises [1, 2] ?_
 clear h hfs
 refine .sg0 7 [0, 1, 2, 3, 4, 10, 44, 45, 46, 47] (G77 54 [false, false, false]) [(44, .d (.int .i64 2)), (45, .d (.bool true)), (46, .d (.bool true)), (47, .d (.str x))] ?_
 refine .cd (G77 55 [false, false, false]) F29 (@spec_29 (x) (by omega)) ?_
 refine .sg0 3 [0, 1, 2, 3, 4, 10, 44, 45, 46, 47, 48, 49, 50, 51] (G77 58 [false, false, false]) [(49, .d (.bool !mayName x)), (50, .d (.bool !mayName x)), (51, .d (.bool !mayName x))] ?_
 rcases Bool.eq_false_or_eq_true (!mayName x) with h1 | h1
 · rw [h1]
   simp only [bsX] at h1
   simp_all
 · rw [h1]
   simp only [bsX] at h1
   refine .sg0 18 [0, 1, 2, 3, 4, 10, 60, 61, 62, 63, 64] (G77 76 [false, false, false, false]) [(60, .ptr 0 0 0), (61, .ptr 0 0 0), (62, .ptr 0 0 1), (63, .d (.list 2 (map nmD b.now))), (64, .d (.str x))] ?_
   refine .cd (G77 77 [false, false, false, false]) F102 (@spec_102 (b.now) (x) (by omega)) ?_
   refine .sg0 16 [0, 1, 2, 3, 4, 10, 11, 75] (G77 93 [false, false, false, false]) [(11, .d (.int .i64 (atR b.now x))), (75, .d (.bool (decide (atR b.now x < 0))))] ?_
   refine .if' (decide (atR b.now x < 0)) (G77 94 [false, false, false, false, true]) (G77 94 [false, false, false, false, false]) (fun h2 => ?_) (fun h2 => ?_)
   · simp only [bsX] at h2
     refine .seg 4 [0, 1, 2, 3, 4, 10, 11] (T' := cgo 98 [false, false, false, false, true] [.code B77]) (tm' := mk 214 [(0, .ptr 0 0 0), (1, .d (.int .i64 2)), (2, .d (.str x)), (3, .d (.str y)), (4, v4), (10, .d (.int .i64 3)), (11, .d (.int .i64 (atR b.now x)))]) (σ' := [.cells (rC 1 2 b), .row 2 (map fileD b.files) true, .row 3 (map chD b.ch) true]) (by kernel_rfl) ?_
     refine .rt F77 (V.d (D.int IntKind.i64 3)) ?_
     exact ⟨rfl, rfl⟩
   · simp only [bsX] at h2
     omega
theorem kindn4 (b : Rk) (N : Nat) (h : b.Ok N) (x y : ByteArray) (hx : x.size < 1000000000) (hy : y.size < 1000000000) (v4 : V) (hm : mayName x = true) (hm2 : mayName y = true) (h0 : atR b.now x < 0) :
    AW Try.prog 77 none 3 (G77 47 [false, false, false]) (mk 214 [(0, .ptr 0 0 0), (1, .d (.int .i64 4)), (2, .d (.str x)), (3, .d (.str y)), (4, v4), (10, .d (.int .i64 0))]) (SR b false) [] fun r σ' => r = .ret (.d (.int .i64 3)) ∧ σ' = SR b true := by
  have hnl := h.nl
  have hnb := h.nb
  have hfl := h.fl
  have hfs := h.fs
  refine .raises [1, 2] ?_
  clear h hfs
  refine .sg0 7 [0, 1, 2, 3, 4, 10, 44, 45, 46, 47] (G77 54 [false, false, false]) [(44, .d (.int .i64 4)), (45, .d (.bool true)), (46, .d (.bool true)), (47, .d (.str x))] ?_
  refine .cd (G77 55 [false, false, false]) F29 (@spec_29 (x) (by omega)) ?_
  refine .sg0 3 [0, 1, 2, 3, 4, 10, 44, 45, 46, 47, 48, 49, 50, 51] (G77 58 [false, false, false]) [(49, .d (.bool !mayName x)), (50, .d (.bool !mayName x)), (51, .d (.bool !mayName x))] ?_
  rcases Bool.eq_false_or_eq_true (!mayName x) with h1 | h1
  · rw [h1]
    simp only [bsX] at h1
    simp_all
  · rw [h1]
    simp only [bsX] at h1
    refine .sg0 4 [0, 1, 2, 3, 4, 10, 44, 45, 46, 47, 48, 49, 50, 51, 52, 53, 54, 55] (G77 62 [false, false, false]) [(52, .d (.int .i64 4)), (53, .d (.bool true)), (54, .d (.bool true)), (55, .d (.str y))] ?_
    refine .cd (G77 63 [false, false, false]) F29 (@spec_29 (y) (by omega)) ?_
    refine .sg0 4 [0, 1, 2, 3, 4, 10, 59] (G77 67 [false, false, false]) [(59, .d (.bool !mayName y))] ?_
    refine .if' (!mayName y) (G77 68 [false, false, false, true]) (G77 68 [false, false, false, false]) (fun h2 => ?_) (fun h2 => ?_)
    · simp only [bsX] at h2
      simp_all
    · simp only [bsX] at h2
      refine .sg0 8 [0, 1, 2, 3, 4, 10, 60, 61, 62, 63, 64] (G77 76 [false, false, false, false]) [(60, .ptr 0 0 0), (61, .ptr 0 0 0), (62, .ptr 0 0 1), (63, .d (.list 2 (map nmD b.now))), (64, .d (.str x))] ?_
      refine .cd (G77 77 [false, false, false, false]) F102 (@spec_102 (b.now) (x) (by omega)) ?_
      refine .sg0 16 [0, 1, 2, 3, 4, 10, 11, 75] (G77 93 [false, false, false, false]) [(11, .d (.int .i64 (atR b.now x))), (75, .d (.bool (decide (atR b.now x < 0))))] ?_
      refine .if' (decide (atR b.now x < 0)) (G77 94 [false, false, false, false, true]) (G77 94 [false, false, false, false, false]) (fun h3 => ?_) (fun h3 => ?_)
      · simp only [bsX] at h3
        refine .seg 4 [0, 1, 2, 3, 4, 10, 11] (T' := cgo 98 [false, false, false, false, true] [.code B77]) (tm' := mk 214 [(0, .ptr 0 0 0), (1, .d (.int .i64 4)), (2, .d (.str x)), (3, .d (.str y)), (4, v4), (10, .d (.int .i64 3)), (11, .d (.int .i64 (atR b.now x)))]) (σ' := [.cells (rC 1 2 b), .row 2 (map fileD b.files) true, .row 3 (map chD b.ch) true]) (by kernel_rfl) ?_
        refine .rt F77 (V.d (D.int IntKind.i64 3)) ?_
        exact ⟨rfl, rfl⟩
      · simp only [bsX] at h3
        omega
theorem kindn5 (b : Rk) (N : Nat) (h : b.Ok N) (x y : ByteArray) (hx : x.size < 1000000000) (hy : y.size < 1000000000) (v4 : V) (hm : mayName x = true) (h0 : atR b.now x < 0) :
   AW Try.prog 77 none 3 (G77 47 [false, false, false]) (mk 214 [(0, .ptr 0 0 0), (1, .d (.int .i64 5)), (2, .d (.str x)), (3, .d (.str y)), (4, v4), (10, .d (.int .i64 0))]) (SR b false) [] fun r σ' => r = .ret (.d (.int .i64 3)) ∧ σ' = SR b true := by
 have hnl := h.nl
 have hnb := h.nb
 have hfl := h.fl
 have hfs := h.fs
 refine .raises [1, 2] ?_
 clear h hfs
 refine .sg0 7 [0, 1, 2, 3, 4, 10, 44, 45, 46, 47] (G77 54 [false, false, false]) [(44, .d (.int .i64 5)), (45, .d (.bool true)), (46, .d (.bool true)), (47, .d (.str x))] ?_
 refine .cd (G77 55 [false, false, false]) F29 (@spec_29 (x) (by omega)) ?_
 refine .sg0 3 [0, 1, 2, 3, 4, 10, 44, 45, 46, 47, 48, 49, 50, 51] (G77 58 [false, false, false]) [(49, .d (.bool !mayName x)), (50, .d (.bool !mayName x)), (51, .d (.bool !mayName x))] ?_
 rcases Bool.eq_false_or_eq_true (!mayName x) with h1 | h1
 · rw [h1]
   simp only [bsX] at h1
   simp_all
 · rw [h1]
   simp only [bsX] at h1
   refine .sg0 18 [0, 1, 2, 3, 4, 10, 60, 61, 62, 63, 64] (G77 76 [false, false, false, false]) [(60, .ptr 0 0 0), (61, .ptr 0 0 0), (62, .ptr 0 0 1), (63, .d (.list 2 (map nmD b.now))), (64, .d (.str x))] ?_
   refine .cd (G77 77 [false, false, false, false]) F102 (@spec_102 (b.now) (x) (by omega)) ?_
   refine .sg0 16 [0, 1, 2, 3, 4, 10, 11, 75] (G77 93 [false, false, false, false]) [(11, .d (.int .i64 (atR b.now x))), (75, .d (.bool (decide (atR b.now x < 0))))] ?_
   refine .if' (decide (atR b.now x < 0)) (G77 94 [false, false, false, false, true]) (G77 94 [false, false, false, false, false]) (fun h2 => ?_) (fun h2 => ?_)
   · simp only [bsX] at h2
     refine .seg 4 [0, 1, 2, 3, 4, 10, 11] (T' := cgo 98 [false, false, false, false, true] [.code B77]) (tm' := mk 214 [(0, .ptr 0 0 0), (1, .d (.int .i64 5)), (2, .d (.str x)), (3, .d (.str y)), (4, v4), (10, .d (.int .i64 3)), (11, .d (.int .i64 (atR b.now x)))]) (σ' := [.cells (rC 1 2 b), .row 2 (map fileD b.files) true, .row 3 (map chD b.ch) true]) (by kernel_rfl) ?_
     refine .rt F77 (V.d (D.int IntKind.i64 3)) ?_
     exact ⟨rfl, rfl⟩
   · simp only [bsX] at h2
     omega
end Go.Proofs.Ytoelkgbeefoplaa
namespace Go.Proofs.Ytoelkgbeefoplaa
open Go Go.Br Go.Proofs
open List (map)
section
variable {b : Dk} {x y : ByteArray}
theorem err_off (ho : b.off = true) (th : Bool) (l : List ByteArray) : b.err th l = 5 := by unfold Dk.err; rw [if_pos ho]
theorem errF (ho : b.off = false) (x : ByteArray) : b.err false [x] = if mayName x then 0 else 1 := by
 unfold Dk.err; rw [if_neg (by simp [ho])]; simp
theorem errT (ho : b.off = false) (x : ByteArray) : b.err true [x] = if mayName x then (if (look b.nk b.nv x).isNone then 3 else 0) else 1 := by
 unfold Dk.err; rw [if_neg (by simp [ho])]; simp
theorem errTT (ho : b.off = false) (x y : ByteArray) : b.err true [x, y] = if mayName x = true ∧ mayName y = true then (if (look b.nk b.nv x).isNone then 3 else 0) else 1 := by
 unfold Dk.err; rw [if_neg (by simp [ho])]; simp
theorem at_some {t : Int} {N : Nat} (h : b.Ok N) {v : Int} (hv : look b.nk b.nv x = some v) : atR (Rof b t).now x = v ∧ 0 ≤ v ∧ b.num x = v.toNat ∧ (Rof b t).files[v.toNat]? = some (b.file v.toNat) := by
 have h1 : (look b.nk b.nv x).isSome := by rw [hv]; rfl
 have h2 := h.nn v (look_mem hv)
 have h3 := Dk.num_lt h h1
 have h4 : b.num x = v.toNat := by unfold Dk.num; rw [hv]; rfl
 refine ⟨by rw [Rof_at h, hv]; rfl, h2.1, h4, ?_⟩
 show b.files[v.toNat]? = _
 rw [h4] at h3
 unfold Dk.file
 rw [List.getD_eq_getElem?_getD, List.getElem?_eq_getElem h3]; rfl
theorem at_none {t : Int} {N : Nat} (h : b.Ok N) (hv : look b.nk b.nv x = none) : atR (Rof b t).now x = -1 := by rw [Rof_at h, hv]; rfl
end
def After (e : Int) (d' : Dk) (t' : Int) (r : AE) (σ' : Store) : Prop := r = .ret (.d (.int .i64 e)) ∧ σ' = SR (Rof d' t') true
theorem call_head (d : Dk) (t : Int) (N : Nat) (h : d.Ok N) (ht : Rt d t) (k : Int) (x y : ByteArray) (v4 : V) (e : Int) (d' : Dk) (hoff : d.begun.off = true → e = 5 ∧ d' = d.begun)
   (hon : d.begun.off = false → ∀ t1, Rb t1 → AW Try.prog 77 none 3 (G77 47 [false, false, false]) (mk 214 [(0, .ptr 0 0 0), (1, .d (.int .i64 k)), (2, .d (.str x)), (3, .d (.str y)), (4, v4), (10, .d (.int .i64 0))]) (SR (Rof d.begun t1) false) [] (After e d' t1)) :
   CallsA Try.prog 77 [.ptr 0 0 0, .d (.int .i64 k), .d (.str x), .d (.str y), v4] (SR (Rof d t) false) (After e d' (tb d t)) := by
 obtain ⟨e1, r1⟩ := Rof_begun h ht
 refine head77 (Rof d t) N (Rof_ok h ht.b) k x y v4 _ (fun ho => ?_) (fun ho => ?_)
 · rw [e1] at ho ⊢
   obtain ⟨h1, h2⟩ := hoff ho
   subst h1; subst h2
   exact ⟨rfl, rfl⟩
 · rw [e1] at ho ⊢
   exact hon ho _ r1
theorem call0 (d : Dk) (t : Int) (N : Nat) (h : d.Ok N) (hn : d.Nm) (hN : N + 3 ≤ 50000) (ht : Rt d t) (x y : ByteArray) (hx : x.size < 1000000000) (v4 : V) :
    CallsA Try.prog 77 [.ptr 0 0 0, .d (.int .i64 0), .d (.str x), .d (.str y), v4] (SR (Rof d t) false) (After (d.begun.createE x) (d.begun.createD x) (tb d t)) := by
  have k1 := Dk.begun_ok h (by omega)
  have n1 := begun_nm hn
  refine call_head d t N h ht 0 x y v4 _ _ (fun ho => ?_) (fun ho t1 r1 => ?_)
  · have e : d.begun.createE x = 5 := by unfold Dk.createE; rw [err_off ho, if_pos (by simp)]
    exact ⟨e, by unfold Dk.createD; rw [e, if_neg (by simp)]⟩
  · generalize d.begun = b at *
    have kr := Rof_ok k1 r1
    cases hm : mayName x with
    | false =>
      have e : b.createE x = 1 := by unfold Dk.createE; rw [errF ho, hm]; simp
      have e2 : b.createD x = b := by unfold Dk.createD; rw [e, if_neg (by simp)]
      rw [e, e2]
      refine (kinde0 (Rof b t1) _ kr x y hx v4 hm).mono ?_
      rintro r s ⟨h1, h2⟩
      exact ⟨h1, h2⟩
    | true =>
      have e0 : b.err false [x] = 0 := by rw [errF ho, hm]; rfl
      by_cases hb : (look b.nk b.nv x).isNone ∧ 1024 ≤ b.nk.length
      · have e : b.createE x = 2 := by unfold Dk.createE; rw [e0, if_neg (by simp), if_pos hb]
        have e2 : b.createD x = b := by unfold Dk.createD; rw [e, if_neg (by simp)]
        rw [e, e2]
        have hl : look b.nk b.nv x = none := by simpa using hb.1
        refine (kind0b (Rof b t1) _ kr x y hx v4 hm (by rw [at_none k1 hl]; omega) (by rw [Rof_len k1]; exact hb.2)).mono ?_
        rintro r s ⟨h1, h2⟩
        exact ⟨h1, h2⟩
      · have e : b.createE x = 0 := by unfold Dk.createE; rw [e0, if_neg (by simp), if_neg hb]
        have e2 : b.createD x = ({ b with files := b.files ++ [([], 0)] } : Dk).turn noName x b.files.length := by unfold Dk.createD; rw [if_pos e]
        have h0 : 0 ≤ atR (Rof b t1).now x ∨ ((Rof b t1).now.length : Int) < 1024 := by
          cases hl : look b.nk b.nv x with
          | some v =>
            obtain ⟨a1, a2, _, _⟩ := at_some (t := t1) k1 hl
            exact .inl (by rw [a1]; exact a2)
          | none =>
            rw [hl] at hb
            simp only [Option.isNone_none, true_and] at hb
            rw [Rof_len k1]
            exact .inr (by omega)
        rw [e, e2]
        refine (kind0 (Rof b t1) _ kr (by omega) x y hx v4 hm h0).mono ?_
        rintro r s ⟨h1, h2⟩
        refine ⟨h1, ?_⟩
        rw [h2]
        have kf : ({ b with files := b.files ++ [([], 0)] } : Dk).Ok (N + 2) := by
          have := Dk.createD_ok k1 (by omega) x
          rw [e2] at this
          refine ⟨k1.nr, k1.sr, k1.nl, k1.sl, k1.nn.more (by simp), k1.sn.more (by simp), fun c hc => ?_, fun f hf => ?_, ?_, ?_, ?_, ?_, ?_, k1.c0, ?_, k1.s0, k1.s1, k1.q0, k1.q1, by omega⟩
          · have := k1.cn c hc
            exact ⟨this.1, fun h => by rw [List.length_append]; have := this.2 h; omega⟩
          · rcases List.mem_append.1 hf with h1 | h1
            · exact k1.fs f h1
            · rw [List.mem_singleton.1 h1]; exact ⟨Nat.le_refl _, by simp⟩
          · have := k1.fl; simp; omega
          · have := k1.chl; exact Nat.le_trans this (by omega)
          · have := k1.nkl; exact Nat.le_trans this (by omega)
          · have := k1.skl; exact Nat.le_trans this (by omega)
          · have := k1.skc; exact Nat.le_trans this (by omega)
          · have := k1.cl; exact Int.le_trans this (by omega)
        exact congrArg (fun z => SR z true) (Rof_turn (t := t1) kf ⟨n1.nk, n1.sk⟩ noName x b.files.length)
theorem call3 (d : Dk) (t : Int) (N : Nat) (h : d.Ok N) (hN : N + 3 ≤ 50000) (ht : Rt d t) (x y : ByteArray) (v4 : V) :
  CallsA Try.prog 77 [.ptr 0 0 0, .d (.int .i64 3), .d (.str x), .d (.str y), v4] (SR (Rof d t) false) (After (d.begun.err false []) d.begun.syncDirD (tb d t)) := by
 have k1 := Dk.begun_ok h (by omega)
 refine call_head d t N h ht 3 x y v4 _ _ (fun ho => ⟨err_off ho _ _, by unfold Dk.syncDirD; rw [if_pos ho]⟩) (fun ho t1 r1 => ?_)
 generalize d.begun = b at *
 have e : b.err false [] = 0 := by unfold Dk.err; rw [if_neg (by simp [ho])]; simp
 have e2 : b.syncDirD = { b with sk := b.nk, sv := b.nv, ch := [] } := by unfold Dk.syncDirD; rw [if_neg (by simp [ho])]
 rw [e, e2]
 refine (kind3 (Rof b t1) _ (Rof_ok k1 r1) x y v4).mono ?_
 rintro r s ⟨h1, h2⟩
 exact ⟨h1, h2⟩
theorem call2 (d : Dk) (t : Int) (N : Nat) (h : d.Ok N) (hN : N + 3 ≤ 50000) (ht : Rt d t) (x y : ByteArray) (hx : x.size < 1000000000) (hy : y.size < 1000000000) (v4 : V) :
   CallsA Try.prog 77 [.ptr 0 0 0, .d (.int .i64 2), .d (.str x), .d (.str y), v4] (SR (Rof d t) false) (After (d.begun.err true [x]) (d.begun.syncD x) (tb d t)) := by
 have k1 := Dk.begun_ok h (by omega)
 refine call_head d t N h ht 2 x y v4 _ _ (fun ho => ⟨err_off ho _ _, by unfold Dk.syncD; rw [err_off ho, if_neg (by simp)]⟩) (fun ho t1 r1 => ?_)
 generalize d.begun = b at *
 have kr := Rof_ok k1 r1
 cases hm : mayName x with
 | false =>
   have e : b.err true [x] = 1 := by rw [errT ho, hm]; rfl
   have e2 : b.syncD x = b := by unfold Dk.syncD; rw [e, if_neg (by simp)]
   rw [e, e2]
   refine (kinde2 (Rof b t1) _ kr x y hx v4 hm).mono ?_
   rintro r s ⟨h1, h2⟩
   exact ⟨h1, h2⟩
 | true =>
   cases hl : look b.nk b.nv x with
   | none =>
     have e : b.err true [x] = 3 := by rw [errT ho, hm, hl]; rfl
     have e2 : b.syncD x = b := by unfold Dk.syncD; rw [e, if_neg (by simp)]
     rw [e, e2]
     refine (kindn2 (Rof b t1) _ kr x y hx hy v4 hm (by rw [at_none k1 hl]; omega)).mono ?_
     rintro r s ⟨h1, h2⟩
     exact ⟨h1, h2⟩
   | some v =>
     obtain ⟨a1, a2, a3, a4⟩ := at_some (t := t1) k1 hl
     have e : b.err true [x] = 0 := by rw [errT ho, hm, hl]; rfl
     have e2 : b.syncD x = { b with files := b.files.set v.toNat ((b.file v.toNat).1, (b.file v.toNat).1.length) } := by unfold Dk.syncD; rw [if_pos e, a3]
     rw [e, e2]
     refine (kind2 (Rof b t1) _ kr x y hx v4 hm (by rw [a1]; exact a2) (b.file v.toNat) (by rw [a1]; exact a4)).mono ?_
     rintro r s ⟨h1, h2⟩
     rw [a1] at h2
     exact ⟨h1, h2⟩
theorem call5 (d : Dk) (t : Int) (N : Nat) (h : d.Ok N) (hn : d.Nm) (hN : N + 3 ≤ 50000) (ht : Rt d t) (x y : ByteArray) (hx : x.size < 1000000000) (hy : y.size < 1000000000) (v4 : V) :
   CallsA Try.prog 77 [.ptr 0 0 0, .d (.int .i64 5), .d (.str x), .d (.str y), v4] (SR (Rof d t) false) (After (d.begun.err true [x]) (d.begun.removeD x) (tb d t)) := by
 have k1 := Dk.begun_ok h (by omega)
 have n1 := begun_nm hn
 refine call_head d t N h ht 5 x y v4 _ _ (fun ho => ⟨err_off ho _ _, by unfold Dk.removeD; rw [err_off ho, if_neg (by simp)]⟩) (fun ho t1 r1 => ?_)
 generalize d.begun = b at *
 have kr := Rof_ok k1 r1
 cases hm : mayName x with
 | false =>
   have e : b.err true [x] = 1 := by rw [errT ho, hm]; rfl
   have e2 : b.removeD x = b := by unfold Dk.removeD; rw [e, if_neg (by simp)]
   rw [e, e2]
   refine (kinde5 (Rof b t1) _ kr x y hx v4 hm).mono ?_
   rintro r s ⟨h1, h2⟩
   exact ⟨h1, h2⟩
 | true =>
   cases hl : look b.nk b.nv x with
   | none =>
     have e : b.err true [x] = 3 := by rw [errT ho, hm, hl]; rfl
     have e2 : b.removeD x = b := by unfold Dk.removeD; rw [e, if_neg (by simp)]
     rw [e, e2]
     refine (kindn5 (Rof b t1) _ kr x y hx hy v4 hm (by rw [at_none k1 hl]; omega)).mono ?_
     rintro r s ⟨h1, h2⟩
     exact ⟨h1, h2⟩
   | some v =>
     obtain ⟨a1, a2, a3, a4⟩ := at_some (t := t1) k1 hl
     have e : b.err true [x] = 0 := by rw [errT ho, hm, hl]; rfl
     have e2 : b.removeD x = b.turn x noName 0 := by unfold Dk.removeD; rw [if_pos e]
     rw [e, e2]
     refine (kind5 (Rof b t1) _ kr x y hx v4 hm (by rw [a1]; exact a2)).mono ?_
     rintro r s ⟨h1, h2⟩
     refine ⟨h1, ?_⟩
     rw [h2]
     exact congrArg (fun z => SR z true) (Rof_turn (t := t1) k1 n1 x noName 0)
theorem call4 (d : Dk) (t : Int) (N : Nat) (h : d.Ok N) (hn : d.Nm) (hN : N + 3 ≤ 50000) (ht : Rt d t) (x y : ByteArray) (hx : x.size < 1000000000) (hy : y.size < 1000000000) (v4 : V) :
   CallsA Try.prog 77 [.ptr 0 0 0, .d (.int .i64 4), .d (.str x), .d (.str y), v4] (SR (Rof d t) false) (After (d.begun.err true [x, y]) (d.begun.renameD x y) (tb d t)) := by
 have k1 := Dk.begun_ok h (by omega)
 have n1 := begun_nm hn
 refine call_head d t N h ht 4 x y v4 _ _ (fun ho => ⟨err_off ho _ _, by unfold Dk.renameD; rw [err_off ho, if_neg (by simp)]⟩) (fun ho t1 r1 => ?_)
 generalize d.begun = b at *
 have kr := Rof_ok k1 r1
 by_cases hm : mayName x = true ∧ mayName y = true
 · cases hl : look b.nk b.nv x with
   | none =>
     have e : b.err true [x, y] = 3 := by rw [errTT ho, if_pos hm, hl]; rfl
     have e2 : b.renameD x y = b := by unfold Dk.renameD; rw [e, if_neg (by simp)]
     rw [e, e2]
     refine (kindn4 (Rof b t1) _ kr x y hx hy v4 hm.1 hm.2 (by rw [at_none k1 hl]; omega)).mono ?_
     rintro r s ⟨h1, h2⟩
     exact ⟨h1, h2⟩
   | some v =>
     obtain ⟨a1, a2, a3, a4⟩ := at_some (t := t1) k1 hl
     have e : b.err true [x, y] = 0 := by rw [errTT ho, if_pos hm, hl]; rfl
     have e2 : b.renameD x y = b.turn x y v := by unfold Dk.renameD; rw [if_pos e, hl]; rfl
     rw [e, e2]
     refine (kind4 (Rof b t1) _ kr x y hx hy v4 hm.1 hm.2 (by rw [a1]; exact a2)).mono ?_
     rintro r s ⟨h1, h2⟩
     refine ⟨h1, ?_⟩
     rw [h2, a1]
     exact congrArg (fun z => SR z true) (Rof_turn (t := t1) k1 n1 x y v)
 · have e : b.err true [x, y] = 1 := by rw [errTT ho, if_neg hm]
   have e2 : b.renameD x y = b := by unfold Dk.renameD; rw [e, if_neg (by simp)]
   rw [e, e2]
   refine (kinde4 (Rof b t1) _ kr x y hx hy v4 (by cases h1 : mayName x <;> cases h2 : mayName y <;> simp_all)).mono ?_
   rintro r s ⟨h1, h2⟩
   exact ⟨h1, h2⟩
theorem call1 (d : Dk) (t : Int) (N : Nat) (h : d.Ok N) (hN : N + 3 ≤ 50000) (ht : Rt d t) (x y : ByteArray) (hx : x.size < 1000000000) (hy : y.size < 1000000000) (bs : List UInt8) (hb : bs.length < 1000000) :
    CallsA Try.prog 77 [.ptr 0 0 0, .d (.int .i64 1), .d (.str x), .d (.str y), .d (.list 1 (bs.map u8))] (SR (Rof d t) false) (After (d.begun.appendE x bs) (d.begun.appendD x bs) (tb d t)) := by
  have k1 := Dk.begun_ok h (by omega)
  refine call_head d t N h ht 1 x y _ _ _ (fun ho => ?_) (fun ho t1 r1 => ?_)
  · have e : d.begun.appendE x bs = 5 := by unfold Dk.appendE; rw [err_off ho, if_pos (by simp)]
    exact ⟨e, by unfold Dk.appendD; rw [e, if_neg (by simp), if_neg (by simp)]⟩
  · generalize d.begun = b at *
    have kr := Rof_ok k1 r1
    cases hm : mayName x with
    | false =>
      have e : b.appendE x bs = 1 := by unfold Dk.appendE; rw [errT ho, hm]; simp
      have e2 : b.appendD x bs = b := by unfold Dk.appendD; rw [e, if_neg (by simp), if_neg (by simp)]
      rw [e, e2]
      refine (kinde1 (Rof b t1) _ kr x y hx _ hm).mono ?_
      rintro r s ⟨h1, h2⟩
      exact ⟨h1, h2⟩
    | true =>
      cases hl : look b.nk b.nv x with
      | none =>
        have e : b.appendE x bs = 3 := by unfold Dk.appendE; rw [errT ho, hm, hl]; simp
        have e2 : b.appendD x bs = b := by unfold Dk.appendD; rw [e, if_neg (by simp), if_neg (by simp)]
        rw [e, e2]
        refine (kindn1 (Rof b t1) _ kr x y hx hy _ hm (by rw [at_none k1 hl]; omega)).mono ?_
        rintro r s ⟨h1, h2⟩
        exact ⟨h1, h2⟩
      | some v =>
        obtain ⟨a1, a2, a3, a4⟩ := at_some (t := t1) k1 hl
        have e0 : b.err true [x] = 0 := by rw [errT ho, hm, hl]; rfl
        have hu := Rof_used (t := t1) k1
        by_cases hbig : (b.file v.toNat).1.length + bs.length ≤ 1048576
        · by_cases hq : (b.used : Int) + bs.length ≤ b.quota
          · have e : b.appendE x bs = 0 := by unfold Dk.appendE; rw [e0, a3, if_neg (by simp), if_neg (by omega), if_neg (by omega)]
            have e2 : b.appendD x bs = { b with files := b.files.set v.toNat ((b.file v.toNat).1 ++ bs, (b.file v.toNat).2) } := by unfold Dk.appendD; rw [if_pos e, a3]
            rw [e, e2]
            refine (kind1c (Rof b t1) _ kr x y hx bs hb hm (by rw [a1]; exact a2) (b.file v.toNat) (by rw [a1]; exact a4) hbig (by rw [hu]; exact hq)).mono ?_
            rintro r s ⟨h1, h2⟩
            rw [a1] at h2
            exact ⟨h1, h2⟩
          · have e : b.appendE x bs = 4 := by unfold Dk.appendE; rw [e0, a3, if_neg (by simp), if_neg (by omega), if_pos (by omega)]
            have e2 : b.appendD x bs = { b with full := true } := by unfold Dk.appendD; rw [e, if_neg (by simp), if_pos rfl]
            rw [e, e2]
            refine (kind1b (Rof b t1) _ kr x y hx bs hb hm (by rw [a1]; exact a2) (b.file v.toNat) (by rw [a1]; exact a4) hbig (by rw [hu]; show b.quota < _; omega)).mono ?_
            rintro r s ⟨h1, h2⟩
            exact ⟨h1, h2⟩
        · have e : b.appendE x bs = 2 := by unfold Dk.appendE; rw [e0, a3, if_neg (by simp), if_pos (by omega)]
          have e2 : b.appendD x bs = b := by unfold Dk.appendD; rw [e, if_neg (by simp), if_neg (by simp)]
          rw [e, e2]
          refine (kind1a (Rof b t1) _ kr x y hx bs hb hm (by rw [a1]; exact a2) (b.file v.toNat) (by rw [a1]; exact a4) (by omega)).mono ?_
          rintro r s ⟨h1, h2⟩
          exact ⟨h1, h2⟩
end Go.Proofs.Ytoelkgbeefoplaa
