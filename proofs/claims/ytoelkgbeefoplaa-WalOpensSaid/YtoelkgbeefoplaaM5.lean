/- Texts of this proof, part 5: WalA, WalB, WalC, WalF, WalD, WalE, WalG, LookP, LoneP, ListA, WalH, AllR, WalI. -/
import Derived.Test.YtoelkgbeefoplaaM4
set_option linter.unusedSimpArgs false
set_option linter.unusedVariables false
set_option linter.constructorNameAsVariable false
namespace Go.Proofs.Ytoelkgbeefoplaa
open Go Go.Br Go.Proofs
def SL (c s b : Int) (x : ByteArray) (d : Dk) (m : Bool) : Store := [.cells [.d (.int .i64 c), .d (.int .i64 s), .d (.int .i64 b), .ptr 1 0 0, .d (.str x)], .cells [.row 2, .ptr 3 0 0, .ep 2 (dirD d.sk d.sv) 0, .row 6, .d (.int .i64 d.quota), .d (.bool d.full), .d (.bool d.off), .d (.int .i64 d.stop), .d (.int .i64 d.calls)],
  .row 2 (d.files.map fileD) m, .cells [.row 4, .row 5], .row 1 (d.nk.map strD) m, .row 1 (d.nv.map intD) m, .row 3 (d.ch.map chD) m]
noncomputable def B55 : Code := (Try.f55.body).getD .skip
theorem F55 : Fnc Try.prog 55 Try.f55 B55 := ⟨Try.func55, by kernel_rfl, by kernel_rfl⟩
noncomputable def B56 : Code := (Try.f56.body).getD .skip
theorem F56 : Fnc Try.prog 56 Try.f56 B56 := ⟨Try.func56, by kernel_rfl, by kernel_rfl⟩
noncomputable def B57 : Code := (Try.f57.body).getD .skip
theorem F57 : Fnc Try.prog 57 Try.f57 B57 := ⟨Try.func57, by kernel_rfl, by kernel_rfl⟩
noncomputable def B88 : Code := (Try.f88.body).getD .skip
theorem F88 : Fnc Try.prog 88 Try.f88 B88 := ⟨Try.func88, by kernel_rfl, by kernel_rfl⟩
noncomputable def B52 : Code := (Try.f52.body).getD .skip
theorem F52 : Fnc Try.prog 52 Try.f52 B52 := ⟨Try.func52, by kernel_rfl, by kernel_rfl⟩
noncomputable def B53 : Code := (Try.f53.body).getD .skip
theorem F53 : Fnc Try.prog 53 Try.f53 B53 := ⟨Try.func53, by kernel_rfl, by kernel_rfl⟩
noncomputable def B54 : Code := (Try.f54.body).getD .skip
theorem F54 : Fnc Try.prog 54 Try.f54 B54 := ⟨Try.func54, by kernel_rfl, by kernel_rfl⟩
theorem spec_55 (c s b : Int) (x : ByteArray) (d : Dk) : CallsA Try.prog 55 [.ptr 0 0 0] (SL c s b x d false) fun r σ' => r = .ret (.d (.int .i64 b)) ∧ σ' = SL c s b x d false := by
  refine CallsA.start F55 (tm := mk (Try.f55.ntmps) [(0, .ptr 0 0 0)]) (by kernel_rfl) ?_
  refine .seg 21 [2] (T' := cgo 21 [false] [.code B55]) (tm' := mk 10 [(2, .d (.int .i64 b))]) (σ' := [.cells [.d (.int .i64 c), .d (.int .i64 s), .d (.int .i64 b), .ptr 1 0 0, .d (.str x)], .cells [.row 2, .ptr 3 0 0, .ep 2 (D.agg [D.list 1 (List.map strD d.sk), D.list 1 (List.map intD d.sv)]) 0, .row 6, .d (.int .i64 d.quota), .d (.bool d.full), .d (.bool d.off), .d (.int .i64 d.stop), .d (.int .i64 d.calls)], .row 2 (List.map fileD d.files) false, .cells [.row 4, .row 5], .row 1 (List.map strD d.nk) false, .row 1 (List.map intD d.nv) false, .row 3 (List.map chD d.ch) false]) (by kernel_rfl) ?_
  refine .retH F55 (v := V.d (D.int IntKind.i64 b)) (by kernel_rfl) (by kernel_rfl) ?_
  exact ⟨rfl, rfl⟩
theorem spec_56 (c s b : Int) (x : ByteArray) (d : Dk) : CallsA Try.prog 56 [.ptr 0 0 0] (SL c s b x d false) fun r σ' => r = .ret (.d (.int .i64 c)) ∧ σ' = SL c s b x d false := by
  refine CallsA.start F56 (tm := mk (Try.f56.ntmps) [(0, .ptr 0 0 0)]) (by kernel_rfl) ?_
  refine .seg 21 [2] (T' := cgo 21 [false] [.code B56]) (tm' := mk 10 [(2, .d (.int .i64 c))]) (σ' := [.cells [.d (.int .i64 c), .d (.int .i64 s), .d (.int .i64 b), .ptr 1 0 0, .d (.str x)], .cells [.row 2, .ptr 3 0 0, .ep 2 (D.agg [D.list 1 (List.map strD d.sk), D.list 1 (List.map intD d.sv)]) 0, .row 6, .d (.int .i64 d.quota), .d (.bool d.full), .d (.bool d.off), .d (.int .i64 d.stop), .d (.int .i64 d.calls)], .row 2 (List.map fileD d.files) false, .cells [.row 4, .row 5], .row 1 (List.map strD d.nk) false, .row 1 (List.map intD d.nv) false, .row 3 (List.map chD d.ch) false]) (by kernel_rfl) ?_
  refine .retH F56 (v := V.d (D.int IntKind.i64 c)) (by kernel_rfl) (by kernel_rfl) ?_
  exact ⟨rfl, rfl⟩
theorem spec_57 (c s b : Int) (x : ByteArray) (d : Dk) : CallsA Try.prog 57 [.ptr 0 0 0] (SL c s b x d false) fun r σ' => r = .ret (.d (.int .i64 s)) ∧ σ' = SL c s b x d false := by
  refine CallsA.start F57 (tm := mk (Try.f57.ntmps) [(0, .ptr 0 0 0)]) (by kernel_rfl) ?_
  refine .seg 21 [2] (T' := cgo 21 [false] [.code B57]) (tm' := mk 10 [(2, .d (.int .i64 s))]) (σ' := [.cells [.d (.int .i64 c), .d (.int .i64 s), .d (.int .i64 b), .ptr 1 0 0, .d (.str x)], .cells [.row 2, .ptr 3 0 0, .ep 2 (D.agg [D.list 1 (List.map strD d.sk), D.list 1 (List.map intD d.sv)]) 0, .row 6, .d (.int .i64 d.quota), .d (.bool d.full), .d (.bool d.off), .d (.int .i64 d.stop), .d (.int .i64 d.calls)], .row 2 (List.map fileD d.files) false, .cells [.row 4, .row 5], .row 1 (List.map strD d.nk) false, .row 1 (List.map intD d.nv) false, .row 3 (List.map chD d.ch) false]) (by kernel_rfl) ?_
  refine .retH F57 (v := V.d (D.int IntKind.i64 s)) (by kernel_rfl) (by kernel_rfl) ?_
  exact ⟨rfl, rfl⟩
def chk (b e : Int) : Int := if e ≠ 0 then e else b
theorem spec_88 (c s b : Int) (x : ByteArray) (d : Dk) (e : Int) : CallsA Try.prog 88 [.ptr 0 0 0, .d (.int .i64 e)] (SL c s b x d false) fun r σ' => r = .ret (.d (.int .i64 e)) ∧ σ' = SL c s (chk b e) x d false := by
  refine CallsA.start F88 (tm := mk (Try.f88.ntmps) [(0, .ptr 0 0 0), (1, .d (.int .i64 e))]) (by kernel_rfl) ?_
  refine .sg0 10 [0, 1, 4, 6] (cgo 10 [] [.code B88]) [(4, .d (.int .i64 0)), (6, .d (.bool (e != 0)))] ?_
  refine .if' (e != 0) (cgo 11 [true] [.code B88]) (cgo 11 [false] [.code B88]) (fun h1 => ?_) (fun h1 => ?_)
  · simp only [bsX] at h1
    refine .seg 12 [4] (T' := cgo 23 [true] [.code B88]) (tm' := mk 12 [(4, .d (.int .i64 e))]) (σ' := [.cells [.d (.int .i64 c), .d (.int .i64 s), .d (.int .i64 e), .ptr 1 0 0, .d (.str x)], .cells [.row 2, .ptr 3 0 0, .ep 2 (D.agg [D.list 1 (List.map strD d.sk), D.list 1 (List.map intD d.sv)]) 0, .row 6, .d (.int .i64 d.quota), .d (.bool d.full), .d (.bool d.off), .d (.int .i64 d.stop), .d (.int .i64 d.calls)], .row 2 (List.map fileD d.files) false, .cells [.row 4, .row 5], .row 1 (List.map strD d.nk) false, .row 1 (List.map intD d.nv) false, .row 3 (List.map chD d.ch) false]) (by kernel_rfl) ?_
    refine .retH F88 (v := V.d (D.int IntKind.i64 e)) (by kernel_rfl) (by kernel_rfl) ?_
    simp_all [SL, dirD, chk]
  · simp only [bsX] at h1
    refine .seg 6 [4] (T' := cgo 17 [false] [.code B88]) (tm' := mk 12 [(4, .d (.int .i64 e))]) (σ' := [.cells [.d (.int .i64 c), .d (.int .i64 s), .d (.int .i64 b), .ptr 1 0 0, .d (.str x)], .cells [.row 2, .ptr 3 0 0, .ep 2 (D.agg [D.list 1 (List.map strD d.sk), D.list 1 (List.map intD d.sv)]) 0, .row 6, .d (.int .i64 d.quota), .d (.bool d.full), .d (.bool d.off), .d (.int .i64 d.stop), .d (.int .i64 d.calls)], .row 2 (List.map fileD d.files) false, .cells [.row 4, .row 5], .row 1 (List.map strD d.nk) false, .row 1 (List.map intD d.nv) false, .row 3 (List.map chD d.ch) false]) (by kernel_rfl) ?_
    refine .retH F88 (v := V.d (D.int IntKind.i64 e)) (by kernel_rfl) (by kernel_rfl) ?_
    simp_all [SL, dirD, chk]
end Go.Proofs.Ytoelkgbeefoplaa
namespace Go.Proofs.Ytoelkgbeefoplaa
open Go Go.Br Go.Proofs
def makeE (d : Dk) (x : ByteArray) : Int := if d.begun.createE x ≠ 0 then d.begun.createE x else (d.begun.createD x).begun.err false []
def makeL (d : Dk) (x : ByteArray) : Dk := if d.begun.createE x ≠ 0 then d.begun.createD x else (d.begun.createD x).begun.syncDirD
noncomputable def B87 : Code := (Try.f87.body).getD .skip
theorem F87 : Fnc Try.prog 87 Try.f87 B87 := ⟨Try.func87, by kernel_rfl, by kernel_rfl⟩
theorem spec_87 (c s b : Int) (x : ByteArray) (d : Dk) (N : Nat) (h : d.Ok N) (hN : N + 5 ≤ 50000) (hx : x.size < 1000000000) : CallsA Try.prog 87 [.ptr 0 0 0] (SL c s b x d false) fun r σ' => r = .ret (.d (.int .i64 (makeE d x))) ∧ σ' = SL c s b x (makeL d x) true := by
  refine CallsA.start F87 (tm := mk (Try.f87.ntmps) [(0, .ptr 0 0 0)]) (by kernel_rfl) ?_
  have h1 := Dk.createD_ok (Dk.begun_ok h (by omega)) (by omega) x
  refine .sg0 6 [0, 2] (cgo 6 [] [.code B87]) [(2, .d (.int .i64 0))] ?_
  refine .dr (cgo 7 [] [.code B87]) [(3, .d (.int .i64 (d.begun.createE x))), (4, .ptr 0 0 0), (5, .ptr 0 0 0), (6, .ptr 0 0 3), (7, .ptr 1 0 0), (8, .ptr 0 0 0), (9, .ptr 0 0 0), (10, .ptr 0 0 4), (11, .d (.str x)), (12, .d (.int .i64 (d.begun.createE x)))] [(1, .cells [.row 2, .ptr 3 0 0, .ep 2 (D.agg [D.list 1 (List.map strD (d.begun.createD x).sk), D.list 1 (List.map intD (d.begun.createD x).sv)]) 0, .row 6, .d (.int .i64 (d.begun.createD x).quota), .d (.bool (d.begun.createD x).full), .d (.bool (d.begun.createD x).off), .d (.int .i64 (d.begun.createD x).stop), .d (.int .i64 (d.begun.createD x).calls)]), (2, .row 2 (List.map fileD (d.begun.createD x).files) true), (4, .row 1 (List.map strD (d.begun.createD x).nk) true), (5, .row 1 (List.map intD (d.begun.createD x).nv) true), (6, .row 3 (List.map chD (d.begun.createD x).ch) true)] (fun kz L hL => ?_) ?_
  · refine ⟨[⟨[], [], [], [0], [0], [], true, false⟩, ⟨[], [], [], [0], [0], [0], true, false⟩, ⟨[], [], [], [0], [0], [0], true, false⟩, ⟨[0], [], [], [1], [0, 1], [], true, false⟩, ⟨[], [], [], [0], [0], [], true, false⟩, ⟨[], [], [], [0], [0], [0], true, false⟩, ⟨[], [], [], [0], [0], [0], true, false⟩, ⟨[0], [], [], [], [0, 1], [], true, false⟩, ⟨[1, 2, 3, 4, 5, 6], [1, 2, 3, 4, 5, 6], [2, 4, 5, 6], [2, 3, 6, 4, 5], [1, 2, 3, 6, 4, 5], [], true, false⟩, ⟨[], [], [], [], [], [], true, false⟩], run_amongF hL _ [] [0, 1, 2, 3, 4, 5, 6, 7, 8, 9] (by intro p hp; cases hp) (by kernel_rfl) ?_⟩
    refine Run.ap [0, 1, 2, 3, 4, 5, 6, 7] [(4, .ptr 0 0 0), (5, .ptr 0 0 0), (6, .ptr 0 0 3), (7, .ptr 1 0 0), (8, .ptr 0 0 0), (9, .ptr 0 0 0), (10, .ptr 0 0 4), (11, .d (.str x))] [] ?_
    refine Run.one (StepF.call (o := ((drawOf (cgo 6 [] [.code B87]))[8]?).getD default) (x := (.func 26)) (args := #[(.tmp 7), (.tmp 11)]) (ts := #[40, 9]) (first := []) (cap := []) [1, 2, 3, 4, 5, 6] [.ptr 0 0 0, .d (.str x)] [.cells [.row 1, .ptr 2 0 0, .ep 2 (D.agg [D.list 1 (List.map strD d.sk), D.list 1 (List.map intD d.sv)]) 0, .row 5, .d (.int .i64 d.quota), .d (.bool d.full), .d (.bool d.off), .d (.int .i64 d.stop), .d (.int .i64 d.calls)], .row 2 (List.map fileD d.files) false, .cells [.row 3, .row 4], .row 1 (List.map strD d.nk) false, .row 1 (List.map intD d.nv) false, .row 3 (List.map chD d.ch) false] [.cells [.row 1, .ptr 2 0 0, .ep 2 (dirD (d.begun.createD x).sk (d.begun.createD x).sv) 0, .row 5, .d (.int .i64 (d.begun.createD x).quota), .d (.bool (d.begun.createD x).full), .d (.bool (d.begun.createD x).off), .d (.int .i64 (d.begun.createD x).stop), .d (.int .i64 (d.begun.createD x).calls)], .row 2 (List.map fileD (d.begun.createD x).files) true, .cells [.row 3, .row 4], .row 1 (List.map strD (d.begun.createD x).nk) true, .row 1 (List.map intD (d.begun.createD x).nv) true, .row 3 (List.map chD (d.begun.createD x).ch) true] (v := .d (.int .i64 (d.begun.createE x))) (by kernel_rfl) rfl (by kernel_rfl) (by kernel_rfl) F26 (@spec_26 (d) (N) (by assumption) (by omega) (x) (by assumption)) (by kernel_rfl) (by kernel_rfl) (by kernel_rfl) (by kernel_rfl) ⟨rfl, rfl, by kernel_rfl⟩ (by kernel_rfl) (by kernel_rfl) (by kernel_rfl) (by kernel_rfl) (by kernel_rfl) rfl rfl) ?_
    exact Run.fin
  refine .sg0 5 [0, 2, 3, 14] (cgo 12 [] [.code B87]) [(14, .d (.bool (d.begun.createE x != 0)))] ?_
  refine .if' (d.begun.createE x != 0) (cgo 13 [true] [.code B87]) (cgo 13 [false] [.code B87]) (fun h4 => ?_) (fun h4 => ?_)
  · simp only [bsX] at h4
    refine .seg 5 [0, 2] (T' := cgo 18 [true] [.code B87]) (tm' := mk 21 [(0, .ptr 0 0 0), (2, .d (.int .i64 (d.begun.createE x)))]) (σ' := [.cells [.d (.int .i64 c), .d (.int .i64 s), .d (.int .i64 b), .ptr 1 0 0, .d (.str x)], .cells [.row 2, .ptr 3 0 0, .ep 2 (D.agg [D.list 1 (List.map strD (d.begun.createD x).sk), D.list 1 (List.map intD (d.begun.createD x).sv)]) 0, .row 6, .d (.int .i64 (d.begun.createD x).quota), .d (.bool (d.begun.createD x).full), .d (.bool (d.begun.createD x).off), .d (.int .i64 (d.begun.createD x).stop), .d (.int .i64 (d.begun.createD x).calls)], .row 2 (List.map fileD (d.begun.createD x).files) true, .cells [.row 4, .row 5], .row 1 (List.map strD (d.begun.createD x).nk) true, .row 1 (List.map intD (d.begun.createD x).nv) true, .row 3 (List.map chD (d.begun.createD x).ch) true]) (by kernel_rfl) ?_
    refine .retH F87 (v := V.d (D.int IntKind.i64 (d.begun.createE x))) (by kernel_rfl) (by kernel_rfl) ?_
    simp_all [SL, dirD, makeE, makeL]
  · simp only [bsX] at h4
    refine .sg0 7 [0, 2, 16, 17, 18, 19] (cgo 20 [false] [.code B87]) [(16, .ptr 0 0 0), (17, .ptr 0 0 0), (18, .ptr 0 0 3), (19, .ptr 1 0 0)] ?_
    refine .ca [1, 2, 3, 4, 5, 6] (cgo 21 [false] [.code B87]) F33 (@spec_33 (d.begun.createD x) (N + 1 + 1) (by assumption) (by omega)) ?_
    rintro r4 s4 ⟨rfl, rfl⟩
    refine ⟨_, rfl, ?_⟩
    refine .seg 2 [2] (T' := cgo 23 [false] [.code B87]) (tm' := mk 21 [(2, .d (.int .i64 ((d.begun.createD x).begun.err false [])))]) (σ' := [.cells [.d (.int .i64 c), .d (.int .i64 s), .d (.int .i64 b), .ptr 1 0 0, .d (.str x)], .cells [.row 2, .ptr 3 0 0, .ep 2 (D.agg [D.list 1 (List.map strD (d.begun.createD x).begun.syncDirD.sk), D.list 1 (List.map intD (d.begun.createD x).begun.syncDirD.sv)]) 0, .row 6, .d (.int .i64 (d.begun.createD x).begun.syncDirD.quota), .d (.bool (d.begun.createD x).begun.syncDirD.full), .d (.bool (d.begun.createD x).begun.syncDirD.off), .d (.int .i64 (d.begun.createD x).begun.syncDirD.stop), .d (.int .i64 (d.begun.createD x).begun.syncDirD.calls)], .row 2 (List.map fileD (d.begun.createD x).begun.syncDirD.files) true, .cells [.row 4, .row 5], .row 1 (List.map strD (d.begun.createD x).begun.syncDirD.nk) true, .row 1 (List.map intD (d.begun.createD x).begun.syncDirD.nv) true, .row 3 (List.map chD (d.begun.createD x).begun.syncDirD.ch) true]) (by kernel_rfl) ?_
    refine .retH F87 (v := V.d (D.int IntKind.i64 ((d.begun.createD x).begun.err false []))) (by kernel_rfl) (by kernel_rfl) ?_
    simp_all [SL, dirD, makeE, makeL]
end Go.Proofs.Ytoelkgbeefoplaa
namespace Go.Proofs.Ytoelkgbeefoplaa
open Go Go.Br Go.Proofs
def tmpX : ByteArray := ⟨#[46, 116, 109, 112]⟩
noncomputable def B51 : Code := (Try.f51.body).getD .skip
theorem F51 : Fnc Try.prog 51 Try.f51 B51 := ⟨Try.func51, by kernel_rfl, by kernel_rfl⟩
theorem spec_27a (d : Dk) (N : Nat) (h : d.Ok N) (x : ByteArray) (hl : (look d.nk d.nv x).isSome = true) :
    CallsA Try.prog 27 [.ptr 0 0 0, .d (.str x)] (SD d false) fun r σ' => r = .ret (.tuple [.d (bsD (d.file (d.num x)).1), .d (.int .i64 0)]) ∧ σ' = SD d false := by
  have hc := spec_27 d N h x
  rw [if_pos hl, if_pos hl] at hc
  exact hc
theorem spec_27a2 (d : Dk) (N : Nat) (h : d.Ok N) (x : ByteArray) (hl : look d.nk d.nv x = none) :
    CallsA Try.prog 27 [.ptr 0 0 0, .d (.str x)] (SD d false) fun r σ' => r = .ret (.tuple [.d (.list 1 []), .d (.int .i64 3)]) ∧ σ' = SD d false := by
  have hc := spec_27 d N h x
  rw [hl] at hc
  exact hc
theorem spec_51 (d : Dk) (N : Nat) (h : d.Ok N) (hN : N + 5 ≤ 50000) (x : ByteArray) (hx : x.size < 1000) (hm1 : mayName x = true) (hm2 : mayName (x ++ tmpX) = true) (ho : d.off = false) (hl : look d.nk d.nv x = none) (he : makeE d x = 0) :
    CallsA Try.prog 51 [.ptr 0 0 0, .d (.str x)] (SD d false) fun r σ' => r = .ret (.tuple [.ptr 6 0 0, .d (.list 1 []), .d (.int .i64 0)]) ∧ σ' = SD (makeL d x) true ++ [.cells [.d (.int .i64 0), .d (.int .i64 0), .d (.int .i64 0), .ptr 0 0 0, .d (.str x)]] := by
  refine CallsA.start F51 (tm := mk (Try.f51.ntmps) [(0, .ptr 0 0 0), (1, .d (.str x))]) (by kernel_rfl) ?_
  have hs : (⟨#[46, 116, 109, 112]⟩ : ByteArray).size = 4 := rfl
  have hx1 : (x ++ tmpX).size = x.size + 4 := by simp [tmpX, hs]
  simp only [tmpX] at *
  refine .sg0 10 [0, 1, 4, 5, 6, 14] (cgo 10 [] [.code B51]) [(4, .d (.raw (Value.pointer none))), (5, .nils), (6, .d (.int .i64 0)), (14, .d (.str x))] ?_
  refine .semH (o := (opOf (cgo 10 [] [Item.code B51])).getD default) (v := .d (.bool (mayName x))) (σ' := [.cells [.row 1, .ptr 2 0 0, .ep 2 (D.agg [D.list 1 (List.map strD d.sk), D.list 1 (List.map intD d.sv)]) 0, .row 5, .d (.int .i64 d.quota), .d (.bool d.full), .d (.bool d.off), .d (.int .i64 d.stop), .d (.int .i64 d.calls)], .row 2 (List.map fileD d.files) false, .cells [.row 3, .row 4], .row 1 (List.map strD d.nk) false, .row 1 (List.map intD d.nv) false, .row 3 (List.map chD d.ch) false]) (by kernel_rfl) (by kernel_rfl) (T' := cgo 11 [] [Item.code B51]) (by kernel_rfl) (fun kz => sem_data0 (x := (.func 28)) (args := #[(.tmp 14)]) (ts := #[9]) (first := []) (cap := []) (ds := [.d (.str x)]) (v := .d (.bool (mayName x))) F28 (@spec_28 (x) (by omega)) (by kernel_rfl) (by kernel_rfl) (by kernel_rfl) (by kernel_rfl) (by kernel_rfl) (by kernel_rfl) _) ?_
  refine .sg0 2 [0, 1, 4, 5, 6, 14, 15, 16, 17] (cgo 13 [] [.code B51]) [(16, .d (.bool !mayName x)), (17, .d (.bool !mayName x))] ?_
  rcases Bool.eq_false_or_eq_true (!mayName x) with h1 | h1
  · rw [h1]
    simp only [bsX] at h1
    simp_all
  · rw [h1]
    simp only [bsX] at h1
    refine .sg0 1 [0, 1, 4, 5, 6, 14, 15, 16, 17, 18] (cgo 14 [] [.code B51]) [(18, .d (.str x))] ?_
    refine .op' (cgo 15 [] [.code B51]) (cat_ok (t := 9) (ty := 9) (x := (.tmp 18)) (y := (.const (Value.string (ByteArray.mk #[46, 116, 109, 112])))) (s := x) (u := ByteArray.mk #[46, 116, 109, 112]) (by kernel_rfl) (by kernel_rfl) (by kernel_rfl) (by omega)) ?_
    refine .semH (o := (opOf (cgo 15 [] [Item.code B51])).getD default) (v := .d (.bool (mayName (x ++ ByteArray.mk #[46, 116, 109, 112])))) (σ' := [.cells [.row 1, .ptr 2 0 0, .ep 2 (D.agg [D.list 1 (List.map strD d.sk), D.list 1 (List.map intD d.sv)]) 0, .row 5, .d (.int .i64 d.quota), .d (.bool d.full), .d (.bool d.off), .d (.int .i64 d.stop), .d (.int .i64 d.calls)], .row 2 (List.map fileD d.files) false, .cells [.row 3, .row 4], .row 1 (List.map strD d.nk) false, .row 1 (List.map intD d.nv) false, .row 3 (List.map chD d.ch) false]) (by kernel_rfl) (by kernel_rfl) (T' := cgo 16 [] [Item.code B51]) (by kernel_rfl) (fun kz => sem_data0 (x := (.func 28)) (args := #[(.tmp 19)]) (ts := #[9]) (first := []) (cap := []) (ds := [.d (.str (x ++ ByteArray.mk #[46, 116, 109, 112]))]) (v := .d (.bool (mayName (x ++ ByteArray.mk #[46, 116, 109, 112])))) F28 (@spec_28 (x ++ ByteArray.mk #[46, 116, 109, 112]) (by omega)) (by kernel_rfl) (by kernel_rfl) (by kernel_rfl) (by kernel_rfl) (by kernel_rfl) (by kernel_rfl) _) ?_
    refine .sg0 3 [0, 1, 4, 5, 6, 22] (cgo 19 [] [.code B51]) [(22, .d (.bool !mayName (x ++ ByteArray.mk #[46, 116, 109, 112])))] ?_
    refine .if' (!mayName (x ++ ByteArray.mk #[46, 116, 109, 112])) (cgo 20 [true] [.code B51]) (cgo 20 [false] [.code B51]) (fun h2 => ?_) (fun h2 => ?_)
    · simp only [bsX] at h2
      simp_all
    · simp only [bsX] at h2
      refine .sg0 5 [0, 1, 4, 5, 6, 23] (cgo 25 [false] [.code B51]) [(23, .ptr 0 0 0)] ?_
      refine .ca [0, 1, 2, 3, 4, 5] (cgo 26 [false] [.code B51]) F41 (@spec_41 (d)) ?_
      rintro r2 s2 ⟨rfl, rfl⟩
      refine ⟨_, rfl, ?_⟩
      refine .sg0 1 [0, 1, 4, 5, 6, 24] (cgo 27 [false] [.code B51]) [] ?_
      refine .if' (d.off) (cgo 28 [false, true] [.code B51]) (cgo 28 [false, false] [.code B51]) (fun h4 => ?_) (fun h4 => ?_)
      · simp_all
      · refine .sg 13 [0, 1, 4, 5, 6, 7, 30, 31] (cgo 41 [false, false] [.code B51]) [(7, .ptr 6 0 0), (30, .ptr 0 0 0), (31, .d (.str x))] [(6, .cells [.d (.int .i64 0), .d (.int .i64 0), .d (.int .i64 0), .ptr 0 0 0, .d (.str x)])] ?_
        refine .ca [0, 1, 2, 3, 4, 5] (cgo 42 [false, false] [.code B51]) F27 (@spec_27a2 (d) (N) (by assumption) (x) (by assumption)) ?_
        rintro r4 s4 ⟨rfl, rfl⟩
        refine ⟨_, rfl, ?_⟩
        refine .sg0 17 [4, 5, 6, 7, 8, 37] (cgo 59 [false, false, true] [.code B51]) [(8, .d (.list 1 [])), (37, .ptr 6 0 0)] ?_
        refine .ca [6, 0, 1, 2, 3, 4, 5] (cgo 60 [false, false, true] [.code B51]) F87 (@spec_87 (0) (0) (0) (x) (d) (N) (by assumption) (by assumption) (by omega)) ?_
        rintro r5 s5 ⟨rfl, rfl⟩
        refine ⟨_, rfl, ?_⟩
        refine .sg0 7 [4, 5, 6, 7, 8, 10, 40] (cgo 67 [false, false, true] [.code B51]) [(10, .d (.int .i64 (makeE d x))), (40, .d (.bool (makeE d x != 0)))] ?_
        refine .if' (makeE d x != 0) (cgo 68 [false, false, true, true] [.code B51]) (cgo 68 [false, false, true, false] [.code B51]) (fun h7 => ?_) (fun h7 => ?_)
        · simp only [bsX] at h7
          omega
        · simp only [bsX] at h7
          refine .sg0 8 [4, 5, 6, 7, 8] (cgo 76 [false, false, true, false] [.code B51]) [(4, .ptr 6 0 0)] ?_
          refine .coerce [0, 0, 0, 0, 85, 26, 23] ?_
          refine .retH F51 (v := V.tuple [V.ptr 6 0 0, V.d (D.list 1 []), V.d (D.int IntKind.i64 0)]) (by kernel_rfl) (by kernel_rfl) ?_
          exact ⟨rfl, rfl⟩
end Go.Proofs.Ytoelkgbeefoplaa
namespace Go.Proofs.Ytoelkgbeefoplaa
open Go Go.Br Go.Proofs
theorem spec_16 (bs : List UInt8) (hlen : bs.length ≤ 65536) : CallsA Try.prog 16 [.d (.list 1 (bs.map u8))] [] fun r σ' => r = .ret (.tuple [.row 0, .d (i64 0)]) ∧ σ' = [.row 1 ((frame bs).map u8) false] := frame_pure bs hlen
theorem spec_16c (ds : List D) (h : 65536 < ds.length) (h' : ds.length < 1000000000) : Br.Pure Try.prog 16 [.d (.list 1 ds)] (.tuple [.d (.list 1 []), .d (.int .i64 2)]) := by
  refine CallsA.start F16 (tm := mk (Try.f16.ntmps) [(0, .d (.list 1 ds))]) (by kernel_rfl) ?_
  refine .seg 12 [0, 2, 3, 7] (T' := cgo 12 [] [.code B16]) (tm' := mk 19 [(0, .d (.list 1 ds)), (2, V.nils), (3, .d (.int .i64 0)), (7, .d (.bool (decide ((↑ds.length : Int) > 65536))))]) (σ' := []) (by kernel_rfl) ?_
  refine .ifH (b := decide ((↑ds.length : Int) > 65536)) (by kernel_rfl) (by kernel_rfl) (T1 := cgo 13 [true] [Item.code B16]) (T2 := cgo 13 [false] [Item.code B16]) (by kernel_rfl) (by kernel_rfl) (fun h1 => ?_) (fun h1 => ?_)
  · simp only [bsX] at h1
    refine .seg 5 [0, 2, 3] (T' := cgo 18 [true] [.code B16]) (tm' := mk 19 [(0, .d (.list 1 ds)), (2, V.nils), (3, .d (.int .i64 2))]) (σ' := []) (by kernel_rfl) ?_
    refine .coerce [0, 0, 22, 23] ?_
    refine .retH F16 (v := V.tuple [V.d (D.list 1 []), V.d (D.int IntKind.i64 2)]) (by kernel_rfl) (by kernel_rfl) ?_
    exact ⟨rfl, rfl⟩
  · simp only [bsX] at h1
    omega
end Go.Proofs.Ytoelkgbeefoplaa
namespace Go.Proofs.Ytoelkgbeefoplaa
open Go Go.Br Go.Proofs
def addE (d : Dk) (x : ByteArray) (bs : List UInt8) : Int := if 65536 < bs.length then 2 else d.begun.appendE x (frame bs)
def addL (d : Dk) (x : ByteArray) (bs : List UInt8) : Dk := if 65536 < bs.length then d else d.begun.appendD x (frame bs)
theorem spec_52 (c s : Int) (x : ByteArray) (d : Dk) (N : Nat) (h : d.Ok N) (hN : N + 5 ≤ 50000) (hx : x.size < 1000000000) (bs : List UInt8) (hb : bs.length < 1000000) (hc0 : 0 ≤ c) (hc1 : c < 1000000) (hs0 : 0 ≤ s) (hs1 : s < 1000000000) :
    CallsA Try.prog 52 [.ptr 0 0 0, .d (.list 1 (bs.map u8))] (SL c s 0 x d false) fun r σ' => r = .ret (.d (.int .i64 (addE d x bs))) ∧ σ' = SL (if addE d x bs = 0 then c + 1 else c) (if addE d x bs = 0 then s + (frame bs).length else s) (if addE d x bs = 0 ∨ addE d x bs = 2 ∨ addE d x bs = 4 then 0 else addE d x bs) x (addL d x bs) true := by
  have hfl : (frame bs).length = bs.length + 8 := frame_length bs
  refine CallsA.start F52 (tm := mk (Try.f52.ntmps) [(0, .ptr 0 0 0), (1, .d (.list 1 (bs.map u8)))]) (by kernel_rfl) ?_
  have hl2 : (bs.map u8).length = bs.length := List.length_map ..
  by_cases hbig : 65536 < bs.length
  · have hb2 : 65536 < (bs.map u8).length := by omega
    have hb3 : (bs.map u8).length < 1000000000 := by omega
    have e1 : addE d x bs = 2 := by simp [addE, hbig]
    have e2 : addL d x bs = d := by simp [addL, hbig]
    rw [e1, e2]
    refine .sg0 8 [0, 1, 4, 9] (cgo 8 [] [.code B52]) [(4, .d (.int .i64 0)), (9, .ptr 0 0 0)] ?_
    simp only [List.length_map]
    refine .ca [0, 1, 2, 3, 4, 5, 6] (cgo 9 [] [.code B52]) F55 (@spec_55 (c) (s) (0) (x) (d)) ?_
    rintro r0 s0 ⟨rfl, rfl⟩
    refine ⟨_, rfl, ?_⟩
    refine .sg0 12 [0, 1, 4, 15] (cgo 21 [false] [.code B52]) [(15, .d (.list 1 (List.map u8 bs)))] ?_
    refine .semH (o := (opOf (cgo 21 [false] [Item.code B52])).getD default) (v := .tuple [.d (.list 1 []), .d (.int .i64 2)]) (σ' := [.cells [.d (.int .i64 c), .d (.int .i64 s), .d (.int .i64 0), .ptr 1 0 0, .d (.str x)], .cells [.row 2, .ptr 3 0 0, .ep 2 (D.agg [D.list 1 (List.map strD d.sk), D.list 1 (List.map intD d.sv)]) 0, .row 6, .d (.int .i64 d.quota), .d (.bool d.full), .d (.bool d.off), .d (.int .i64 d.stop), .d (.int .i64 d.calls)], .row 2 (List.map fileD d.files) false, .cells [.row 4, .row 5], .row 1 (List.map strD d.nk) false, .row 1 (List.map intD d.nv) false, .row 3 (List.map chD d.ch) false]) (by kernel_rfl) (by kernel_rfl) (T' := cgo 22 [false] [Item.code B52]) (by kernel_rfl) (fun kz => sem_data0 (x := (.func 16)) (args := #[(.tmp 15)]) (ts := #[22]) (first := []) (cap := []) (ds := [.d (.list 1 (List.map u8 bs))]) (v := .tuple [.d (.list 1 []), .d (.int .i64 2)]) F16 (@spec_16c (List.map u8 bs) (by assumption) (by assumption)) (by kernel_rfl) (by kernel_rfl) (by kernel_rfl) (by kernel_rfl) (by kernel_rfl) (by kernel_rfl) _) ?_
    refine .seg 18 [0, 4, 6] (T' := cgo 40 [false, true] [.code B52]) (tm' := mk 64 [(0, .ptr 0 0 0), (4, .d (.int .i64 2)), (6, .d (.list 1 []))]) (σ' := [.cells [.d (.int .i64 c), .d (.int .i64 s), .d (.int .i64 0), .ptr 1 0 0, .d (.str x)], .cells [.row 2, .ptr 3 0 0, .ep 2 (D.agg [D.list 1 (List.map strD d.sk), D.list 1 (List.map intD d.sv)]) 0, .row 6, .d (.int .i64 d.quota), .d (.bool d.full), .d (.bool d.off), .d (.int .i64 d.stop), .d (.int .i64 d.calls)], .row 2 (List.map fileD d.files) false, .cells [.row 4, .row 5], .row 1 (List.map strD d.nk) false, .row 1 (List.map intD d.nv) false, .row 3 (List.map chD d.ch) false]) (by kernel_rfl) ?_
    refine .raise 2 rfl rfl ?_
    refine .raise 4 rfl rfl ?_
    refine .raise 5 rfl rfl ?_
    refine .raise 6 rfl rfl ?_
    refine .retH F52 (v := V.d (D.int IntKind.i64 2)) (by kernel_rfl) (by kernel_rfl) ?_
    exact ⟨rfl, rfl⟩
  · have hb2 : bs.length ≤ 65536 := by omega
    have hb3 : (frame bs).length < 1000000000 := by omega
    have e1 : addE d x bs = d.begun.appendE x (frame bs) := by simp [addE, hbig]
    have e2 : addL d x bs = d.begun.appendD x (frame bs) := by simp [addL, hbig]
    rw [e1, e2]
    refine .sg0 8 [0, 1, 4, 9] (cgo 8 [] [.code B52]) [(4, .d (.int .i64 0)), (9, .ptr 0 0 0)] ?_
    refine .ca [0, 1, 2, 3, 4, 5, 6] (cgo 9 [] [.code B52]) F55 (@spec_55 (c) (s) (0) (x) (d)) ?_
    rintro r0 s0 ⟨rfl, rfl⟩
    refine ⟨_, rfl, ?_⟩
    refine .sg0 12 [0, 1, 4, 15] (cgo 21 [false] [.code B52]) [(15, .d (.list 1 (List.map u8 bs)))] ?_
    refine .ca [] (cgo 22 [false] [.code B52]) F16 (@spec_16 (bs) (by assumption)) ?_
    rintro r1 s1 ⟨rfl, rfl⟩
    refine ⟨_, rfl, ?_⟩
    refine .sg0 15 [0, 4, 6] (cgo 37 [false, false] [.code B52]) [(6, .row 7)] ?_
    refine .freeze 7 (sz := 1) (xs := (frame bs).map u8) (mv := false) (by kernel_rfl) ?_
    refine .dr (cgo 38 [false, false] [.code B52]) [(8, .d (.int .i64 (d.begun.appendE x (frame bs)))), (22, .ptr 0 0 0), (23, .ptr 0 0 0), (24, .ptr 0 0 3), (25, .ptr 1 0 0), (26, .ptr 0 0 0), (27, .ptr 0 0 0), (28, .ptr 0 0 4), (29, .d (.str x)), (30, .d (.list 1 (List.map u8 (frame bs)))), (31, .d (.int .i64 (d.begun.appendE x (frame bs))))] [(1, .cells [.row 2, .ptr 3 0 0, .ep 2 (D.agg [D.list 1 (List.map strD (d.begun.appendD x (frame bs)).sk), D.list 1 (List.map intD (d.begun.appendD x (frame bs)).sv)]) 0, .row 6, .d (.int .i64 (d.begun.appendD x (frame bs)).quota), .d (.bool (d.begun.appendD x (frame bs)).full), .d (.bool (d.begun.appendD x (frame bs)).off), .d (.int .i64 (d.begun.appendD x (frame bs)).stop), .d (.int .i64 (d.begun.appendD x (frame bs)).calls)]), (2, .row 2 (List.map fileD (d.begun.appendD x (frame bs)).files) true), (4, .row 1 (List.map strD (d.begun.appendD x (frame bs)).nk) true), (5, .row 1 (List.map intD (d.begun.appendD x (frame bs)).nv) true), (6, .row 3 (List.map chD (d.begun.appendD x (frame bs)).ch) true)] (fun kz L hL => ?_) ?_
    · refine ⟨[⟨[], [], [], [0], [0], [], true, false⟩, ⟨[], [], [], [0], [0], [0], true, false⟩, ⟨[], [], [], [0], [0], [0], true, false⟩, ⟨[0], [], [], [1], [0, 1], [], true, false⟩, ⟨[], [], [], [0], [0], [], true, false⟩, ⟨[], [], [], [0], [0], [0], true, false⟩, ⟨[], [], [], [0], [0], [0], true, false⟩, ⟨[0], [], [], [], [0, 1], [], true, false⟩, ⟨[], [], [], [], [], [], true, false⟩, ⟨[1, 2, 3, 4, 5, 6], [1, 2, 3, 4, 5, 6], [2, 4, 5, 6], [2, 3, 6, 4, 5], [1, 2, 3, 6, 4, 5], [], true, false⟩, ⟨[], [], [], [], [], [], true, false⟩], run_amongF hL _ [] [0, 1, 2, 3, 4, 5, 6, 7, 8, 9, 10] (by intro p hp; cases hp) (by kernel_rfl) ?_⟩
      refine Run.ap [0, 1, 2, 3, 4, 5, 6, 7, 8] [(22, .ptr 0 0 0), (23, .ptr 0 0 0), (24, .ptr 0 0 3), (25, .ptr 1 0 0), (26, .ptr 0 0 0), (27, .ptr 0 0 0), (28, .ptr 0 0 4), (29, .d (.str x)), (30, .d (.list 1 (List.map u8 (frame bs))))] [] ?_
      refine Run.one (StepF.call (o := ((drawOf (cgo 37 [false, false] [.code B52]))[9]?).getD default) (x := (.func 31)) (args := #[(.tmp 25), (.tmp 29), (.tmp 30)]) (ts := #[40, 9, 22]) (first := []) (cap := []) [1, 2, 3, 4, 5, 6] [.ptr 0 0 0, .d (.str x), .d (.list 1 (List.map u8 (frame bs)))] [.cells [.row 1, .ptr 2 0 0, .ep 2 (D.agg [D.list 1 (List.map strD d.sk), D.list 1 (List.map intD d.sv)]) 0, .row 5, .d (.int .i64 d.quota), .d (.bool d.full), .d (.bool d.off), .d (.int .i64 d.stop), .d (.int .i64 d.calls)], .row 2 (List.map fileD d.files) false, .cells [.row 3, .row 4], .row 1 (List.map strD d.nk) false, .row 1 (List.map intD d.nv) false, .row 3 (List.map chD d.ch) false] [.cells [.row 1, .ptr 2 0 0, .ep 2 (dirD (d.begun.appendD x (frame bs)).sk (d.begun.appendD x (frame bs)).sv) 0, .row 5, .d (.int .i64 (d.begun.appendD x (frame bs)).quota), .d (.bool (d.begun.appendD x (frame bs)).full), .d (.bool (d.begun.appendD x (frame bs)).off), .d (.int .i64 (d.begun.appendD x (frame bs)).stop), .d (.int .i64 (d.begun.appendD x (frame bs)).calls)], .row 2 (List.map fileD (d.begun.appendD x (frame bs)).files) true, .cells [.row 3, .row 4], .row 1 (List.map strD (d.begun.appendD x (frame bs)).nk) true, .row 1 (List.map intD (d.begun.appendD x (frame bs)).nv) true, .row 3 (List.map chD (d.begun.appendD x (frame bs)).ch) true] (v := .d (.int .i64 (d.begun.appendE x (frame bs)))) (by kernel_rfl) rfl (by kernel_rfl) (by kernel_rfl) F31 (@spec_31 (d) (N) (by assumption) (by omega) (x) (by assumption) (frame bs) (by assumption)) (by kernel_rfl) (by kernel_rfl) (by kernel_rfl) (by kernel_rfl) ⟨rfl, rfl, by kernel_rfl⟩ (by kernel_rfl) (by kernel_rfl) (by kernel_rfl) (by kernel_rfl) (by kernel_rfl) rfl rfl) ?_
      exact Run.fin
    refine .sg0 10 [0, 4, 6, 8, 32, 38] (cgo 48 [false, false] [.code B52]) [(32, .d (.int .i64 (d.begun.appendE x (frame bs)))), (38, .d (.bool (d.begun.appendE x (frame bs) == 0)))] ?_
    refine .if' (d.begun.appendE x (frame bs) == 0) (cgo 49 [false, false, true] [.code B52]) (cgo 49 [false, false, false] [.code B52]) (fun h4 => ?_) (fun h4 => ?_)
    · simp only [bsX] at h4
      refine .sg 32 [4] (cgo 81 [false, false, true] [.code B52]) [] [(0, .cells [.d (.int .i64 (IntKind.i64.wrap (c + 1))), .d (.int .i64 (IntKind.i64.wrap (s + (↑(List.map u8 (frame bs)).length : Int)))), .d (.int .i64 0), .ptr 1 0 0, .d (.str x)])] ?_
      simp only [List.length_map]
      simp (disch := omega) only [wrap_i64, wrap_u64s, wrap_u32s, wrap_u8s, wrap_i32s, iadd_i64, isub_i64, irem_n, iquo_n, tdiv_nn, tmod_nn]
      refine .kp [4] ?_
      refine .su [0, 1, 2, 3, 4, 5, 6] (mk 64 [(4, .d (.int .i64 0))]) [.cells [.d (.int .i64 (c + 1)), .d (.int .i64 (s + (↑(frame bs).length : Int))), .d (.int .i64 0), .ptr 1 0 0, .d (.str x)], .cells [.row 2, .ptr 3 0 0, .ep 2 (D.agg [D.list 1 (List.map strD (d.begun.appendD x (frame bs)).sk), D.list 1 (List.map intD (d.begun.appendD x (frame bs)).sv)]) 0, .row 6, .d (.int .i64 (d.begun.appendD x (frame bs)).quota), .d (.bool (d.begun.appendD x (frame bs)).full), .d (.bool (d.begun.appendD x (frame bs)).off), .d (.int .i64 (d.begun.appendD x (frame bs)).stop), .d (.int .i64 (d.begun.appendD x (frame bs)).calls)], .row 2 (List.map fileD (d.begun.appendD x (frame bs)).files) true, .cells [.row 4, .row 5], .row 1 (List.map strD (d.begun.appendD x (frame bs)).nk) true, .row 1 (List.map intD (d.begun.appendD x (frame bs)).nv) true, .row 3 (List.map chD (d.begun.appendD x (frame bs)).ch) true] ?_
      refine .retH F52 (v := V.d (D.int IntKind.i64 0)) (by kernel_rfl) (by kernel_rfl) ?_
      simp_all [SL, dirD]
    · simp only [bsX] at h4
      refine .sg0 6 [0, 4, 8, 32, 60] (cgo 55 [false, false, false] [.code B52]) [(60, .d (.bool (d.begun.appendE x (frame bs) == 2)))] ?_
      refine .if' (d.begun.appendE x (frame bs) == 2) (cgo 56 [false, false, false, true] [.code B52]) (cgo 56 [false, false, false, false] [.code B52]) (fun h5 => ?_) (fun h5 => ?_)
      · simp only [bsX] at h5
        refine .sg0 1 [0, 4, 8, 60] (cgo 57 [false, false, false, true] [.code B52]) [] ?_
        refine .if' (d.begun.appendE x (frame bs) == 2) (cgo 58 [false, false, false, true, true] [.code B52]) (cgo 58 [false, false, false, true, false] [.code B52]) (fun h6 => ?_) (fun h6 => ?_)
        · simp only [bsX] at h6
          refine .sg0 5 [4] (cgo 63 [false, false, false, true, true] [.code B52]) [(4, .d (.int .i64 (d.begun.appendE x (frame bs))))] ?_
          refine .kp [4] ?_
          refine .su [0, 1, 2, 3, 4, 5, 6] (mk 64 [(4, .d (.int .i64 (d.begun.appendE x (frame bs))))]) [.cells [.d (.int .i64 c), .d (.int .i64 s), .d (.int .i64 0), .ptr 1 0 0, .d (.str x)], .cells [.row 2, .ptr 3 0 0, .ep 2 (D.agg [D.list 1 (List.map strD (d.begun.appendD x (frame bs)).sk), D.list 1 (List.map intD (d.begun.appendD x (frame bs)).sv)]) 0, .row 6, .d (.int .i64 (d.begun.appendD x (frame bs)).quota), .d (.bool (d.begun.appendD x (frame bs)).full), .d (.bool (d.begun.appendD x (frame bs)).off), .d (.int .i64 (d.begun.appendD x (frame bs)).stop), .d (.int .i64 (d.begun.appendD x (frame bs)).calls)], .row 2 (List.map fileD (d.begun.appendD x (frame bs)).files) true, .cells [.row 4, .row 5], .row 1 (List.map strD (d.begun.appendD x (frame bs)).nk) true, .row 1 (List.map intD (d.begun.appendD x (frame bs)).nv) true, .row 3 (List.map chD (d.begun.appendD x (frame bs)).ch) true] ?_
          refine .retH F52 (v := V.d (D.int IntKind.i64 (d.begun.appendE x (frame bs)))) (by kernel_rfl) (by kernel_rfl) ?_
          simp_all [SL, dirD]
        · simp only [bsX] at h6
          omega
      · simp only [bsX] at h5
        refine .sg0 4 [0, 4, 8, 60] (cgo 60 [false, false, false, false] [.code B52]) [(60, .d (.bool (d.begun.appendE x (frame bs) == 4)))] ?_
        refine .if' (d.begun.appendE x (frame bs) == 4) (cgo 61 [false, false, false, false, true] [.code B52]) (cgo 61 [false, false, false, false, false] [.code B52]) (fun h7 => ?_) (fun h7 => ?_)
        · simp only [bsX] at h7
          refine .sg0 5 [4] (cgo 66 [false, false, false, false, true] [.code B52]) [(4, .d (.int .i64 (d.begun.appendE x (frame bs))))] ?_
          refine .kp [4] ?_
          refine .su [0, 1, 2, 3, 4, 5, 6] (mk 64 [(4, .d (.int .i64 (d.begun.appendE x (frame bs))))]) [.cells [.d (.int .i64 c), .d (.int .i64 s), .d (.int .i64 0), .ptr 1 0 0, .d (.str x)], .cells [.row 2, .ptr 3 0 0, .ep 2 (D.agg [D.list 1 (List.map strD (d.begun.appendD x (frame bs)).sk), D.list 1 (List.map intD (d.begun.appendD x (frame bs)).sv)]) 0, .row 6, .d (.int .i64 (d.begun.appendD x (frame bs)).quota), .d (.bool (d.begun.appendD x (frame bs)).full), .d (.bool (d.begun.appendD x (frame bs)).off), .d (.int .i64 (d.begun.appendD x (frame bs)).stop), .d (.int .i64 (d.begun.appendD x (frame bs)).calls)], .row 2 (List.map fileD (d.begun.appendD x (frame bs)).files) true, .cells [.row 4, .row 5], .row 1 (List.map strD (d.begun.appendD x (frame bs)).nk) true, .row 1 (List.map intD (d.begun.appendD x (frame bs)).nv) true, .row 3 (List.map chD (d.begun.appendD x (frame bs)).ch) true] ?_
          refine .retH F52 (v := V.d (D.int IntKind.i64 (d.begun.appendE x (frame bs)))) (by kernel_rfl) (by kernel_rfl) ?_
          simp_all [SL, dirD]
        · simp only [bsX] at h7
          refine .sg0 6 [0, 4, 8, 33, 34, 35, 36] (cgo 67 [false, false, false, false, false] [.code B52]) [(33, .ptr 0 0 0), (34, .ptr 0 0 0), (35, .ptr 0 0 0), (36, .d (.int .i64 (d.begun.appendE x (frame bs))))] ?_
          refine .ca [0, 1, 2, 3, 4, 5, 6] (cgo 68 [false, false, false, false, false] [.code B52]) F88 (@spec_88 (c) (s) (0) (x) (d.begun.appendD x (frame bs)) (d.begun.appendE x (frame bs))) ?_
          rintro r7 s7 ⟨rfl, rfl⟩
          refine ⟨_, rfl, ?_⟩
          refine .sg0 2 [4] (cgo 70 [false, false, false, false, false] [.code B52]) [(4, .d (.int .i64 (d.begun.appendE x (frame bs))))] ?_
          refine .kp [4] ?_
          refine .su [0, 1, 2, 3, 4, 5, 6] (mk 64 [(4, .d (.int .i64 (d.begun.appendE x (frame bs))))]) [.cells [.d (.int .i64 c), .d (.int .i64 s), .d (.int .i64 (chk 0 (d.begun.appendE x (frame bs)))), .ptr 1 0 0, .d (.str x)], .cells [.row 2, .ptr 3 0 0, .ep 2 (D.agg [D.list 1 (List.map strD (d.begun.appendD x (frame bs)).sk), D.list 1 (List.map intD (d.begun.appendD x (frame bs)).sv)]) 0, .row 6, .d (.int .i64 (d.begun.appendD x (frame bs)).quota), .d (.bool (d.begun.appendD x (frame bs)).full), .d (.bool (d.begun.appendD x (frame bs)).off), .d (.int .i64 (d.begun.appendD x (frame bs)).stop), .d (.int .i64 (d.begun.appendD x (frame bs)).calls)], .row 2 (List.map fileD (d.begun.appendD x (frame bs)).files) true, .cells [.row 4, .row 5], .row 1 (List.map strD (d.begun.appendD x (frame bs)).nk) true, .row 1 (List.map intD (d.begun.appendD x (frame bs)).nv) true, .row 3 (List.map chD (d.begun.appendD x (frame bs)).ch) true] ?_
          refine .retH F52 (v := V.d (D.int IntKind.i64 (d.begun.appendE x (frame bs)))) (by kernel_rfl) (by kernel_rfl) ?_
          simp_all [SL, dirD, chk]
end Go.Proofs.Ytoelkgbeefoplaa
namespace Go.Proofs.Ytoelkgbeefoplaa
open Go Go.Br Go.Proofs
theorem spec_53 (c s : Int) (x : ByteArray) (d : Dk) (N : Nat) (h : d.Ok N) (hN : N + 5 ≤ 50000) (hx : x.size < 1000000000) :
    CallsA Try.prog 53 [.ptr 0 0 0] (SL c s 0 x d false) fun r σ' => r = .ret (.d (.int .i64 (d.begun.err true [x]))) ∧ σ' = SL c s (d.begun.err true [x]) x (d.begun.syncD x) true := by
  refine CallsA.start F53 (tm := mk (Try.f53.ntmps) [(0, .ptr 0 0 0)]) (by kernel_rfl) ?_
  have hc : chk 0 (d.begun.err true [x]) = d.begun.err true [x] := by unfold chk; split <;> simp_all
  refine .sg0 8 [0, 2, 4] (cgo 8 [] [.code B53]) [(2, .d (.int .i64 0)), (4, .ptr 0 0 0)] ?_
  refine .ca [0, 1, 2, 3, 4, 5, 6] (cgo 9 [] [.code B53]) F55 (@spec_55 (c) (s) (0) (x) (d)) ?_
  rintro r0 s0 ⟨rfl, rfl⟩
  refine ⟨_, rfl, ?_⟩
  refine .sg0 10 [0, 2] (cgo 19 [false] [.code B53]) [] ?_
  refine .drawF (T' := cgo 20 [false] [.code B53]) (tm' := mk 22 [(0, .ptr 0 0 0), (2, .d (.int .i64 (d.begun.err true [x]))), (9, .ptr 0 0 0), (10, .ptr 0 0 0), (11, .ptr 0 0 0), (12, .ptr 0 0 0), (13, .ptr 0 0 0), (14, .ptr 0 0 3), (15, .ptr 1 0 0), (16, .ptr 0 0 0), (17, .ptr 0 0 0), (18, .ptr 0 0 4), (19, .d (.str x)), (20, .d (.int .i64 (d.begun.err true [x]))), (21, .d (.int .i64 (d.begun.err true [x])))]) (σ' := [.cells [.d (.int .i64 c), .d (.int .i64 s), .d (.int .i64 (chk 0 (d.begun.err true [x]))), .ptr 1 0 0, .d (.str x)], .cells [.row 2, .ptr 3 0 0, .ep 2 (D.agg [D.list 1 (List.map strD (d.begun.syncD x).sk), D.list 1 (List.map intD (d.begun.syncD x).sv)]) 0, .row 6, .d (.int .i64 (d.begun.syncD x).quota), .d (.bool (d.begun.syncD x).full), .d (.bool (d.begun.syncD x).off), .d (.int .i64 (d.begun.syncD x).stop), .d (.int .i64 (d.begun.syncD x).calls)], .row 2 (List.map fileD (d.begun.syncD x).files) true, .cells [.row 4, .row 5], .row 1 (List.map strD (d.begun.syncD x).nk) true, .row 1 (List.map intD (d.begun.syncD x).nv) true, .row 3 (List.map chD (d.begun.syncD x).ch) true]) (by kernel_rfl) (by kernel_rfl) (by kernel_rfl) (by kernel_rfl) (fun kz L hL => ?_) ?_
  · refine ⟨[⟨[], [], [], [0], [0], [], true, false⟩, ⟨[], [], [], [0], [0], [0], true, false⟩, ⟨[], [], [], [0], [0], [0], true, false⟩, ⟨[], [], [], [0], [0], [], true, false⟩, ⟨[], [], [], [0], [0], [0], true, false⟩, ⟨[], [], [], [0], [0], [0], true, false⟩, ⟨[0], [], [], [1], [0, 1], [], true, false⟩, ⟨[], [], [], [0], [0], [], true, false⟩, ⟨[], [], [], [0], [0], [0], true, false⟩, ⟨[], [], [], [0], [0], [0], true, false⟩, ⟨[0], [], [], [], [0, 1], [], true, false⟩, ⟨[1, 2, 3, 4, 5, 6], [1, 2, 3, 4, 5, 6], [2, 4, 5, 6], [2, 3, 6, 4, 5], [1, 2, 3, 6, 4, 5], [], true, false⟩, ⟨[0, 1, 2, 3, 4, 5, 6], [0, 1, 2, 3, 4, 5, 6], [], [1, 2, 3, 6, 4, 5], [0, 1, 2, 3, 6, 4, 5], [], true, false⟩, ⟨[], [], [], [], [], [], true, false⟩], run_amongF hL _ [] [0, 1, 2, 3, 4, 5, 6, 7, 8, 9, 10, 11, 12, 13] (by intro p hp; cases hp) (by kernel_rfl) ?_⟩
    refine Run.ap [0, 1, 2, 3, 4, 5, 6, 7, 8, 9, 10] [(9, .ptr 0 0 0), (10, .ptr 0 0 0), (11, .ptr 0 0 0), (12, .ptr 0 0 0), (13, .ptr 0 0 0), (14, .ptr 0 0 3), (15, .ptr 1 0 0), (16, .ptr 0 0 0), (17, .ptr 0 0 0), (18, .ptr 0 0 4), (19, .d (.str x))] [] ?_
    refine Run.one (StepF.call (o := ((drawOf (cgo 19 [false] [.code B53]))[11]?).getD default) (x := (.func 32)) (args := #[(.tmp 15), (.tmp 19)]) (ts := #[40, 9]) (first := []) (cap := []) [1, 2, 3, 4, 5, 6] [.ptr 0 0 0, .d (.str x)] [.cells [.row 1, .ptr 2 0 0, .ep 2 (D.agg [D.list 1 (List.map strD d.sk), D.list 1 (List.map intD d.sv)]) 0, .row 5, .d (.int .i64 d.quota), .d (.bool d.full), .d (.bool d.off), .d (.int .i64 d.stop), .d (.int .i64 d.calls)], .row 2 (List.map fileD d.files) false, .cells [.row 3, .row 4], .row 1 (List.map strD d.nk) false, .row 1 (List.map intD d.nv) false, .row 3 (List.map chD d.ch) false] [.cells [.row 1, .ptr 2 0 0, .ep 2 (dirD (d.begun.syncD x).sk (d.begun.syncD x).sv) 0, .row 5, .d (.int .i64 (d.begun.syncD x).quota), .d (.bool (d.begun.syncD x).full), .d (.bool (d.begun.syncD x).off), .d (.int .i64 (d.begun.syncD x).stop), .d (.int .i64 (d.begun.syncD x).calls)], .row 2 (List.map fileD (d.begun.syncD x).files) true, .cells [.row 3, .row 4], .row 1 (List.map strD (d.begun.syncD x).nk) true, .row 1 (List.map intD (d.begun.syncD x).nv) true, .row 3 (List.map chD (d.begun.syncD x).ch) true] (v := .d (.int .i64 (d.begun.err true [x]))) (by kernel_rfl) rfl (by kernel_rfl) (by kernel_rfl) F32 (@spec_32 (d) (N) (by assumption) (by omega) (x) (by assumption)) (by kernel_rfl) (by kernel_rfl) (by kernel_rfl) (by kernel_rfl) ⟨rfl, rfl, by kernel_rfl⟩ (by kernel_rfl) (by kernel_rfl) (by kernel_rfl) (by kernel_rfl) (by kernel_rfl) rfl rfl) ?_
    refine Run.one (StepF.call (o := ((drawOf (cgo 19 [false] [.code B53]))[12]?).getD default) (x := (.func 88)) (args := #[(.tmp 11), (.tmp 20)]) (ts := #[141, 23]) (first := []) (cap := []) [0, 1, 2, 3, 4, 5, 6] [.ptr 0 0 0, .d (.int .i64 (d.begun.err true [x]))] [.cells [.d (.int .i64 c), .d (.int .i64 s), .d (.int .i64 0), .ptr 1 0 0, .d (.str x)], .cells [.row 2, .ptr 3 0 0, .ep 2 (D.agg [D.list 1 (List.map strD (d.begun.syncD x).sk), D.list 1 (List.map intD (d.begun.syncD x).sv)]) 0, .row 6, .d (.int .i64 (d.begun.syncD x).quota), .d (.bool (d.begun.syncD x).full), .d (.bool (d.begun.syncD x).off), .d (.int .i64 (d.begun.syncD x).stop), .d (.int .i64 (d.begun.syncD x).calls)], .row 2 (List.map fileD (d.begun.syncD x).files) false, .cells [.row 4, .row 5], .row 1 (List.map strD (d.begun.syncD x).nk) false, .row 1 (List.map intD (d.begun.syncD x).nv) false, .row 3 (List.map chD (d.begun.syncD x).ch) false] [.cells [.d (.int .i64 c), .d (.int .i64 s), .d (.int .i64 (chk 0 (d.begun.err true [x]))), .ptr 1 0 0, .d (.str x)], .cells [.row 2, .ptr 3 0 0, .ep 2 (dirD (d.begun.syncD x).sk (d.begun.syncD x).sv) 0, .row 6, .d (.int .i64 (d.begun.syncD x).quota), .d (.bool (d.begun.syncD x).full), .d (.bool (d.begun.syncD x).off), .d (.int .i64 (d.begun.syncD x).stop), .d (.int .i64 (d.begun.syncD x).calls)], .row 2 (List.map fileD (d.begun.syncD x).files) false, .cells [.row 4, .row 5], .row 1 (List.map strD (d.begun.syncD x).nk) false, .row 1 (List.map intD (d.begun.syncD x).nv) false, .row 3 (List.map chD (d.begun.syncD x).ch) false] (v := .d (.int .i64 (d.begun.err true [x]))) (by kernel_rfl) rfl (by kernel_rfl) (by kernel_rfl) F88 (@spec_88 (c) (s) (0) (x) (d.begun.syncD x) (d.begun.err true [x])) (by kernel_rfl) (by kernel_rfl) (by kernel_rfl) (by kernel_rfl) ⟨rfl, rfl, by kernel_rfl⟩ (by kernel_rfl) (by kernel_rfl) (by kernel_rfl) (by kernel_rfl) (by kernel_rfl) rfl rfl) ?_
    exact Run.fin
  refine .retH F53 (v := V.d (D.int IntKind.i64 (d.begun.err true [x]))) (by kernel_rfl) (by kernel_rfl) ?_
  simp_all [SL, dirD, chk]
noncomputable def B89 : Code := (Try.f89.body).getD .skip
theorem F89 : Fnc Try.prog 89 Try.f89 B89 := ⟨Try.func89, by kernel_rfl, by kernel_rfl⟩
def wrT (t x : ByteArray) (d : Dk) : Int × Dk :=
  if d.begun.err true [t] ≠ 0 then (d.begun.err true [t], d.begun.syncD t)
  else if (d.begun.syncD t).begun.err true [t, x] ≠ 0 then ((d.begun.syncD t).begun.err true [t, x], (d.begun.syncD t).begun.renameD t x)
  else (((d.begun.syncD t).begun.renameD t x).begun.err false [], ((d.begun.syncD t).begun.renameD t x).begun.syncDirD)
def wrG (t x : ByteArray) : List (List UInt8) → Dk → Int × Int × Dk
  | [], d => ((wrT t x d).1, (wrT t x d).1, (wrT t x d).2)
  | f :: fs, d =>
    if d.begun.appendE t f = 4 then
      (if (d.begun.appendD t f).begun.err true [t] ≠ 0 then ((d.begun.appendD t f).begun.err true [t], (d.begun.appendD t f).begun.err true [t], (d.begun.appendD t f).begun.removeD t) else (4, 0, (d.begun.appendD t f).begun.removeD t))
    else if d.begun.appendE t f ≠ 0 then (d.begun.appendE t f, d.begun.appendE t f, d.begun.appendD t f)
    else wrG t x fs (d.begun.appendD t f)
theorem wrG_nil (t x : ByteArray) (d : Dk) : wrG t x [] d = ((wrT t x d).1, (wrT t x d).1, (wrT t x d).2) := rfl
theorem drop_get {α : Type} {l : List α} {i : Nat} {y : α} (h : l[i]? = some y) : l.drop i = y :: l.drop (i + 1) := by
  obtain ⟨hi, rfl⟩ := List.getElem?_eq_some_iff.1 h
  exact List.drop_eq_getElem_cons hi
theorem wt89 (c s : Int) (x t : ByteArray) (hx : x.size < 1000) (ht : t.size < 1000000000) (fs : List (List UInt8)) (d : Dk) (M : Nat) (h : d.Ok M) (hM : M + 10 ≤ 50000) :
    AW Try.prog 89 none 7 (cgo 32 [false] [Item.code B89]) (mk 106 [(0, V.ptr 0 0 0), (4, V.d (D.int IntKind.i64 0)), (5, V.d (D.str t)), (31, V.d (D.list 1 (List.map bsD fs))), (32, V.d (D.int IntKind.i64 (fs.length : Nat))), (33, V.d (D.int IntKind.i64 (fs.length : Nat)))]) (SL c s 0 x d true) []
      fun r σ' => r = .ret (.d (.int .i64 (wrG t x [] d).1)) ∧ σ' = SL c s (wrG t x [] d).2.1 x (wrG t x [] d).2.2 true := by
  have h1 := Dk.syncD_ok (Dk.begun_ok h (by omega)) t
  have h2 := Dk.renameD_ok (Dk.begun_ok h1 (by omega)) (by omega) t x
  have hx3 : x.size < 1000000000 := by omega
  rw [wrG_nil]
  refine .sg0 5 [0, 4, 5, 31, 32, 33, 34] (cgo 37 [false] [.code B89]) [(34, .d (.bool (decide ((↑fs.length : Int) < (↑fs.length : Int)))))] ?_
  simp only [List.length_map]
  refine .if' (decide ((↑fs.length : Int) < (↑fs.length : Int))) (cgo 38 [false, true] [.code B89]) (cgo 38 [false, false] [.code B89]) (fun h3 => ?_) (fun h3 => ?_)
  · simp only [bsX] at h3
    omega
  · simp only [bsX] at h3
    refine .sg0 3 [0, 4, 5] (cgo 41 [false, false] [.code B89]) [] ?_
    refine .dr (cgo 42 [false, false] [.code B89]) [(11, .d (.int .i64 (d.begun.err true [t]))), (67, .ptr 0 0 0), (68, .ptr 0 0 0), (69, .ptr 0 0 0), (70, .ptr 0 0 0), (71, .ptr 0 0 0), (72, .ptr 0 0 3), (73, .ptr 1 0 0), (74, .d (.str t)), (75, .d (.int .i64 (d.begun.err true [t]))), (76, .d (.int .i64 (d.begun.err true [t])))] [(0, .cells [.d (.int .i64 c), .d (.int .i64 s), .d (.int .i64 (chk 0 (d.begun.err true [t]))), .ptr 1 0 0, .d (.str x)]), (1, .cells [.row 2, .ptr 3 0 0, .ep 2 (D.agg [D.list 1 (List.map strD (d.begun.syncD t).sk), D.list 1 (List.map intD (d.begun.syncD t).sv)]) 0, .row 6, .d (.int .i64 (d.begun.syncD t).quota), .d (.bool (d.begun.syncD t).full), .d (.bool (d.begun.syncD t).off), .d (.int .i64 (d.begun.syncD t).stop), .d (.int .i64 (d.begun.syncD t).calls)]), (2, .row 2 (List.map fileD (d.begun.syncD t).files) true), (4, .row 1 (List.map strD (d.begun.syncD t).nk) true), (5, .row 1 (List.map intD (d.begun.syncD t).nv) true), (6, .row 3 (List.map chD (d.begun.syncD t).ch) true)] (fun kz L hL => ?_) ?_
    · refine ⟨[⟨[], [], [], [0], [0], [], true, false⟩, ⟨[], [], [], [0], [0], [0], true, false⟩, ⟨[], [], [], [0], [0], [0], true, false⟩, ⟨[], [], [], [0], [0], [], true, false⟩, ⟨[], [], [], [0], [0], [0], true, false⟩, ⟨[], [], [], [0], [0], [0], true, false⟩, ⟨[0], [], [], [1], [0, 1], [], true, false⟩, ⟨[], [], [], [], [], [], true, false⟩, ⟨[1, 2, 3, 4, 5, 6], [1, 2, 3, 4, 5, 6], [2, 4, 5, 6], [2, 3, 6, 4, 5], [1, 2, 3, 6, 4, 5], [], true, false⟩, ⟨[0, 1, 2, 3, 4, 5, 6], [0, 1, 2, 3, 4, 5, 6], [], [1, 2, 3, 6, 4, 5], [0, 1, 2, 3, 6, 4, 5], [], true, false⟩, ⟨[], [], [], [], [], [], true, false⟩], run_amongF hL _ [] [0, 1, 2, 3, 4, 5, 6, 7, 8, 9, 10] (by intro p hp; cases hp) (by kernel_rfl) ?_⟩
      refine Run.ap [0, 1, 2, 3, 4, 5, 6, 7] [(67, .ptr 0 0 0), (68, .ptr 0 0 0), (69, .ptr 0 0 0), (70, .ptr 0 0 0), (71, .ptr 0 0 0), (72, .ptr 0 0 3), (73, .ptr 1 0 0), (74, .d (.str t))] [] ?_
      refine Run.one (StepF.call (o := ((drawOf (cgo 41 [false, false] [.code B89]))[8]?).getD default) (x := (.func 32)) (args := #[(.tmp 73), (.tmp 74)]) (ts := #[40, 9]) (first := []) (cap := []) [1, 2, 3, 4, 5, 6] [.ptr 0 0 0, .d (.str t)] [.cells [.row 1, .ptr 2 0 0, .ep 2 (D.agg [D.list 1 (List.map strD d.sk), D.list 1 (List.map intD d.sv)]) 0, .row 5, .d (.int .i64 d.quota), .d (.bool d.full), .d (.bool d.off), .d (.int .i64 d.stop), .d (.int .i64 d.calls)], .row 2 (List.map fileD d.files) false, .cells [.row 3, .row 4], .row 1 (List.map strD d.nk) false, .row 1 (List.map intD d.nv) false, .row 3 (List.map chD d.ch) false] [.cells [.row 1, .ptr 2 0 0, .ep 2 (dirD (d.begun.syncD t).sk (d.begun.syncD t).sv) 0, .row 5, .d (.int .i64 (d.begun.syncD t).quota), .d (.bool (d.begun.syncD t).full), .d (.bool (d.begun.syncD t).off), .d (.int .i64 (d.begun.syncD t).stop), .d (.int .i64 (d.begun.syncD t).calls)], .row 2 (List.map fileD (d.begun.syncD t).files) true, .cells [.row 3, .row 4], .row 1 (List.map strD (d.begun.syncD t).nk) true, .row 1 (List.map intD (d.begun.syncD t).nv) true, .row 3 (List.map chD (d.begun.syncD t).ch) true] (v := .d (.int .i64 (d.begun.err true [t]))) (by kernel_rfl) rfl (by kernel_rfl) (by kernel_rfl) F32 (@spec_32 (d) (M) (by assumption) (by omega) (t) (by assumption)) (by kernel_rfl) (by kernel_rfl) (by kernel_rfl) (by kernel_rfl) ⟨rfl, rfl, by kernel_rfl⟩ (by kernel_rfl) (by kernel_rfl) (by kernel_rfl) (by kernel_rfl) (by kernel_rfl) rfl rfl) ?_
      refine Run.one (StepF.call (o := ((drawOf (cgo 41 [false, false] [.code B89]))[9]?).getD default) (x := (.func 88)) (args := #[(.tmp 69), (.tmp 75)]) (ts := #[141, 23]) (first := []) (cap := []) [0, 1, 2, 3, 4, 5, 6] [.ptr 0 0 0, .d (.int .i64 (d.begun.err true [t]))] [.cells [.d (.int .i64 c), .d (.int .i64 s), .d (.int .i64 0), .ptr 1 0 0, .d (.str x)], .cells [.row 2, .ptr 3 0 0, .ep 2 (D.agg [D.list 1 (List.map strD (d.begun.syncD t).sk), D.list 1 (List.map intD (d.begun.syncD t).sv)]) 0, .row 6, .d (.int .i64 (d.begun.syncD t).quota), .d (.bool (d.begun.syncD t).full), .d (.bool (d.begun.syncD t).off), .d (.int .i64 (d.begun.syncD t).stop), .d (.int .i64 (d.begun.syncD t).calls)], .row 2 (List.map fileD (d.begun.syncD t).files) false, .cells [.row 4, .row 5], .row 1 (List.map strD (d.begun.syncD t).nk) false, .row 1 (List.map intD (d.begun.syncD t).nv) false, .row 3 (List.map chD (d.begun.syncD t).ch) false] [.cells [.d (.int .i64 c), .d (.int .i64 s), .d (.int .i64 (chk 0 (d.begun.err true [t]))), .ptr 1 0 0, .d (.str x)], .cells [.row 2, .ptr 3 0 0, .ep 2 (dirD (d.begun.syncD t).sk (d.begun.syncD t).sv) 0, .row 6, .d (.int .i64 (d.begun.syncD t).quota), .d (.bool (d.begun.syncD t).full), .d (.bool (d.begun.syncD t).off), .d (.int .i64 (d.begun.syncD t).stop), .d (.int .i64 (d.begun.syncD t).calls)], .row 2 (List.map fileD (d.begun.syncD t).files) false, .cells [.row 4, .row 5], .row 1 (List.map strD (d.begun.syncD t).nk) false, .row 1 (List.map intD (d.begun.syncD t).nv) false, .row 3 (List.map chD (d.begun.syncD t).ch) false] (v := .d (.int .i64 (d.begun.err true [t]))) (by kernel_rfl) rfl (by kernel_rfl) (by kernel_rfl) F88 (@spec_88 (c) (s) (0) (x) (d.begun.syncD t) (d.begun.err true [t])) (by kernel_rfl) (by kernel_rfl) (by kernel_rfl) (by kernel_rfl) ⟨rfl, rfl, by kernel_rfl⟩ (by kernel_rfl) (by kernel_rfl) (by kernel_rfl) (by kernel_rfl) (by kernel_rfl) rfl rfl) ?_
      exact Run.fin
    refine .sg0 5 [0, 4, 5, 11, 78] (cgo 47 [false, false] [.code B89]) [(78, .d (.bool (d.begun.err true [t] != 0)))] ?_
    refine .if' (d.begun.err true [t] != 0) (cgo 48 [false, false, true] [.code B89]) (cgo 48 [false, false, false] [.code B89]) (fun h10 => ?_) (fun h10 => ?_)
    · simp only [bsX] at h10
      refine .seg 5 [0, 4, 5] (T' := cgo 53 [false, false, true] [.code B89]) (tm' := mk 106 [(0, .ptr 0 0 0), (4, .d (.int .i64 (d.begun.err true [t]))), (5, .d (.str t))]) (σ' := [.cells [.d (.int .i64 c), .d (.int .i64 s), .d (.int .i64 (chk 0 (d.begun.err true [t]))), .ptr 1 0 0, .d (.str x)], .cells [.row 2, .ptr 3 0 0, .ep 2 (D.agg [D.list 1 (List.map strD (d.begun.syncD t).sk), D.list 1 (List.map intD (d.begun.syncD t).sv)]) 0, .row 6, .d (.int .i64 (d.begun.syncD t).quota), .d (.bool (d.begun.syncD t).full), .d (.bool (d.begun.syncD t).off), .d (.int .i64 (d.begun.syncD t).stop), .d (.int .i64 (d.begun.syncD t).calls)], .row 2 (List.map fileD (d.begun.syncD t).files) true, .cells [.row 4, .row 5], .row 1 (List.map strD (d.begun.syncD t).nk) true, .row 1 (List.map intD (d.begun.syncD t).nv) true, .row 3 (List.map chD (d.begun.syncD t).ch) true]) (by kernel_rfl) ?_
      refine .retH F89 (v := V.d (D.int IntKind.i64 (d.begun.err true [t]))) (by kernel_rfl) (by kernel_rfl) ?_
      simp_all [SL, dirD, chk, wrT]
    · simp only [bsX] at h10
      refine .sg0 3 [0, 4, 5] (cgo 51 [false, false, false] [.code B89]) [] ?_
      refine .dr (cgo 52 [false, false, false] [.code B89]) [(12, .d (.int .i64 ((d.begun.syncD t).begun.err true [t, x]))), (80, .ptr 0 0 0), (81, .ptr 0 0 0), (82, .ptr 0 0 0), (83, .ptr 0 0 0), (84, .ptr 0 0 0), (85, .ptr 0 0 3), (86, .ptr 1 0 0), (87, .d (.str t)), (88, .ptr 0 0 0), (89, .ptr 0 0 0), (90, .ptr 0 0 4), (91, .d (.str x)), (92, .d (.int .i64 ((d.begun.syncD t).begun.err true [t, x]))), (93, .d (.int .i64 ((d.begun.syncD t).begun.err true [t, x])))] [(0, .cells [.d (.int .i64 c), .d (.int .i64 s), .d (.int .i64 (chk (chk 0 (d.begun.err true [t])) ((d.begun.syncD t).begun.err true [t, x]))), .ptr 1 0 0, .d (.str x)]), (1, .cells [.row 2, .ptr 3 0 0, .ep 2 (D.agg [D.list 1 (List.map strD ((d.begun.syncD t).begun.renameD t x).sk), D.list 1 (List.map intD ((d.begun.syncD t).begun.renameD t x).sv)]) 0, .row 6, .d (.int .i64 ((d.begun.syncD t).begun.renameD t x).quota), .d (.bool ((d.begun.syncD t).begun.renameD t x).full), .d (.bool ((d.begun.syncD t).begun.renameD t x).off), .d (.int .i64 ((d.begun.syncD t).begun.renameD t x).stop), .d (.int .i64 ((d.begun.syncD t).begun.renameD t x).calls)]), (2, .row 2 (List.map fileD ((d.begun.syncD t).begun.renameD t x).files) true), (4, .row 1 (List.map strD ((d.begun.syncD t).begun.renameD t x).nk) true), (5, .row 1 (List.map intD ((d.begun.syncD t).begun.renameD t x).nv) true), (6, .row 3 (List.map chD ((d.begun.syncD t).begun.renameD t x).ch) true)] (fun kz L hL => ?_) ?_
      · refine ⟨[⟨[], [], [], [0], [0], [], true, false⟩, ⟨[], [], [], [0], [0], [0], true, false⟩, ⟨[], [], [], [0], [0], [0], true, false⟩, ⟨[], [], [], [0], [0], [], true, false⟩, ⟨[], [], [], [0], [0], [0], true, false⟩, ⟨[], [], [], [0], [0], [0], true, false⟩, ⟨[0], [], [], [1], [0, 1], [], true, false⟩, ⟨[], [], [], [], [], [], true, false⟩, ⟨[], [], [], [0], [0], [], true, false⟩, ⟨[], [], [], [0], [0], [0], true, false⟩, ⟨[], [], [], [0], [0], [0], true, false⟩, ⟨[0], [], [], [], [0, 1], [], true, false⟩, ⟨[1, 2, 3, 4, 5, 6], [1, 2, 3, 4, 5, 6], [2, 4, 5, 6], [2, 3, 6, 4, 5], [1, 2, 3, 6, 4, 5], [], true, false⟩, ⟨[0, 1, 2, 3, 4, 5, 6], [0, 1, 2, 3, 4, 5, 6], [], [1, 2, 3, 6, 4, 5], [0, 1, 2, 3, 6, 4, 5], [], true, false⟩, ⟨[], [], [], [], [], [], true, false⟩], run_amongF hL _ [] [0, 1, 2, 3, 4, 5, 6, 7, 8, 9, 10, 11, 12, 13, 14] (by intro p hp; cases hp) (by kernel_rfl) ?_⟩
        refine Run.ap [0, 1, 2, 3, 4, 5, 6, 7, 8, 9, 10, 11] [(80, .ptr 0 0 0), (81, .ptr 0 0 0), (82, .ptr 0 0 0), (83, .ptr 0 0 0), (84, .ptr 0 0 0), (85, .ptr 0 0 3), (86, .ptr 1 0 0), (87, .d (.str t)), (88, .ptr 0 0 0), (89, .ptr 0 0 0), (90, .ptr 0 0 4), (91, .d (.str x))] [] ?_
        refine Run.one (StepF.call (o := ((drawOf (cgo 51 [false, false, false] [.code B89]))[12]?).getD default) (x := (.func 34)) (args := #[(.tmp 86), (.tmp 87), (.tmp 91)]) (ts := #[40, 9, 9]) (first := []) (cap := []) [1, 2, 3, 4, 5, 6] [.ptr 0 0 0, .d (.str t), .d (.str x)] [.cells [.row 1, .ptr 2 0 0, .ep 2 (D.agg [D.list 1 (List.map strD (d.begun.syncD t).sk), D.list 1 (List.map intD (d.begun.syncD t).sv)]) 0, .row 5, .d (.int .i64 (d.begun.syncD t).quota), .d (.bool (d.begun.syncD t).full), .d (.bool (d.begun.syncD t).off), .d (.int .i64 (d.begun.syncD t).stop), .d (.int .i64 (d.begun.syncD t).calls)], .row 2 (List.map fileD (d.begun.syncD t).files) false, .cells [.row 3, .row 4], .row 1 (List.map strD (d.begun.syncD t).nk) false, .row 1 (List.map intD (d.begun.syncD t).nv) false, .row 3 (List.map chD (d.begun.syncD t).ch) false] [.cells [.row 1, .ptr 2 0 0, .ep 2 (dirD ((d.begun.syncD t).begun.renameD t x).sk ((d.begun.syncD t).begun.renameD t x).sv) 0, .row 5, .d (.int .i64 ((d.begun.syncD t).begun.renameD t x).quota), .d (.bool ((d.begun.syncD t).begun.renameD t x).full), .d (.bool ((d.begun.syncD t).begun.renameD t x).off), .d (.int .i64 ((d.begun.syncD t).begun.renameD t x).stop), .d (.int .i64 ((d.begun.syncD t).begun.renameD t x).calls)], .row 2 (List.map fileD ((d.begun.syncD t).begun.renameD t x).files) true, .cells [.row 3, .row 4], .row 1 (List.map strD ((d.begun.syncD t).begun.renameD t x).nk) true, .row 1 (List.map intD ((d.begun.syncD t).begun.renameD t x).nv) true, .row 3 (List.map chD ((d.begun.syncD t).begun.renameD t x).ch) true] (v := .d (.int .i64 ((d.begun.syncD t).begun.err true [t, x]))) (by kernel_rfl) rfl (by kernel_rfl) (by kernel_rfl) F34 (@spec_34 (d.begun.syncD t) (M + 1) (by assumption) (by omega) (t) (x) (by assumption) (by assumption)) (by kernel_rfl) (by kernel_rfl) (by kernel_rfl) (by kernel_rfl) ⟨rfl, rfl, by kernel_rfl⟩ (by kernel_rfl) (by kernel_rfl) (by kernel_rfl) (by kernel_rfl) (by kernel_rfl) rfl rfl) ?_
        refine Run.one (StepF.call (o := ((drawOf (cgo 51 [false, false, false] [.code B89]))[13]?).getD default) (x := (.func 88)) (args := #[(.tmp 82), (.tmp 92)]) (ts := #[141, 23]) (first := []) (cap := []) [0, 1, 2, 3, 4, 5, 6] [.ptr 0 0 0, .d (.int .i64 ((d.begun.syncD t).begun.err true [t, x]))] [.cells [.d (.int .i64 c), .d (.int .i64 s), .d (.int .i64 (chk 0 (d.begun.err true [t]))), .ptr 1 0 0, .d (.str x)], .cells [.row 2, .ptr 3 0 0, .ep 2 (D.agg [D.list 1 (List.map strD ((d.begun.syncD t).begun.renameD t x).sk), D.list 1 (List.map intD ((d.begun.syncD t).begun.renameD t x).sv)]) 0, .row 6, .d (.int .i64 ((d.begun.syncD t).begun.renameD t x).quota), .d (.bool ((d.begun.syncD t).begun.renameD t x).full), .d (.bool ((d.begun.syncD t).begun.renameD t x).off), .d (.int .i64 ((d.begun.syncD t).begun.renameD t x).stop), .d (.int .i64 ((d.begun.syncD t).begun.renameD t x).calls)], .row 2 (List.map fileD ((d.begun.syncD t).begun.renameD t x).files) false, .cells [.row 4, .row 5], .row 1 (List.map strD ((d.begun.syncD t).begun.renameD t x).nk) false, .row 1 (List.map intD ((d.begun.syncD t).begun.renameD t x).nv) false, .row 3 (List.map chD ((d.begun.syncD t).begun.renameD t x).ch) false] [.cells [.d (.int .i64 c), .d (.int .i64 s), .d (.int .i64 (chk (chk 0 (d.begun.err true [t])) ((d.begun.syncD t).begun.err true [t, x]))), .ptr 1 0 0, .d (.str x)], .cells [.row 2, .ptr 3 0 0, .ep 2 (dirD ((d.begun.syncD t).begun.renameD t x).sk ((d.begun.syncD t).begun.renameD t x).sv) 0, .row 6, .d (.int .i64 ((d.begun.syncD t).begun.renameD t x).quota), .d (.bool ((d.begun.syncD t).begun.renameD t x).full), .d (.bool ((d.begun.syncD t).begun.renameD t x).off), .d (.int .i64 ((d.begun.syncD t).begun.renameD t x).stop), .d (.int .i64 ((d.begun.syncD t).begun.renameD t x).calls)], .row 2 (List.map fileD ((d.begun.syncD t).begun.renameD t x).files) false, .cells [.row 4, .row 5], .row 1 (List.map strD ((d.begun.syncD t).begun.renameD t x).nk) false, .row 1 (List.map intD ((d.begun.syncD t).begun.renameD t x).nv) false, .row 3 (List.map chD ((d.begun.syncD t).begun.renameD t x).ch) false] (v := .d (.int .i64 ((d.begun.syncD t).begun.err true [t, x]))) (by kernel_rfl) rfl (by kernel_rfl) (by kernel_rfl) F88 (@spec_88 (c) (s) (chk 0 (d.begun.err true [t])) (x) ((d.begun.syncD t).begun.renameD t x) ((d.begun.syncD t).begun.err true [t, x])) (by kernel_rfl) (by kernel_rfl) (by kernel_rfl) (by kernel_rfl) ⟨rfl, rfl, by kernel_rfl⟩ (by kernel_rfl) (by kernel_rfl) (by kernel_rfl) (by kernel_rfl) (by kernel_rfl) rfl rfl) ?_
        exact Run.fin
      refine .sg0 5 [0, 4, 12, 95] (cgo 57 [false, false, false] [.code B89]) [(95, .d (.bool ((d.begun.syncD t).begun.err true [t, x] != 0)))] ?_
      refine .if' ((d.begun.syncD t).begun.err true [t, x] != 0) (cgo 58 [false, false, false, true] [.code B89]) (cgo 58 [false, false, false, false] [.code B89]) (fun h17 => ?_) (fun h17 => ?_)
      · simp only [bsX] at h17
        refine .seg 5 [0, 4] (T' := cgo 63 [false, false, false, true] [.code B89]) (tm' := mk 106 [(0, .ptr 0 0 0), (4, .d (.int .i64 ((d.begun.syncD t).begun.err true [t, x])))]) (σ' := [.cells [.d (.int .i64 c), .d (.int .i64 s), .d (.int .i64 (chk (chk 0 (d.begun.err true [t])) ((d.begun.syncD t).begun.err true [t, x]))), .ptr 1 0 0, .d (.str x)], .cells [.row 2, .ptr 3 0 0, .ep 2 (D.agg [D.list 1 (List.map strD ((d.begun.syncD t).begun.renameD t x).sk), D.list 1 (List.map intD ((d.begun.syncD t).begun.renameD t x).sv)]) 0, .row 6, .d (.int .i64 ((d.begun.syncD t).begun.renameD t x).quota), .d (.bool ((d.begun.syncD t).begun.renameD t x).full), .d (.bool ((d.begun.syncD t).begun.renameD t x).off), .d (.int .i64 ((d.begun.syncD t).begun.renameD t x).stop), .d (.int .i64 ((d.begun.syncD t).begun.renameD t x).calls)], .row 2 (List.map fileD ((d.begun.syncD t).begun.renameD t x).files) true, .cells [.row 4, .row 5], .row 1 (List.map strD ((d.begun.syncD t).begun.renameD t x).nk) true, .row 1 (List.map intD ((d.begun.syncD t).begun.renameD t x).nv) true, .row 3 (List.map chD ((d.begun.syncD t).begun.renameD t x).ch) true]) (by kernel_rfl) ?_
        refine .retH F89 (v := V.d (D.int IntKind.i64 ((d.begun.syncD t).begun.err true [t, x]))) (by kernel_rfl) (by kernel_rfl) ?_
        simp_all [SL, dirD, chk, wrT]
      · simp only [bsX] at h17
        refine .sg0 2 [0, 4] (cgo 60 [false, false, false, false] [.code B89]) [] ?_
        refine .drawF (T' := cgo 61 [false, false, false, false] [.code B89]) (tm' := mk 106 [(0, .ptr 0 0 0), (4, .d (.int .i64 (((d.begun.syncD t).begun.renameD t x).begun.err false []))), (97, .ptr 0 0 0), (98, .ptr 0 0 0), (99, .ptr 0 0 0), (100, .ptr 0 0 0), (101, .ptr 0 0 0), (102, .ptr 0 0 3), (103, .ptr 1 0 0), (104, .d (.int .i64 (((d.begun.syncD t).begun.renameD t x).begun.err false []))), (105, .d (.int .i64 (((d.begun.syncD t).begun.renameD t x).begun.err false [])))]) (σ' := [.cells [.d (.int .i64 c), .d (.int .i64 s), .d (.int .i64 (chk (chk (chk 0 (d.begun.err true [t])) ((d.begun.syncD t).begun.err true [t, x])) (((d.begun.syncD t).begun.renameD t x).begun.err false []))), .ptr 1 0 0, .d (.str x)], .cells [.row 2, .ptr 3 0 0, .ep 2 (D.agg [D.list 1 (List.map strD ((d.begun.syncD t).begun.renameD t x).begun.syncDirD.sk), D.list 1 (List.map intD ((d.begun.syncD t).begun.renameD t x).begun.syncDirD.sv)]) 0, .row 6, .d (.int .i64 ((d.begun.syncD t).begun.renameD t x).begun.syncDirD.quota), .d (.bool ((d.begun.syncD t).begun.renameD t x).begun.syncDirD.full), .d (.bool ((d.begun.syncD t).begun.renameD t x).begun.syncDirD.off), .d (.int .i64 ((d.begun.syncD t).begun.renameD t x).begun.syncDirD.stop), .d (.int .i64 ((d.begun.syncD t).begun.renameD t x).begun.syncDirD.calls)], .row 2 (List.map fileD ((d.begun.syncD t).begun.renameD t x).begun.syncDirD.files) true, .cells [.row 4, .row 5], .row 1 (List.map strD ((d.begun.syncD t).begun.renameD t x).begun.syncDirD.nk) true, .row 1 (List.map intD ((d.begun.syncD t).begun.renameD t x).begun.syncDirD.nv) true, .row 3 (List.map chD ((d.begun.syncD t).begun.renameD t x).begun.syncDirD.ch) true]) (by kernel_rfl) (by kernel_rfl) (by kernel_rfl) (by kernel_rfl) (fun kz L hL => ?_) ?_
        · refine ⟨[⟨[], [], [], [0], [0], [], true, false⟩, ⟨[], [], [], [0], [0], [0], true, false⟩, ⟨[], [], [], [0], [0], [0], true, false⟩, ⟨[], [], [], [0], [0], [], true, false⟩, ⟨[], [], [], [0], [0], [0], true, false⟩, ⟨[], [], [], [0], [0], [0], true, false⟩, ⟨[0], [], [], [1], [0, 1], [], true, false⟩, ⟨[1, 2, 3, 4, 5, 6], [1, 2, 3, 4, 5, 6], [2, 4, 5, 6], [2, 3, 6, 4, 5], [1, 2, 3, 6, 4, 5], [], true, false⟩, ⟨[0, 1, 2, 3, 4, 5, 6], [0, 1, 2, 3, 4, 5, 6], [], [1, 2, 3, 6, 4, 5], [0, 1, 2, 3, 6, 4, 5], [], true, false⟩, ⟨[], [], [], [], [], [], true, false⟩], run_amongF hL _ [] [0, 1, 2, 3, 4, 5, 6, 7, 8, 9] (by intro p hp; cases hp) (by kernel_rfl) ?_⟩
          refine Run.ap [0, 1, 2, 3, 4, 5, 6] [(97, .ptr 0 0 0), (98, .ptr 0 0 0), (99, .ptr 0 0 0), (100, .ptr 0 0 0), (101, .ptr 0 0 0), (102, .ptr 0 0 3), (103, .ptr 1 0 0)] [] ?_
          refine Run.one (StepF.call (o := ((drawOf (cgo 60 [false, false, false, false] [.code B89]))[7]?).getD default) (x := (.func 33)) (args := #[(.tmp 103)]) (ts := #[40]) (first := []) (cap := []) [1, 2, 3, 4, 5, 6] [.ptr 0 0 0] [.cells [.row 1, .ptr 2 0 0, .ep 2 (D.agg [D.list 1 (List.map strD ((d.begun.syncD t).begun.renameD t x).sk), D.list 1 (List.map intD ((d.begun.syncD t).begun.renameD t x).sv)]) 0, .row 5, .d (.int .i64 ((d.begun.syncD t).begun.renameD t x).quota), .d (.bool ((d.begun.syncD t).begun.renameD t x).full), .d (.bool ((d.begun.syncD t).begun.renameD t x).off), .d (.int .i64 ((d.begun.syncD t).begun.renameD t x).stop), .d (.int .i64 ((d.begun.syncD t).begun.renameD t x).calls)], .row 2 (List.map fileD ((d.begun.syncD t).begun.renameD t x).files) false, .cells [.row 3, .row 4], .row 1 (List.map strD ((d.begun.syncD t).begun.renameD t x).nk) false, .row 1 (List.map intD ((d.begun.syncD t).begun.renameD t x).nv) false, .row 3 (List.map chD ((d.begun.syncD t).begun.renameD t x).ch) false] [.cells [.row 1, .ptr 2 0 0, .ep 2 (dirD ((d.begun.syncD t).begun.renameD t x).begun.syncDirD.sk ((d.begun.syncD t).begun.renameD t x).begun.syncDirD.sv) 0, .row 5, .d (.int .i64 ((d.begun.syncD t).begun.renameD t x).begun.syncDirD.quota), .d (.bool ((d.begun.syncD t).begun.renameD t x).begun.syncDirD.full), .d (.bool ((d.begun.syncD t).begun.renameD t x).begun.syncDirD.off), .d (.int .i64 ((d.begun.syncD t).begun.renameD t x).begun.syncDirD.stop), .d (.int .i64 ((d.begun.syncD t).begun.renameD t x).begun.syncDirD.calls)], .row 2 (List.map fileD ((d.begun.syncD t).begun.renameD t x).begun.syncDirD.files) true, .cells [.row 3, .row 4], .row 1 (List.map strD ((d.begun.syncD t).begun.renameD t x).begun.syncDirD.nk) true, .row 1 (List.map intD ((d.begun.syncD t).begun.renameD t x).begun.syncDirD.nv) true, .row 3 (List.map chD ((d.begun.syncD t).begun.renameD t x).begun.syncDirD.ch) true] (v := .d (.int .i64 (((d.begun.syncD t).begun.renameD t x).begun.err false []))) (by kernel_rfl) rfl (by kernel_rfl) (by kernel_rfl) F33 (@spec_33 ((d.begun.syncD t).begun.renameD t x) (M + 1 + 1 + 1) (by assumption) (by omega)) (by kernel_rfl) (by kernel_rfl) (by kernel_rfl) (by kernel_rfl) ⟨rfl, rfl, by kernel_rfl⟩ (by kernel_rfl) (by kernel_rfl) (by kernel_rfl) (by kernel_rfl) (by kernel_rfl) rfl rfl) ?_
          refine Run.one (StepF.call (o := ((drawOf (cgo 60 [false, false, false, false] [.code B89]))[8]?).getD default) (x := (.func 88)) (args := #[(.tmp 99), (.tmp 104)]) (ts := #[141, 23]) (first := []) (cap := []) [0, 1, 2, 3, 4, 5, 6] [.ptr 0 0 0, .d (.int .i64 (((d.begun.syncD t).begun.renameD t x).begun.err false []))] [.cells [.d (.int .i64 c), .d (.int .i64 s), .d (.int .i64 (chk (chk 0 (d.begun.err true [t])) ((d.begun.syncD t).begun.err true [t, x]))), .ptr 1 0 0, .d (.str x)], .cells [.row 2, .ptr 3 0 0, .ep 2 (D.agg [D.list 1 (List.map strD ((d.begun.syncD t).begun.renameD t x).begun.syncDirD.sk), D.list 1 (List.map intD ((d.begun.syncD t).begun.renameD t x).begun.syncDirD.sv)]) 0, .row 6, .d (.int .i64 ((d.begun.syncD t).begun.renameD t x).begun.syncDirD.quota), .d (.bool ((d.begun.syncD t).begun.renameD t x).begun.syncDirD.full), .d (.bool ((d.begun.syncD t).begun.renameD t x).begun.syncDirD.off), .d (.int .i64 ((d.begun.syncD t).begun.renameD t x).begun.syncDirD.stop), .d (.int .i64 ((d.begun.syncD t).begun.renameD t x).begun.syncDirD.calls)], .row 2 (List.map fileD ((d.begun.syncD t).begun.renameD t x).begun.syncDirD.files) false, .cells [.row 4, .row 5], .row 1 (List.map strD ((d.begun.syncD t).begun.renameD t x).begun.syncDirD.nk) false, .row 1 (List.map intD ((d.begun.syncD t).begun.renameD t x).begun.syncDirD.nv) false, .row 3 (List.map chD ((d.begun.syncD t).begun.renameD t x).begun.syncDirD.ch) false] [.cells [.d (.int .i64 c), .d (.int .i64 s), .d (.int .i64 (chk (chk (chk 0 (d.begun.err true [t])) ((d.begun.syncD t).begun.err true [t, x])) (((d.begun.syncD t).begun.renameD t x).begun.err false []))), .ptr 1 0 0, .d (.str x)], .cells [.row 2, .ptr 3 0 0, .ep 2 (dirD ((d.begun.syncD t).begun.renameD t x).begun.syncDirD.sk ((d.begun.syncD t).begun.renameD t x).begun.syncDirD.sv) 0, .row 6, .d (.int .i64 ((d.begun.syncD t).begun.renameD t x).begun.syncDirD.quota), .d (.bool ((d.begun.syncD t).begun.renameD t x).begun.syncDirD.full), .d (.bool ((d.begun.syncD t).begun.renameD t x).begun.syncDirD.off), .d (.int .i64 ((d.begun.syncD t).begun.renameD t x).begun.syncDirD.stop), .d (.int .i64 ((d.begun.syncD t).begun.renameD t x).begun.syncDirD.calls)], .row 2 (List.map fileD ((d.begun.syncD t).begun.renameD t x).begun.syncDirD.files) false, .cells [.row 4, .row 5], .row 1 (List.map strD ((d.begun.syncD t).begun.renameD t x).begun.syncDirD.nk) false, .row 1 (List.map intD ((d.begun.syncD t).begun.renameD t x).begun.syncDirD.nv) false, .row 3 (List.map chD ((d.begun.syncD t).begun.renameD t x).begun.syncDirD.ch) false] (v := .d (.int .i64 (((d.begun.syncD t).begun.renameD t x).begun.err false []))) (by kernel_rfl) rfl (by kernel_rfl) (by kernel_rfl) F88 (@spec_88 (c) (s) (chk (chk 0 (d.begun.err true [t])) ((d.begun.syncD t).begun.err true [t, x])) (x) (((d.begun.syncD t).begun.renameD t x).begun.syncDirD) (((d.begun.syncD t).begun.renameD t x).begun.err false [])) (by kernel_rfl) (by kernel_rfl) (by kernel_rfl) (by kernel_rfl) ⟨rfl, rfl, by kernel_rfl⟩ (by kernel_rfl) (by kernel_rfl) (by kernel_rfl) (by kernel_rfl) (by kernel_rfl) rfl rfl) ?_
          exact Run.fin
        refine .retH F89 (v := V.d (D.int IntKind.i64 (((d.begun.syncD t).begun.renameD t x).begun.err false []))) (by kernel_rfl) (by kernel_rfl) ?_
        simp_all [SL, dirD, chk, wrT]
theorem lo89 (c s : Int) (x t : ByteArray) (hx : x.size < 1000) (ht : t.size < 1000000000) (fs : List (List UInt8)) (hfs : ∀ f ∈ fs, f.length < 1000000) (hl : fs.length < 1000000) : ∀ (m i : Nat) (d : Dk) (M : Nat) (_ : d.Ok M), i + m = fs.length → M + m + 10 ≤ 50000 →
    AW Try.prog 89 none 7 (cgo 32 [false] [Item.code B89]) (mk 106 [(0, V.ptr 0 0 0), (4, V.d (D.int IntKind.i64 0)), (5, V.d (D.str t)), (31, V.d (D.list 1 (List.map bsD fs))), (32, V.d (D.int IntKind.i64 (fs.length : Nat))), (33, V.d (D.int IntKind.i64 (i : Nat)))]) (SL c s 0 x d true) []
      fun r σ' => r = .ret (.d (.int .i64 (wrG t x (fs.drop i) d).1)) ∧ σ' = SL c s (wrG t x (fs.drop i) d).2.1 x (wrG t x (fs.drop i) d).2.2 true := by
  intro m
  induction m with
  | zero =>
    intro i d M h hi hM
    have hi : i = fs.length := by omega
    subst hi
    rw [List.drop_length]
    exact wt89 c s x t hx ht fs d M h (by omega)
  | succ m ih =>
    intro i d M h hi hM
    obtain ⟨f, hf⟩ := get_some (l := fs) (i := i) (by omega)
    have hfl : f.length < 1000000000 := by have := hfs f (List.mem_of_getElem? hf); omega
    have h1 := Dk.appendD_ok (Dk.begun_ok h (by omega)) t f
    have ih1 := ih (i + 1) (d.begun.appendD t f) (M + 1) h1 (by omega) (by omega)
    clear ih
    rw [drop_get hf]
    simp only [wrG]
    refine .sg0 5 [0, 4, 5, 31, 32, 33, 34] (cgo 37 [false] [.code B89]) [(34, .d (.bool (decide ((↑i : Int) < (↑fs.length : Int)))))] ?_
    refine .if' (decide ((↑i : Int) < (↑fs.length : Int))) (cgo 38 [false, true] [.code B89]) (cgo 38 [false, false] [.code B89]) (fun h2 => ?_) (fun h2 => ?_)
    · simp only [bsX] at h2
      refine .sg0 5 [0, 4, 5, 31, 32, 33, 34] (cgo 43 [false, true] [.code B89]) [] ?_
      refine .op' (cgo 44 [false, true] [.code B89]) (ixData_ok (t := 26) (x := (.tmp 31)) (i := (.tmp 33)) (k := IntKind.i64) (n := (↑i : Int)) (sz := 1) (xs := List.map bsD fs) (d := bsD f) (by kernel_rfl) (by kernel_rfl) (by kernel_rfl) (by kernel_rfl) (by omega) (map_get hf)) ?_
      refine .sg0 11 [0, 4, 5, 8, 31, 32, 33, 34, 35, 36, 37, 38, 39, 40, 41, 42] (cgo 55 [false, true] [.code B89]) [(8, .d (.list 1 (List.map u8 f))), (36, .d (.list 1 (List.map u8 f))), (37, .ptr 0 0 0), (38, .ptr 0 0 0), (39, .ptr 0 0 3), (40, .ptr 1 0 0), (41, .d (.str t)), (42, .d (.list 1 (List.map u8 f)))] ?_
      refine .ca [1, 2, 3, 4, 5, 6] (cgo 56 [false, true] [.code B89]) F31 (@spec_31 (d) (M) (by assumption) (by omega) (t) (by assumption) (f) (by assumption)) ?_
      rintro r2 s2 ⟨rfl, rfl⟩
      refine ⟨_, rfl, ?_⟩
      refine .sg0 8 [0, 4, 5, 8, 9, 31, 32, 33, 34, 35, 36, 37, 38, 39, 40, 41, 42, 43, 44, 45] (cgo 64 [false, true] [.code B89]) [(9, .d (.int .i64 (d.begun.appendE t f))), (44, .d (.int .i64 (d.begun.appendE t f))), (45, .d (.bool (d.begun.appendE t f == 4)))] ?_
      refine .if' (d.begun.appendE t f == 4) (cgo 65 [false, true, true] [.code B89]) (cgo 65 [false, true, false] [.code B89]) (fun h4 => ?_) (fun h4 => ?_)
      · simp only [bsX] at h4
        refine .sg0 2 [0, 4, 5, 8, 9, 31, 32, 33, 34, 35, 36, 37, 38, 39, 40, 41, 42, 43, 44, 45] (cgo 67 [false, true, true] [.code B89]) [] ?_
        refine .dr (cgo 68 [false, true, true] [.code B89]) [(10, .d (.int .i64 ((d.begun.appendD t f).begun.err true [t]))), (46, .ptr 0 0 0), (47, .ptr 0 0 0), (48, .ptr 0 0 0), (49, .ptr 0 0 0), (50, .ptr 0 0 0), (51, .ptr 0 0 3), (52, .ptr 1 0 0), (53, .d (.str t)), (54, .d (.int .i64 ((d.begun.appendD t f).begun.err true [t]))), (55, .d (.int .i64 ((d.begun.appendD t f).begun.err true [t])))] [(0, .cells [.d (.int .i64 c), .d (.int .i64 s), .d (.int .i64 (chk 0 ((d.begun.appendD t f).begun.err true [t]))), .ptr 1 0 0, .d (.str x)]), (1, .cells [.row 2, .ptr 3 0 0, .ep 2 (D.agg [D.list 1 (List.map strD ((d.begun.appendD t f).begun.removeD t).sk), D.list 1 (List.map intD ((d.begun.appendD t f).begun.removeD t).sv)]) 0, .row 6, .d (.int .i64 ((d.begun.appendD t f).begun.removeD t).quota), .d (.bool ((d.begun.appendD t f).begun.removeD t).full), .d (.bool ((d.begun.appendD t f).begun.removeD t).off), .d (.int .i64 ((d.begun.appendD t f).begun.removeD t).stop), .d (.int .i64 ((d.begun.appendD t f).begun.removeD t).calls)]), (2, .row 2 (List.map fileD ((d.begun.appendD t f).begun.removeD t).files) true), (4, .row 1 (List.map strD ((d.begun.appendD t f).begun.removeD t).nk) true), (5, .row 1 (List.map intD ((d.begun.appendD t f).begun.removeD t).nv) true), (6, .row 3 (List.map chD ((d.begun.appendD t f).begun.removeD t).ch) true)] (fun kz L hL => ?_) ?_
        · refine ⟨[⟨[], [], [], [0], [0], [], true, false⟩, ⟨[], [], [], [0], [0], [0], true, false⟩, ⟨[], [], [], [0], [0], [0], true, false⟩, ⟨[], [], [], [0], [0], [], true, false⟩, ⟨[], [], [], [0], [0], [0], true, false⟩, ⟨[], [], [], [0], [0], [0], true, false⟩, ⟨[0], [], [], [1], [0, 1], [], true, false⟩, ⟨[], [], [], [], [], [], true, false⟩, ⟨[1, 2, 3, 4, 5, 6], [1, 2, 3, 4, 5, 6], [2, 4, 5, 6], [2, 3, 6, 4, 5], [1, 2, 3, 6, 4, 5], [], true, false⟩, ⟨[0, 1, 2, 3, 4, 5, 6], [0, 1, 2, 3, 4, 5, 6], [], [1, 2, 3, 6, 4, 5], [0, 1, 2, 3, 6, 4, 5], [], true, false⟩, ⟨[], [], [], [], [], [], true, false⟩], run_amongF hL _ [] [0, 1, 2, 3, 4, 5, 6, 7, 8, 9, 10] (by intro p hp; cases hp) (by kernel_rfl) ?_⟩
          refine Run.ap [0, 1, 2, 3, 4, 5, 6, 7] [(46, .ptr 0 0 0), (47, .ptr 0 0 0), (48, .ptr 0 0 0), (49, .ptr 0 0 0), (50, .ptr 0 0 0), (51, .ptr 0 0 3), (52, .ptr 1 0 0), (53, .d (.str t))] [] ?_
          refine Run.one (StepF.call (o := ((drawOf (cgo 67 [false, true, true] [.code B89]))[8]?).getD default) (x := (.func 78)) (args := #[(.tmp 52), (.tmp 53)]) (ts := #[40, 9]) (first := []) (cap := []) [1, 2, 3, 4, 5, 6] [.ptr 0 0 0, .d (.str t)] [.cells [.row 1, .ptr 2 0 0, .ep 2 (D.agg [D.list 1 (List.map strD (d.begun.appendD t f).sk), D.list 1 (List.map intD (d.begun.appendD t f).sv)]) 0, .row 5, .d (.int .i64 (d.begun.appendD t f).quota), .d (.bool (d.begun.appendD t f).full), .d (.bool (d.begun.appendD t f).off), .d (.int .i64 (d.begun.appendD t f).stop), .d (.int .i64 (d.begun.appendD t f).calls)], .row 2 (List.map fileD (d.begun.appendD t f).files) false, .cells [.row 3, .row 4], .row 1 (List.map strD (d.begun.appendD t f).nk) false, .row 1 (List.map intD (d.begun.appendD t f).nv) false, .row 3 (List.map chD (d.begun.appendD t f).ch) false] [.cells [.row 1, .ptr 2 0 0, .ep 2 (dirD ((d.begun.appendD t f).begun.removeD t).sk ((d.begun.appendD t f).begun.removeD t).sv) 0, .row 5, .d (.int .i64 ((d.begun.appendD t f).begun.removeD t).quota), .d (.bool ((d.begun.appendD t f).begun.removeD t).full), .d (.bool ((d.begun.appendD t f).begun.removeD t).off), .d (.int .i64 ((d.begun.appendD t f).begun.removeD t).stop), .d (.int .i64 ((d.begun.appendD t f).begun.removeD t).calls)], .row 2 (List.map fileD ((d.begun.appendD t f).begun.removeD t).files) true, .cells [.row 3, .row 4], .row 1 (List.map strD ((d.begun.appendD t f).begun.removeD t).nk) true, .row 1 (List.map intD ((d.begun.appendD t f).begun.removeD t).nv) true, .row 3 (List.map chD ((d.begun.appendD t f).begun.removeD t).ch) true] (v := .d (.int .i64 ((d.begun.appendD t f).begun.err true [t]))) (by kernel_rfl) rfl (by kernel_rfl) (by kernel_rfl) F78 (@spec_78 (d.begun.appendD t f) (M + 1) (by assumption) (by omega) (t) (by assumption)) (by kernel_rfl) (by kernel_rfl) (by kernel_rfl) (by kernel_rfl) ⟨rfl, rfl, by kernel_rfl⟩ (by kernel_rfl) (by kernel_rfl) (by kernel_rfl) (by kernel_rfl) (by kernel_rfl) rfl rfl) ?_
          refine Run.one (StepF.call (o := ((drawOf (cgo 67 [false, true, true] [.code B89]))[9]?).getD default) (x := (.func 88)) (args := #[(.tmp 48), (.tmp 54)]) (ts := #[141, 23]) (first := []) (cap := []) [0, 1, 2, 3, 4, 5, 6] [.ptr 0 0 0, .d (.int .i64 ((d.begun.appendD t f).begun.err true [t]))] [.cells [.d (.int .i64 c), .d (.int .i64 s), .d (.int .i64 0), .ptr 1 0 0, .d (.str x)], .cells [.row 2, .ptr 3 0 0, .ep 2 (D.agg [D.list 1 (List.map strD ((d.begun.appendD t f).begun.removeD t).sk), D.list 1 (List.map intD ((d.begun.appendD t f).begun.removeD t).sv)]) 0, .row 6, .d (.int .i64 ((d.begun.appendD t f).begun.removeD t).quota), .d (.bool ((d.begun.appendD t f).begun.removeD t).full), .d (.bool ((d.begun.appendD t f).begun.removeD t).off), .d (.int .i64 ((d.begun.appendD t f).begun.removeD t).stop), .d (.int .i64 ((d.begun.appendD t f).begun.removeD t).calls)], .row 2 (List.map fileD ((d.begun.appendD t f).begun.removeD t).files) false, .cells [.row 4, .row 5], .row 1 (List.map strD ((d.begun.appendD t f).begun.removeD t).nk) false, .row 1 (List.map intD ((d.begun.appendD t f).begun.removeD t).nv) false, .row 3 (List.map chD ((d.begun.appendD t f).begun.removeD t).ch) false] [.cells [.d (.int .i64 c), .d (.int .i64 s), .d (.int .i64 (chk 0 ((d.begun.appendD t f).begun.err true [t]))), .ptr 1 0 0, .d (.str x)], .cells [.row 2, .ptr 3 0 0, .ep 2 (dirD ((d.begun.appendD t f).begun.removeD t).sk ((d.begun.appendD t f).begun.removeD t).sv) 0, .row 6, .d (.int .i64 ((d.begun.appendD t f).begun.removeD t).quota), .d (.bool ((d.begun.appendD t f).begun.removeD t).full), .d (.bool ((d.begun.appendD t f).begun.removeD t).off), .d (.int .i64 ((d.begun.appendD t f).begun.removeD t).stop), .d (.int .i64 ((d.begun.appendD t f).begun.removeD t).calls)], .row 2 (List.map fileD ((d.begun.appendD t f).begun.removeD t).files) false, .cells [.row 4, .row 5], .row 1 (List.map strD ((d.begun.appendD t f).begun.removeD t).nk) false, .row 1 (List.map intD ((d.begun.appendD t f).begun.removeD t).nv) false, .row 3 (List.map chD ((d.begun.appendD t f).begun.removeD t).ch) false] (v := .d (.int .i64 ((d.begun.appendD t f).begun.err true [t]))) (by kernel_rfl) rfl (by kernel_rfl) (by kernel_rfl) F88 (@spec_88 (c) (s) (0) (x) ((d.begun.appendD t f).begun.removeD t) ((d.begun.appendD t f).begun.err true [t])) (by kernel_rfl) (by kernel_rfl) (by kernel_rfl) (by kernel_rfl) ⟨rfl, rfl, by kernel_rfl⟩ (by kernel_rfl) (by kernel_rfl) (by kernel_rfl) (by kernel_rfl) (by kernel_rfl) rfl rfl) ?_
          exact Run.fin
        refine .sg0 5 [0, 4, 5, 8, 9, 10, 31, 32, 33, 34, 35, 36, 37, 38, 39, 40, 41, 42, 43, 44, 45, 46, 47, 48, 49, 50, 51, 52, 53, 54, 55, 56, 57] (cgo 73 [false, true, true] [.code B89]) [(56, .d (.int .i64 ((d.begun.appendD t f).begun.err true [t]))), (57, .d (.bool ((d.begun.appendD t f).begun.err true [t] != 0)))] ?_
        simp only [List.length_map]
        refine .if' ((d.begun.appendD t f).begun.err true [t] != 0) (cgo 74 [false, true, true, true] [.code B89]) (cgo 74 [false, true, true, false] [.code B89]) (fun h11 => ?_) (fun h11 => ?_)
        · simp only [bsX] at h11
          refine .seg 5 [0, 4, 5, 8, 9, 10, 31, 32, 33, 34, 35, 36, 37, 38, 39, 40, 41, 42, 43, 44, 45, 46, 47, 48, 49, 50, 51, 52, 53, 54, 55, 56, 57, 58] (T' := cgo 79 [false, true, true, true] [.code B89]) (tm' := mk 106 [(0, .ptr 0 0 0), (4, .d (.int .i64 ((d.begun.appendD t f).begun.err true [t]))), (5, .d (.str t)), (8, .d (.list 1 (List.map u8 f))), (9, .d (.int .i64 (d.begun.appendE t f))), (10, .d (.int .i64 ((d.begun.appendD t f).begun.err true [t]))), (31, .d (.list 1 (List.map bsD fs))), (32, .d (.int .i64 (↑fs.length : Int))), (33, .d (.int .i64 (↑i : Int))), (34, .d (.bool (decide ((↑i : Int) < (↑fs.length : Int))))), (35, .ep 1 (D.list 1 (List.map u8 f)) 0), (36, .d (.list 1 (List.map u8 f))), (37, .ptr 0 0 0), (38, .ptr 0 0 0), (39, .ptr 0 0 3), (40, .ptr 1 0 0), (41, .d (.str t)), (42, .d (.list 1 (List.map u8 f))), (43, .d (.int .i64 (d.begun.appendE t f))), (44, .d (.int .i64 (d.begun.appendE t f))), (45, .d (.bool (d.begun.appendE t f == 4))), (46, .ptr 0 0 0), (47, .ptr 0 0 0), (48, .ptr 0 0 0), (49, .ptr 0 0 0), (50, .ptr 0 0 0), (51, .ptr 0 0 3), (52, .ptr 1 0 0), (53, .d (.str t)), (54, .d (.int .i64 ((d.begun.appendD t f).begun.err true [t]))), (55, .d (.int .i64 ((d.begun.appendD t f).begun.err true [t]))), (56, .d (.int .i64 ((d.begun.appendD t f).begun.err true [t]))), (57, .d (.bool ((d.begun.appendD t f).begun.err true [t] != 0))), (58, .d (.int .i64 ((d.begun.appendD t f).begun.err true [t])))]) (σ' := [.cells [.d (.int .i64 c), .d (.int .i64 s), .d (.int .i64 (chk 0 ((d.begun.appendD t f).begun.err true [t]))), .ptr 1 0 0, .d (.str x)], .cells [.row 2, .ptr 3 0 0, .ep 2 (D.agg [D.list 1 (List.map strD ((d.begun.appendD t f).begun.removeD t).sk), D.list 1 (List.map intD ((d.begun.appendD t f).begun.removeD t).sv)]) 0, .row 6, .d (.int .i64 ((d.begun.appendD t f).begun.removeD t).quota), .d (.bool ((d.begun.appendD t f).begun.removeD t).full), .d (.bool ((d.begun.appendD t f).begun.removeD t).off), .d (.int .i64 ((d.begun.appendD t f).begun.removeD t).stop), .d (.int .i64 ((d.begun.appendD t f).begun.removeD t).calls)], .row 2 (List.map fileD ((d.begun.appendD t f).begun.removeD t).files) true, .cells [.row 4, .row 5], .row 1 (List.map strD ((d.begun.appendD t f).begun.removeD t).nk) true, .row 1 (List.map intD ((d.begun.appendD t f).begun.removeD t).nv) true, .row 3 (List.map chD ((d.begun.appendD t f).begun.removeD t).ch) true]) (by kernel_rfl) ?_
          simp only [List.length_map]
          refine .retH F89 (v := V.d (D.int IntKind.i64 ((d.begun.appendD t f).begun.err true [t]))) (by kernel_rfl) (by kernel_rfl) ?_
          simp_all [SL, dirD, chk]
        · simp only [bsX] at h11
          refine .seg 5 [0, 4, 5, 8, 9, 10, 31, 32, 33, 34, 35, 36, 37, 38, 39, 40, 41, 42, 43, 44, 45, 46, 47, 48, 49, 50, 51, 52, 53, 54, 55, 56, 57] (T' := cgo 79 [false, true, true, false] [.code B89]) (tm' := mk 106 [(0, .ptr 0 0 0), (4, .d (.int .i64 4)), (5, .d (.str t)), (8, .d (.list 1 (List.map u8 f))), (9, .d (.int .i64 (d.begun.appendE t f))), (10, .d (.int .i64 ((d.begun.appendD t f).begun.err true [t]))), (31, .d (.list 1 (List.map bsD fs))), (32, .d (.int .i64 (↑fs.length : Int))), (33, .d (.int .i64 (↑i : Int))), (34, .d (.bool (decide ((↑i : Int) < (↑fs.length : Int))))), (35, .ep 1 (D.list 1 (List.map u8 f)) 0), (36, .d (.list 1 (List.map u8 f))), (37, .ptr 0 0 0), (38, .ptr 0 0 0), (39, .ptr 0 0 3), (40, .ptr 1 0 0), (41, .d (.str t)), (42, .d (.list 1 (List.map u8 f))), (43, .d (.int .i64 (d.begun.appendE t f))), (44, .d (.int .i64 (d.begun.appendE t f))), (45, .d (.bool (d.begun.appendE t f == 4))), (46, .ptr 0 0 0), (47, .ptr 0 0 0), (48, .ptr 0 0 0), (49, .ptr 0 0 0), (50, .ptr 0 0 0), (51, .ptr 0 0 3), (52, .ptr 1 0 0), (53, .d (.str t)), (54, .d (.int .i64 ((d.begun.appendD t f).begun.err true [t]))), (55, .d (.int .i64 ((d.begun.appendD t f).begun.err true [t]))), (56, .d (.int .i64 ((d.begun.appendD t f).begun.err true [t]))), (57, .d (.bool ((d.begun.appendD t f).begun.err true [t] != 0)))]) (σ' := [.cells [.d (.int .i64 c), .d (.int .i64 s), .d (.int .i64 (chk 0 ((d.begun.appendD t f).begun.err true [t]))), .ptr 1 0 0, .d (.str x)], .cells [.row 2, .ptr 3 0 0, .ep 2 (D.agg [D.list 1 (List.map strD ((d.begun.appendD t f).begun.removeD t).sk), D.list 1 (List.map intD ((d.begun.appendD t f).begun.removeD t).sv)]) 0, .row 6, .d (.int .i64 ((d.begun.appendD t f).begun.removeD t).quota), .d (.bool ((d.begun.appendD t f).begun.removeD t).full), .d (.bool ((d.begun.appendD t f).begun.removeD t).off), .d (.int .i64 ((d.begun.appendD t f).begun.removeD t).stop), .d (.int .i64 ((d.begun.appendD t f).begun.removeD t).calls)], .row 2 (List.map fileD ((d.begun.appendD t f).begun.removeD t).files) true, .cells [.row 4, .row 5], .row 1 (List.map strD ((d.begun.appendD t f).begun.removeD t).nk) true, .row 1 (List.map intD ((d.begun.appendD t f).begun.removeD t).nv) true, .row 3 (List.map chD ((d.begun.appendD t f).begun.removeD t).ch) true]) (by kernel_rfl) ?_
          simp only [List.length_map]
          refine .retH F89 (v := V.d (D.int IntKind.i64 4)) (by kernel_rfl) (by kernel_rfl) ?_
          simp_all [SL, dirD, chk]
      · simp only [bsX] at h4
        refine .sg0 7 [0, 4, 5, 8, 9, 31, 32, 33, 34, 35, 36, 37, 38, 39, 40, 41, 42, 43, 44, 45, 59, 60, 61, 62] (cgo 72 [false, true, false] [.code B89]) [(59, .ptr 0 0 0), (60, .ptr 0 0 0), (61, .ptr 0 0 0), (62, .d (.int .i64 (d.begun.appendE t f)))] ?_
        refine .ca [0, 1, 2, 3, 4, 5, 6] (cgo 73 [false, true, false] [.code B89]) F88 (@spec_88 (c) (s) (0) (x) (d.begun.appendD t f) (d.begun.appendE t f)) ?_
        rintro r11 s11 ⟨rfl, rfl⟩
        refine ⟨_, rfl, ?_⟩
        refine .sg0 2 [0, 4, 5, 8, 9, 31, 32, 33, 34, 35, 36, 37, 38, 39, 40, 41, 42, 43, 44, 45, 59, 60, 61, 62, 63, 64] (cgo 75 [false, true, false] [.code B89]) [(64, .d (.bool (d.begun.appendE t f != 0)))] ?_
        refine .if' (d.begun.appendE t f != 0) (cgo 76 [false, true, false, true] [.code B89]) (cgo 76 [false, true, false, false] [.code B89]) (fun h13 => ?_) (fun h13 => ?_)
        · simp only [bsX] at h13
          refine .seg 5 [0, 4, 5, 8, 9, 31, 32, 33, 34, 35, 36, 37, 38, 39, 40, 41, 42, 43, 44, 45, 59, 60, 61, 62, 63, 64, 65] (T' := cgo 81 [false, true, false, true] [.code B89]) (tm' := mk 106 [(0, .ptr 0 0 0), (4, .d (.int .i64 (d.begun.appendE t f))), (5, .d (.str t)), (8, .d (.list 1 (List.map u8 f))), (9, .d (.int .i64 (d.begun.appendE t f))), (31, .d (.list 1 (List.map bsD fs))), (32, .d (.int .i64 (↑fs.length : Int))), (33, .d (.int .i64 (↑i : Int))), (34, .d (.bool (decide ((↑i : Int) < (↑fs.length : Int))))), (35, .ep 1 (D.list 1 (List.map u8 f)) 0), (36, .d (.list 1 (List.map u8 f))), (37, .ptr 0 0 0), (38, .ptr 0 0 0), (39, .ptr 0 0 3), (40, .ptr 1 0 0), (41, .d (.str t)), (42, .d (.list 1 (List.map u8 f))), (43, .d (.int .i64 (d.begun.appendE t f))), (44, .d (.int .i64 (d.begun.appendE t f))), (45, .d (.bool (d.begun.appendE t f == 4))), (59, .ptr 0 0 0), (60, .ptr 0 0 0), (61, .ptr 0 0 0), (62, .d (.int .i64 (d.begun.appendE t f))), (63, .d (.int .i64 (d.begun.appendE t f))), (64, .d (.bool (d.begun.appendE t f != 0))), (65, .d (.int .i64 (d.begun.appendE t f)))]) (σ' := [.cells [.d (.int .i64 c), .d (.int .i64 s), .d (.int .i64 (chk 0 (d.begun.appendE t f))), .ptr 1 0 0, .d (.str x)], .cells [.row 2, .ptr 3 0 0, .ep 2 (D.agg [D.list 1 (List.map strD (d.begun.appendD t f).sk), D.list 1 (List.map intD (d.begun.appendD t f).sv)]) 0, .row 6, .d (.int .i64 (d.begun.appendD t f).quota), .d (.bool (d.begun.appendD t f).full), .d (.bool (d.begun.appendD t f).off), .d (.int .i64 (d.begun.appendD t f).stop), .d (.int .i64 (d.begun.appendD t f).calls)], .row 2 (List.map fileD (d.begun.appendD t f).files) true, .cells [.row 4, .row 5], .row 1 (List.map strD (d.begun.appendD t f).nk) true, .row 1 (List.map intD (d.begun.appendD t f).nv) true, .row 3 (List.map chD (d.begun.appendD t f).ch) true]) (by kernel_rfl) ?_
          refine .retH F89 (v := V.d (D.int IntKind.i64 (d.begun.appendE t f))) (by kernel_rfl) (by kernel_rfl) ?_
          simp_all [SL, dirD, chk]
        · simp only [bsX] at h13
          refine .seg 6 [0, 4, 5, 8, 9, 31, 32, 33, 34, 35, 36, 37, 38, 39, 40, 41, 42, 43, 44, 45, 59, 60, 61, 62, 63, 64, 66] (T' := cgo 82 [false, true, false, false] [.code B89]) (tm' := mk 106 [(0, .ptr 0 0 0), (4, .d (.int .i64 0)), (5, .d (.str t)), (8, .d (.list 1 (List.map u8 f))), (9, .d (.int .i64 (d.begun.appendE t f))), (31, .d (.list 1 (List.map bsD fs))), (32, .d (.int .i64 (↑fs.length : Int))), (33, .d (.int .i64 (IntKind.i64.wrap ((↑i : Int) + 1)))), (34, .d (.bool (decide ((↑i : Int) < (↑fs.length : Int))))), (35, .ep 1 (D.list 1 (List.map u8 f)) 0), (36, .d (.list 1 (List.map u8 f))), (37, .ptr 0 0 0), (38, .ptr 0 0 0), (39, .ptr 0 0 3), (40, .ptr 1 0 0), (41, .d (.str t)), (42, .d (.list 1 (List.map u8 f))), (43, .d (.int .i64 (d.begun.appendE t f))), (44, .d (.int .i64 (d.begun.appendE t f))), (45, .d (.bool (d.begun.appendE t f == 4))), (59, .ptr 0 0 0), (60, .ptr 0 0 0), (61, .ptr 0 0 0), (62, .d (.int .i64 (d.begun.appendE t f))), (63, .d (.int .i64 (d.begun.appendE t f))), (64, .d (.bool (d.begun.appendE t f != 0))), (66, .d (.int .i64 (IntKind.i64.wrap ((↑i : Int) + 1))))]) (σ' := [.cells [.d (.int .i64 c), .d (.int .i64 s), .d (.int .i64 (chk 0 (d.begun.appendE t f))), .ptr 1 0 0, .d (.str x)], .cells [.row 2, .ptr 3 0 0, .ep 2 (D.agg [D.list 1 (List.map strD (d.begun.appendD t f).sk), D.list 1 (List.map intD (d.begun.appendD t f).sv)]) 0, .row 6, .d (.int .i64 (d.begun.appendD t f).quota), .d (.bool (d.begun.appendD t f).full), .d (.bool (d.begun.appendD t f).off), .d (.int .i64 (d.begun.appendD t f).stop), .d (.int .i64 (d.begun.appendD t f).calls)], .row 2 (List.map fileD (d.begun.appendD t f).files) true, .cells [.row 4, .row 5], .row 1 (List.map strD (d.begun.appendD t f).nk) true, .row 1 (List.map intD (d.begun.appendD t f).nv) true, .row 3 (List.map chD (d.begun.appendD t f).ch) true]) (by kernel_rfl) ?_
          simp (disch := omega) only [wrap_i64, wrap_u64s, wrap_u32s, wrap_u8s, wrap_i32s, iadd_i64, isub_i64, irem_n, iquo_n, tdiv_nn, tmod_nn]
          rw [show chk 0 (d.begun.appendE t f) = 0 by simp_all [chk]]
          rw [if_neg (by simp_all), if_neg (by simp_all)]
          exact .seg 1 [0, 4, 5, 31, 32, 33] (T' := cgo 32 [false] [Item.code B89]) (tm' := mk 106 [(0, .ptr 0 0 0), (4, .d (.int .i64 0)), (5, .d (.str t)), (31, .d (.list 1 (List.map bsD fs))), (32, .d (.int .i64 (fs.length : Nat))), (33, .d (.int .i64 ((i + 1 : Nat) : Int)))]) (σ' := SL c s 0 x (d.begun.appendD t f) true) (by kernel_rfl) ih1
    · simp only [bsX] at h2
      omega
def writeR (x : ByteArray) (fs : List (List UInt8)) (d : Dk) : Int × Int × Dk :=
  if d.begun.createE (x ++ tmpX) ≠ 0 then (d.begun.createE (x ++ tmpX), d.begun.createE (x ++ tmpX), d.begun.createD (x ++ tmpX)) else wrG (x ++ tmpX) x fs (d.begun.createD (x ++ tmpX))
theorem spec_89 (c s : Int) (x : ByteArray) (d : Dk) (N : Nat) (h : d.Ok N) (fs : List (List UInt8)) (hfs : ∀ f ∈ fs, f.length < 1000000) (hl : fs.length < 10000) (hN : N + fs.length + 20 ≤ 50000) (hx : x.size < 1000) :
    CallsA Try.prog 89 [.ptr 0 0 0, .d (.list 1 (fs.map bsD))] (SL c s 0 x d false) fun r σ' => r = .ret (.d (.int .i64 (writeR x fs d).1)) ∧ σ' = SL c s (writeR x fs d).2.1 x (writeR x fs d).2.2 true := by
  refine CallsA.start F89 (tm := mk (Try.f89.ntmps) [(0, .ptr 0 0 0), (1, .d (.list 1 (fs.map bsD)))]) (by kernel_rfl) ?_
  have hs : (⟨#[46, 116, 109, 112]⟩ : ByteArray).size = 4 := rfl
  have hx1 : (x ++ (⟨#[46, 116, 109, 112]⟩ : ByteArray)).size = x.size + 4 := by simp [hs]
  have h1 := Dk.createD_ok (Dk.begun_ok h (by omega)) (by omega) (x ++ (⟨#[46, 116, 109, 112]⟩ : ByteArray))
  by_cases hE : d.begun.createE (x ++ (⟨#[46, 116, 109, 112]⟩ : ByteArray)) = 0
  · have e : writeR x fs d = wrG (x ++ ⟨#[46, 116, 109, 112]⟩) x fs (d.begun.createD (x ++ ⟨#[46, 116, 109, 112]⟩)) := by simp [writeR, tmpX, hE]
    rw [e]
    have hw := lo89 c s x (x ++ ⟨#[46, 116, 109, 112]⟩) hx (by omega) fs hfs (by omega) fs.length 0 _ _ h1 (by omega) (by omega)
    rw [List.drop_zero] at hw
    refine .sg0 10 [0, 1, 4, 13, 14, 15, 16] (cgo 10 [] [.code B89]) [(4, .d (.int .i64 0)), (13, .ptr 0 0 0), (14, .ptr 0 0 0), (15, .ptr 0 0 4), (16, .d (.str x))] ?_
    refine .op' (cgo 11 [] [.code B89]) (cat_ok (t := 9) (ty := 9) (x := (.tmp 16)) (y := (.const (Value.string (ByteArray.mk #[46, 116, 109, 112])))) (s := x) (u := ByteArray.mk #[46, 116, 109, 112]) (by kernel_rfl) (by kernel_rfl) (by kernel_rfl) (by omega)) ?_
    refine .sg0 4 [0, 1, 4, 5] (cgo 15 [] [.code B89]) [(5, .d (.str (x ++ ByteArray.mk #[46, 116, 109, 112])))] ?_
    refine .dr (cgo 16 [] [.code B89]) [(6, .d (.int .i64 (d.begun.createE (x ++ ByteArray.mk #[46, 116, 109, 112])))), (18, .ptr 0 0 0), (19, .ptr 0 0 0), (20, .ptr 0 0 0), (21, .ptr 0 0 0), (22, .ptr 0 0 0), (23, .ptr 0 0 3), (24, .ptr 1 0 0), (25, .d (.str (x ++ ByteArray.mk #[46, 116, 109, 112]))), (26, .d (.int .i64 (d.begun.createE (x ++ ByteArray.mk #[46, 116, 109, 112])))), (27, .d (.int .i64 (d.begun.createE (x ++ ByteArray.mk #[46, 116, 109, 112]))))] [(0, .cells [.d (.int .i64 c), .d (.int .i64 s), .d (.int .i64 (chk 0 (d.begun.createE (x ++ ByteArray.mk #[46, 116, 109, 112])))), .ptr 1 0 0, .d (.str x)]), (1, .cells [.row 2, .ptr 3 0 0, .ep 2 (D.agg [D.list 1 (List.map strD (d.begun.createD (x ++ ByteArray.mk #[46, 116, 109, 112])).sk), D.list 1 (List.map intD (d.begun.createD (x ++ ByteArray.mk #[46, 116, 109, 112])).sv)]) 0, .row 6, .d (.int .i64 (d.begun.createD (x ++ ByteArray.mk #[46, 116, 109, 112])).quota), .d (.bool (d.begun.createD (x ++ ByteArray.mk #[46, 116, 109, 112])).full), .d (.bool (d.begun.createD (x ++ ByteArray.mk #[46, 116, 109, 112])).off), .d (.int .i64 (d.begun.createD (x ++ ByteArray.mk #[46, 116, 109, 112])).stop), .d (.int .i64 (d.begun.createD (x ++ ByteArray.mk #[46, 116, 109, 112])).calls)]), (2, .row 2 (List.map fileD (d.begun.createD (x ++ ByteArray.mk #[46, 116, 109, 112])).files) true), (4, .row 1 (List.map strD (d.begun.createD (x ++ ByteArray.mk #[46, 116, 109, 112])).nk) true), (5, .row 1 (List.map intD (d.begun.createD (x ++ ByteArray.mk #[46, 116, 109, 112])).nv) true), (6, .row 3 (List.map chD (d.begun.createD (x ++ ByteArray.mk #[46, 116, 109, 112])).ch) true)] (fun kz L hL => ?_) ?_
    · refine ⟨[⟨[], [], [], [0], [0], [], true, false⟩, ⟨[], [], [], [0], [0], [0], true, false⟩, ⟨[], [], [], [0], [0], [0], true, false⟩, ⟨[], [], [], [0], [0], [], true, false⟩, ⟨[], [], [], [0], [0], [0], true, false⟩, ⟨[], [], [], [0], [0], [0], true, false⟩, ⟨[0], [], [], [1], [0, 1], [], true, false⟩, ⟨[], [], [], [], [], [], true, false⟩, ⟨[1, 2, 3, 4, 5, 6], [1, 2, 3, 4, 5, 6], [2, 4, 5, 6], [2, 3, 6, 4, 5], [1, 2, 3, 6, 4, 5], [], true, false⟩, ⟨[0, 1, 2, 3, 4, 5, 6], [0, 1, 2, 3, 4, 5, 6], [], [1, 2, 3, 6, 4, 5], [0, 1, 2, 3, 6, 4, 5], [], true, false⟩, ⟨[], [], [], [], [], [], true, false⟩], run_amongF hL _ [] [0, 1, 2, 3, 4, 5, 6, 7, 8, 9, 10] (by intro p hp; cases hp) (by kernel_rfl) ?_⟩
      refine Run.ap [0, 1, 2, 3, 4, 5, 6, 7] [(18, .ptr 0 0 0), (19, .ptr 0 0 0), (20, .ptr 0 0 0), (21, .ptr 0 0 0), (22, .ptr 0 0 0), (23, .ptr 0 0 3), (24, .ptr 1 0 0), (25, .d (.str (x ++ ByteArray.mk #[46, 116, 109, 112])))] [] ?_
      refine Run.one (StepF.call (o := ((drawOf (cgo 15 [] [.code B89]))[8]?).getD default) (x := (.func 26)) (args := #[(.tmp 24), (.tmp 25)]) (ts := #[40, 9]) (first := []) (cap := []) [1, 2, 3, 4, 5, 6] [.ptr 0 0 0, .d (.str (x ++ ByteArray.mk #[46, 116, 109, 112]))] [.cells [.row 1, .ptr 2 0 0, .ep 2 (D.agg [D.list 1 (List.map strD d.sk), D.list 1 (List.map intD d.sv)]) 0, .row 5, .d (.int .i64 d.quota), .d (.bool d.full), .d (.bool d.off), .d (.int .i64 d.stop), .d (.int .i64 d.calls)], .row 2 (List.map fileD d.files) false, .cells [.row 3, .row 4], .row 1 (List.map strD d.nk) false, .row 1 (List.map intD d.nv) false, .row 3 (List.map chD d.ch) false] [.cells [.row 1, .ptr 2 0 0, .ep 2 (dirD (d.begun.createD (x ++ ByteArray.mk #[46, 116, 109, 112])).sk (d.begun.createD (x ++ ByteArray.mk #[46, 116, 109, 112])).sv) 0, .row 5, .d (.int .i64 (d.begun.createD (x ++ ByteArray.mk #[46, 116, 109, 112])).quota), .d (.bool (d.begun.createD (x ++ ByteArray.mk #[46, 116, 109, 112])).full), .d (.bool (d.begun.createD (x ++ ByteArray.mk #[46, 116, 109, 112])).off), .d (.int .i64 (d.begun.createD (x ++ ByteArray.mk #[46, 116, 109, 112])).stop), .d (.int .i64 (d.begun.createD (x ++ ByteArray.mk #[46, 116, 109, 112])).calls)], .row 2 (List.map fileD (d.begun.createD (x ++ ByteArray.mk #[46, 116, 109, 112])).files) true, .cells [.row 3, .row 4], .row 1 (List.map strD (d.begun.createD (x ++ ByteArray.mk #[46, 116, 109, 112])).nk) true, .row 1 (List.map intD (d.begun.createD (x ++ ByteArray.mk #[46, 116, 109, 112])).nv) true, .row 3 (List.map chD (d.begun.createD (x ++ ByteArray.mk #[46, 116, 109, 112])).ch) true] (v := .d (.int .i64 (d.begun.createE (x ++ ByteArray.mk #[46, 116, 109, 112])))) (by kernel_rfl) rfl (by kernel_rfl) (by kernel_rfl) F26 (@spec_26 (d) (N) (by assumption) (by omega) (x ++ ByteArray.mk #[46, 116, 109, 112]) (by omega)) (by kernel_rfl) (by kernel_rfl) (by kernel_rfl) (by kernel_rfl) ⟨rfl, rfl, by kernel_rfl⟩ (by kernel_rfl) (by kernel_rfl) (by kernel_rfl) (by kernel_rfl) (by kernel_rfl) rfl rfl) ?_
      refine Run.one (StepF.call (o := ((drawOf (cgo 15 [] [.code B89]))[9]?).getD default) (x := (.func 88)) (args := #[(.tmp 20), (.tmp 26)]) (ts := #[141, 23]) (first := []) (cap := []) [0, 1, 2, 3, 4, 5, 6] [.ptr 0 0 0, .d (.int .i64 (d.begun.createE (x ++ ByteArray.mk #[46, 116, 109, 112])))] [.cells [.d (.int .i64 c), .d (.int .i64 s), .d (.int .i64 0), .ptr 1 0 0, .d (.str x)], .cells [.row 2, .ptr 3 0 0, .ep 2 (D.agg [D.list 1 (List.map strD (d.begun.createD (x ++ ByteArray.mk #[46, 116, 109, 112])).sk), D.list 1 (List.map intD (d.begun.createD (x ++ ByteArray.mk #[46, 116, 109, 112])).sv)]) 0, .row 6, .d (.int .i64 (d.begun.createD (x ++ ByteArray.mk #[46, 116, 109, 112])).quota), .d (.bool (d.begun.createD (x ++ ByteArray.mk #[46, 116, 109, 112])).full), .d (.bool (d.begun.createD (x ++ ByteArray.mk #[46, 116, 109, 112])).off), .d (.int .i64 (d.begun.createD (x ++ ByteArray.mk #[46, 116, 109, 112])).stop), .d (.int .i64 (d.begun.createD (x ++ ByteArray.mk #[46, 116, 109, 112])).calls)], .row 2 (List.map fileD (d.begun.createD (x ++ ByteArray.mk #[46, 116, 109, 112])).files) false, .cells [.row 4, .row 5], .row 1 (List.map strD (d.begun.createD (x ++ ByteArray.mk #[46, 116, 109, 112])).nk) false, .row 1 (List.map intD (d.begun.createD (x ++ ByteArray.mk #[46, 116, 109, 112])).nv) false, .row 3 (List.map chD (d.begun.createD (x ++ ByteArray.mk #[46, 116, 109, 112])).ch) false] [.cells [.d (.int .i64 c), .d (.int .i64 s), .d (.int .i64 (chk 0 (d.begun.createE (x ++ ByteArray.mk #[46, 116, 109, 112])))), .ptr 1 0 0, .d (.str x)], .cells [.row 2, .ptr 3 0 0, .ep 2 (dirD (d.begun.createD (x ++ ByteArray.mk #[46, 116, 109, 112])).sk (d.begun.createD (x ++ ByteArray.mk #[46, 116, 109, 112])).sv) 0, .row 6, .d (.int .i64 (d.begun.createD (x ++ ByteArray.mk #[46, 116, 109, 112])).quota), .d (.bool (d.begun.createD (x ++ ByteArray.mk #[46, 116, 109, 112])).full), .d (.bool (d.begun.createD (x ++ ByteArray.mk #[46, 116, 109, 112])).off), .d (.int .i64 (d.begun.createD (x ++ ByteArray.mk #[46, 116, 109, 112])).stop), .d (.int .i64 (d.begun.createD (x ++ ByteArray.mk #[46, 116, 109, 112])).calls)], .row 2 (List.map fileD (d.begun.createD (x ++ ByteArray.mk #[46, 116, 109, 112])).files) false, .cells [.row 4, .row 5], .row 1 (List.map strD (d.begun.createD (x ++ ByteArray.mk #[46, 116, 109, 112])).nk) false, .row 1 (List.map intD (d.begun.createD (x ++ ByteArray.mk #[46, 116, 109, 112])).nv) false, .row 3 (List.map chD (d.begun.createD (x ++ ByteArray.mk #[46, 116, 109, 112])).ch) false] (v := .d (.int .i64 (d.begun.createE (x ++ ByteArray.mk #[46, 116, 109, 112])))) (by kernel_rfl) rfl (by kernel_rfl) (by kernel_rfl) F88 (@spec_88 (c) (s) (0) (x) (d.begun.createD (x ++ ByteArray.mk #[46, 116, 109, 112])) (d.begun.createE (x ++ ByteArray.mk #[46, 116, 109, 112]))) (by kernel_rfl) (by kernel_rfl) (by kernel_rfl) (by kernel_rfl) ⟨rfl, rfl, by kernel_rfl⟩ (by kernel_rfl) (by kernel_rfl) (by kernel_rfl) (by kernel_rfl) (by kernel_rfl) rfl rfl) ?_
      exact Run.fin
    refine .sg0 5 [0, 1, 4, 5, 6, 29] (cgo 21 [] [.code B89]) [(29, .d (.bool (d.begun.createE (x ++ ByteArray.mk #[46, 116, 109, 112]) != 0)))] ?_
    refine .if' (d.begun.createE (x ++ ByteArray.mk #[46, 116, 109, 112]) != 0) (cgo 22 [true] [.code B89]) (cgo 22 [false] [.code B89]) (fun h7 => ?_) (fun h7 => ?_)
    · simp only [bsX] at h7
      omega
    · simp only [bsX] at h7
      refine .seg 9 [0, 4, 5, 31, 32, 33] (T' := cgo 31 [false] [.code B89]) (tm' := mk 106 [(0, .ptr 0 0 0), (4, .d (.int .i64 0)), (5, .d (.str (x ++ ByteArray.mk #[46, 116, 109, 112]))), (31, .d (.list 1 (List.map bsD fs))), (32, .d (.int .i64 (↑(List.map bsD fs).length : Int))), (33, .d (.int .i64 0))]) (σ' := [.cells [.d (.int .i64 c), .d (.int .i64 s), .d (.int .i64 (chk 0 (d.begun.createE (x ++ ByteArray.mk #[46, 116, 109, 112])))), .ptr 1 0 0, .d (.str x)], .cells [.row 2, .ptr 3 0 0, .ep 2 (D.agg [D.list 1 (List.map strD (d.begun.createD (x ++ ByteArray.mk #[46, 116, 109, 112])).sk), D.list 1 (List.map intD (d.begun.createD (x ++ ByteArray.mk #[46, 116, 109, 112])).sv)]) 0, .row 6, .d (.int .i64 (d.begun.createD (x ++ ByteArray.mk #[46, 116, 109, 112])).quota), .d (.bool (d.begun.createD (x ++ ByteArray.mk #[46, 116, 109, 112])).full), .d (.bool (d.begun.createD (x ++ ByteArray.mk #[46, 116, 109, 112])).off), .d (.int .i64 (d.begun.createD (x ++ ByteArray.mk #[46, 116, 109, 112])).stop), .d (.int .i64 (d.begun.createD (x ++ ByteArray.mk #[46, 116, 109, 112])).calls)], .row 2 (List.map fileD (d.begun.createD (x ++ ByteArray.mk #[46, 116, 109, 112])).files) true, .cells [.row 4, .row 5], .row 1 (List.map strD (d.begun.createD (x ++ ByteArray.mk #[46, 116, 109, 112])).nk) true, .row 1 (List.map intD (d.begun.createD (x ++ ByteArray.mk #[46, 116, 109, 112])).nv) true, .row 3 (List.map chD (d.begun.createD (x ++ ByteArray.mk #[46, 116, 109, 112])).ch) true]) (by kernel_rfl) ?_
      simp only [List.length_map]
      rw [show chk 0 (d.begun.createE (x ++ ⟨#[46, 116, 109, 112]⟩)) = 0 by simp_all [chk]]
      exact .seg 1 [0, 4, 5, 31, 32, 33] (by kernel_rfl) hw
  · have e : writeR x fs d = (d.begun.createE (x ++ ⟨#[46, 116, 109, 112]⟩), d.begun.createE (x ++ ⟨#[46, 116, 109, 112]⟩), d.begun.createD (x ++ ⟨#[46, 116, 109, 112]⟩)) := by simp [writeR, tmpX, hE]
    rw [e]
    refine .sg0 10 [0, 1, 4, 13, 14, 15, 16] (cgo 10 [] [.code B89]) [(4, .d (.int .i64 0)), (13, .ptr 0 0 0), (14, .ptr 0 0 0), (15, .ptr 0 0 4), (16, .d (.str x))] ?_
    simp only [List.length_map]
    refine .op' (cgo 11 [] [.code B89]) (cat_ok (t := 9) (ty := 9) (x := (.tmp 16)) (y := (.const (Value.string (ByteArray.mk #[46, 116, 109, 112])))) (s := x) (u := ByteArray.mk #[46, 116, 109, 112]) (by kernel_rfl) (by kernel_rfl) (by kernel_rfl) (by omega)) ?_
    refine .sg0 4 [0, 1, 4, 5] (cgo 15 [] [.code B89]) [(5, .d (.str (x ++ ByteArray.mk #[46, 116, 109, 112])))] ?_
    refine .dr (cgo 16 [] [.code B89]) [(6, .d (.int .i64 (d.begun.createE (x ++ ByteArray.mk #[46, 116, 109, 112])))), (18, .ptr 0 0 0), (19, .ptr 0 0 0), (20, .ptr 0 0 0), (21, .ptr 0 0 0), (22, .ptr 0 0 0), (23, .ptr 0 0 3), (24, .ptr 1 0 0), (25, .d (.str (x ++ ByteArray.mk #[46, 116, 109, 112]))), (26, .d (.int .i64 (d.begun.createE (x ++ ByteArray.mk #[46, 116, 109, 112])))), (27, .d (.int .i64 (d.begun.createE (x ++ ByteArray.mk #[46, 116, 109, 112]))))] [(0, .cells [.d (.int .i64 c), .d (.int .i64 s), .d (.int .i64 (chk 0 (d.begun.createE (x ++ ByteArray.mk #[46, 116, 109, 112])))), .ptr 1 0 0, .d (.str x)]), (1, .cells [.row 2, .ptr 3 0 0, .ep 2 (D.agg [D.list 1 (List.map strD (d.begun.createD (x ++ ByteArray.mk #[46, 116, 109, 112])).sk), D.list 1 (List.map intD (d.begun.createD (x ++ ByteArray.mk #[46, 116, 109, 112])).sv)]) 0, .row 6, .d (.int .i64 (d.begun.createD (x ++ ByteArray.mk #[46, 116, 109, 112])).quota), .d (.bool (d.begun.createD (x ++ ByteArray.mk #[46, 116, 109, 112])).full), .d (.bool (d.begun.createD (x ++ ByteArray.mk #[46, 116, 109, 112])).off), .d (.int .i64 (d.begun.createD (x ++ ByteArray.mk #[46, 116, 109, 112])).stop), .d (.int .i64 (d.begun.createD (x ++ ByteArray.mk #[46, 116, 109, 112])).calls)]), (2, .row 2 (List.map fileD (d.begun.createD (x ++ ByteArray.mk #[46, 116, 109, 112])).files) true), (4, .row 1 (List.map strD (d.begun.createD (x ++ ByteArray.mk #[46, 116, 109, 112])).nk) true), (5, .row 1 (List.map intD (d.begun.createD (x ++ ByteArray.mk #[46, 116, 109, 112])).nv) true), (6, .row 3 (List.map chD (d.begun.createD (x ++ ByteArray.mk #[46, 116, 109, 112])).ch) true)] (fun kz L hL => ?_) ?_
    · refine ⟨[⟨[], [], [], [0], [0], [], true, false⟩, ⟨[], [], [], [0], [0], [0], true, false⟩, ⟨[], [], [], [0], [0], [0], true, false⟩, ⟨[], [], [], [0], [0], [], true, false⟩, ⟨[], [], [], [0], [0], [0], true, false⟩, ⟨[], [], [], [0], [0], [0], true, false⟩, ⟨[0], [], [], [1], [0, 1], [], true, false⟩, ⟨[], [], [], [], [], [], true, false⟩, ⟨[1, 2, 3, 4, 5, 6], [1, 2, 3, 4, 5, 6], [2, 4, 5, 6], [2, 3, 6, 4, 5], [1, 2, 3, 6, 4, 5], [], true, false⟩, ⟨[0, 1, 2, 3, 4, 5, 6], [0, 1, 2, 3, 4, 5, 6], [], [1, 2, 3, 6, 4, 5], [0, 1, 2, 3, 6, 4, 5], [], true, false⟩, ⟨[], [], [], [], [], [], true, false⟩], run_amongF hL _ [] [0, 1, 2, 3, 4, 5, 6, 7, 8, 9, 10] (by intro p hp; cases hp) (by kernel_rfl) ?_⟩
      refine Run.ap [0, 1, 2, 3, 4, 5, 6, 7] [(18, .ptr 0 0 0), (19, .ptr 0 0 0), (20, .ptr 0 0 0), (21, .ptr 0 0 0), (22, .ptr 0 0 0), (23, .ptr 0 0 3), (24, .ptr 1 0 0), (25, .d (.str (x ++ ByteArray.mk #[46, 116, 109, 112])))] [] ?_
      refine Run.one (StepF.call (o := ((drawOf (cgo 15 [] [.code B89]))[8]?).getD default) (x := (.func 26)) (args := #[(.tmp 24), (.tmp 25)]) (ts := #[40, 9]) (first := []) (cap := []) [1, 2, 3, 4, 5, 6] [.ptr 0 0 0, .d (.str (x ++ ByteArray.mk #[46, 116, 109, 112]))] [.cells [.row 1, .ptr 2 0 0, .ep 2 (D.agg [D.list 1 (List.map strD d.sk), D.list 1 (List.map intD d.sv)]) 0, .row 5, .d (.int .i64 d.quota), .d (.bool d.full), .d (.bool d.off), .d (.int .i64 d.stop), .d (.int .i64 d.calls)], .row 2 (List.map fileD d.files) false, .cells [.row 3, .row 4], .row 1 (List.map strD d.nk) false, .row 1 (List.map intD d.nv) false, .row 3 (List.map chD d.ch) false] [.cells [.row 1, .ptr 2 0 0, .ep 2 (dirD (d.begun.createD (x ++ ByteArray.mk #[46, 116, 109, 112])).sk (d.begun.createD (x ++ ByteArray.mk #[46, 116, 109, 112])).sv) 0, .row 5, .d (.int .i64 (d.begun.createD (x ++ ByteArray.mk #[46, 116, 109, 112])).quota), .d (.bool (d.begun.createD (x ++ ByteArray.mk #[46, 116, 109, 112])).full), .d (.bool (d.begun.createD (x ++ ByteArray.mk #[46, 116, 109, 112])).off), .d (.int .i64 (d.begun.createD (x ++ ByteArray.mk #[46, 116, 109, 112])).stop), .d (.int .i64 (d.begun.createD (x ++ ByteArray.mk #[46, 116, 109, 112])).calls)], .row 2 (List.map fileD (d.begun.createD (x ++ ByteArray.mk #[46, 116, 109, 112])).files) true, .cells [.row 3, .row 4], .row 1 (List.map strD (d.begun.createD (x ++ ByteArray.mk #[46, 116, 109, 112])).nk) true, .row 1 (List.map intD (d.begun.createD (x ++ ByteArray.mk #[46, 116, 109, 112])).nv) true, .row 3 (List.map chD (d.begun.createD (x ++ ByteArray.mk #[46, 116, 109, 112])).ch) true] (v := .d (.int .i64 (d.begun.createE (x ++ ByteArray.mk #[46, 116, 109, 112])))) (by kernel_rfl) rfl (by kernel_rfl) (by kernel_rfl) F26 (@spec_26 (d) (N) (by assumption) (by omega) (x ++ ByteArray.mk #[46, 116, 109, 112]) (by omega)) (by kernel_rfl) (by kernel_rfl) (by kernel_rfl) (by kernel_rfl) ⟨rfl, rfl, by kernel_rfl⟩ (by kernel_rfl) (by kernel_rfl) (by kernel_rfl) (by kernel_rfl) (by kernel_rfl) rfl rfl) ?_
      refine Run.one (StepF.call (o := ((drawOf (cgo 15 [] [.code B89]))[9]?).getD default) (x := (.func 88)) (args := #[(.tmp 20), (.tmp 26)]) (ts := #[141, 23]) (first := []) (cap := []) [0, 1, 2, 3, 4, 5, 6] [.ptr 0 0 0, .d (.int .i64 (d.begun.createE (x ++ ByteArray.mk #[46, 116, 109, 112])))] [.cells [.d (.int .i64 c), .d (.int .i64 s), .d (.int .i64 0), .ptr 1 0 0, .d (.str x)], .cells [.row 2, .ptr 3 0 0, .ep 2 (D.agg [D.list 1 (List.map strD (d.begun.createD (x ++ ByteArray.mk #[46, 116, 109, 112])).sk), D.list 1 (List.map intD (d.begun.createD (x ++ ByteArray.mk #[46, 116, 109, 112])).sv)]) 0, .row 6, .d (.int .i64 (d.begun.createD (x ++ ByteArray.mk #[46, 116, 109, 112])).quota), .d (.bool (d.begun.createD (x ++ ByteArray.mk #[46, 116, 109, 112])).full), .d (.bool (d.begun.createD (x ++ ByteArray.mk #[46, 116, 109, 112])).off), .d (.int .i64 (d.begun.createD (x ++ ByteArray.mk #[46, 116, 109, 112])).stop), .d (.int .i64 (d.begun.createD (x ++ ByteArray.mk #[46, 116, 109, 112])).calls)], .row 2 (List.map fileD (d.begun.createD (x ++ ByteArray.mk #[46, 116, 109, 112])).files) false, .cells [.row 4, .row 5], .row 1 (List.map strD (d.begun.createD (x ++ ByteArray.mk #[46, 116, 109, 112])).nk) false, .row 1 (List.map intD (d.begun.createD (x ++ ByteArray.mk #[46, 116, 109, 112])).nv) false, .row 3 (List.map chD (d.begun.createD (x ++ ByteArray.mk #[46, 116, 109, 112])).ch) false] [.cells [.d (.int .i64 c), .d (.int .i64 s), .d (.int .i64 (chk 0 (d.begun.createE (x ++ ByteArray.mk #[46, 116, 109, 112])))), .ptr 1 0 0, .d (.str x)], .cells [.row 2, .ptr 3 0 0, .ep 2 (dirD (d.begun.createD (x ++ ByteArray.mk #[46, 116, 109, 112])).sk (d.begun.createD (x ++ ByteArray.mk #[46, 116, 109, 112])).sv) 0, .row 6, .d (.int .i64 (d.begun.createD (x ++ ByteArray.mk #[46, 116, 109, 112])).quota), .d (.bool (d.begun.createD (x ++ ByteArray.mk #[46, 116, 109, 112])).full), .d (.bool (d.begun.createD (x ++ ByteArray.mk #[46, 116, 109, 112])).off), .d (.int .i64 (d.begun.createD (x ++ ByteArray.mk #[46, 116, 109, 112])).stop), .d (.int .i64 (d.begun.createD (x ++ ByteArray.mk #[46, 116, 109, 112])).calls)], .row 2 (List.map fileD (d.begun.createD (x ++ ByteArray.mk #[46, 116, 109, 112])).files) false, .cells [.row 4, .row 5], .row 1 (List.map strD (d.begun.createD (x ++ ByteArray.mk #[46, 116, 109, 112])).nk) false, .row 1 (List.map intD (d.begun.createD (x ++ ByteArray.mk #[46, 116, 109, 112])).nv) false, .row 3 (List.map chD (d.begun.createD (x ++ ByteArray.mk #[46, 116, 109, 112])).ch) false] (v := .d (.int .i64 (d.begun.createE (x ++ ByteArray.mk #[46, 116, 109, 112])))) (by kernel_rfl) rfl (by kernel_rfl) (by kernel_rfl) F88 (@spec_88 (c) (s) (0) (x) (d.begun.createD (x ++ ByteArray.mk #[46, 116, 109, 112])) (d.begun.createE (x ++ ByteArray.mk #[46, 116, 109, 112]))) (by kernel_rfl) (by kernel_rfl) (by kernel_rfl) (by kernel_rfl) ⟨rfl, rfl, by kernel_rfl⟩ (by kernel_rfl) (by kernel_rfl) (by kernel_rfl) (by kernel_rfl) (by kernel_rfl) rfl rfl) ?_
      exact Run.fin
    refine .sg0 5 [0, 1, 4, 5, 6, 29] (cgo 21 [] [.code B89]) [(29, .d (.bool (d.begun.createE (x ++ ByteArray.mk #[46, 116, 109, 112]) != 0)))] ?_
    refine .if' (d.begun.createE (x ++ ByteArray.mk #[46, 116, 109, 112]) != 0) (cgo 22 [true] [.code B89]) (cgo 22 [false] [.code B89]) (fun h7 => ?_) (fun h7 => ?_)
    · simp only [bsX] at h7
      refine .seg 5 [0, 1, 4, 5] (T' := cgo 27 [true] [.code B89]) (tm' := mk 106 [(0, .ptr 0 0 0), (1, .d (.list 1 (List.map bsD fs))), (4, .d (.int .i64 (d.begun.createE (x ++ ByteArray.mk #[46, 116, 109, 112])))), (5, .d (.str (x ++ ByteArray.mk #[46, 116, 109, 112])))]) (σ' := [.cells [.d (.int .i64 c), .d (.int .i64 s), .d (.int .i64 (chk 0 (d.begun.createE (x ++ ByteArray.mk #[46, 116, 109, 112])))), .ptr 1 0 0, .d (.str x)], .cells [.row 2, .ptr 3 0 0, .ep 2 (D.agg [D.list 1 (List.map strD (d.begun.createD (x ++ ByteArray.mk #[46, 116, 109, 112])).sk), D.list 1 (List.map intD (d.begun.createD (x ++ ByteArray.mk #[46, 116, 109, 112])).sv)]) 0, .row 6, .d (.int .i64 (d.begun.createD (x ++ ByteArray.mk #[46, 116, 109, 112])).quota), .d (.bool (d.begun.createD (x ++ ByteArray.mk #[46, 116, 109, 112])).full), .d (.bool (d.begun.createD (x ++ ByteArray.mk #[46, 116, 109, 112])).off), .d (.int .i64 (d.begun.createD (x ++ ByteArray.mk #[46, 116, 109, 112])).stop), .d (.int .i64 (d.begun.createD (x ++ ByteArray.mk #[46, 116, 109, 112])).calls)], .row 2 (List.map fileD (d.begun.createD (x ++ ByteArray.mk #[46, 116, 109, 112])).files) true, .cells [.row 4, .row 5], .row 1 (List.map strD (d.begun.createD (x ++ ByteArray.mk #[46, 116, 109, 112])).nk) true, .row 1 (List.map intD (d.begun.createD (x ++ ByteArray.mk #[46, 116, 109, 112])).nv) true, .row 3 (List.map chD (d.begun.createD (x ++ ByteArray.mk #[46, 116, 109, 112])).ch) true]) (by kernel_rfl) ?_
      refine .retH F89 (v := V.d (D.int IntKind.i64 (d.begun.createE (x ++ ByteArray.mk #[46, 116, 109, 112])))) (by kernel_rfl) (by kernel_rfl) ?_
      simp_all [SL, dirD, chk]
    · simp only [bsX] at h7
      omega
end Go.Proofs.Ytoelkgbeefoplaa
namespace Go.Proofs.Ytoelkgbeefoplaa
open Go Go.Br Go.Proofs
theorem good_take {rs : List (List UInt8)} {i : Nat} {f : List UInt8} (hf : rs[i]? = some f) : good (rs.take (i + 1)) = good (rs.take i) + (frame f).length := by
  obtain ⟨hi, rfl⟩ := List.getElem?_eq_some_iff.1 hf
  unfold good
  rw [List.take_succ_eq_append_getElem hi, List.map_append, List.sum_append, frame_length]
  simp
theorem good_le {k : Nat} : ∀ (rs : List (List UInt8)), (∀ r ∈ rs, r.length ≤ k) → good rs ≤ rs.length * (k + 8)
  | [], _ => by simp [good]
  | r :: rs, h => by
    have ih := good_le rs fun x hx => h x (by simp [hx])
    have h1 := h r (by simp)
    have h2 : good (r :: rs) = r.length + 8 + good rs := by simp [good]
    rw [h2, List.length_cons, Nat.succ_mul]; omega
def resetR (c s : Int) (x : ByteArray) (rs : List (List UInt8)) (d : Dk) : Int × Int × Int × Int × Dk :=
  let w := writeR x (rs.map frame) d
  if w.1 ≠ 0 then (w.1, c, s, w.2.1, w.2.2) else (0, rs.length, good rs, w.2.1, w.2.2)
theorem lo54 (c s : Int) (x : ByteArray) (d : Dk) (N : Nat) (h : d.Ok N) (rs : List (List UInt8)) (hrs : ∀ r ∈ rs, r.length ≤ 65536) (hl : rs.length < 10000) (hN : N + rs.length + 20 ≤ 50000) (hx : x.size < 1000) : ∀ (m i : Nat) (mv : Bool), i + m = rs.length →
    AW Try.prog 54 none 7 (cgo 35 [false] [Item.code B54]) (mk 58 [(0, V.ptr 0 0 0), (1, V.d (D.list 1 (List.map bsD rs))), (4, V.d (D.int IntKind.i64 0)), (6, V.row 7), (7, V.d (D.int IntKind.i64 (good (rs.take i) : Nat))), (18, V.d (D.list 1 (List.map bsD rs))), (19, V.d (D.int IntKind.i64 (rs.length : Nat))), (20, V.d (D.int IntKind.i64 (i : Nat)))]) (SL c s 0 x d false ++ [.row 1 (((rs.map frame).take i).map bsD) mv]) []
      fun r σ' => r = .ret (.d (.int .i64 (resetR c s x rs d).1)) ∧ σ' = SL (resetR c s x rs d).2.1 (resetR c s x rs d).2.2.1 (resetR c s x rs d).2.2.2.1 x (resetR c s x rs d).2.2.2.2 true := by
  intro m
  induction m with
  | zero =>
    intro i mv hi
    have hi : i = rs.length := by omega
    subst hi
    rw [List.take_length, show rs.length = (rs.map frame).length by simp, List.take_length, List.length_map]
    have k1 : ∀ f ∈ rs.map frame, f.length < 1000000 := by
      intro f hf
      obtain ⟨r, hr, rfl⟩ := List.mem_map.1 hf
      have := hrs r hr
      rw [frame_length]; omega
    have k2 : (rs.map frame).length < 10000 := by simpa using hl
    have k3 : N + (rs.map frame).length + 20 ≤ 50000 := by simpa using hN
    refine .sg0 5 [0, 1, 4, 6, 7, 18, 19, 20, 21] (cgo 40 [false] [.code B54]) [(21, .d (.bool (decide ((↑rs.length : Int) < (↑rs.length : Int)))))] ?_
    refine .if' (decide ((↑rs.length : Int) < (↑rs.length : Int))) (cgo 41 [false, true] [.code B54]) (cgo 41 [false, false] [.code B54]) (fun h1 => ?_) (fun h1 => ?_)
    · simp only [bsX] at h1
      omega
    · simp only [bsX] at h1
      refine .sg0 6 [0, 1, 4, 6, 7, 41, 42] (cgo 47 [false, false] [.code B54]) [(41, .ptr 0 0 0), (42, .row 7)] ?_
      refine .freeze 7 (sz := 1) (xs := List.map bsD (List.map frame rs)) (mv := mv) (by kernel_rfl) ?_
      refine .ca [0, 1, 2, 3, 4, 5, 6] (cgo 48 [false, false] [.code B54]) F89 (@spec_89 (c) (s) (x) (d) (N) (by assumption) (List.map frame rs) (by assumption) (by assumption) (by assumption) (by assumption)) ?_
      rintro r1 s1 ⟨rfl, rfl⟩
      refine ⟨_, rfl, ?_⟩
      refine .sg0 7 [0, 1, 4, 7, 12, 45] (cgo 55 [false, false] [.code B54]) [(12, .d (.int .i64 (writeR x (List.map frame rs) d).fst)), (45, .d (.bool ((writeR x (List.map frame rs) d).fst != 0)))] ?_
      refine .if' ((writeR x (List.map frame rs) d).fst != 0) (cgo 56 [false, false, true] [.code B54]) (cgo 56 [false, false, false] [.code B54]) (fun h3 => ?_) (fun h3 => ?_)
      · simp only [bsX] at h3
        refine .sg0 5 [0, 1, 4, 7] (cgo 61 [false, false, true] [.code B54]) [(4, .d (.int .i64 (writeR x (List.map frame rs) d).fst))] ?_
        refine .kp [4] ?_
        refine .su [0, 1, 2, 3, 4, 5, 6] (mk 58 [(4, .d (.int .i64 (writeR x (List.map frame rs) d).fst))]) [.cells [.d (.int .i64 c), .d (.int .i64 s), .d (.int .i64 (writeR x (List.map frame rs) d).snd.fst), .ptr 1 0 0, .d (.str x)], .cells [.row 2, .ptr 3 0 0, .ep 2 (D.agg [D.list 1 (List.map strD (writeR x (List.map frame rs) d).snd.snd.sk), D.list 1 (List.map intD (writeR x (List.map frame rs) d).snd.snd.sv)]) 0, .row 6, .d (.int .i64 (writeR x (List.map frame rs) d).snd.snd.quota), .d (.bool (writeR x (List.map frame rs) d).snd.snd.full), .d (.bool (writeR x (List.map frame rs) d).snd.snd.off), .d (.int .i64 (writeR x (List.map frame rs) d).snd.snd.stop), .d (.int .i64 (writeR x (List.map frame rs) d).snd.snd.calls)], .row 2 (List.map fileD (writeR x (List.map frame rs) d).snd.snd.files) true, .cells [.row 4, .row 5], .row 1 (List.map strD (writeR x (List.map frame rs) d).snd.snd.nk) true, .row 1 (List.map intD (writeR x (List.map frame rs) d).snd.snd.nv) true, .row 3 (List.map chD (writeR x (List.map frame rs) d).snd.snd.ch) true] ?_
        refine .retH F54 (v := V.d (D.int IntKind.i64 (writeR x (List.map frame rs) d).fst)) (by kernel_rfl) (by kernel_rfl) ?_
        simp_all [SL, dirD, resetR]
      · simp only [bsX] at h3
        refine .sg 21 [4] (cgo 77 [false, false, false] [.code B54]) [] [(0, .cells [.d (.int .i64 (↑(List.map bsD rs).length : Int)), .d (.int .i64 (↑(good rs) : Int)), .d (.int .i64 (writeR x (List.map frame rs) d).snd.fst), .ptr 1 0 0, .d (.str x)])] ?_
        simp only [List.length_map]
        refine .kp [4] ?_
        refine .su [0, 1, 2, 3, 4, 5, 6] (mk 58 [(4, .d (.int .i64 0))]) [.cells [.d (.int .i64 (↑rs.length : Int)), .d (.int .i64 (↑(good rs) : Int)), .d (.int .i64 (writeR x (List.map frame rs) d).snd.fst), .ptr 1 0 0, .d (.str x)], .cells [.row 2, .ptr 3 0 0, .ep 2 (D.agg [D.list 1 (List.map strD (writeR x (List.map frame rs) d).snd.snd.sk), D.list 1 (List.map intD (writeR x (List.map frame rs) d).snd.snd.sv)]) 0, .row 6, .d (.int .i64 (writeR x (List.map frame rs) d).snd.snd.quota), .d (.bool (writeR x (List.map frame rs) d).snd.snd.full), .d (.bool (writeR x (List.map frame rs) d).snd.snd.off), .d (.int .i64 (writeR x (List.map frame rs) d).snd.snd.stop), .d (.int .i64 (writeR x (List.map frame rs) d).snd.snd.calls)], .row 2 (List.map fileD (writeR x (List.map frame rs) d).snd.snd.files) true, .cells [.row 4, .row 5], .row 1 (List.map strD (writeR x (List.map frame rs) d).snd.snd.nk) true, .row 1 (List.map intD (writeR x (List.map frame rs) d).snd.snd.nv) true, .row 3 (List.map chD (writeR x (List.map frame rs) d).snd.snd.ch) true] ?_
        refine .retH F54 (v := V.d (D.int IntKind.i64 0)) (by kernel_rfl) (by kernel_rfl) ?_
        simp_all [SL, dirD, resetR]
  | succ m ih =>
    intro i mv hi
    obtain ⟨f, hf⟩ := get_some (l := rs) (i := i) (by omega)
    have hfl := hrs f (List.mem_of_getElem? hf)
    have hlf : (frame f).length = f.length + 8 := frame_length f
    have hg := good_le (rs.take i) (fun r hr => hrs r (List.mem_of_mem_take hr))
    rw [List.length_take] at hg
    have hg2 : good (rs.take i) < 1000000000 := by omega
    have ih1 := ih (i + 1) true (by omega)
    clear ih
    refine .sg0 5 [0, 1, 4, 6, 7, 18, 19, 20, 21] (cgo 40 [false] [.code B54]) [(21, .d (.bool (decide ((↑i : Int) < (↑rs.length : Int)))))] ?_
    refine .if' (decide ((↑i : Int) < (↑rs.length : Int))) (cgo 41 [false, true] [.code B54]) (cgo 41 [false, false] [.code B54]) (fun h1 => ?_) (fun h1 => ?_)
    · simp only [bsX] at h1
      refine .sg0 5 [0, 1, 4, 6, 7, 18, 19, 20, 21] (cgo 46 [false, true] [.code B54]) [] ?_
      refine .op' (cgo 47 [false, true] [.code B54]) (ixData_ok (t := 26) (x := (.tmp 18)) (i := (.tmp 20)) (k := IntKind.i64) (n := (↑i : Int)) (sz := 1) (xs := List.map bsD rs) (d := bsD f) (by kernel_rfl) (by kernel_rfl) (by kernel_rfl) (by kernel_rfl) (by omega) (map_get hf)) ?_
      refine .sg0 6 [0, 1, 4, 6, 7, 9, 18, 19, 20, 21, 22, 23, 25] (cgo 53 [false, true] [.code B54]) [(9, .d (.list 1 (List.map u8 f))), (23, .d (.list 1 (List.map u8 f))), (25, .d (.list 1 (List.map u8 f)))] ?_
      refine .ca [] (cgo 54 [false, true] [.code B54]) F16 (@spec_16 (f) (by assumption)) ?_
      rintro r1 s1 ⟨rfl, rfl⟩
      refine ⟨_, rfl, ?_⟩
      refine .sg0 18 [0, 1, 4, 6, 7, 9, 10, 11, 18, 19, 20, 21, 22, 23, 24, 25, 26, 27, 28, 29, 30, 32, 33] (cgo 72 [false, true, false] [.code B54]) [(10, .row 8), (11, .d (.int .i64 0)), (24, .tuple [.row 8, .d (.int .i64 0)]), (27, .row 8), (28, .d (.int .i64 0)), (29, .d (.int .i64 0)), (30, .d (.bool false)), (32, .row 7), (33, .row 8)] ?_
      refine .freeze 8 (sz := 1) (xs := List.map u8 (frame f)) (mv := false) (by kernel_rfl) ?_
      refine .sg 1 [0, 1, 4, 6, 7, 9, 10, 11, 18, 19, 20, 21, 22, 23, 24, 25, 26, 27, 28, 29, 30, 32, 33, 34] (cgo 73 [false, true, false] [.code B54]) [(34, .row 9)] [(9, .row 1 [D.list 1 (List.map u8 (frame f))] false)] ?_
      refine .op' (cgo 74 [false, true, false] [.code B54]) (appRow_ok (s := (.tmp 32)) (x := (.tmp 34)) (t := 26) (t2 := 26) (sz := 1) (by' := 24) (ys := [D.list 1 (List.map u8 (frame f))]) (l := 7) (xs := List.map bsD (List.take i (List.map frame rs))) (mv := mv) (by kernel_rfl) (by kernel_rfl) (by kernel_rfl) (by kernel_rfl) (by kernel_rfl) (by kernel_rfl) (by simp <;> omega) (by first | (simp [maxLen] <;> omega) | omega)) ?_
      refine .sg0 14 [0, 1, 4, 6, 7, 9, 10, 11, 18, 19, 20, 21, 22, 23, 24, 25, 26, 27, 28, 29, 30, 33, 34, 35, 36, 37, 38, 39, 40] (cgo 88 [false, true, false] [.code B54]) [(6, .row 7), (7, .d (.int .i64 (IntKind.i64.wrap ((↑(good (List.take i rs)) : Int) + (↑(List.map u8 (frame f)).length : Int))))), (20, .d (.int .i64 (IntKind.i64.wrap ((↑i : Int) + 1)))), (36, .d (.int .i64 (↑(good (List.take i rs)) : Int))), (37, .d (.list 1 (List.map u8 (frame f)))), (38, .d (.int .i64 (↑(List.map u8 (frame f)).length : Int))), (39, .d (.int .i64 (IntKind.i64.wrap ((↑(good (List.take i rs)) : Int) + (↑(List.map u8 (frame f)).length : Int))))), (40, .d (.int .i64 (IntKind.i64.wrap ((↑i : Int) + 1))))] ?_
      simp only [List.length_map]
      simp (disch := omega) only [wrap_i64, wrap_u64s, wrap_u32s, wrap_u8s, wrap_i32s, iadd_i64, isub_i64, irem_n, iquo_n, tdiv_nn, tmod_nn]
      have e1 : List.map bsD (List.take i (List.map frame rs)) ++ [D.list 1 (List.map u8 (frame f))] = List.map bsD (List.take (i + 1) (List.map frame rs)) := by
        obtain ⟨hi2, rfl⟩ := List.getElem?_eq_some_iff.1 hf
        rw [List.take_succ_eq_append_getElem (by simpa using hi2), List.map_append, List.getElem_map]
        rfl
      have e2 : ((good (List.take i rs) : Nat) : Int) + ((frame f).length : Int) = ((good (List.take (i + 1) rs) : Nat) : Int) := by
        rw [good_take hf]; omega
      rw [e1, e2]
      refine .kp [0, 1, 4, 6, 7, 18, 19, 20] ?_
      refine .su [0, 1, 2, 3, 4, 5, 6, 7] (mk 58 [(0, V.ptr 0 0 0), (1, V.d (D.list 1 (List.map bsD rs))), (4, V.d (D.int IntKind.i64 0)), (6, V.row 7), (7, V.d (D.int IntKind.i64 (good (List.take (i + 1) rs) : Nat))), (18, V.d (D.list 1 (List.map bsD rs))), (19, V.d (D.int IntKind.i64 (rs.length : Nat))), (20, V.d (D.int IntKind.i64 ((i + 1 : Nat) : Int)))]) (SL c s 0 x d false ++ [.row 1 (((rs.map frame).take (i + 1)).map bsD) true]) ?_
      exact .seg 1 [0, 1, 4, 6, 7, 18, 19, 20] (by kernel_rfl) ih1
    · simp only [bsX] at h1
      omega
theorem spec_54 (c s : Int) (x : ByteArray) (d : Dk) (N : Nat) (h : d.Ok N) (rs : List (List UInt8)) (hrs : ∀ r ∈ rs, r.length ≤ 65536) (hl : rs.length < 10000) (hN : N + rs.length + 20 ≤ 50000) (hx : x.size < 1000) :
    CallsA Try.prog 54 [.ptr 0 0 0, .d (.list 1 (rs.map bsD))] (SL c s 0 x d false) fun r σ' => r = .ret (.d (.int .i64 (resetR c s x rs d).1)) ∧ σ' = SL (resetR c s x rs d).2.1 (resetR c s x rs d).2.2.1 (resetR c s x rs d).2.2.2.1 x (resetR c s x rs d).2.2.2.2 true := by
  refine CallsA.start F54 (tm := mk (Try.f54.ntmps) [(0, .ptr 0 0 0), (1, .d (.list 1 (rs.map bsD)))]) (by kernel_rfl) ?_
  refine .sg0 8 [0, 1, 4, 13] (cgo 8 [] [.code B54]) [(4, .d (.int .i64 0)), (13, .ptr 0 0 0)] ?_
  refine .ca [0, 1, 2, 3, 4, 5, 6] (cgo 9 [] [.code B54]) F55 (@spec_55 (c) (s) (0) (x) (d)) ?_
  rintro r0 s0 ⟨rfl, rfl⟩
  refine ⟨_, rfl, ?_⟩
  refine .seg 25 [0, 1, 4, 6, 7, 18, 19, 20] (T' := cgo 34 [false] [.code B54]) (tm' := mk 58 [(0, .ptr 0 0 0), (1, .d (.list 1 (List.map bsD rs))), (4, .d (.int .i64 0)), (6, .nils), (7, .d (.int .i64 0)), (18, .d (.list 1 (List.map bsD rs))), (19, .d (.int .i64 (↑(List.map bsD rs).length : Int))), (20, .d (.int .i64 0))]) (σ' := [.cells [.d (.int .i64 c), .d (.int .i64 s), .d (.int .i64 0), .ptr 1 0 0, .d (.str x)], .cells [.row 2, .ptr 3 0 0, .ep 2 (D.agg [D.list 1 (List.map strD d.sk), D.list 1 (List.map intD d.sv)]) 0, .row 6, .d (.int .i64 d.quota), .d (.bool d.full), .d (.bool d.off), .d (.int .i64 d.stop), .d (.int .i64 d.calls)], .row 2 (List.map fileD d.files) false, .cells [.row 4, .row 5], .row 1 (List.map strD d.nk) false, .row 1 (List.map intD d.nv) false, .row 3 (List.map chD d.ch) false]) (by kernel_rfl) ?_
  simp only [List.length_map]
  refine .virtT 6 1 (by kernel_rfl) ?_
  exact .seg 1 [0, 1, 4, 6, 7, 18, 19, 20] (by kernel_rfl) (lo54 c s x d N h rs hrs hl hN hx rs.length 0 false (by omega))
end Go.Proofs.Ytoelkgbeefoplaa
namespace Go.Proofs.Ytoelkgbeefoplaa
open Go Go.Br Go.Proofs
end Go.Proofs.Ytoelkgbeefoplaa
namespace Go.Proofs.Ytoelkgbeefoplaa
open Go Go.Br Go.Proofs
def logX : ByteArray := ⟨#[108, 111, 103]⟩
def tmpN : ByteArray := ⟨#[108, 111, 103, 46, 116, 109, 112]⟩
theorem logX_tmp : logX ++ tmpX = tmpN := by decide +kernel
theorem may_log : mayName logX = true := by decide +kernel
theorem may_tmp : mayName tmpN = true := by decide +kernel
structure Dk.On (d : Dk) : Prop where
  off : d.off = false
  stop : d.stop = -1
theorem Dk.On.begun {d : Dk} (h : d.On) : d.begun = { d with calls := d.calls + 1 } := by
  unfold Dk.begun
  rw [if_neg (by rw [h.off]; simp)]
  simp [h.off, h.stop]
structure Lone (d : Dk) (k : Nat) (A : List UInt8) : Prop where
  on : d.On
  nk : d.nk = [logX]
  nv : d.nv = [(k : Int)]
  lt : k < d.files.length
  data : (d.file k).1 = A
structure Twin (d : Dk) (k j : Nat) (A B : List UInt8) : Prop where
  on : d.On
  nk : d.nk = [logX, tmpN]
  nv : d.nv = [(k : Int), (j : Int)]
  lk : k < d.files.length
  lj : j < d.files.length
  ne : k ≠ j
  dk : (d.file k).1 = A
  dj : (d.file j).1 = B
theorem look_log (k : Int) : look [logX] [k] logX = some k := by kernel_rfl
theorem look2_tmp (k j : Int) : look [logX, tmpN] [k, j] tmpN = some j := by kernel_rfl
theorem kap_put2 (k j : Int) : kapply [logX] [k] noName tmpN j = ([logX, tmpN], [k, j]) := by kernel_rfl
theorem kap_drop (k j z : Int) : kapply [logX, tmpN] [k, j] tmpN noName z = ([logX], [k]) := by kernel_rfl
theorem kap_ren (k j : Int) : kapply [logX, tmpN] [k, j] tmpN logX j = ([logX], [j]) := by kernel_rfl
theorem file_set {d : Dk} {k j : Nat} {f : List UInt8 × Nat} {b : Dk} (hb : b.files = d.files.set k f) (hk : k < d.files.length) : b.file j = if j = k then f else d.file j := by
  unfold Dk.file
  rw [hb, List.getD_eq_getElem?_getD, List.getD_eq_getElem?_getD, List.getElem?_set]
  by_cases h : k = j
  · subst h; simp [hk]
  · rw [if_neg h, if_neg (Ne.symm h)]
theorem file_app {d : Dk} {j : Nat} {f : List UInt8 × Nat} {b : Dk} (hb : b.files = d.files ++ [f]) (hj : j < d.files.length) : b.file j = d.file j := by
  unfold Dk.file
  rw [hb, List.getD_eq_getElem?_getD, List.getD_eq_getElem?_getD, List.getElem?_append_left hj]
theorem Lone.begun {d : Dk} {k : Nat} {A : List UInt8} (h : Lone d k A) : Lone d.begun k A := by
  rw [h.on.begun]; exact ⟨⟨h.on.off, h.on.stop⟩, h.nk, h.nv, h.lt, h.data⟩
theorem Twin.begun {d : Dk} {k j : Nat} {A B : List UInt8} (h : Twin d k j A B) : Twin d.begun k j A B := by
  rw [h.on.begun]; exact ⟨⟨h.on.off, h.on.stop⟩, h.nk, h.nv, h.lk, h.lj, h.ne, h.dk, h.dj⟩
theorem begun_quota (d : Dk) : d.begun.quota = d.quota := by unfold Dk.begun; split <;> rfl
theorem Lone.num {d : Dk} {k : Nat} {A : List UInt8} (h : Lone d k A) : d.num logX = k := by simp [Dk.num, h.nk, h.nv, look_log]
theorem Lone.err {d : Dk} {k : Nat} {A : List UInt8} (h : Lone d k A) : d.err true [logX] = 0 := by
  simp [Dk.err, h.on.off, may_log, h.nk, h.nv, look_log]
theorem Lone.used {d : Dk} {k : Nat} {A : List UInt8} (h : Lone d k A) : d.used = A.length := by
  simp [Dk.used, h.nv, h.data]
theorem Lone.appendE {d : Dk} {k : Nat} {A : List UInt8} (h : Lone d k A) {f : List UInt8} (hf : A.length + f.length ≤ 1048576) : d.appendE logX f = if (A.length : Int) + f.length ≤ d.quota then 0 else 4 := by
  unfold Dk.appendE
  rw [h.err, h.num, h.data, h.used, if_neg (by simp), if_neg (by omega)]
  split <;> split <;> omega
theorem Lone.appendD {d : Dk} {k : Nat} {A : List UInt8} (h : Lone d k A) {f : List UInt8} (hf : A.length + f.length ≤ 1048576) : Lone (d.appendD logX f) k (if (A.length : Int) + f.length ≤ d.quota then A ++ f else A) ∧ (d.appendD logX f).quota = d.quota := by
  unfold Dk.appendD
  rw [h.appendE hf]
  by_cases hq : (A.length : Int) + f.length ≤ d.quota
  · rw [if_pos hq, if_pos rfl, if_pos hq, h.num]
    refine ⟨⟨⟨h.on.off, h.on.stop⟩, h.nk, h.nv, by simpa using h.lt, ?_⟩, rfl⟩
    rw [file_set (d := d) rfl h.lt, if_pos rfl, h.data]
  · rw [if_neg hq, if_neg (by simp), if_pos rfl, if_neg hq]
    exact ⟨⟨⟨h.on.off, h.on.stop⟩, h.nk, h.nv, h.lt, h.data⟩, rfl⟩
theorem Lone.create {d : Dk} {k : Nat} {A : List UInt8} (h : Lone d k A) : d.createE tmpN = 0 ∧ Twin (d.createD tmpN) k d.files.length A [] ∧ (d.createD tmpN).quota = d.quota := by
  have e : d.createE tmpN = 0 := by
    unfold Dk.createE
    have h1 : d.err false [tmpN] = 0 := by simp [Dk.err, h.on.off, may_tmp]
    rw [h1, if_neg (by simp), if_neg (by rw [h.nk]; simp)]
  refine ⟨e, ?_, ?_⟩
  · unfold Dk.createD
    rw [if_pos e]
    have hk := kap_put2 (k : Int) (d.files.length : Int)
    refine ⟨⟨h.on.off, h.on.stop⟩, ?_, ?_, ?_, ?_, ?_, ?_, ?_⟩
    · show (kapply d.nk d.nv noName tmpN _).1 = _
      rw [h.nk, h.nv, hk]
    · show (kapply d.nk d.nv noName tmpN _).2 = _
      rw [h.nk, h.nv, hk]
    · show k < (d.files ++ [([], 0)]).length
      have := h.lt; simp; omega
    · show d.files.length < (d.files ++ [([], 0)]).length
      simp
    · have := h.lt; omega
    · rw [file_app (d := d) (f := ([], 0)) rfl h.lt, h.data]
    · simp [Dk.file, Dk.turn]
  · unfold Dk.createD
    rw [if_pos e]; rfl
theorem Twin.num {d : Dk} {k j : Nat} {A B : List UInt8} (h : Twin d k j A B) : d.num tmpN = j := by simp [Dk.num, h.nk, h.nv, look2_tmp]
theorem Twin.err {d : Dk} {k j : Nat} {A B : List UInt8} (h : Twin d k j A B) : d.err true [tmpN] = 0 := by
  simp [Dk.err, h.on.off, may_tmp, h.nk, h.nv, look2_tmp]
theorem Twin.err2 {d : Dk} {k j : Nat} {A B : List UInt8} (h : Twin d k j A B) : d.err true [tmpN, logX] = 0 := by
  simp [Dk.err, h.on.off, may_tmp, may_log, h.nk, h.nv, look2_tmp]
theorem Twin.used {d : Dk} {k j : Nat} {A B : List UInt8} (h : Twin d k j A B) : d.used = A.length + B.length := by
  simp [Dk.used, h.nv, h.dk, h.dj]
theorem Twin.appendE {d : Dk} {k j : Nat} {A B : List UInt8} (h : Twin d k j A B) {f : List UInt8} (hf : B.length + f.length ≤ 1048576) : d.appendE tmpN f = if (A.length : Int) + B.length + f.length ≤ d.quota then 0 else 4 := by
  unfold Dk.appendE
  rw [h.err, h.num, h.dj, h.used, if_neg (by simp), if_neg (by omega)]
  split <;> split <;> omega
theorem Twin.appendD {d : Dk} {k j : Nat} {A B : List UInt8} (h : Twin d k j A B) {f : List UInt8} (hf : B.length + f.length ≤ 1048576) : Twin (d.appendD tmpN f) k j A (if (A.length : Int) + B.length + f.length ≤ d.quota then B ++ f else B) ∧ (d.appendD tmpN f).quota = d.quota := by
  unfold Dk.appendD
  rw [h.appendE hf]
  by_cases hq : (A.length : Int) + B.length + f.length ≤ d.quota
  · rw [if_pos hq, if_pos rfl, if_pos hq, h.num]
    refine ⟨⟨⟨h.on.off, h.on.stop⟩, h.nk, h.nv, by simpa using h.lk, by simpa using h.lj, h.ne, ?_, ?_⟩, rfl⟩
    · rw [file_set (d := d) rfl h.lj, if_neg h.ne, h.dk]
    · rw [file_set (d := d) rfl h.lj, if_pos rfl, h.dj]
  · rw [if_neg hq, if_neg (by simp), if_pos rfl, if_neg hq]
    exact ⟨⟨⟨h.on.off, h.on.stop⟩, h.nk, h.nv, h.lk, h.lj, h.ne, h.dk, h.dj⟩, rfl⟩
theorem Twin.sync {d : Dk} {k j : Nat} {A B : List UInt8} (h : Twin d k j A B) : Twin (d.syncD tmpN) k j A B ∧ (d.syncD tmpN).quota = d.quota := by
  unfold Dk.syncD
  rw [if_pos h.err, h.num]
  refine ⟨⟨⟨h.on.off, h.on.stop⟩, h.nk, h.nv, by simpa using h.lk, by simpa using h.lj, h.ne, ?_, ?_⟩, rfl⟩
  · rw [file_set (d := d) rfl h.lj, if_neg h.ne, h.dk]
  · rw [file_set (d := d) rfl h.lj, if_pos rfl, h.dj]
theorem Twin.remove {d : Dk} {k j : Nat} {A B : List UInt8} (h : Twin d k j A B) : Lone (d.removeD tmpN) k A ∧ (d.removeD tmpN).quota = d.quota := by
  unfold Dk.removeD
  rw [if_pos h.err]
  have hk := kap_drop (k : Int) (j : Int) 0
  refine ⟨⟨⟨h.on.off, h.on.stop⟩, ?_, ?_, h.lk, h.dk⟩, rfl⟩
  · show (kapply d.nk d.nv tmpN noName 0).1 = _
    rw [h.nk, h.nv, hk]
  · show (kapply d.nk d.nv tmpN noName 0).2 = _
    rw [h.nk, h.nv, hk]
theorem Twin.rename {d : Dk} {k j : Nat} {A B : List UInt8} (h : Twin d k j A B) : Lone (d.renameD tmpN logX) j B ∧ (d.renameD tmpN logX).quota = d.quota := by
  unfold Dk.renameD
  rw [if_pos h.err2]
  have hk := kap_ren (k : Int) (j : Int)
  have hl : (look d.nk d.nv tmpN).getD 0 = (j : Int) := by rw [h.nk, h.nv, look2_tmp]; rfl
  rw [hl]
  refine ⟨⟨⟨h.on.off, h.on.stop⟩, ?_, ?_, h.lj, h.dj⟩, rfl⟩
  · show (kapply d.nk d.nv tmpN logX _).1 = _
    rw [h.nk, h.nv, hk]
  · show (kapply d.nk d.nv tmpN logX _).2 = _
    rw [h.nk, h.nv, hk]
theorem Lone.syncDir {d : Dk} {k : Nat} {A : List UInt8} (h : Lone d k A) : Lone d.syncDirD k A ∧ d.syncDirD.quota = d.quota ∧ d.err false [] = 0 := by
  unfold Dk.syncDirD
  rw [if_neg (by rw [h.on.off]; simp)]
  exact ⟨⟨⟨h.on.off, h.on.stop⟩, h.nk, h.nv, h.lt, h.data⟩, rfl, by simp [Dk.err, h.on.off]⟩
theorem wrT_twin {d : Dk} {k j : Nat} {A B : List UInt8} (h : Twin d k j A B) : (wrT tmpN logX d).1 = 0 ∧ Lone (wrT tmpN logX d).2 j B ∧ (wrT tmpN logX d).2.quota = d.quota := by
  have h1 := h.begun
  obtain ⟨h2, q2⟩ := h1.sync
  have h3 := h2.begun
  obtain ⟨h4, q4⟩ := h3.rename
  have h5 := h4.begun
  obtain ⟨h6, q6, e6⟩ := h5.syncDir
  unfold wrT
  rw [if_neg (by rw [h1.err]; simp), if_neg (by rw [h3.err2]; simp)]
  exact ⟨e6, h6, by rw [q6, begun_quota, q4, begun_quota, q2, begun_quota]⟩
theorem wrG_twin {k j : Nat} {A : List UInt8} : ∀ (fs : List (List UInt8)) (d : Dk) (B : List UInt8), Twin d k j A B → B.length + fs.flatten.length ≤ 1048576 →
    (wrG tmpN logX fs d).2.1 = 0 ∧ (wrG tmpN logX fs d).2.2.quota = d.quota ∧
    (if (A.length : Int) + B.length + fs.flatten.length ≤ d.quota then (wrG tmpN logX fs d).1 = 0 ∧ Lone (wrG tmpN logX fs d).2.2 j (B ++ fs.flatten) else (wrG tmpN logX fs d).1 = 4 ∧ Lone (wrG tmpN logX fs d).2.2 k A) ∨
    (A.length : Int) + B.length > d.quota
  | [], d, B, h, _ => by
    obtain ⟨h1, h2, h3⟩ := wrT_twin h
    by_cases hq : (A.length : Int) + B.length ≤ d.quota
    · left
      refine ⟨h1, h3, ?_⟩
      rw [if_pos (by simpa using hq)]
      exact ⟨h1, by rw [List.flatten_nil, List.append_nil]; exact h2⟩
    · right; omega
  | f :: fs, d, B, h, hl => by
    simp only [List.flatten_cons, List.length_append] at hl
    by_cases hq : (A.length : Int) + B.length ≤ d.quota
    · left
      have h1 := h.begun
      have e1 := h1.appendE (f := f) (by omega)
      obtain ⟨h2, q2⟩ := h1.appendD (f := f) (by omega)
      rw [begun_quota] at e1 h2 q2
      by_cases hf : (A.length : Int) + B.length + f.length ≤ d.quota
      · rw [if_pos hf] at e1 h2
        have ih := wrG_twin fs _ _ h2 (by simp only [List.length_append]; omega)
        have e : wrG tmpN logX (f :: fs) d = wrG tmpN logX fs (d.begun.appendD tmpN f) := by
          simp only [wrG]; rw [e1]; simp
        rw [e]
        rcases ih with ⟨i1, i2, i3⟩ | i4
        · refine ⟨i1, by rw [i2, q2], ?_⟩
          rw [q2] at i3
          simp only [List.flatten_cons, List.length_append, List.append_assoc] at i3 ⊢
          split
          · rename_i hc
            rw [if_pos (by push_cast at hc ⊢; omega)] at i3
            exact i3
          · rename_i hc
            rw [if_neg (by push_cast at hc ⊢; omega)] at i3
            exact i3
        · rw [q2] at i4
          simp only [List.length_append] at i4
          push_cast at i4
          omega
      · rw [if_neg hf] at e1 h2
        have h3 := h2.begun
        obtain ⟨h4, q4⟩ := h3.remove
        have e : wrG tmpN logX (f :: fs) d = (4, 0, (d.begun.appendD tmpN f).begun.removeD tmpN) := by
          simp only [wrG]; rw [e1, if_pos rfl, h3.err]; simp
        rw [e]
        refine ⟨rfl, by rw [q4, begun_quota, q2], ?_⟩
        rw [if_neg (by simp only [List.flatten_cons, List.length_append]; push_cast; omega)]
        exact ⟨rfl, h4⟩
    · right; omega
theorem new_lone (q : Int) : makeL (Dk.new q) logX = { files := [([], 0)], nk := [logX], nv := [0], sk := [logX], sv := [0], ch := [], quota := if 0 > q then 0 else q, full := false, off := false, stop := -1, calls := 2 } := by kernel_rfl
theorem new_e (q : Int) : makeE (Dk.new q) logX = 0 := by kernel_rfl
theorem Lone.new (q : Int) : Lone (makeL (Dk.new q) logX) 0 [] ∧ (makeL (Dk.new q) logX).quota = if 0 > q then 0 else q := by
  rw [new_lone]
  exact ⟨⟨⟨rfl, rfl⟩, rfl, rfl, by simp, rfl⟩, rfl⟩
theorem writeR_lone {d : Dk} {k : Nat} {A : List UInt8} (h : Lone d k A) (fs : List (List UInt8)) (hl : fs.flatten.length ≤ 1048576) (hq : (A.length : Int) ≤ d.quota) :
    (writeR logX fs d).2.1 = 0 ∧ (writeR logX fs d).2.2.quota = d.quota ∧
    (if (A.length : Int) + fs.flatten.length ≤ d.quota then (writeR logX fs d).1 = 0 ∧ ∃ j, Lone (writeR logX fs d).2.2 j fs.flatten else (writeR logX fs d).1 = 4 ∧ Lone (writeR logX fs d).2.2 k A) := by
  have h1 := h.begun
  obtain ⟨e, h2, q2⟩ := h1.create
  have hw : writeR logX fs d = wrG tmpN logX fs (d.begun.createD tmpN) := by
    unfold writeR
    rw [logX_tmp, e]; simp
  rw [hw]
  rw [begun_quota] at q2
  rcases wrG_twin fs _ _ h2 (by simpa using hl) with ⟨i1, i2, i3⟩ | i4
  · refine ⟨i1, by rw [i2, q2], ?_⟩
    rw [q2] at i3
    simp only [List.length_nil, List.nil_append, Int.natCast_zero, Int.add_zero] at i3
    split
    · rename_i hc
      rw [if_pos (by simpa using hc)] at i3
      exact ⟨i3.1, _, i3.2⟩
    · rename_i hc
      rw [if_neg (by simpa using hc)] at i3
      exact i3
  · rw [q2] at i4
    simp at i4; omega
theorem wrT_ok {t x : ByteArray} {d : Dk} {N : Nat} (h : d.Ok N) (hN : N + 10 ≤ 50000) : (wrT t x d).2.Ok (N + 10) := by
  have h1 := Dk.syncD_ok (Dk.begun_ok h (by omega)) t
  have h2 := Dk.renameD_ok (Dk.begun_ok h1 (by omega)) (by omega) t x
  have h3 := Dk.syncDirD_ok (Dk.begun_ok h2 (by omega))
  unfold wrT
  split
  · exact h1.mono (by omega) hN
  · split
    · exact h2.mono (by omega) hN
    · exact h3.mono (by omega) hN
theorem wrG_ok {t x : ByteArray} : ∀ (fs : List (List UInt8)) {d : Dk} {N : Nat} (_ : d.Ok N) (_ : N + fs.length + 10 ≤ 50000), (wrG t x fs d).2.2.Ok (N + fs.length + 10)
  | [], d, N, h, hN => wrT_ok h hN
  | f :: fs, d, N, h, hN => by
    simp only [List.length_cons] at hN ⊢
    have h1 := Dk.appendD_ok (Dk.begun_ok h (by omega)) t f
    have h2 := Dk.removeD_ok (Dk.begun_ok h1 (by omega)) (by omega) t
    simp only [wrG]
    split
    · split
      · exact h2.mono (by omega) hN
      · exact h2.mono (by omega) hN
    · split
      · exact h1.mono (by omega) hN
      · exact (wrG_ok fs h1 (by omega)).mono (by omega) hN
theorem writeR_ok {x : ByteArray} {fs : List (List UInt8)} {d : Dk} {N : Nat} (h : d.Ok N) (hN : N + fs.length + 20 ≤ 50000) : (writeR x fs d).2.2.Ok (N + fs.length + 20) := by
  have h1 := Dk.createD_ok (Dk.begun_ok h (by omega)) (by omega) (x ++ tmpX)
  unfold writeR
  split
  · exact h1.mono (by omega) hN
  · exact (wrG_ok fs h1 (by omega)).mono (by omega) hN
theorem addL_ok {d : Dk} {x : ByteArray} {bs : List UInt8} {N : Nat} (h : d.Ok N) (hN : N + 1 ≤ 50000) : (addL d x bs).Ok (N + 1) := by
  unfold addL
  split
  · exact h.mono (by omega) hN
  · exact Dk.appendD_ok (Dk.begun_ok h hN) x (frame bs)
theorem Lone.add {d : Dk} {k : Nat} {A : List UInt8} (h : Lone d k A) {bs : List UInt8} (hb : bs.length ≤ 65536) (hf : A.length + (frame bs).length ≤ 1048576) :
    addE d logX bs = (if (A.length : Int) + (frame bs).length ≤ d.quota then 0 else 4) ∧ Lone (addL d logX bs) k (if (A.length : Int) + (frame bs).length ≤ d.quota then A ++ frame bs else A) ∧ (addL d logX bs).quota = d.quota := by
  have h1 := h.begun
  have e1 := h1.appendE hf
  obtain ⟨h2, q2⟩ := h1.appendD hf
  rw [begun_quota] at e1 h2 q2
  have hn : ¬ 65536 < bs.length := by omega
  have a1 : addE d logX bs = d.begun.appendE logX (frame bs) := if_neg hn
  have a2 : addL d logX bs = d.begun.appendD logX (frame bs) := if_neg hn
  rw [a1, a2]
  exact ⟨e1, h2, q2⟩
end Go.Proofs.Ytoelkgbeefoplaa
namespace Go.Proofs.Ytoelkgbeefoplaa
open Go Go.Br Go.Proofs
noncomputable def B82 : Code := (Try.f82.body).getD .skip
theorem F82 : Fnc Try.prog 82 Try.f82 B82 := ⟨Try.func82, by kernel_rfl, by kernel_rfl⟩
noncomputable def B104 : Code := (Try.f104.body).getD .skip
theorem F104 : Fnc Try.prog 104 Try.f104 B104 := ⟨Try.func104, by kernel_rfl, by kernel_rfl⟩
noncomputable def B44 : Code := (Try.f44.body).getD .skip
theorem F44 : Fnc Try.prog 44 Try.f44 B44 := ⟨Try.func44, by kernel_rfl, by kernel_rfl⟩
theorem spec_82 (d : Dk) : CallsA Try.prog 82 [.ptr 0 0 0] (SD d false) fun r σ' => r = .ret (.fn (.func 104) [] [.ptr 6 0 0]) ∧ σ' = SD d false ++ [.cells [.ptr 0 0 0]] := by
  refine CallsA.start F82 (tm := mk (Try.f82.ntmps) [(0, .ptr 0 0 0)]) (by kernel_rfl) ?_
  refine .seg 10 [2] (T' := cgo 10 [] [.code B82]) (tm' := mk 4 [(2, .fn (Fn.func 104) [] [.ptr 6 0 0])]) (σ' := [.cells [.row 1, .ptr 2 0 0, .ep 2 (D.agg [D.list 1 (List.map strD d.sk), D.list 1 (List.map intD d.sv)]) 0, .row 5, .d (.int .i64 d.quota), .d (.bool d.full), .d (.bool d.off), .d (.int .i64 d.stop), .d (.int .i64 d.calls)], .row 2 (List.map fileD d.files) false, .cells [.row 3, .row 4], .row 1 (List.map strD d.nk) false, .row 1 (List.map intD d.nv) false, .row 3 (List.map chD d.ch) false, .cells [.ptr 0 0 0]]) (by kernel_rfl) ?_
  refine .retH F82 (v := V.fn (Fn.func 104) [] [V.ptr 6 0 0]) (by kernel_rfl) (by kernel_rfl) ?_
  exact ⟨rfl, rfl⟩
def afD (d : Dk) (p : ByteArray × Int) : D := .agg [.str p.1, bsD (d.file p.2.toNat).1]
def allF (d : Dk) : List D := (d.nk.zip d.nv).map (afD d)
theorem allF_length (d : Dk) (h : d.nv.length = d.nk.length) : (allF d).length = d.nk.length := by simp [allF, h]
theorem allF_get {d : Dk} {i : Nat} {x : ByteArray} {v : Int} (hx : d.nk[i]? = some x) (hy : d.nv[i]? = some v) : (allF d)[i]? = some (.agg [.str x, bsD (d.file v.toNat).1]) := by
  unfold allF
  rw [List.getElem?_map, (List.getElem?_zip_eq_some.2 ⟨hx, hy⟩ : (d.nk.zip d.nv)[i]? = some (x, v))]; rfl
theorem take_snoc {α : Type} {l : List α} {i : Nat} {y : α} (h : l[i]? = some y) : l.take i ++ [y] = l.take (i + 1) := by
  obtain ⟨hi, rfl⟩ := List.getElem?_eq_some_iff.1 h
  rw [List.take_succ_eq_append_getElem hi]
noncomputable def S44 (d : Dk) (i : Nat) (st : LoopState) : Store := [.cells [.row 1, .ptr 2 0 0, .ep 2 (dirD d.sk d.sv) 0, .row 5, .d (.int .i64 d.quota), .d (.bool d.full), .d (.bool d.off), .d (.int .i64 d.stop), .d (.int .i64 d.calls)], .row 2 (d.files.map fileD) false, .cells [.row 3, .row 4], .row 1 (d.nk.map strD) false, .row 1 (d.nv.map intD) false, .row 3 (d.ch.map chD) false,
  .cells [.row 8], .cells [.ptr 0 0 0], .row 1 ((d.nk.take i).map strD) true, .defd, lp (cgo 11 [] [Item.code B44]) 44 (mk 13 [(2, V.ptr 6 0 0), (5, V.fn (Fn.func 104) [] [V.ptr 7 0 0])]) st]
noncomputable def S104 (d : Dk) (i : Nat) (st : LoopState) : Store := [.cells [.row 1, .ptr 2 0 0, .ep 2 (dirD d.sk d.sv) 0, .row 5, .d (.int .i64 d.quota), .d (.bool d.full), .d (.bool d.off), .d (.int .i64 d.stop), .d (.int .i64 d.calls)], .row 2 (d.files.map fileD) false, .cells [.row 3, .row 4], .row 1 (d.nk.map strD) false, .row 1 (d.nv.map intD) false, .row 3 (d.ch.map chD) false,
  .cells [.row 8], .cells [.ptr 0 0 0], .row 1 ((d.nk.take 0).map strD) true, .defd, lp (cgo 11 [] [Item.code B44]) 44 (mk 13 [(2, V.ptr 6 0 0), (5, V.fn (Fn.func 104) [] [V.ptr 7 0 0])]) .ready,
  .cells [.row 14], .cells [.ptr 2 0 0], .cells [.fn (.func 98) [] []], .row 2 ((allF d).take i) true, .defd, lp (cgo 22 [false] [Item.code B104]) 104 (mk 45 [(0, V.yield 10), (1, V.ptr 7 0 0), (3, V.ptr 11 0 0), (14, V.fn (Fn.func 109) [] [V.ptr 12 0 0, V.ptr 13 0 0])]) st]
noncomputable def S44x (d : Dk) (i : Nat) (st : LoopState) : Store := [.cells [.row 1, .ptr 2 0 0, .ep 2 (dirD d.sk d.sv) 0, .row 5, .d (.int .i64 d.quota), .d (.bool d.full), .d (.bool d.off), .d (.int .i64 d.stop), .d (.int .i64 d.calls)], .row 2 (d.files.map fileD) false, .cells [.row 3, .row 4], .row 1 (d.nk.map strD) false, .row 1 (d.nv.map intD) false, .row 3 (d.ch.map chD) false,
  .cells [.row 8], .cells [.ptr 0 0 0], .row 1 ((d.nk.take i).map strD) true, .defd, lp (cgo 11 [] [Item.code B44]) 44 (mk 13 [(2, V.ptr 6 0 0), (5, V.fn (Fn.func 104) [] [V.ptr 7 0 0])]) st] ++ [.cells [.d (.list 2 ((d.nk.zip d.nv).map (afD d)))], .cells [.ptr 2 0 0], .cells [.fn (.func 98) [] []], .dead, .defd, lp (cgo 22 [false] [Item.code B104]) 104 (mk 45 [(0, V.yield 10), (1, V.ptr 7 0 0), (3, V.ptr 11 0 0), (14, V.fn (Fn.func 109) [] [V.ptr 12 0 0, V.ptr 13 0 0])]) .exhausted]
noncomputable def S44y (d : Dk) (i : Nat) (st : LoopState) (x : ByteArray) (b : List UInt8) : Store := S44x d i st ++ [.cells [.d (.str x), .d (.list 1 (b.map u8))]]
noncomputable def R44 : List Item := [.code (rfAs (cgo 11 [] [Item.code B44])), .beginRound, .code (rfBd (cgo 11 [] [Item.code B44]))]
noncomputable def R104 : List Item := [.code (rfAs (cgo 22 [false] [Item.code B104])), .beginRound, .code (rfBd (cgo 22 [false] [Item.code B104]))]
theorem body104 (d : Dk) (N : Nat) (h : d.Ok N) (i : Nat) (x : ByteArray) (v : Int) (hx : d.nk[i]? = some x) (hy : d.nv[i]? = some v) :
    AW Try.prog 104 (some 16) 17 R104 (mk 45 [(0, V.yield 10), (1, V.ptr 7 0 0), (3, V.ptr 11 0 0), (14, V.fn (Fn.func 109) [] [V.ptr 12 0 0, V.ptr 13 0 0]), (15, .d (.str x)), (16, .d (.int .i64 v))]) (S104 d i .ready) [] fun a σ' => a = .ret (.d (.bool true)) ∧ σ' = S104 d (i + 1) .ready := by
  refine .at (T' := cgo 0 [] R104) rfl ?_
  have hi := (List.getElem?_eq_some_iff.1 hx).1
  have hv := h.nn v (List.mem_of_getElem? hy)
  have hlt : v.toNat < d.files.length := by omega
  obtain ⟨f, hf⟩ := get_some (l := d.files) (i := v.toNat) hlt
  have hm := h.fs f (List.mem_of_getElem? hf)
  have hb := h.nkl
  have hc := h.nb
  have hv1 := hv.1
  have hv2 := hv.2
  have hff : d.file v.toNat = f := by simp [Dk.file, List.getD_eq_getElem?_getD, hf]
  have hg := allF_get hx hy
  rw [hff] at hg
  have hsn := take_snoc hg
  have hal : ((allF d).take i).length ≤ 60000 := by rw [List.length_take]; omega
  have hfl : f.1.length ≤ 140737488355000 := by omega
  refine .sg0 7 [0, 1, 3, 4, 5, 14, 15, 16] (cgo 7 [] R104) [(4, .d (.str x)), (5, .d (.int .i64 v))] ?_
  refine .beginL (T0 := cgo 22 [false] [Item.code B104]) (fn := 104) (tml := (mk 45 [(0, V.yield 10), (1, V.ptr 7 0 0), (3, V.ptr 11 0 0), (14, V.fn (Fn.func 109) [] [V.ptr 12 0 0, V.ptr 13 0 0])])) (by kernel_rfl) (T' := cgo 8 [] R104) (by kernel_rfl) (σ' := (SP 1 2 d false [.cells [.row 8], .cells [.ptr 0 0 0], .row 1 [] true, .defd, lp (cgo 11 [] [Item.code B44]) 44 (mk 13 [(2, .ptr 6 0 0), (5, .fn (Fn.func 104) [] [.ptr 7 0 0])]) LoopState.ready, .cells [.row 14], .cells [.ptr 2 0 0], .cells [.fn (Fn.func 98) [] []], .row 2 (List.take i (allF d)) true, .defd, lp (cgo 22 [false] [Item.code B104]) 104 (mk 45 [(0, V.yield 10), (1, .ptr 7 0 0), (3, .ptr 11 0 0), (14, .fn (Fn.func 109) [] [.ptr 12 0 0, .ptr 13 0 0])]) LoopState.busy])) (by kernel_rfl) (by kernel_rfl) ?_
  refine .sg0 1 [1, 3, 4, 5] (cgo 9 [] R104) [] ?_
  refine .newVirt 2 ?_
  refine .dr (cgo 10 [] R104) [(18, .d (.str x)), (19, .ptr 0 0 0), (20, .ptr 0 0 0), (21, .ptr 0 0 0), (22, .row 1), (23, .d (.int .i64 v)), (24, .ptr 1 v.toNat 0), (25, .ptr 1 v.toNat 0), (26, .d (.list 1 (List.map u8 f.fst))), (27, .d (.list 1 (List.map u8 f.fst))), (28, .d (.agg [D.str x, D.list 1 (List.map u8 f.fst)])), (29, .row 17), (30, .row 14)] [(14, .row 2 (List.take i (allF d) ++ [D.agg [D.str x, D.list 1 (List.map u8 f.fst)]]) true), (17, .row 2 [D.agg [D.str x, D.list 1 (List.map u8 f.fst)]] true)] (fun kz L hL => ?_) ?_
  · refine ⟨[⟨[11], [], [], [14], [11, 14], [], true, false⟩, ⟨[], [], [], [], [], [], true, false⟩, ⟨[7], [], [], [0], [7, 0], [], true, false⟩, ⟨[], [], [], [0], [0], [0], true, false⟩, ⟨[], [], [], [0], [0], [0], true, false⟩, ⟨[0], [], [], [1], [0, 1, 2, 5], [], true, false⟩, ⟨[], [], [], [], [], [], true, false⟩, ⟨[1], [], [], [1], [1], [], true, false⟩, ⟨[], [], [], [1], [1], [1], true, false⟩, ⟨[1], [], [], [], [1], [], true, false⟩, ⟨[], [], [], [], [], [], true, false⟩, ⟨[], [], [], [], [], [], true, false⟩, ⟨[17], [17], [17], [17], [], [], true, false⟩, ⟨[14, 17], [14], [14], [14], [14, 17], [], true, false⟩, ⟨[11], [11], [], [14], [11, 14], [], false, false⟩], run_amongF hL _ [] [0, 1, 2, 3, 4, 5, 6, 7, 8, 9, 10, 11, 12, 13, 14] (by intro p hp; cases hp) (by kernel_rfl) ?_⟩
    refine Run.ap [0, 1, 2, 3, 4, 5, 6] [(17, .row 14), (18, .d (.str x)), (19, .ptr 0 0 0), (20, .ptr 0 0 0), (21, .ptr 0 0 0), (22, .row 1), (23, .d (.int .i64 v))] [] ?_
    refine Run.one (StepF.look (o := ((drawOf (cgo 9 [] R104))[7]?).getD default) (v := .ptr 1 v.toNat 0) [(.tmp 22), (.tmp 23)] (by kernel_rfl) rfl (by kernel_rfl) (by kernel_rfl) (by kernel_rfl) (by kernel_rfl) (by kernel_rfl) (fun tm' σ2 hv hr => ixRow_ok (t := 105) (x := (.tmp 22)) (i := (.tmp 23)) (k := IntKind.i64) (n := v) (l := 1) (sz := 2) (xs := List.map fileD d.files) (mv := false) (by kernel_rfl) (by rw [hv _ (by simp)]; kernel_rfl) (by rw [hv _ (by simp)]; kernel_rfl) ((hr _ (inK_iff.1 (by kernel_rfl))).trans (by kernel_rfl)) (by kernel_rfl) (by assumption) (by simp <;> omega))) ?_
    refine Run.ap [8] [(25, .ptr 1 v.toNat 0)] [] ?_
    refine Run.one (StepF.look (o := ((drawOf (cgo 9 [] R104))[9]?).getD default) (v := .d (.list 1 (List.map u8 f.fst))) [(.tmp 25)] (by kernel_rfl) rfl (by kernel_rfl) (by kernel_rfl) (by kernel_rfl) (by kernel_rfl) (by kernel_rfl) (fun tm' σ2 hv hr => ldRow_ok (t := 22) (x := (.tmp 25)) (l := 1) (i := v.toNat) (s := 0) (sz := 2) (xs := List.map fileD d.files) (mv := false) (d := fileD f) (v := .d (.list 1 (List.map u8 f.fst))) (by kernel_rfl) (by rw [hv _ (by simp)]; kernel_rfl) ((hr _ (inK_iff.1 (by kernel_rfl))).trans (by kernel_rfl)) (map_get hf) (by kernel_rfl))) ?_
    refine Run.one (StepF.data (o := ((drawOf (cgo 9 [] R104))[10]?).getD default) (v := .d (.list 1 (List.map u8 f.fst))) (by kernel_rfl) rfl (by kernel_rfl) (by kernel_rfl) (by kernel_rfl) (fun s => sem_data0 (x := (.func 61)) (args := #[(.tmp 26)]) (ts := #[22]) (first := []) (cap := []) (ds := [.d (.list 1 (List.map u8 f.fst))]) (v := .d (.list 1 (List.map u8 f.fst))) F61 (@spec_61 (f.fst) (by assumption)) (by kernel_rfl) (by kernel_rfl) (by kernel_rfl) (by kernel_rfl) (by kernel_rfl) (by kernel_rfl) _)) ?_
    refine Run.ap [11] [(28, .d (.agg [D.str x, D.list 1 (List.map u8 f.fst)]))] [] ?_
    refine Run.one (StepF.build (o := ((drawOf (cgo 9 [] R104))[12]?).getD default) (t := 160) (len := 1) (parts := #[(0, (.tmp 28))]) (l := 17) (ds := [D.agg [D.str x, D.list 1 (List.map u8 f.fst)]]) (sz := 2) (mv := false) (by kernel_rfl) rfl (by kernel_rfl) (by kernel_rfl) (by kernel_rfl) (by kernel_rfl) (by kernel_rfl) (by kernel_rfl) (by kernel_rfl) (by kernel_rfl)) ?_
    refine Run.one (StepF.moves (o := ((drawOf (cgo 9 [] R104))[13]?).getD default) (v := .row 14) [(.tmp 17), (.tmp 29)] 14 (.row 2 (List.take i (allF d) ++ [D.agg [D.str x, D.list 1 (List.map u8 f.fst)]]) true) (by kernel_rfl) rfl (by kernel_rfl) (by kernel_rfl) (by kernel_rfl) (by kernel_rfl) (by kernel_rfl) (by kernel_rfl) (fun tm' σ2 hv hr => appRow_ok (s := (.tmp 17)) (x := (.tmp 29)) (t := 160) (t2 := 160) (sz := 2) (by' := 40) (ys := [D.agg [D.str x, D.list 1 (List.map u8 f.fst)]]) (l := 14) (xs := List.take i (allF d)) (mv := true) (by kernel_rfl) (by rw [hv _ (by simp)]; kernel_rfl) ((hr _ (inK_iff.1 (by kernel_rfl))).trans (by kernel_rfl)) (by rw [hv _ (by simp)]; exact (cont_at fun l hl => hr l (subB_in (by kernel_rfl) hl)).trans (by kernel_rfl)) (by kernel_rfl) (by kernel_rfl) (by simp <;> omega) (by first | (simp [maxLen] <;> omega) | omega))) ?_
    exact Run.fin
  refine .sg0 1 [] (cgo 11 [] R104) [] ?_
  refine .kp [] ?_
  refine .sub [0, 1, 2, 3, 4, 5, 6, 7, 8, 9, 10, 11, 12, 13, 14, 15, 16] (mk 45 []) (SP 1 2 d false [.cells [.row 8], .cells [.ptr 0 0 0], .row 1 [] true, .defd, lp (cgo 11 [] [.code B44]) 44 (mk 13 [(2, .ptr 6 0 0), (5, .fn (Fn.func 104) [] [.ptr 7 0 0])]) LoopState.ready, .cells [.row 14], .cells [.ptr 2 0 0], .cells [.fn (Fn.func 98) [] []], .row 2 (List.take i (allF d) ++ [D.agg [D.str x, D.list 1 (List.map u8 f.fst)]]) true, .defd, lp (cgo 22 [false] [.code B104]) 104 (mk 45 [(0, V.yield 10), (1, .ptr 7 0 0), (3, .ptr 11 0 0), (14, .fn (Fn.func 109) [] [.ptr 12 0 0, .ptr 13 0 0])]) LoopState.busy]) (some 16) [] ⟨rfl, rfl, by kernel_rfl⟩ (by kernel_rfl) ⟨Nat.le_of_ble_eq_true (by kernel_rfl), by kernel_rfl⟩ (by kernel_rfl) ⟨by kernel_rfl, by kernel_rfl⟩ ⟨by kernel_rfl, by kernel_rfl⟩ ?_
  refine .roundEndL (T0 := cgo 22 [false] [Item.code B104]) (fn := 104) (tml := (mk 45 [(0, V.yield 10), (1, V.ptr 7 0 0), (3, V.ptr 11 0 0), (14, V.fn (Fn.func 109) [] [V.ptr 12 0 0, V.ptr 13 0 0])])) (st := LoopState.busy) (by kernel_rfl) (by kernel_rfl) (σ' := (SP 1 2 d false [.cells [.row 8], .cells [.ptr 0 0 0], .row 1 [] true, .defd, lp (cgo 11 [] [Item.code B44]) 44 (mk 13 [(2, .ptr 6 0 0), (5, .fn (Fn.func 104) [] [.ptr 7 0 0])]) LoopState.ready, .cells [.row 14], .cells [.ptr 2 0 0], .cells [.fn (Fn.func 98) [] []], .row 2 (List.take i (allF d) ++ [D.agg [D.str x, D.list 1 (List.map u8 f.fst)]]) true, .defd, lp (cgo 22 [false] [Item.code B104]) 104 (mk 45 [(0, V.yield 10), (1, .ptr 7 0 0), (3, .ptr 11 0 0), (14, .fn (Fn.func 109) [] [.ptr 12 0 0, .ptr 13 0 0])]) LoopState.ready])) (by kernel_rfl) ?_
  refine ⟨rfl, ?_⟩
  unfold S104
  rw [← hsn]
  rfl
theorem lo104 (d : Dk) (N : Nat) (h : d.Ok N) (hl : d.nk.length < 60000) (hv : d.nv.length = d.nk.length) : ∀ (m i : Nat), i + m = (d.nk).length →
    AW Try.prog 109 none 17 (cgo 24 [false] [Item.code B109]) (mk 43 [(0, V.yield 16), (5, V.d (.list 1 ((d.nk).map strD))), (6, V.d (.list 1 ((d.nv).map intD))), (27, V.d (.int .i64 ((d.nk).length : Nat))), (28, V.d (.int .i64 (i : Nat)))]) (S104 d i .ready) [] fun r σ' => r = .ret (.tuple []) ∧ σ' = S104 d (d.nk).length .ready := by
  intro m
  induction m with
  | zero =>
    intro i hi
    have hi : i = (d.nk).length := by omega
    subst hi
    refine .sg0 5 [0, 5, 6, 27, 28, 29] (cgo 29 [false] [.code B109]) [(29, .d (.bool (decide ((↑d.nk.length : Int) < (↑d.nk.length : Int)))))] ?_
    refine .if' (decide ((↑d.nk.length : Int) < (↑d.nk.length : Int))) (cgo 30 [false, true] [.code B109]) (cgo 30 [false, false] [.code B109]) (fun h1 => ?_) (fun h1 => ?_)
    · simp only [bsX] at h1
      omega
    · simp only [bsX] at h1
      refine .seg 1 [] (T' := cgo 31 [false, false] [.code B109]) (tm' := mk 43 []) (σ' := [.cells [.row 1, .ptr 2 0 0, .ep 2 (D.agg [D.list 1 (List.map strD d.sk), D.list 1 (List.map intD d.sv)]) 0, .row 5, .d (.int .i64 d.quota), .d (.bool d.full), .d (.bool d.off), .d (.int .i64 d.stop), .d (.int .i64 d.calls)], .row 2 (List.map fileD d.files) false, .cells [.row 3, .row 4], .row 1 (List.map strD d.nk) false, .row 1 (List.map intD d.nv) false, .row 3 (List.map chD d.ch) false, .cells [.row 8], .cells [.ptr 0 0 0], .row 1 [] true, .defd, lp (cgo 11 [] [.code B44]) 44 (mk 13 [(2, .ptr 6 0 0), (5, .fn (Fn.func 104) [] [.ptr 7 0 0])]) LoopState.ready, .cells [.row 14], .cells [.ptr 2 0 0], .cells [.fn (Fn.func 98) [] []], .row 2 (List.take d.nk.length (allF d)) true, .defd, lp (cgo 22 [false] [.code B104]) 104 (mk 45 [(0, .yield 10), (1, .ptr 7 0 0), (3, .ptr 11 0 0), (14, .fn (Fn.func 109) [] [.ptr 12 0 0, .ptr 13 0 0])]) LoopState.ready]) (by kernel_rfl) ?_
      refine .retH F109 (v := V.tuple []) (by kernel_rfl) (by kernel_rfl) ?_
      exact ⟨rfl, rfl⟩
  | succ m ih =>
    intro i hi
    obtain ⟨x, hx⟩ := get_some (l := d.nk) (i := i) (by omega)
    obtain ⟨v, hy⟩ := get_some (l := d.nv) (i := i) (by omega)
    have hYi := body104 d N h i x v hx hy
    refine .sg0 5 [0, 5, 6, 27, 28, 29] (cgo 29 [false] [.code B109]) [(29, .d (.bool (decide ((↑i : Int) < (↑d.nk.length : Int)))))] ?_
    refine .if' (decide ((↑i : Int) < (↑d.nk.length : Int))) (cgo 30 [false, true] [.code B109]) (cgo 30 [false, false] [.code B109]) (fun h1 => ?_) (fun h1 => ?_)
    · simp only [bsX] at h1
      refine .sg0 9 [0, 5, 6, 7, 27, 28, 29, 30] (cgo 39 [false, true] [.code B109]) [(7, .d (.int .i64 (↑i : Int))), (30, .d (.int .i64 (↑i : Int)))] ?_
      refine .dr (cgo 40 [false, true] [.code B109]) [(31, .yield 16), (32, .d (.list 1 (List.map strD d.nk))), (33, .d (.int .i64 (↑i : Int))), (34, .ep 1 (D.str x) 0), (35, .d (.str x)), (36, .d (.list 1 (List.map intD d.nv))), (37, .d (.int .i64 (↑i : Int))), (38, .ep 1 (D.int IntKind.i64 v) 0), (39, .d (.int .i64 v)), (40, .d (.bool true)), (41, .d (.bool false))] [(14, .row 2 (List.take (i + 1) (allF d)) true)] (fun kz L hL => ?_) ?_
      · refine ⟨[⟨[], [], [], [16], [16], [], true, false⟩, ⟨[], [], [], [], [], [], true, false⟩, ⟨[], [], [], [], [], [], true, false⟩, ⟨[], [], [], [], [], [], true, false⟩, ⟨[], [], [], [], [], [], true, false⟩, ⟨[], [], [], [], [], [], true, false⟩, ⟨[], [], [], [], [], [], true, false⟩, ⟨[], [], [], [], [], [], true, false⟩, ⟨[], [], [], [], [], [], true, false⟩, ⟨[], [], [], [], [], [], false, true⟩, ⟨[], [], [], [], [], [], true, false⟩], run_amongF hL _ [] [0, 1, 2, 3, 4, 5, 6, 7, 8, 9, 10] (by intro p hp; cases hp) (by kernel_rfl) ?_⟩
        refine Run.ap [0, 1, 2] [(31, .yield 16), (32, .d (.list 1 (List.map strD d.nk))), (33, .d (.int .i64 (↑i : Int)))] [] ?_
        refine Run.one (StepF.look (o := ((drawOf (cgo 39 [false, true] [.code B109]))[3]?).getD default) (v := .ep 1 (D.str x) 0) [(.tmp 32), (.tmp 33)] (by kernel_rfl) rfl (by kernel_rfl) (by kernel_rfl) (by kernel_rfl) (by kernel_rfl) (by kernel_rfl) (fun tm' σ2 hv hr => ixData_ok (t := 66) (x := (.tmp 32)) (i := (.tmp 33)) (k := IntKind.i64) (n := (↑i : Int)) (sz := 1) (xs := List.map strD d.nk) (d := strD x) (by kernel_rfl) (by rw [hv _ (by simp)]; kernel_rfl) (by rw [hv _ (by simp)]; kernel_rfl) (by kernel_rfl) (by omega) (map_get hx))) ?_
        refine Run.ap [4, 5, 6] [(35, .d (.str x)), (36, .d (.list 1 (List.map intD d.nv))), (37, .d (.int .i64 (↑i : Int)))] [] ?_
        refine Run.one (StepF.look (o := ((drawOf (cgo 39 [false, true] [.code B109]))[7]?).getD default) (v := .ep 1 (D.int IntKind.i64 v) 0) [(.tmp 36), (.tmp 37)] (by kernel_rfl) rfl (by kernel_rfl) (by kernel_rfl) (by kernel_rfl) (by kernel_rfl) (by kernel_rfl) (fun tm' σ2 hv hr => ixData_ok (t := 46) (x := (.tmp 36)) (i := (.tmp 37)) (k := IntKind.i64) (n := (↑i : Int)) (sz := 1) (xs := List.map intD d.nv) (d := intD v) (by kernel_rfl) (by rw [hv _ (by simp)]; kernel_rfl) (by rw [hv _ (by simp)]; kernel_rfl) (by kernel_rfl) (by omega) (map_get hy))) ?_
        refine Run.ap [8] [(39, .d (.int .i64 v))] [] ?_
        refine Run.one (s1 := (mk 43 [(0, .yield 16), (5, .d (.list 1 (List.map strD d.nk))), (6, .d (.list 1 (List.map intD d.nv))), (7, .d (.int .i64 (↑i : Int))), (27, .d (.int .i64 (↑d.nk.length : Int))), (28, .d (.int .i64 (↑i : Int))), (29, .d (.bool (decide ((↑i : Int) < (↑d.nk.length : Int))))), (30, .d (.int .i64 (↑i : Int))), (31, .yield 16), (32, .d (.list 1 (List.map strD d.nk))), (33, .d (.int .i64 (↑i : Int))), (34, .ep 1 (D.str x) 0), (35, .d (.str x)), (36, .d (.list 1 (List.map intD d.nv))), (37, .d (.int .i64 (↑i : Int))), (38, .ep 1 (D.int IntKind.i64 v) 0), (39, .d (.int .i64 v)), (40, .d (.bool true))], [.cells [.row 1, .ptr 2 0 0, .ep 2 (D.agg [D.list 1 (List.map strD d.sk), D.list 1 (List.map intD d.sv)]) 0, .row 5, .d (.int .i64 d.quota), .d (.bool d.full), .d (.bool d.off), .d (.int .i64 d.stop), .d (.int .i64 d.calls)], .row 2 (List.map fileD d.files) false, .cells [.row 3, .row 4], .row 1 (List.map strD d.nk) false, .row 1 (List.map intD d.nv) false, .row 3 (List.map chD d.ch) false, .cells [.row 8], .cells [.ptr 0 0 0], .row 1 [] true, .defd, lp (cgo 11 [] [Item.code B44]) 44 (mk 13 [(2, .ptr 6 0 0), (5, .fn (Fn.func 104) [] [.ptr 7 0 0])]) LoopState.ready, .cells [.row 14], .cells [.ptr 2 0 0], .cells [.fn (Fn.func 98) [] []], .row 2 (List.take (i + 1) (allF d)) true, .defd, lp (cgo 22 [false] [Item.code B104]) 104 (mk 45 [(0, .yield 10), (1, .ptr 7 0 0), (3, .ptr 11 0 0), (14, .fn (Fn.func 109) [] [.ptr 12 0 0, .ptr 13 0 0])]) LoopState.ready])) (StepF.all (o := ((drawOf (cgo 39 [false, true] [Item.code B109]))[9]?).getD default) (by kernel_rfl) (by kernel_rfl) fun rest hn => AW.yieldD (T0 := cgo 22 [false] [Item.code B104]) (x := (.tmp 31)) (args := #[(.tmp 35), (.tmp 39)]) (ts := #[9, 3]) (l := 16) (st := LoopState.ready) (fn := 104) (tml := (mk 45 [(0, .yield 10), (1, .ptr 7 0 0), (3, .ptr 11 0 0), (14, .fn (Fn.func 109) [] [.ptr 12 0 0, .ptr 13 0 0])])) (R := R104) (o := ((drawOf (cgo 39 [false, true] [Item.code B109]))[9]?).getD default) (N := 17) (by kernel_rfl) (by kernel_rfl) (by kernel_rfl) (by kernel_rfl) (by kernel_rfl) (by kernel_rfl) (by kernel_rfl) (by kernel_rfl) (by kernel_rfl) hYi (by rintro r s ⟨rfl, rfl⟩; exact ⟨_, rfl, AW.as (by kernel_rfl) (by kernel_rfl) hn⟩)) ?_
        exact Run.fin
      refine .seg 7 [0, 5, 6, 7, 27, 28, 29, 30, 31, 32, 33, 34, 35, 36, 37, 38, 39, 40, 41, 42] (T' := cgo 47 [false, true, false] [.code B109]) (tm' := mk 43 [(0, .yield 16), (5, .d (.list 1 (List.map strD d.nk))), (6, .d (.list 1 (List.map intD d.nv))), (7, .d (.int .i64 (↑i : Int))), (27, .d (.int .i64 (↑d.nk.length : Int))), (28, .d (.int .i64 (IntKind.i64.wrap ((↑i : Int) + 1)))), (29, .d (.bool (decide ((↑i : Int) < (↑d.nk.length : Int))))), (30, .d (.int .i64 (↑i : Int))), (31, .yield 16), (32, .d (.list 1 (List.map strD d.nk))), (33, .d (.int .i64 (↑i : Int))), (34, .ep 1 (D.str x) 0), (35, .d (.str x)), (36, .d (.list 1 (List.map intD d.nv))), (37, .d (.int .i64 (↑i : Int))), (38, .ep 1 (D.int IntKind.i64 v) 0), (39, .d (.int .i64 v)), (40, .d (.bool true)), (41, .d (.bool false)), (42, .d (.int .i64 (IntKind.i64.wrap ((↑i : Int) + 1))))]) (σ' := [.cells [.row 1, .ptr 2 0 0, .ep 2 (D.agg [D.list 1 (List.map strD d.sk), D.list 1 (List.map intD d.sv)]) 0, .row 5, .d (.int .i64 d.quota), .d (.bool d.full), .d (.bool d.off), .d (.int .i64 d.stop), .d (.int .i64 d.calls)], .row 2 (List.map fileD d.files) false, .cells [.row 3, .row 4], .row 1 (List.map strD d.nk) false, .row 1 (List.map intD d.nv) false, .row 3 (List.map chD d.ch) false, .cells [.row 8], .cells [.ptr 0 0 0], .row 1 [] true, .defd, lp (cgo 11 [] [.code B44]) 44 (mk 13 [(2, .ptr 6 0 0), (5, .fn (Fn.func 104) [] [.ptr 7 0 0])]) LoopState.ready, .cells [.row 14], .cells [.ptr 2 0 0], .cells [.fn (Fn.func 98) [] []], .row 2 (List.take (i + 1) (allF d)) true, .defd, lp (cgo 22 [false] [.code B104]) 104 (mk 45 [(0, .yield 10), (1, .ptr 7 0 0), (3, .ptr 11 0 0), (14, .fn (Fn.func 109) [] [.ptr 12 0 0, .ptr 13 0 0])]) LoopState.ready]) (by kernel_rfl) ?_
      simp (disch := omega) only [wrap_i64, wrap_u64s, wrap_u32s, wrap_u8s, wrap_i32s, iadd_i64, isub_i64, irem_n, iquo_n, tdiv_nn, tmod_nn]
      exact .seg 1 [0, 5, 6, 27, 28] (by kernel_rfl) (ih (i + 1) (by omega))
    · simp only [bsX] at h1
      omega
theorem it104 (d : Dk) (N : Nat) (h : d.Ok N) : CallsA Try.prog 109 [.yield 16, .ptr 12 0 0, .ptr 13 0 0] (S104 d 0 .ready) fun r σ' => r = .ret (.tuple []) ∧ σ' = S104 d (d.nk).length .ready := by
  have hl : d.nk.length < 60000 := by have := h.nkl; have := h.nb; omega
  have hv := h.nl
  refine CallsA.start F109 (tm := mk (Try.f109.ntmps) [(0, .yield 16), (1, .ptr 12 0 0), (2, .ptr 13 0 0)]) (by kernel_rfl) ?_
  refine .sg0 11 [0, 1, 2, 10] (cgo 11 [false] [.code B109]) [(10, .fn (Fn.func 98) [] [])] ?_
  refine .semH (o := (opOf (cgo 11 [false] [Item.code B109])).getD default) (v := .d (.int .i64 0)) (σ' := [.cells [.row 1, .ptr 2 0 0, .ep 2 (D.agg [D.list 1 (List.map strD d.sk), D.list 1 (List.map intD d.sv)]) 0, .row 5, .d (.int .i64 d.quota), .d (.bool d.full), .d (.bool d.off), .d (.int .i64 d.stop), .d (.int .i64 d.calls)], .row 2 (List.map fileD d.files) false, .cells [.row 3, .row 4], .row 1 (List.map strD d.nk) false, .row 1 (List.map intD d.nv) false, .row 3 (List.map chD d.ch) false, .cells [.row 8], .cells [.ptr 0 0 0], .row 1 [] true, .defd, lp (cgo 11 [] [Item.code B44]) 44 (mk 13 [(2, .ptr 6 0 0), (5, .fn (Fn.func 104) [] [.ptr 7 0 0])]) LoopState.ready, .cells [.row 14], .cells [.ptr 2 0 0], .cells [.fn (Fn.func 98) [] []], .row 2 [] true, .defd, lp (cgo 22 [false] [Item.code B104]) 104 (mk 45 [(0, .yield 10), (1, .ptr 7 0 0), (3, .ptr 11 0 0), (14, .fn (Fn.func 109) [] [.ptr 12 0 0, .ptr 13 0 0])]) LoopState.ready]) (by kernel_rfl) (by kernel_rfl) (T' := cgo 12 [false] [Item.code B109]) (by kernel_rfl) (fun kz => sem_data0 (x := (.tmp 10)) (args := #[]) (ts := #[]) (first := []) (cap := []) (ds := []) (v := .d (.int .i64 0)) F98 (@spec_98) (by kernel_rfl) (by kernel_rfl) (by kernel_rfl) (by kernel_rfl) (by kernel_rfl) (by kernel_rfl) _) ?_
  refine .sg0 3 [0, 1, 4] (cgo 15 [false] [.code B109]) [(4, .d (.int .i64 0))] ?_
  refine .dr (cgo 16 [false] [.code B109]) [(5, .d (.list 1 (List.take ((List.map strD d.nk).length - 0) (List.drop 0 (List.map strD d.nk))))), (6, .d (.list 1 (List.take ((List.map intD d.nv).length - 0) (List.drop 0 (List.map intD d.nv))))), (12, .ptr 2 0 0), (13, .ptr 2 0 0), (14, .ptr 2 0 0), (15, .row 3), (16, .d (.int .i64 0)), (17, .sl 3 0 ((List.map strD d.nk).length - 0) none), (18, .d (.list 1 (List.take ((List.map strD d.nk).length - 0) (List.drop 0 (List.map strD d.nk))))), (19, .ptr 2 0 0), (20, .ptr 2 0 0), (21, .ptr 2 0 1), (22, .row 4), (23, .d (.int .i64 0)), (24, .sl 4 0 ((List.map intD d.nv).length - 0) none), (25, .d (.list 1 (List.take ((List.map intD d.nv).length - 0) (List.drop 0 (List.map intD d.nv)))))] [] (fun kz L hL => ?_) ?_
  · refine ⟨[⟨[12], [], [], [2], [12, 2], [], true, false⟩, ⟨[], [], [], [2], [2], [2], true, false⟩, ⟨[], [], [], [2], [2], [2], true, false⟩, ⟨[2], [], [], [3], [2, 3, 4], [], true, false⟩, ⟨[], [], [], [], [], [], true, false⟩, ⟨[3], [], [], [3], [3], [], true, false⟩, ⟨[3], [3], [], [], [3], [], true, false⟩, ⟨[12], [], [], [2], [12, 2], [], true, false⟩, ⟨[], [], [], [2], [2], [2], true, false⟩, ⟨[], [], [], [2], [2], [2], true, false⟩, ⟨[2], [], [], [4], [2, 3, 4], [], true, false⟩, ⟨[], [], [], [], [], [], true, false⟩, ⟨[4], [], [], [4], [4], [], true, false⟩, ⟨[4], [], [], [], [4], [], true, false⟩, ⟨[], [], [], [], [], [], true, false⟩, ⟨[], [], [], [], [], [], true, false⟩], run_amongF hL _ [] [0, 1, 2, 3, 4, 5, 7, 8, 9, 10, 11, 12, 6, 13, 14, 15] (by intro p hp; cases hp) (by kernel_rfl) ?_⟩
    refine Run.ap [0, 1, 2, 3, 4] [(12, .ptr 2 0 0), (13, .ptr 2 0 0), (14, .ptr 2 0 0), (15, .row 3), (16, .d (.int .i64 0))] [] ?_
    refine Run.one (StepF.look (o := ((drawOf (cgo 15 [false] [.code B109]))[5]?).getD default) (v := .sl 3 0 ((List.map strD d.nk).length - 0) none) [(.tmp 15), (.tmp 16)] (by kernel_rfl) rfl (by kernel_rfl) (by kernel_rfl) (by kernel_rfl) (by kernel_rfl) (by kernel_rfl) (fun tm' σ2 hv hr => slRow_ok (t := 66) (x := (.tmp 15)) (lo := (some (.tmp 16))) (hi := none) (lc := 3) (sz := 1) (xs := List.map strD d.nk) (mv := false) (0) ((List.map strD d.nk).length) (by kernel_rfl) (by rw [hv _ (by simp)]; kernel_rfl) ((hr _ (inK_iff.1 (by kernel_rfl))).trans (by kernel_rfl)) (by kernel_rfl) (bnd_some (k := IntKind.i64) (i := 0) (by rw [hv _ (by simp)]; kernel_rfl) (by omega) (by rfl)) rfl (by omega) (by omega))) ?_
    refine Run.ap [7, 8, 9, 10, 11] [(19, .ptr 2 0 0), (20, .ptr 2 0 0), (21, .ptr 2 0 1), (22, .row 4), (23, .d (.int .i64 0))] [] ?_
    refine Run.one (StepF.look (o := ((drawOf (cgo 15 [false] [.code B109]))[12]?).getD default) (v := .sl 4 0 ((List.map intD d.nv).length - 0) none) [(.tmp 22), (.tmp 23)] (by kernel_rfl) rfl (by kernel_rfl) (by kernel_rfl) (by kernel_rfl) (by kernel_rfl) (by kernel_rfl) (fun tm' σ2 hv hr => slRow_ok (t := 46) (x := (.tmp 22)) (lo := (some (.tmp 23))) (hi := none) (lc := 4) (sz := 1) (xs := List.map intD d.nv) (mv := false) (0) ((List.map intD d.nv).length) (by kernel_rfl) (by rw [hv _ (by simp)]; kernel_rfl) ((hr _ (inK_iff.1 (by kernel_rfl))).trans (by kernel_rfl)) (by kernel_rfl) (bnd_some (k := IntKind.i64) (i := 0) (by rw [hv _ (by simp)]; kernel_rfl) (by omega) (by rfl)) rfl (by omega) (by omega))) ?_
    refine Run.one (StepF.call (o := ((drawOf (cgo 15 [false] [.code B109]))[6]?).getD default) (x := (.func 110)) (args := #[(.tmp 17)]) (ts := #[66]) (first := []) (cap := []) [3] [.sl 0 0 ((List.map strD d.nk).length - 0) none] [.row 1 (List.map strD d.nk) false] [.row 1 (List.map strD d.nk) false] (v := .d (.list 1 (List.take ((List.map strD d.nk).length - 0) (List.drop 0 (List.map strD d.nk))))) (by kernel_rfl) rfl (by kernel_rfl) (by kernel_rfl) F110 (@spec_110b (List.map strD d.nk) (0) ((List.map strD d.nk).length - 0) (none) (by omega) (by simp <;> omega)) (by kernel_rfl) (by kernel_rfl) (by kernel_rfl) (by kernel_rfl) ⟨rfl, rfl, by kernel_rfl⟩ (by kernel_rfl) (by kernel_rfl) (by kernel_rfl) (by kernel_rfl) (by kernel_rfl) rfl rfl) ?_
    refine Run.one (StepF.callLook (o := ((drawOf (cgo 15 [false] [.code B109]))[13]?).getD default) (x := (.func 111)) (args := #[(.tmp 24)]) (ts := #[46]) (first := []) (cap := []) [4] [.sl 0 0 ((List.map intD d.nv).length - 0) none] [.row 1 (List.map intD d.nv) false] (v := .d (.list 1 (List.take ((List.map intD d.nv).length - 0) (List.drop 0 (List.map intD d.nv))))) (by kernel_rfl) rfl (by kernel_rfl) (by kernel_rfl) F111 (@spec_111b (List.map intD d.nv) (0) ((List.map intD d.nv).length - 0) (none) (by omega) (by simp <;> omega)) (by kernel_rfl) (by kernel_rfl) (by kernel_rfl) (by kernel_rfl) ⟨rfl, rfl, by kernel_rfl⟩ (by kernel_rfl) (by kernel_rfl) (by kernel_rfl) (by kernel_rfl) (by kernel_rfl)) ?_
    exact Run.fin
  refine .seg 7 [0, 5, 6, 27, 28] (T' := cgo 23 [false] [.code B109]) (tm' := mk 43 [(0, .yield 16), (5, .d (.list 1 (List.take ((List.map strD d.nk).length - 0) (List.drop 0 (List.map strD d.nk))))), (6, .d (.list 1 (List.take ((List.map intD d.nv).length - 0) (List.drop 0 (List.map intD d.nv))))), (27, .d (.int .i64 (↑(List.take ((List.map strD d.nk).length - 0) (List.drop 0 (List.map strD d.nk))).length : Int))), (28, .d (.int .i64 0))]) (σ' := [.cells [.row 1, .ptr 2 0 0, .ep 2 (D.agg [D.list 1 (List.map strD d.sk), D.list 1 (List.map intD d.sv)]) 0, .row 5, .d (.int .i64 d.quota), .d (.bool d.full), .d (.bool d.off), .d (.int .i64 d.stop), .d (.int .i64 d.calls)], .row 2 (List.map fileD d.files) false, .cells [.row 3, .row 4], .row 1 (List.map strD d.nk) false, .row 1 (List.map intD d.nv) false, .row 3 (List.map chD d.ch) false, .cells [.row 8], .cells [.ptr 0 0 0], .row 1 [] true, .defd, lp (cgo 11 [] [.code B44]) 44 (mk 13 [(2, .ptr 6 0 0), (5, .fn (Fn.func 104) [] [.ptr 7 0 0])]) LoopState.ready, .cells [.row 14], .cells [.ptr 2 0 0], .cells [.fn (Fn.func 98) [] []], .row 2 [] true, .defd, lp (cgo 22 [false] [.code B104]) 104 (mk 45 [(0, .yield 10), (1, .ptr 7 0 0), (3, .ptr 11 0 0), (14, .fn (Fn.func 109) [] [.ptr 12 0 0, .ptr 13 0 0])]) LoopState.ready]) (by kernel_rfl) ?_
  simp only [List.length_map]
  rw [eachL (d.nk) strD, eachL (d.nv) intD, List.length_map]
  exact .seg 1 [0, 5, 6, 27, 28] (by kernel_rfl) (lo104 d N h hl hv (d.nk).length 0 (by omega))
theorem body44 (d : Dk) (N : Nat) (h : d.Ok N) (i : Nat) (x : ByteArray) (b : List UInt8) (hx : d.nk[i]? = some x) :
    AW Try.prog 44 (some 10) 18 R44 (mk 13 [(2, V.ptr 6 0 0), (5, V.fn (Fn.func 104) [] [V.ptr 7 0 0]), (6, .d (.str x)), (7, .d (bsD b))]) (S44y d i .ready x b) [] fun a σ' => a = .ret (.d (.bool true)) ∧ σ' = S44y d (i + 1) .ready x b := by
  refine .at (T' := cgo 0 [] R44) rfl ?_
  have hi := (List.getElem?_eq_some_iff.1 hx).1
  have hb := h.nkl
  have hc := h.nb
  have hsn : (d.nk.take i).map strD ++ [D.str x] = (d.nk.take (i + 1)).map strD := by rw [← take_snoc hx, List.map_append]; rfl
  have hal : ((d.nk.take i).map strD).length ≤ 60000 := by rw [List.length_map, List.length_take]; omega
  refine .sg0 3 [2, 3, 5, 6] (cgo 3 [] R44) [(3, .d (.str x))] ?_
  refine .beginL (T0 := cgo 11 [] [Item.code B44]) (fn := 44) (tml := (mk 13 [(2, V.ptr 6 0 0), (5, V.fn (Fn.func 104) [] [V.ptr 7 0 0])])) (by kernel_rfl) (T' := cgo 4 [] R44) (by kernel_rfl) (σ' := (SP 1 2 d false [.cells [.row 8], .cells [.ptr 0 0 0], .row 1 (List.map strD (List.take i d.nk)) true, .defd, lp (cgo 11 [] [Item.code B44]) 44 (mk 13 [(2, .ptr 6 0 0), (5, .fn (Fn.func 104) [] [.ptr 7 0 0])]) LoopState.busy, .cells [.d (.list 2 (List.map (afD d) (d.nk.zip d.nv)))], .cells [.ptr 2 0 0], .cells [.fn (Fn.func 98) [] []], O.dead, .defd, lp (cgo 22 [false] [Item.code B104]) 104 (mk 45 [(0, V.yield 10), (1, .ptr 7 0 0), (3, .ptr 11 0 0), (14, .fn (Fn.func 109) [] [.ptr 12 0 0, .ptr 13 0 0])]) LoopState.exhausted, .cells [.d (.str x), .d (.list 1 (List.map u8 b))]])) (by kernel_rfl) (by kernel_rfl) ?_
  refine .sg 5 [2, 3, 8, 9, 10] (cgo 9 [] R44) [(8, .row 8), (9, .d (.str x)), (10, .row 18)] [(18, .row 1 [D.str x] false)] ?_
  refine .op' (cgo 10 [] R44) (appRow_ok (s := (.tmp 8)) (x := (.tmp 10)) (t := 66) (t2 := 66) (sz := 1) (by' := 16) (ys := [D.str x]) (l := 8) (xs := List.map strD (List.take i d.nk)) (mv := true) (by kernel_rfl) (by kernel_rfl) (by kernel_rfl) (by kernel_rfl) (by kernel_rfl) (by kernel_rfl) (by simp <;> omega) (by first | (simp [maxLen] <;> omega) | omega)) ?_
  refine .sg 3 [2] (cgo 13 [] R44) [] [(6, .cells [.row 8]), (10, lp (cgo 11 [] [Item.code B44]) 44 (mk 13 [(2, .ptr 6 0 0), (5, .fn (Fn.func 104) [] [.ptr 7 0 0])]) LoopState.busy), (16, lp (cgo 22 [false] [Item.code B104]) 104 (mk 45 [(0, .yield 10), (1, .ptr 7 0 0), (3, .ptr 11 0 0), (14, .fn (Fn.func 109) [] [.ptr 12 0 0, .ptr 13 0 0])]) LoopState.exhausted)] ?_
  refine .kp [] ?_
  refine .sub [0, 1, 2, 3, 4, 5, 6, 7, 8, 9, 10, 11, 12, 13, 14, 15, 16, 17] (mk 13 []) (SP 1 2 d false [.cells [.row 8], .cells [.ptr 0 0 0], .row 1 (List.map strD (List.take i d.nk) ++ [D.str x]) true, .defd, lp (cgo 11 [] [.code B44]) 44 (mk 13 [(2, .ptr 6 0 0), (5, .fn (Fn.func 104) [] [.ptr 7 0 0])]) LoopState.busy, .cells [.d (.list 2 (List.map (afD d) (d.nk.zip d.nv)))], .cells [.ptr 2 0 0], .cells [.fn (Fn.func 98) [] []], O.dead, .defd, lp (cgo 22 [false] [.code B104]) 104 (mk 45 [(0, V.yield 10), (1, .ptr 7 0 0), (3, .ptr 11 0 0), (14, .fn (Fn.func 109) [] [.ptr 12 0 0, .ptr 13 0 0])]) LoopState.exhausted, .cells [.d (.str x), .d (.list 1 (List.map u8 b))]]) (some 10) [] ⟨rfl, rfl, by kernel_rfl⟩ (by kernel_rfl) ⟨Nat.le_of_ble_eq_true (by kernel_rfl), by kernel_rfl⟩ (by kernel_rfl) ⟨by kernel_rfl, by kernel_rfl⟩ ⟨by kernel_rfl, by kernel_rfl⟩ ?_
  refine .roundEndL (T0 := cgo 11 [] [Item.code B44]) (fn := 44) (tml := (mk 13 [(2, V.ptr 6 0 0), (5, V.fn (Fn.func 104) [] [V.ptr 7 0 0])])) (st := LoopState.busy) (by kernel_rfl) (by kernel_rfl) (σ' := (SP 1 2 d false [.cells [.row 8], .cells [.ptr 0 0 0], .row 1 (List.map strD (List.take i d.nk) ++ [D.str x]) true, .defd, lp (cgo 11 [] [Item.code B44]) 44 (mk 13 [(2, .ptr 6 0 0), (5, .fn (Fn.func 104) [] [.ptr 7 0 0])]) LoopState.ready, .cells [.d (.list 2 (List.map (afD d) (d.nk.zip d.nv)))], .cells [.ptr 2 0 0], .cells [.fn (Fn.func 98) [] []], O.dead, .defd, lp (cgo 22 [false] [Item.code B104]) 104 (mk 45 [(0, V.yield 10), (1, .ptr 7 0 0), (3, .ptr 11 0 0), (14, .fn (Fn.func 109) [] [.ptr 12 0 0, .ptr 13 0 0])]) LoopState.exhausted, .cells [.d (.str x), .d (.list 1 (List.map u8 b))]])) (by kernel_rfl) ?_
  refine ⟨rfl, ?_⟩
  unfold S44y S44x
  rw [← hsn]
  rfl
theorem lo104b (d : Dk) (N : Nat) (h : d.Ok N) : ∀ (m i : Nat), i + m = d.nk.length →
    AW Try.prog 104 none 11 (cgo 32 [false] [Item.code B104]) (mk 45 [(0, V.yield 10), (31, V.d (.list 2 ((d.nk.zip d.nv).map (afD d)))), (32, V.d (.int .i64 (d.nk.length : Nat))), (33, V.d (.int .i64 (i : Nat)))]) (S44x d i .ready) [15] fun r σ' => r = .ret (.tuple []) ∧ σ' = S44 d d.nk.length .ready := by
  have hb := h.nkl
  have hc := h.nb
  have hl := h.nl
  intro m
  induction m with
  | zero =>
    intro i hi
    have hi : i = d.nk.length := by omega
    subst hi
    refine .sg0 5 [0, 31, 32, 33, 34] (cgo 37 [false] [.code B104]) [(34, .d (.bool (decide ((↑d.nk.length : Int) < (↑d.nk.length : Int)))))] ?_
    refine .if' (decide ((↑d.nk.length : Int) < (↑d.nk.length : Int))) (cgo 38 [false, true] [.code B104]) (cgo 38 [false, false] [.code B104]) (fun h1 => ?_) (fun h1 => ?_)
    · simp only [bsX] at h1
      omega
    · simp only [bsX] at h1
      refine .seg 1 [] (T' := cgo 39 [false, false] [.code B104]) (tm' := mk 45 []) (σ' := [.cells [.row 1, .ptr 2 0 0, .ep 2 (D.agg [D.list 1 (List.map strD d.sk), D.list 1 (List.map intD d.sv)]) 0, .row 5, .d (.int .i64 d.quota), .d (.bool d.full), .d (.bool d.off), .d (.int .i64 d.stop), .d (.int .i64 d.calls)], .row 2 (List.map fileD d.files) false, .cells [.row 3, .row 4], .row 1 (List.map strD d.nk) false, .row 1 (List.map intD d.nv) false, .row 3 (List.map chD d.ch) false, .cells [.row 8], .cells [.ptr 0 0 0], .row 1 (List.map strD (List.take d.nk.length d.nk)) true, .defd, lp (cgo 11 [] [.code B44]) 44 (mk 13 [(2, .ptr 6 0 0), (5, .fn (Fn.func 104) [] [.ptr 7 0 0])]) LoopState.ready, .cells [.d (.list 2 (List.map (afD d) (d.nk.zip d.nv)))], .cells [.ptr 2 0 0], .cells [.fn (Fn.func 98) [] []], O.dead, .defd, lp (cgo 22 [false] [.code B104]) 104 (mk 45 [(0, .yield 10), (1, .ptr 7 0 0), (3, .ptr 11 0 0), (14, .fn (Fn.func 109) [] [.ptr 12 0 0, .ptr 13 0 0])]) LoopState.exhausted]) (by kernel_rfl) ?_
      refine .retX (v := V.tuple []) [0, 1, 2, 3, 4, 5, 6, 7, 8, 9, 10] (V.tuple []) F104 (by kernel_rfl) ⟨by kernel_rfl, by kernel_rfl⟩ (σ1 := (SP 1 2 d false [O.cells [V.row 8], O.cells [V.ptr 0 0 0], O.row 1 (List.map strD (List.take d.nk.length d.nk)) true, O.defd, lp (cgo 11 [] [Item.code B44]) 44 (mk 13 [(2, V.ptr 6 0 0), (5, V.fn (Fn.func 104) [] [V.ptr 7 0 0])]) LoopState.ready, O.cells [V.d (D.list 2 (List.map (afD d) (d.nk.zip d.nv)))], O.cells [V.ptr 2 0 0], O.cells [V.fn (Fn.func 98) [] []], O.dead, O.dead, lp (cgo 22 [false] [Item.code B104]) 104 (mk 45 [(0, V.yield 10), (1, V.ptr 7 0 0), (3, V.ptr 11 0 0), (14, V.fn (Fn.func 109) [] [V.ptr 12 0 0, V.ptr 13 0 0])]) LoopState.exhausted])) (by kernel_rfl) (by kernel_rfl) (σ2 := (SP 1 2 d false [O.cells [V.row 8], O.cells [V.ptr 0 0 0], O.row 1 (List.map strD (List.take d.nk.length d.nk)) true, O.defd, lp (cgo 11 [] [Item.code B44]) 44 (mk 13 [(2, V.ptr 6 0 0), (5, V.fn (Fn.func 104) [] [V.ptr 7 0 0])]) LoopState.ready])) ⟨rfl, rfl, by kernel_rfl⟩ (by kernel_rfl) ⟨Nat.le_of_ble_eq_true (by kernel_rfl), by kernel_rfl⟩ (by kernel_rfl) ?_
      exact ⟨rfl, rfl⟩
  | succ m ih =>
    intro i hi
    have hll : (d.nk.zip d.nv).length = d.nk.length := by simp [hl]
    obtain ⟨p, hz⟩ := get_some (l := d.nk.zip d.nv) (i := i) (by omega)
    have hp := List.getElem?_zip_eq_some.1 hz
    have hYi := body44 d N h i p.1 (d.file p.2.toNat).1 hp.1
    clear hp
    have ih1 := ih (i + 1) (by omega)
    clear ih
    refine .sg0 5 [0, 31, 32, 33, 34] (cgo 37 [false] [.code B104]) [(34, .d (.bool (decide ((↑i : Int) < (↑d.nk.length : Int)))))] ?_
    refine .if' (decide ((↑i : Int) < (↑d.nk.length : Int))) (cgo 38 [false, true] [.code B104]) (cgo 38 [false, false] [.code B104]) (fun h1 => ?_) (fun h1 => ?_)
    · simp only [bsX] at h1
      refine .sg0 5 [0, 31, 32, 33, 34] (cgo 43 [false, true] [.code B104]) [] ?_
      refine .op' (cgo 44 [false, true] [.code B104]) (ixData_ok (t := 160) (x := (.tmp 31)) (i := (.tmp 33)) (k := IntKind.i64) (n := (↑i : Int)) (sz := 2) (xs := List.map (afD d) (d.nk.zip d.nv)) (d := afD d p) (by kernel_rfl) (by kernel_rfl) (by kernel_rfl) (by kernel_rfl) (by omega) (map_get hz)) ?_
      refine .sg 11 [0, 7, 31, 32, 33, 34, 35, 36, 37, 38, 39, 40, 41] (cgo 55 [false, true] [.code B104]) [(7, .ptr 17 0 0), (36, .d (.agg [D.str p.fst, D.list 1 (List.map u8 (d.file p.snd.toNat).fst)])), (37, .yield 10), (38, .ptr 17 0 0), (39, .d (.str p.fst)), (40, .ptr 17 0 1), (41, .d (.list 1 (List.map u8 (d.file p.snd.toNat).fst)))] [(17, .cells [.d (.str p.fst), .d (.list 1 (List.map u8 (d.file p.snd.toNat).fst))])] ?_
      refine .yieldL (T0 := cgo 11 [] [Item.code B44]) (x := (.tmp 37)) (args := #[(.tmp 39), (.tmp 41)]) (ts := #[9, 22]) (l := 10) (st := LoopState.ready) (fn := 44) (tml := (mk 13 [(2, V.ptr 6 0 0), (5, V.fn (Fn.func 104) [] [V.ptr 7 0 0])])) (R := R44) (o := (opOf (cgo 55 [false, true] [Item.code B104])).getD default) (N := 18) (by kernel_rfl) (by kernel_rfl) (by kernel_rfl) (T' := cgo 56 [false, true] [Item.code B104]) (by kernel_rfl) (by kernel_rfl) (by kernel_rfl) (by kernel_rfl) (by kernel_rfl) (by kernel_rfl) (by kernel_rfl) hYi ?_
      rintro r σ' ⟨rfl, rfl⟩
      refine ⟨_, rfl, ?_⟩
      refine .sg0 9 [0, 7, 31, 32, 33, 34, 35, 36, 37, 38, 39, 40, 41, 42, 43, 44] (cgo 65 [false, true, false] [.code B104]) [(33, .d (.int .i64 (IntKind.i64.wrap ((↑i : Int) + 1)))), (43, .d (.bool false)), (44, .d (.int .i64 (IntKind.i64.wrap ((↑i : Int) + 1))))] ?_
      simp (disch := omega) only [wrap_i64, wrap_u64s, wrap_u32s, wrap_u8s, wrap_i32s, iadd_i64, isub_i64, irem_n, iquo_n, tdiv_nn, tmod_nn]
      refine .kp [0, 31, 32, 33] ?_
      refine .sub (List.range 17) (mk 45 [(0, V.yield 10), (31, .d (.list 2 ((d.nk.zip d.nv).map (afD d)))), (32, .d (.int .i64 (d.nk.length : Nat))), (33, .d (.int .i64 ((i + 1 : Nat) : Int)))]) (S44x d (i + 1) .ready) none [15] ⟨rfl, rfl, by kernel_rfl⟩ (by kernel_rfl) ⟨Nat.le_of_ble_eq_true (by kernel_rfl), by kernel_rfl⟩ (by kernel_rfl) ⟨by kernel_rfl, by kernel_rfl⟩ ⟨rfl, rfl⟩ ?_
      exact .seg 1 [0, 31, 32, 33] (by kernel_rfl) ih1
    · simp only [bsX] at h1
      omega
theorem spec_104 (d : Dk) (N : Nat) (h : d.Ok N) : CallsA Try.prog 104 [.yield 10, .ptr 7 0 0] (S44 d 0 .ready) fun r σ' => r = .ret (.tuple []) ∧ σ' = S44 d d.nk.length .ready := by
  refine CallsA.start F104 (tm := mk (Try.f104.ntmps) [(0, .yield 10), (1, .ptr 7 0 0)]) (by kernel_rfl) ?_
  refine .sg 19 [0, 1, 3, 10, 11, 12, 13] (cgo 19 [false] [.code B104]) [(3, .ptr 11 0 0), (10, .ptr 0 0 0), (11, .ptr 0 0 0), (12, .ptr 0 0 1), (13, .ptr 2 0 0)] [(11, .cells [.ex 2 []])] ?_
  refine .ca [2, 3, 4] (cgo 20 [false] [.code B104]) F72 (@spec_72 (List.map strD d.nk) (List.map intD d.nv)) ?_
  rintro r0 s0 ⟨rfl, rfl⟩
  refine ⟨_, rfl, ?_⟩
  refine .seg 2 [0, 1, 3, 14] (T' := cgo 22 [false] [.code B104]) (tm' := mk 45 [(0, .yield 10), (1, .ptr 7 0 0), (3, .ptr 11 0 0), (14, .fn (Fn.func 109) [] [.ptr 12 0 0, .ptr 13 0 0])]) (σ' := [.cells [.row 1, .ptr 2 0 0, .ep 2 (D.agg [D.list 1 (List.map strD d.sk), D.list 1 (List.map intD d.sv)]) 0, .row 5, .d (.int .i64 d.quota), .d (.bool d.full), .d (.bool d.off), .d (.int .i64 d.stop), .d (.int .i64 d.calls)], .row 2 (List.map fileD d.files) false, .cells [.row 3, .row 4], .row 1 (List.map strD d.nk) false, .row 1 (List.map intD d.nv) false, .row 3 (List.map chD d.ch) false, .cells [.row 8], .cells [.ptr 0 0 0], .row 1 [] true, .defd, lp (cgo 11 [] [.code B44]) 44 (mk 13 [(2, .ptr 6 0 0), (5, .fn (Fn.func 104) [] [.ptr 7 0 0])]) LoopState.ready, .cells [.ex 2 []], .cells [.ptr 2 0 0], .cells [.fn (Fn.func 98) [] []]]) (by kernel_rfl) ?_
  refine .virtX 11 0 2 rfl rfl ?_
  refine .raise 14 rfl rfl ?_
  refine .rangeH (first := []) (cap := [.ptr 12 0 0, .ptr 13 0 0]) (List.range 17) [.yield 16, .ptr 12 0 0, .ptr 13 0 0] (S104 d 0 .ready) F109 (by kernel_rfl) (T' := cgo 23 [false] [Item.code B104]) (by kernel_rfl) (by kernel_rfl) (it104 d N h) (by kernel_rfl) (by kernel_rfl) (by refine ⟨rfl, by kernel_rfl, ?_⟩; kernel_rfl) ?_
  rintro r σc' ⟨rfl, rfl⟩
  refine ⟨.tuple [], .ready, (mk 45 [(0, V.yield 10), (1, V.ptr 7 0 0), (3, V.ptr 11 0 0), (14, V.fn (Fn.func 109) [] [V.ptr 12 0 0, V.ptr 13 0 0])]), rfPs (cgo 22 [false] [Item.code B104]), rfAs (cgo 22 [false] [Item.code B104]), rfBd (cgo 22 [false] [Item.code B104]), 104, rfl, by simp, by kernel_rfl, ?_⟩
  have e1 : (allF d).take d.nk.length = allF d := by rw [List.take_of_length_le]; rw [allF_length d h.nl]; exact Nat.le_refl _
  refine .seg 8 [0, 31, 32, 33] (T' := cgo 31 [false] [.code B104]) (tm' := mk 45 [(0, .yield 10), (31, .row 14), (32, .d (.int .i64 (↑(List.take d.nk.length (allF d)).length : Int))), (33, .d (.int .i64 0))]) (σ' := [.cells [.row 1, .ptr 2 0 0, .ep 2 (D.agg [D.list 1 (List.map strD d.sk), D.list 1 (List.map intD d.sv)]) 0, .row 5, .d (.int .i64 d.quota), .d (.bool d.full), .d (.bool d.off), .d (.int .i64 d.stop), .d (.int .i64 d.calls)], .row 2 (List.map fileD d.files) false, .cells [.row 3, .row 4], .row 1 (List.map strD d.nk) false, .row 1 (List.map intD d.nv) false, .row 3 (List.map chD d.ch) false, .cells [.row 8], .cells [.ptr 0 0 0], .row 1 [] true, .defd, lp (cgo 11 [] [.code B44]) 44 (mk 13 [(2, .ptr 6 0 0), (5, .fn (Fn.func 104) [] [.ptr 7 0 0])]) LoopState.ready, .cells [.row 14], .cells [.ptr 2 0 0], .cells [.fn (Fn.func 98) [] []], .row 2 (List.take d.nk.length (allF d)) true, .defd, lp (cgo 22 [false] [.code B104]) 104 (mk 45 [(0, .yield 10), (1, .ptr 7 0 0), (3, .ptr 11 0 0), (14, .fn (Fn.func 109) [] [.ptr 12 0 0, .ptr 13 0 0])]) LoopState.exhausted]) (by kernel_rfl) ?_
  rw [e1, allF_length d h.nl]
  refine .freeze 14 (sz := 2) (xs := allF d) (mv := true) (by kernel_rfl) ?_
  exact .seg 1 [0, 31, 32, 33] (by kernel_rfl) (lo104b d N h d.nk.length 0 (by omega))
theorem spec_44 (d : Dk) (N : Nat) (h : d.Ok N) : CallsA Try.prog 44 [.ptr 0 0 0] (SD d false) fun r σ' => r = .ret (.d (.list 1 (d.nk.map strD))) ∧ σ' = SD d false := by
  refine CallsA.start F44 (tm := mk (Try.f44.ntmps) [(0, .ptr 0 0 0)]) (by kernel_rfl) ?_
  refine .sg 8 [0, 2, 4] (cgo 8 [] [.code B44]) [(2, .ptr 6 0 0), (4, .ptr 0 0 0)] [(6, .cells [.ex 1 []])] ?_
  refine .ca [0, 1, 2, 3, 4, 5] (cgo 9 [] [.code B44]) F82 (@spec_82 (d)) ?_
  rintro r0 s0 ⟨rfl, rfl⟩
  refine ⟨_, rfl, ?_⟩
  refine .seg 2 [2, 5] (T' := cgo 11 [] [.code B44]) (tm' := mk 13 [(2, .ptr 6 0 0), (5, .fn (Fn.func 104) [] [.ptr 7 0 0])]) (σ' := [.cells [.row 1, .ptr 2 0 0, .ep 2 (D.agg [D.list 1 (List.map strD d.sk), D.list 1 (List.map intD d.sv)]) 0, .row 5, .d (.int .i64 d.quota), .d (.bool d.full), .d (.bool d.off), .d (.int .i64 d.stop), .d (.int .i64 d.calls)], .row 2 (List.map fileD d.files) false, .cells [.row 3, .row 4], .row 1 (List.map strD d.nk) false, .row 1 (List.map intD d.nv) false, .row 3 (List.map chD d.ch) false, .cells [.ex 1 []], .cells [.ptr 0 0 0]]) (by kernel_rfl) ?_
  refine .virtX 6 0 1 rfl rfl ?_
  refine .raise 8 rfl rfl ?_
  refine .rangeH (first := []) (cap := [.ptr 7 0 0]) (List.range 11) [.yield 10, .ptr 7 0 0] (S44 d 0 .ready) F104 (by kernel_rfl) (T' := cgo 12 [] [Item.code B44]) (by kernel_rfl) (by kernel_rfl) (spec_104 d N h) (by kernel_rfl) (by kernel_rfl) (by refine ⟨rfl, by kernel_rfl, ?_⟩; kernel_rfl) ?_
  rintro r σc' ⟨rfl, rfl⟩
  refine ⟨.tuple [], .ready, (mk 13 [(2, V.ptr 6 0 0), (5, V.fn (Fn.func 104) [] [V.ptr 7 0 0])]), rfPs (cgo 11 [] [Item.code B44]), rfAs (cgo 11 [] [Item.code B44]), rfBd (cgo 11 [] [Item.code B44]), 44, rfl, by simp, by kernel_rfl, ?_⟩
  have e1 : d.nk.take d.nk.length = d.nk := List.take_length
  refine .seg 6 [2] (T' := cgo 18 [] [.code B44]) (tm' := mk 13 [(2, .ptr 6 0 0)]) (σ' := [.cells [.row 1, .ptr 2 0 0, .ep 2 (D.agg [D.list 1 (List.map strD d.sk), D.list 1 (List.map intD d.sv)]) 0, .row 5, .d (.int .i64 d.quota), .d (.bool d.full), .d (.bool d.off), .d (.int .i64 d.stop), .d (.int .i64 d.calls)], .row 2 (List.map fileD d.files) false, .cells [.row 3, .row 4], .row 1 (List.map strD d.nk) false, .row 1 (List.map intD d.nv) false, .row 3 (List.map chD d.ch) false, .cells [.row 8], .cells [.ptr 0 0 0], .row 1 (List.map strD (List.take d.nk.length d.nk)) true, .defd, lp (cgo 11 [] [.code B44]) 44 (mk 13 [(2, .ptr 6 0 0), (5, .fn (Fn.func 104) [] [.ptr 7 0 0])]) LoopState.exhausted]) (by kernel_rfl) ?_
  refine .freeze 8 (sz := 1) (xs := List.map strD (List.take d.nk.length d.nk)) (mv := true) (by kernel_rfl) ?_
  refine .retX (v := V.d (D.list 1 (List.map strD (List.take d.nk.length d.nk)))) [0, 1, 2, 3, 4, 5] (V.d (D.list 1 (List.map strD (List.take d.nk.length d.nk)))) F44 (by kernel_rfl) ⟨by kernel_rfl, by kernel_rfl⟩ (σ1 := (SP 1 2 d false [O.cells [V.d (D.list 1 (List.map strD (List.take d.nk.length d.nk)))], O.cells [V.ptr 0 0 0], O.dead, O.dead, lp (cgo 11 [] [Item.code B44]) 44 (mk 13 [(2, V.ptr 6 0 0), (5, V.fn (Fn.func 104) [] [V.ptr 7 0 0])]) LoopState.exhausted])) (by kernel_rfl) (by kernel_rfl) (σ2 := (SP 1 2 d false [])) ⟨rfl, rfl, by kernel_rfl⟩ (by kernel_rfl) ⟨Nat.le_of_ble_eq_true (by kernel_rfl), by kernel_rfl⟩ (by kernel_rfl) ?_
  simp [SD, dirD]
end Go.Proofs.Ytoelkgbeefoplaa
namespace Go.Proofs.Ytoelkgbeefoplaa
open Go Go.Br Go.Proofs
theorem spec_51a (d : Dk) (N : Nat) (h : d.Ok N) (x : ByteArray) (hx : x.size < 1000) (hm1 : mayName x = true) (hm2 : mayName (x ++ tmpX) = true) (ho : d.off = false) (hl : (look d.nk d.nv x).isSome = true) (hg : good (parsed (d.file (d.num x)).1) = (d.file (d.num x)).1.length) :
    CallsA Try.prog 51 [.ptr 0 0 0, .d (.str x)] (SD d false) fun r σ' => r = .ret (.tuple [.ptr 6 0 0, .d (.list 1 ((parsed (d.file (d.num x)).1).map bsD)), .d (.int .i64 0)]) ∧ σ' = SD d false ++ [.cells [.d (.int .i64 ((parsed (d.file (d.num x)).1).length : Nat)), .d (.int .i64 ((d.file (d.num x)).1.length : Nat)), .d (.int .i64 0), .ptr 0 0 0, .d (.str x)]] := by
  refine CallsA.start F51 (tm := mk (Try.f51.ntmps) [(0, .ptr 0 0 0), (1, .d (.str x))]) (by kernel_rfl) ?_
  have hs : (⟨#[46, 116, 109, 112]⟩ : ByteArray).size = 4 := rfl
  have hx1 : (x ++ tmpX).size = x.size + 4 := by simp [tmpX, hs]
  simp only [tmpX] at *
  have hf : (d.file (d.num x)).1.length ≤ 1048576 := (h.fs _ (Dk.file_mem (Dk.num_lt h hl))).2
  have hf2 : (d.file (d.num x)).1.length ≤ 1099511627776 := by omega
  generalize hA : (d.file (d.num x)).1 = A at *
  refine .sg0 10 [0, 1, 4, 5, 6, 14] (cgo 10 [] [.code B51]) [(4, .d (.raw (Value.pointer none))), (5, .nils), (6, .d (.int .i64 0)), (14, .d (.str x))] ?_
  refine .semH (o := (opOf (cgo 10 [] [Item.code B51])).getD default) (v := .d (.bool (mayName x))) (σ' := [.cells [.row 1, .ptr 2 0 0, .ep 2 (D.agg [D.list 1 (List.map strD d.sk), D.list 1 (List.map intD d.sv)]) 0, .row 5, .d (.int .i64 d.quota), .d (.bool d.full), .d (.bool d.off), .d (.int .i64 d.stop), .d (.int .i64 d.calls)], .row 2 (List.map fileD d.files) false, .cells [.row 3, .row 4], .row 1 (List.map strD d.nk) false, .row 1 (List.map intD d.nv) false, .row 3 (List.map chD d.ch) false]) (by kernel_rfl) (by kernel_rfl) (T' := cgo 11 [] [Item.code B51]) (by kernel_rfl) (fun kz => sem_data0 (x := (.func 28)) (args := #[(.tmp 14)]) (ts := #[9]) (first := []) (cap := []) (ds := [.d (.str x)]) (v := .d (.bool (mayName x))) F28 (@spec_28 (x) (by omega)) (by kernel_rfl) (by kernel_rfl) (by kernel_rfl) (by kernel_rfl) (by kernel_rfl) (by kernel_rfl) _) ?_
  refine .sg0 2 [0, 1, 4, 5, 6, 14, 15, 16, 17] (cgo 13 [] [.code B51]) [(16, .d (.bool !mayName x)), (17, .d (.bool !mayName x))] ?_
  rcases Bool.eq_false_or_eq_true (!mayName x) with h1 | h1
  · rw [h1]
    simp only [bsX] at h1
    simp_all
  · rw [h1]
    simp only [bsX] at h1
    refine .sg0 1 [0, 1, 4, 5, 6, 14, 15, 16, 17, 18] (cgo 14 [] [.code B51]) [(18, .d (.str x))] ?_
    refine .op' (cgo 15 [] [.code B51]) (cat_ok (t := 9) (ty := 9) (x := (.tmp 18)) (y := (.const (Value.string (ByteArray.mk #[46, 116, 109, 112])))) (s := x) (u := ByteArray.mk #[46, 116, 109, 112]) (by kernel_rfl) (by kernel_rfl) (by kernel_rfl) (by omega)) ?_
    refine .semH (o := (opOf (cgo 15 [] [Item.code B51])).getD default) (v := .d (.bool (mayName (x ++ ByteArray.mk #[46, 116, 109, 112])))) (σ' := [.cells [.row 1, .ptr 2 0 0, .ep 2 (D.agg [D.list 1 (List.map strD d.sk), D.list 1 (List.map intD d.sv)]) 0, .row 5, .d (.int .i64 d.quota), .d (.bool d.full), .d (.bool d.off), .d (.int .i64 d.stop), .d (.int .i64 d.calls)], .row 2 (List.map fileD d.files) false, .cells [.row 3, .row 4], .row 1 (List.map strD d.nk) false, .row 1 (List.map intD d.nv) false, .row 3 (List.map chD d.ch) false]) (by kernel_rfl) (by kernel_rfl) (T' := cgo 16 [] [Item.code B51]) (by kernel_rfl) (fun kz => sem_data0 (x := (.func 28)) (args := #[(.tmp 19)]) (ts := #[9]) (first := []) (cap := []) (ds := [.d (.str (x ++ ByteArray.mk #[46, 116, 109, 112]))]) (v := .d (.bool (mayName (x ++ ByteArray.mk #[46, 116, 109, 112])))) F28 (@spec_28 (x ++ ByteArray.mk #[46, 116, 109, 112]) (by omega)) (by kernel_rfl) (by kernel_rfl) (by kernel_rfl) (by kernel_rfl) (by kernel_rfl) (by kernel_rfl) _) ?_
    refine .sg0 3 [0, 1, 4, 5, 6, 22] (cgo 19 [] [.code B51]) [(22, .d (.bool !mayName (x ++ ByteArray.mk #[46, 116, 109, 112])))] ?_
    refine .if' (!mayName (x ++ ByteArray.mk #[46, 116, 109, 112])) (cgo 20 [true] [.code B51]) (cgo 20 [false] [.code B51]) (fun h2 => ?_) (fun h2 => ?_)
    · simp only [bsX] at h2
      simp_all
    · simp only [bsX] at h2
      refine .sg0 5 [0, 1, 4, 5, 6, 23] (cgo 25 [false] [.code B51]) [(23, .ptr 0 0 0)] ?_
      refine .ca [0, 1, 2, 3, 4, 5] (cgo 26 [false] [.code B51]) F41 (@spec_41 (d)) ?_
      rintro r2 s2 ⟨rfl, rfl⟩
      refine ⟨_, rfl, ?_⟩
      refine .sg0 1 [0, 1, 4, 5, 6, 24] (cgo 27 [false] [.code B51]) [] ?_
      refine .if' (d.off) (cgo 28 [false, true] [.code B51]) (cgo 28 [false, false] [.code B51]) (fun h4 => ?_) (fun h4 => ?_)
      · simp_all
      · refine .sg 13 [0, 1, 4, 5, 6, 7, 30, 31] (cgo 41 [false, false] [.code B51]) [(7, .ptr 6 0 0), (30, .ptr 0 0 0), (31, .d (.str x))] [(6, .cells [.d (.int .i64 0), .d (.int .i64 0), .d (.int .i64 0), .ptr 0 0 0, .d (.str x)])] ?_
        refine .ca [0, 1, 2, 3, 4, 5] (cgo 42 [false, false] [.code B51]) F27 (@spec_27a (d) (N) (by assumption) (x) (by assumption)) ?_
        rintro r4 s4 ⟨rfl, rfl⟩
        refine ⟨_, rfl, ?_⟩
        refine .sg0 17 [4, 5, 6, 7, 8, 44] (cgo 59 [false, false, false] [.code B51]) [(8, .d (.list 1 (List.map u8 (d.file (d.num x)).fst))), (44, .d (.list 1 (List.map u8 (d.file (d.num x)).fst)))] ?_
        refine .semH (o := (opOf (cgo 59 [false, false, false] [Item.code B51])).getD default) (v := .tuple [.d (.list 1 (List.map bsD (parsed (d.file (d.num x)).fst))), .d (.int .i64 (↑(good (parsed (d.file (d.num x)).fst)) : Int))]) (σ' := [.cells [.row 1, .ptr 2 0 0, .ep 2 (D.agg [D.list 1 (List.map strD d.sk), D.list 1 (List.map intD d.sv)]) 0, .row 5, .d (.int .i64 d.quota), .d (.bool d.full), .d (.bool d.off), .d (.int .i64 d.stop), .d (.int .i64 d.calls)], .row 2 (List.map fileD d.files) false, .cells [.row 3, .row 4], .row 1 (List.map strD d.nk) false, .row 1 (List.map intD d.nv) false, .row 3 (List.map chD d.ch) false, .cells [.d (.int .i64 0), .d (.int .i64 0), .d (.int .i64 0), .ptr 0 0 0, .d (.str x)]]) (by kernel_rfl) (by kernel_rfl) (T' := cgo 60 [false, false, false] [Item.code B51]) (by kernel_rfl) (fun kz => sem_data0 (x := (.func 17)) (args := #[(.tmp 44)]) (ts := #[22]) (first := []) (cap := []) (ds := [.d (.list 1 (List.map u8 (d.file (d.num x)).fst))]) (v := .tuple [.d (.list 1 (List.map bsD (parsed (d.file (d.num x)).fst))), .d (.int .i64 (↑(good (parsed (d.file (d.num x)).fst)) : Int))]) F17 (@spec_17 ((d.file (d.num x)).fst) (by grind)) (by kernel_rfl) (by kernel_rfl) (by kernel_rfl) (by kernel_rfl) (by kernel_rfl) (by kernel_rfl) _) ?_
        refine .sg0 14 [4, 5, 6, 7, 11, 12, 51] (cgo 74 [false, false, false] [.code B51]) [(11, .d (.list 1 (List.map bsD (parsed (d.file (d.num x)).fst)))), (12, .d (.int .i64 (↑(good (parsed (d.file (d.num x)).fst)) : Int))), (51, .d (.bool (decide ((↑(good (parsed (d.file (d.num x)).fst)) : Int) < (↑(List.map u8 (d.file (d.num x)).fst).length : Int)))))] ?_
        simp only [List.length_map]
        refine .if' (decide ((↑(good (parsed (d.file (d.num x)).fst)) : Int) < (↑(d.file (d.num x)).fst.length : Int))) (cgo 75 [false, false, false, true] [.code B51]) (cgo 75 [false, false, false, false] [.code B51]) (fun h6 => ?_) (fun h6 => ?_)
        · simp only [bsX] at h6
          simp_all
        · simp only [bsX] at h6
          refine .seg 25 [4, 5, 6] (T' := cgo 100 [false, false, false, false] [.code B51]) (tm' := mk 71 [(4, .ptr 6 0 0), (5, .d (.list 1 (List.map bsD (parsed (d.file (d.num x)).fst)))), (6, .d (.int .i64 0))]) (σ' := [.cells [.row 1, .ptr 2 0 0, .ep 2 (D.agg [D.list 1 (List.map strD d.sk), D.list 1 (List.map intD d.sv)]) 0, .row 5, .d (.int .i64 d.quota), .d (.bool d.full), .d (.bool d.off), .d (.int .i64 d.stop), .d (.int .i64 d.calls)], .row 2 (List.map fileD d.files) false, .cells [.row 3, .row 4], .row 1 (List.map strD d.nk) false, .row 1 (List.map intD d.nv) false, .row 3 (List.map chD d.ch) false, .cells [.d (.int .i64 (↑(List.map bsD (parsed (d.file (d.num x)).fst)).length : Int)), .d (.int .i64 (↑(good (parsed (d.file (d.num x)).fst)) : Int)), .d (.int .i64 0), .ptr 0 0 0, .d (.str x)]]) (by kernel_rfl) ?_
          simp only [List.length_map]
          refine .retH F51 (v := V.tuple [V.ptr 6 0 0, V.d (D.list 1 (List.map bsD (parsed (d.file (d.num x)).fst))), V.d (D.int IntKind.i64 0)]) (by kernel_rfl) (by kernel_rfl) ?_
          simp_all [SD, dirD]
end Go.Proofs.Ytoelkgbeefoplaa
namespace Go.Proofs.Ytoelkgbeefoplaa
open Go Go.Br Go.Proofs
theorem allOf_snoc (acc : List (List UInt8)) (r : List UInt8) : allOf (acc ++ [r]) = allOf acc ++ frame r := by simp [allOf]
end Go.Proofs.Ytoelkgbeefoplaa
namespace Go.Proofs.Ytoelkgbeefoplaa
open Go Go.Br Go.Proofs
def SF (c s b : Int) (d : Dk) (m : Bool) : Store := [.cells [.row 1, .ptr 2 0 0, .ep 2 (dirD d.sk d.sv) 0, .row 5, .d (.int .i64 d.quota), .d (.bool d.full), .d (.bool d.off), .d (.int .i64 d.stop), .d (.int .i64 d.calls)],
  .row 2 (d.files.map fileD) m, .cells [.row 3, .row 4], .row 1 (d.nk.map strD) m, .row 1 (d.nv.map intD) m, .row 3 (d.ch.map chD) m, .cells [.d (.int .i64 c), .d (.int .i64 s), .d (.int .i64 b), .ptr 0 0 0, .d (.str logX)]]
theorem spec_52a (c s : Int) (x : ByteArray) (d : Dk) (N : Nat) (h : d.Ok N) (hN : N + 5 ≤ 50000) (hx : x.size < 1000000000) (bs : List UInt8) (hb : bs.length < 1000000) (hc0 : 0 ≤ c) (hc1 : c < 1000000) (hs0 : 0 ≤ s) (hs1 : s < 1000000000) (he : addE d x bs = 0) :
    CallsA Try.prog 52 [.ptr 0 0 0, .d (.list 1 (bs.map u8))] (SL c s 0 x d false) fun r σ' => r = .ret (.d (.int .i64 0)) ∧ σ' = SL (c + 1) (s + (frame bs).length) 0 x (addL d x bs) true := by
  have h1 := spec_52 c s x d N h hN hx bs hb hc0 hc1 hs0 hs1
  rw [he] at h1
  simpa using h1
theorem spec_54a (c s : Int) (x : ByteArray) (d : Dk) (N : Nat) (h : d.Ok N) (rs : List (List UInt8)) (hrs : ∀ r ∈ rs, r.length ≤ 65536) (hl : rs.length < 10000) (hN : N + rs.length + 20 ≤ 50000) (hx : x.size < 1000) (he : (writeR x (rs.map frame) d).1 = 0) (hb : (writeR x (rs.map frame) d).2.1 = 0) :
    CallsA Try.prog 54 [.ptr 0 0 0, .d (.list 1 (rs.map bsD))] (SL c s 0 x d false) fun r σ' => r = .ret (.d (.int .i64 0)) ∧ σ' = SL (rs.length : Nat) (good rs : Nat) 0 x (writeR x (rs.map frame) d).2.2 true := by
  have h1 := spec_54 c s x d N h rs hrs hl hN hx
  have e : resetR c s x rs d = (0, (rs.length : Int), (good rs : Int), 0, (writeR x (rs.map frame) d).2.2) := by simp [resetR, he, hb]
  rw [e] at h1
  exact h1
theorem parsed_all (l : List (List UInt8)) (h : ∀ r ∈ l, r.length ≤ 65536) : parsed (allOf l) = l := by
  have := recs_all l [] ((allOf l).length + 1) h (by simp) (by simp)
  rwa [List.append_nil] at this
theorem spec_51w (d : Dk) (k N : Nat) (acc : List (List UInt8)) (hd : Lone d k (allOf acc)) (h : d.Ok N) (ha : ∀ r ∈ acc, r.length ≤ 65536) :
    CallsA Try.prog 51 [.ptr 0 0 0, .d (.str logX)] (SD d false) fun r σ' => r = .ret (.tuple [.ptr 6 0 0, .d (.list 1 (acc.map bsD)), .d (.int .i64 0)]) ∧ σ' = SD d false ++ [.cells [.d (.int .i64 (acc.length : Nat)), .d (.int .i64 ((allOf acc).length : Nat)), .d (.int .i64 0), .ptr 0 0 0, .d (.str logX)]] := by
  have e1 : (d.file (d.num logX)).1 = allOf acc := by rw [hd.num, hd.data]
  have h1 := spec_51a d N h logX (by decide) may_log (by rw [logX_tmp]; exact may_tmp) hd.on.off (by rw [hd.nk, hd.nv, look_log]; rfl) (by rw [e1, parsed_all acc ha, good_all])
  rw [e1, parsed_all acc ha] at h1
  exact h1
end Go.Proofs.Ytoelkgbeefoplaa
