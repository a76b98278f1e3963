/- Part 14 of this proof. -/
import Derived.Test.YtoelkgbeefoplaaM13
set_option linter.unusedSimpArgs false
set_option linter.unusedVariables false
set_option linter.constructorNameAsVariable false
namespace Go.Proofs.Ytoelkgbeefoplaa
open Go Go.Br Go.Proofs
open List (map)
theorem spec_31c (d : Dk) (N : Nat) (h : d.Ok N) (hN : N + 2 ≤ 50000) (x : ByteArray) (hx : x.size < 1000000000) (bs : List UInt8) (ds : List D) (hds : ds = bs.map u8) (hb : bs.length < 1000000000) :
  CallsA Try.prog 31 [.ptr 0 0 0, .d (.str x), .d (.list 1 ds)] (SD d false) fun r σ' => r = .ret (.d (.int .i64 (d.begun.appendE x bs))) ∧ σ' = SD (d.begun.appendD x bs) true := by
 subst hds
 exact spec_31 d N h hN x hx bs hb
theorem spec_35c (d : Dk) (N : Nat) (h : d.Ok N) (dir : Int) (keep : List Int) (ds : List D) (hds : ds = keep.map intD) (hk : keep.length < 1000000000) (hkv : ∀ v ∈ keep, -9223372036854775808 ≤ v ∧ v < 9223372036854775808) :
  CallsA Try.prog 35 [.ptr 0 0 0, .d (.agg [.int .i64 dir, .list 1 ds])] (SD d false) fun r σ' => r = .ret (.tuple []) ∧ σ' = SDc d (d.crash dir keep) := by
 subst hds
 exact spec_35 d N h dir keep hk hkv
noncomputable def B30 : Code := (Try.f30.body).getD .skip
noncomputable def G30 (n l) := cgo n l [.code B30]
theorem F30 : Fnc Try.prog 30 Try.f30 B30 := ⟨Try.func30, by kernel_rfl, by kernel_rfl⟩
def d1 : Dk := (Dk.new 10).begun.createD ⟨#[97]⟩
def d2 : Dk := d1.begun.appendD ⟨#[97]⟩ (List.replicate 12 0)
def d3 : Dk := d2.begun.appendD ⟨#[97]⟩ (List.replicate 5 0)
def d4 : Dk := d3.begun.syncD ⟨#[97]⟩
def d5 : Dk := d4.begun.appendD ⟨#[97]⟩ [1, 2]
def d6 : Dk := d5.begun.syncDirD
def d7 : Dk := d6.crash 0 [1]
theorem e2 : (Dk.new 10).begun.createE ⟨#[97]⟩ = 0 := by kernel_rfl
theorem e3 : d1.begun.appendE ⟨#[97]⟩ (List.replicate 12 0) = 4 := by kernel_rfl
theorem e4 : d2.begun.appendE ⟨#[97]⟩ (List.replicate 5 0) = 0 := by kernel_rfl
theorem e5 : d3.begun.err true [⟨#[97]⟩] = 0 := by kernel_rfl
theorem e6 : d4.begun.appendE ⟨#[97]⟩ [1, 2] = 0 := by kernel_rfl
theorem e7 : d5.begun.err false [] = 0 := by kernel_rfl
theorem e8 : (look d7.nk d7.nv ⟨#[97]⟩).isSome = true := by kernel_rfl
theorem lv30 (d : Dk) (hd : d = Dk.new 10) :
   AW Try.prog 30 none 0 (G30 9 []) (mk 66 [(1, .ptr 0 0 0)]) (SD d true) [] fun r σ' => r = .ret (.d (.bool true)) := by
 have h0 : d.Ok 0 := hd ▸ Dk.new_ok (by decide)
 have ha : (ByteArray.mk #[97]).size < 1000000000 := by decide
 have h1 := Dk.createD_ok (Dk.begun_ok h0 (by omega)) (by omega) (ByteArray.mk #[97])
 have b12 : List.replicate 12 (D.int IntKind.u8 0) = List.map u8 (List.replicate 12 0) := rfl
 have b5 : List.replicate 5 (D.int IntKind.u8 0) = List.map u8 (List.replicate 5 0) := rfl
 have h2 := Dk.appendD_ok (Dk.begun_ok h1 (by omega)) (ByteArray.mk #[97]) (List.replicate 12 0)
 have h3 := Dk.appendD_ok (Dk.begun_ok h2 (by omega)) (ByteArray.mk #[97]) (List.replicate 5 0)
 have h4 := Dk.syncD_ok (Dk.begun_ok h3 (by omega)) (ByteArray.mk #[97])
 have b2 : [D.int IntKind.u8 1, D.int IntKind.u8 2] = List.map u8 [1, 2] := rfl
 have h5 := Dk.appendD_ok (Dk.begun_ok h4 (by omega)) (ByteArray.mk #[97]) [1, 2]
 have h6 := Dk.syncDirD_ok (Dk.begun_ok h5 (by omega))
 have k1 : [D.int IntKind.i64 1] = List.map intD [1] := rfl
 have h7 := Dk.crash_ok h6 0 [1]
 refine .sg0 1 [1] (G30 10 []) [] ?_
 refine .dr (G30 11 []) [(2, .d (.int .i64 (d.begun.createE (ByteArray.mk #[97])))), (3, .d (.int .i64 ((d.begun.createD (ByteArray.mk #[97])).begun.appendE (ByteArray.mk #[97]) (List.replicate 12 0)))), (4, .d (.int .i64 (((d.begun.createD (ByteArray.mk #[97])).begun.appendD (ByteArray.mk #[97]) (List.replicate 12 0)).begun.appendE (ByteArray.mk #[97]) (List.replicate 5 0)))), (11, .ptr 0 0 0), (12, .d (.int .i64 (d.begun.createE (ByteArray.mk #[97])))), (13, .ptr 0 0 0), (14, .d (.list 1 [D.int IntKind.u8 0, D.int IntKind.u8 0, D.int IntKind.u8 0, D.int IntKind.u8 0, D.int IntKind.u8 0, D.int IntKind.u8 0, D.int IntKind.u8 0, D.int IntKind.u8 0, D.int IntKind.u8 0, D.int IntKind.u8 0, D.int IntKind.u8 0, D.int IntKind.u8 0])), (15, .d (.int .i64 ((d.begun.createD (ByteArray.mk #[97])).begun.appendE (ByteArray.mk #[97]) (List.replicate 12 0)))), (16, .ptr 0 0 0), (17, .d (.list 1 [D.int IntKind.u8 0, D.int IntKind.u8 0, D.int IntKind.u8 0, D.int IntKind.u8 0, D.int IntKind.u8 0])), (18, .d (.int .i64 (((d.begun.createD (ByteArray.mk #[97])).begun.appendD (ByteArray.mk #[97]) (List.replicate 12 0)).begun.appendE (ByteArray.mk #[97]) (List.replicate 5 0))))] [(0, .cells (hC 1 2 5 (((d.begun.createD (ByteArray.mk #[97])).begun.appendD (ByteArray.mk #[97]) (List.replicate 12 0)).begun.appendD (ByteArray.mk #[97]) (List.replicate 5 0)))), (1, .row 2 (map fileD (((d.begun.createD (ByteArray.mk #[97])).begun.appendD (ByteArray.mk #[97]) (List.replicate 12 0)).begun.appendD (ByteArray.mk #[97]) (List.replicate 5 0)).files) true), (3, .row 1 (map strD (((d.begun.createD (ByteArray.mk #[97])).begun.appendD (ByteArray.mk #[97]) (List.replicate 12 0)).begun.appendD (ByteArray.mk #[97]) (List.replicate 5 0)).nk) true), (4, .row 1 (map intD (((d.begun.createD (ByteArray.mk #[97])).begun.appendD (ByteArray.mk #[97]) (List.replicate 12 0)).begun.appendD (ByteArray.mk #[97]) (List.replicate 5 0)).nv) true), (5, .row 3 (map chD (((d.begun.createD (ByteArray.mk #[97])).begun.appendD (ByteArray.mk #[97]) (List.replicate 12 0)).begun.appendD (ByteArray.mk #[97]) (List.replicate 5 0)).ch) true)] (fun kz L hL => ?_) ?_
 · refine ⟨[fO 0, fX [0, 1, 2, 3, 4, 5] [0, 1, 2, 3, 4, 5] [1, 3, 4, 5] [1, 2, 5, 3, 4] [0, 1, 2, 5, 3, 4], fO 0, nF, fX [0, 1, 2, 3, 4, 5] [0, 1, 2, 3, 4, 5] [1, 3, 4, 5] [1, 2, 5, 3, 4] [0, 1, 2, 5, 3, 4], fO 0, nF, fX [0, 1, 2, 3, 4, 5] [0, 1, 2, 3, 4, 5] [1, 3, 4, 5] [1, 2, 5, 3, 4] [0, 1, 2, 5, 3, 4], nF, nF, nF], run_amongF hL _ [] [0, 2, 3, 5, 6, 1, 4, 7, 8, 9, 10] (by intro p hp; cases hp) (by kernel_rfl) ?_⟩
   refine Run.ap [0, 2] [(11, .ptr 0 0 0), (13, .ptr 0 0 0)] [] ?_
   refine Run.lk 3 (.d (.list 1 [D.int IntKind.u8 0, D.int IntKind.u8 0, D.int IntKind.u8 0, D.int IntKind.u8 0, D.int IntKind.u8 0, D.int IntKind.u8 0, D.int IntKind.u8 0, D.int IntKind.u8 0, D.int IntKind.u8 0, D.int IntKind.u8 0, D.int IntKind.u8 0, D.int IntKind.u8 0])) [(.const (Value.int IntKind.i64 12)), (.const (Value.int IntKind.i64 12))] (fun tm' σ2 hv hr => makeD_ok (t := 22) (l := (.const (Value.int IntKind.i64 12))) (c := (.const (Value.int IntKind.i64 12))) (e := 5) (z := (Value.int IntKind.u8 (0))) (dz := D.int IntKind.u8 0) (bytes := 1) (n := 12) (kl := IntKind.i64) (kc := IntKind.i64) (by kernel_rfl) (by kernel_rfl) (by kernel_rfl) (by kernel_rfl) (evv hv) (evv hv) (by omega) (by first | (simp [maxLen] <;> omega) | omega)) ?_
   refine Run.ap [5] [(16, .ptr 0 0 0)] [] ?_
   refine Run.lk 6 (.d (.list 1 [D.int IntKind.u8 0, D.int IntKind.u8 0, D.int IntKind.u8 0, D.int IntKind.u8 0, D.int IntKind.u8 0])) [(.const (Value.int IntKind.i64 5)), (.const (Value.int IntKind.i64 5))] (fun tm' σ2 hv hr => makeD_ok (t := 22) (l := (.const (Value.int IntKind.i64 5))) (c := (.const (Value.int IntKind.i64 5))) (e := 5) (z := (Value.int IntKind.u8 (0))) (dz := D.int IntKind.u8 0) (bytes := 1) (n := 5) (kl := IntKind.i64) (kc := IntKind.i64) (by kernel_rfl) (by kernel_rfl) (by kernel_rfl) (by kernel_rfl) (evv hv) (evv hv) (by omega) (by first | (simp [maxLen] <;> omega) | omega)) ?_
   refine Run.cl 1 [0, 1, 2, 3, 4, 5] F26 (@spec_26 (d) (0) (by assumption) (by omega) (ByteArray.mk #[97]) (by assumption)) ?_
   refine Run.cl 4 [0, 1, 2, 3, 4, 5] F31 (@spec_31c (d.begun.createD (ByteArray.mk #[97])) (0 + 1 + 1) (by assumption) (by omega) (ByteArray.mk #[97]) (by assumption) (List.replicate 12 0) ([D.int IntKind.u8 0, D.int IntKind.u8 0, D.int IntKind.u8 0, D.int IntKind.u8 0, D.int IntKind.u8 0, D.int IntKind.u8 0, D.int IntKind.u8 0, D.int IntKind.u8 0, D.int IntKind.u8 0, D.int IntKind.u8 0, D.int IntKind.u8 0, D.int IntKind.u8 0]) (by assumption) (by simp; done)) ?_
   refine Run.cl 7 [0, 1, 2, 3, 4, 5] F31 (@spec_31c ((d.begun.createD (ByteArray.mk #[97])).begun.appendD (ByteArray.mk #[97]) (List.replicate 12 0)) (0 + 1 + 1 + 1) (by assumption) (by omega) (ByteArray.mk #[97]) (by assumption) (List.replicate 5 0) ([D.int IntKind.u8 0, D.int IntKind.u8 0, D.int IntKind.u8 0, D.int IntKind.u8 0, D.int IntKind.u8 0]) (by assumption) (by simp; done)) ?_
   exact Run.fin
 refine .sg0 3 [1, 2, 3, 4, 19] (G30 14 []) [(19, .ptr 0 0 0)] ?_
 refine .ca [0, 1, 2, 3, 4, 5] (G30 15 []) F32 (@spec_32 (((d.begun.createD (ByteArray.mk #[97])).begun.appendD (ByteArray.mk #[97]) (List.replicate 12 0)).begun.appendD (ByteArray.mk #[97]) (List.replicate 5 0)) (0 + 1 + 1 + 1 + 1) (by assumption) (by omega) (ByteArray.mk #[97]) (by assumption)) ?_
 rintro r9 s9 ⟨rfl, rfl⟩
 refine ⟨_, rfl, ?_⟩
 refine .sge 6 [1, 2, 3, 4, 5, 21, 22] (G30 21 []) ?_
 refine .freeze 6 (sz := 1) (xs := [D.int IntKind.u8 1, D.int IntKind.u8 2]) (mv := false) (by kernel_rfl) ?_
 refine .ca [0, 1, 2, 3, 4, 5] (G30 22 []) F31 (@spec_31c ((((d.begun.createD (ByteArray.mk #[97])).begun.appendD (ByteArray.mk #[97]) (List.replicate 12 0)).begun.appendD (ByteArray.mk #[97]) (List.replicate 5 0)).begun.syncD (ByteArray.mk #[97])) (0 + 1 + 1 + 1 + 1 + 1) (by assumption) (by omega) (ByteArray.mk #[97]) (by assumption) ([1, 2]) ([D.int IntKind.u8 1, D.int IntKind.u8 2]) (by assumption) (by simp; done)) ?_
 rintro r10 s10 ⟨rfl, rfl⟩
 refine ⟨_, rfl, ?_⟩
 refine .sg0 1 [1, 2, 3, 4, 5, 21, 22, 23, 24] (G30 23 []) [(24, .ptr 0 0 0)] ?_
 refine .ca [0, 1, 2, 3, 4, 5] (G30 24 []) F33 (@spec_33 (((((d.begun.createD (ByteArray.mk #[97])).begun.appendD (ByteArray.mk #[97]) (List.replicate 12 0)).begun.appendD (ByteArray.mk #[97]) (List.replicate 5 0)).begun.syncD (ByteArray.mk #[97])).begun.appendD (ByteArray.mk #[97]) [1, 2]) (0 + 1 + 1 + 1 + 1 + 1 + 1) (by assumption) (by omega)) ?_
 rintro r11 s11 ⟨rfl, rfl⟩
 refine ⟨_, rfl, ?_⟩
 refine .sge 8 [1, 2, 3, 4, 5, 6, 7, 26, 27, 28] (G30 32 []) ?_
 refine .freeze 7 (sz := 1) (xs := [D.int IntKind.i64 1]) (mv := false) (by kernel_rfl) ?_
 refine .ca [0, 1, 2, 3, 4, 5] (G30 33 []) F35 (@spec_35c ((((((d.begun.createD (ByteArray.mk #[97])).begun.appendD (ByteArray.mk #[97]) (List.replicate 12 0)).begun.appendD (ByteArray.mk #[97]) (List.replicate 5 0)).begun.syncD (ByteArray.mk #[97])).begun.appendD (ByteArray.mk #[97]) [1, 2]).begun.syncDirD) (0 + 1 + 1 + 1 + 1 + 1 + 1 + 1) (by assumption) (0) ([1]) ([D.int IntKind.i64 1]) (by assumption) (by assumption) (by simp; done)) ?_
 rintro r12 s12 ⟨rfl, rfl⟩
 refine ⟨_, rfl, ?_⟩
 refine .sg0 4 [1, 2, 3, 4, 5, 6, 7, 31] (G30 37 []) [(31, .ptr 0 0 0)] ?_
 refine .ca [0, 1, 8, 9, 10, 5] (G30 38 []) F27 (@spec_27 ((((((d.begun.createD (ByteArray.mk #[97])).begun.appendD (ByteArray.mk #[97]) (List.replicate 12 0)).begun.appendD (ByteArray.mk #[97]) (List.replicate 5 0)).begun.syncD (ByteArray.mk #[97])).begun.appendD (ByteArray.mk #[97]) [1, 2]).begun.syncDirD.crash 0 [1]) (0 + 1 + 1 + 1 + 1 + 1 + 1 + 1) (by assumption) (ByteArray.mk #[97])) ?_
 rintro r13 s13 ⟨rfl, rfl⟩
 refine ⟨_, rfl, ?_⟩
 refine .sg0 7 [2, 3, 4, 5, 6, 7, 8, 9] (G30 45 []) [(8, .d (if (look ((((((d.begun.createD (ByteArray.mk #[97])).begun.appendD (ByteArray.mk #[97]) (List.replicate 12 0)).begun.appendD (ByteArray.mk #[97]) (List.replicate 5 0)).begun.syncD (ByteArray.mk #[97])).begun.appendD (ByteArray.mk #[97]) [1, 2]).begun.syncDirD.crash 0 [1]).nk ((((((d.begun.createD (ByteArray.mk #[97])).begun.appendD (ByteArray.mk #[97]) (List.replicate 12 0)).begun.appendD (ByteArray.mk #[97]) (List.replicate 5 0)).begun.syncD (ByteArray.mk #[97])).begun.appendD (ByteArray.mk #[97]) [1, 2]).begun.syncDirD.crash 0 [1]).nv (ByteArray.mk #[97])).isSome = true then bsD (((((((d.begun.createD (ByteArray.mk #[97])).begun.appendD (ByteArray.mk #[97]) (List.replicate 12 0)).begun.appendD (ByteArray.mk #[97]) (List.replicate 5 0)).begun.syncD (ByteArray.mk #[97])).begun.appendD (ByteArray.mk #[97]) [1, 2]).begun.syncDirD.crash 0 [1]).file (((((((d.begun.createD (ByteArray.mk #[97])).begun.appendD (ByteArray.mk #[97]) (List.replicate 12 0)).begun.appendD (ByteArray.mk #[97]) (List.replicate 5 0)).begun.syncD (ByteArray.mk #[97])).begun.appendD (ByteArray.mk #[97]) [1, 2]).begun.syncDirD.crash 0 [1]).num (ByteArray.mk #[97]))).fst else D.list 1 [])), (9, .d (.int .i64 (if (look ((((((d.begun.createD (ByteArray.mk #[97])).begun.appendD (ByteArray.mk #[97]) (List.replicate 12 0)).begun.appendD (ByteArray.mk #[97]) (List.replicate 5 0)).begun.syncD (ByteArray.mk #[97])).begun.appendD (ByteArray.mk #[97]) [1, 2]).begun.syncDirD.crash 0 [1]).nk ((((((d.begun.createD (ByteArray.mk #[97])).begun.appendD (ByteArray.mk #[97]) (List.replicate 12 0)).begun.appendD (ByteArray.mk #[97]) (List.replicate 5 0)).begun.syncD (ByteArray.mk #[97])).begun.appendD (ByteArray.mk #[97]) [1, 2]).begun.syncDirD.crash 0 [1]).nv (ByteArray.mk #[97])).isSome = true then 0 else 3)))] ?_
 subst hd
 refine .goes [2, 3, 4, 5, 6, 7, 8, 9] (tm' := mk 66 [(2, .d (.int .i64 0)), (3, .d (.int .i64 4)), (4, .d (.int .i64 0)), (5, .d (.int .i64 0)), (6, .d (.int .i64 0)), (7, .d (.int .i64 0)), (8, .d (bsD [0, 0, 0, 0, 0, 1])), (9, .d (.int .i64 0))]) rfl (by kernel_rfl) rfl ?_
 refine .sg0 34 [0] (G30 79 []) [(0, .d (.bool true))] ?_
 refine .kp [0] ?_
 refine .su [] (mk 66 [(0, .d (.bool true))]) [] ?_
 refine .rt F30 (V.d (D.bool true)) ?_
 exact rfl
theorem spec_30 : Br.Pure Try.prog 30 [] (.d (.bool true)) := by
 refine CallsA.pure ?_ rfl
 refine CallsA.start F30 (tm := mk (Try.f30.ntmps) []) (by kernel_rfl) ?_
 refine .sg0 6 [0] (G30 6 []) [(0, .d (.bool false))] ?_
 refine .ca [] (G30 7 []) F25 (@spec_25 (10)) ?_
 rintro r0 s0 ⟨rfl, rfl⟩
 refine ⟨_, rfl, ?_⟩
 refine .sg0 2 [0, 1] (G30 9 []) [(1, .ptr 0 0 0)] ?_
 exact .goes [1] (by kernel_rfl) (by kernel_rfl) (by kernel_rfl) (lv30 (Dk.new 10) rfl)
theorem spec_77a (d : Dk) (t : Int) (N : Nat) (h : d.Ok N) (hn : d.Nm) (hN : N + 3 ≤ 50000) (ht : Rt d t) (x y : ByteArray) (hx : x.size < 1000000000) (v4 : V) :
 CallsA Try.prog 77 [.ptr 0 0 0, .d (.int .i64 0), .d (.str x), .d (.str y), v4] (SR (Rof d t) false) fun r σ' => r = .ret (.d (.int .i64 (d.begun.createE x))) ∧ σ' = SR (Rof (d.begun.createD x) (tb d t)) true := call0 d t N h hn hN ht x y hx v4
theorem spec_77a2 (d : Dk) (t : Int) (N : Nat) (h : d.Ok N) (hN : N + 3 ≤ 50000) (ht : Rt d t) (x : ByteArray) (hx : x.size < 1000000000) (bs : List UInt8) (hb : bs.length < 1000000) :
 CallsA Try.prog 77 [.ptr 0 0 0, .d (.int .i64 1), .d (.str x), .d (.str (ByteArray.mk #[])), .d (.list 1 (bs.map u8))] (SR (Rof d t) false) fun r σ' => r = .ret (.d (.int .i64 (d.begun.appendE x bs))) ∧ σ' = SR (Rof (d.begun.appendD x bs) (tb d t)) true := call1 d t N h hN ht x _ hx (by decide) bs hb
theorem spec_77a3 (d : Dk) (t : Int) (N : Nat) (h : d.Ok N) (hN : N + 3 ≤ 50000) (ht : Rt d t) (x : ByteArray) (hx : x.size < 1000000000) (v4 : V) :
 CallsA Try.prog 77 [.ptr 0 0 0, .d (.int .i64 2), .d (.str x), .d (.str (ByteArray.mk #[])), v4] (SR (Rof d t) false) fun r σ' => r = .ret (.d (.int .i64 (d.begun.err true [x]))) ∧ σ' = SR (Rof (d.begun.syncD x) (tb d t)) true := call2 d t N h hN ht x _ hx (by decide) v4
theorem spec_77a4 (d : Dk) (t : Int) (N : Nat) (h : d.Ok N) (hN : N + 3 ≤ 50000) (ht : Rt d t) (x y : ByteArray) (v4 : V) :
 CallsA Try.prog 77 [.ptr 0 0 0, .d (.int .i64 3), .d (.str x), .d (.str y), v4] (SR (Rof d t) false) fun r σ' => r = .ret (.d (.int .i64 (d.begun.err false []))) ∧ σ' = SR (Rof (d.begun.syncDirD) (tb d t)) true := call3 d t N h hN ht x y v4
theorem spec_77a5 (d : Dk) (t : Int) (N : Nat) (h : d.Ok N) (hn : d.Nm) (hN : N + 3 ≤ 50000) (ht : Rt d t) (x y : ByteArray) (hx : x.size < 1000000000) (hy : y.size < 1000000000) (v4 : V) :
 CallsA Try.prog 77 [.ptr 0 0 0, .d (.int .i64 4), .d (.str x), .d (.str y), v4] (SR (Rof d t) false) fun r σ' => r = .ret (.d (.int .i64 (d.begun.err true [x, y]))) ∧ σ' = SR (Rof (d.begun.renameD x y) (tb d t)) true := call4 d t N h hn hN ht x y hx hy v4
theorem spec_77a6 (d : Dk) (t : Int) (N : Nat) (h : d.Ok N) (hn : d.Nm) (hN : N + 3 ≤ 50000) (ht : Rt d t) (x : ByteArray) (hx : x.size < 1000000000) (v4 : V) :
 CallsA Try.prog 77 [.ptr 0 0 0, .d (.int .i64 5), .d (.str x), .d (.str (ByteArray.mk #[])), v4] (SR (Rof d t) false) fun r σ' => r = .ret (.d (.int .i64 (d.begun.err true [x]))) ∧ σ' = SR (Rof (d.begun.removeD x) (tb d t)) true := call5 d t N h hn hN ht x _ hx (by decide) v4
structure DOp where
  kind : Nat
  a : ByteArray
  b : ByteArray
  data : List UInt8
  n : Int
  dir : Int
  keep : List Int
def dopD (o : DOp) : D := .agg [.int .u64 o.kind, .str o.a, .str o.b, bsD o.data, .int .i64 o.n, .int .i64 o.dir, .list 1 (o.keep.map intD)]
structure DOp.fits (o : DOp) : Prop where
  k : o.kind < 18446744073709551616
  d : o.data.length ≤ maxLen
  n0 : -9223372036854775808 ≤ o.n
  n1 : o.n < 9223372036854775808
  kl : o.keep.length ≤ maxLen
  kv : ∀ v ∈ o.keep, -9223372036854775808 ≤ v ∧ v < 9223372036854775808
structure DOp.small (o : DOp) : Prop where
  a : o.a.size ≤ 300
  b : o.b.size ≤ 300
  d : o.data.length ≤ 300
  kl : o.keep.length ≤ 300
def SX (d : Dk) (t : Int) (m : Bool) : Store := [.cells [.row 1, .ptr 2 0 0, .ep 2 (dirD d.sk d.sv) 0, .row 5, .d (.int .i64 d.quota), .d (.bool d.full), .d (.bool d.off), .d (.int .i64 d.stop), .d (.int .i64 d.calls)],
  .row 2 (d.files.map fileD) m, .cells [.row 3, .row 4], .row 1 (d.nk.map strD) m, .row 1 (d.nv.map intD) m, .row 3 (d.ch.map chD) m,
  .cells [.row 7, .d (.list 2 ((Rof d t).now.map nmD)), .d (.list 2 ((Rof d t).sure.map nmD)), .row 8, .d (.int .i64 d.quota), .d (.bool d.full), .d (.bool d.off), .d (.int .i64 t), .d (.int .i64 d.calls)], .row 2 (d.files.map fileD) m, .row 3 (d.ch.map chD) m]
noncomputable def B42 : Code := (Try.f42.body).getD .skip
noncomputable def G42 (n l) := cgo n l [.code B42]
theorem F42 : Fnc Try.prog 42 Try.f42 B42 := ⟨Try.func42, by kernel_rfl, by kernel_rfl⟩
set_option maxRecDepth 100000 in
theorem rd_62 {n : Nat} {x : D} (h : WtE Try.prog n 62 x) : ∃ o : DOp, x = dopD o ∧ o.fits := by
 have hu : ∃ fs, Try.prog.underlying 62 = some (.struct fs) ∧ fs.toList.map (fun f => (f.type, f.offset)) = [(33, 0), (9, 1), (9, 2), (22, 3), (3, 4), (48, 5)] := ⟨_, rfl, by kernel_rfl⟩
 obtain ⟨fs, hu, hf⟩ := hu
 obtain ⟨cs, rfl, hl, hc⟩ := h.struct hu
 obtain ⟨f0, fs0, hfs, h0, hf⟩ := List.map_eq_cons_iff.1 hf
 obtain ⟨f1, fs1, rfl, h1, hf⟩ := List.map_eq_cons_iff.1 hf
 obtain ⟨f2, fs2, rfl, h2, hf⟩ := List.map_eq_cons_iff.1 hf
 obtain ⟨f3, fs3, rfl, h3, hf⟩ := List.map_eq_cons_iff.1 hf
 obtain ⟨f4, fs4, rfl, h4, hf⟩ := List.map_eq_cons_iff.1 hf
 obtain ⟨f5, fs5, rfl, h5, -⟩ := List.map_eq_cons_iff.1 hf
 have c0 := hc f0 (by rw [hfs]; simp)
 have c1 := hc f1 (by rw [hfs]; simp)
 have c2 := hc f2 (by rw [hfs]; simp)
 have c3 := hc f3 (by rw [hfs]; simp)
 have c4 := hc f4 (by rw [hfs]; simp)
 have c5 := hc f5 (by rw [hfs]; simp)
 simp only [Prod.mk.injEq] at h0 h1 h2 h3 h4 h5
 rw [h0.1, h0.2, show Try.prog.cellsOf 33 = 1 by kernel_rfl] at c0
 rw [h1.1, h1.2, show Try.prog.cellsOf 9 = 1 by kernel_rfl] at c1
 rw [h2.1, h2.2, show Try.prog.cellsOf 9 = 1 by kernel_rfl] at c2
 rw [h3.1, h3.2, show Try.prog.cellsOf 22 = 1 by kernel_rfl] at c3
 rw [h4.1, h4.2, show Try.prog.cellsOf 3 = 1 by kernel_rfl] at c4
 rw [h5.1, h5.2, show Try.prog.cellsOf 48 = 2 by kernel_rfl] at c5
 rw [show Try.prog.cellsOf 62 = 7 by kernel_rfl] at hl
 obtain ⟨x0, e0, w0⟩ := c0.one (by kernel_rfl)
 obtain ⟨x1, e1, w1⟩ := c1.one (by kernel_rfl)
 obtain ⟨x2, e2, w2⟩ := c2.one (by kernel_rfl)
 obtain ⟨x3, e3, w3⟩ := c3.one (by kernel_rfl)
 obtain ⟨x4, e4, w4⟩ := c4.one (by kernel_rfl)
 match cs, hl with
 | [y0, y1, y2, y3, y4, y5, y6], _ =>
   simp only [List.drop_zero, List.take_succ_cons, List.take_zero, List.drop_succ_cons, List.cons.injEq, and_true] at e0 e1 e2 e3 e4 c5
   subst e0 e1 e2 e3 e4
   obtain ⟨a, rfl, ha⟩ := rd_33 w0
   obtain ⟨s, rfl, hs⟩ := rd_9 w1
   obtain ⟨u, rfl, hu2⟩ := rd_9 w2
   obtain ⟨l, rfl, hl2⟩ := rd_22 w3
   obtain ⟨m, rfl, hm⟩ := rd_3 w4
   have w5 : WtE Try.prog (n - 1) 48 (.agg [y5, y6]) := by
    unfold WtE
    rw [if_pos (show isAggB Try.prog 48 = true by kernel_rfl)]
    exact ⟨_, rfl, by kernel_rfl, c5⟩
   obtain ⟨p, hp, hp1, hp2, hp3⟩ := rd_48 w5
   simp only [D.agg.injEq, List.cons.injEq, and_true] at hp
   obtain ⟨rfl, rfl⟩ := hp
   exact ⟨⟨a, s, u, l, m, p.1, p.2⟩, rfl, ⟨ha, hl2, hm.1, hm.2, hp2, hp3⟩⟩
set_option maxRecDepth 100000 in
theorem rd_54 {n : Nat} {x : D} (h : WtE Try.prog n 54 x) : ∃ l : List DOp, x = .list 7 (l.map dopD) ∧ l.length ≤ maxLen ∧ ∀ o ∈ l, o.fits := by
 obtain ⟨l, rfl, h1, h2⟩ := WtE.slice_map (P := Try.prog) (e := 62) (t := 54) dopD (fun o => o.fits) h (show Try.prog.underlying 54 = some (.slice 62) by kernel_rfl) fun y hy => rd_62 hy
 exact ⟨l, by rw [show Try.prog.cellsOf 62 = 7 by kernel_rfl], h1, h2⟩
noncomputable def B80 : Code := (Try.f80.body).getD .skip
noncomputable def G80 (n l) := cgo n l [.code B80]
theorem F80 : Fnc Try.prog 80 Try.f80 B80 := ⟨Try.func80, by kernel_rfl, by kernel_rfl⟩
noncomputable def B81 : Code := (Try.f81.body).getD .skip
noncomputable def G81 (n l) := cgo n l [.code B81]
theorem F81 : Fnc Try.prog 81 Try.f81 B81 := ⟨Try.func81, by kernel_rfl, by kernel_rfl⟩
def turnB (bs : List UInt8) (i : Nat) (m : UInt8) : List UInt8 := bs.set i (bs.getD i 0 ^^^ m)
def Dk.turnOk (d : Dk) (x : ByteArray) (at_ : Int) : Bool := (look d.nk d.nv x).isSome && decide (0 ≤ at_) && decide (at_ < ((d.file (d.num x)).1.length : Int))
def Dk.turnD (d : Dk) (x : ByteArray) (at_ : Int) (m : UInt8) : Dk := if d.turnOk x at_ then { d with files := d.files.set (d.num x) (turnB (d.file (d.num x)).1 at_.toNat m, (d.file (d.num x)).2) } else d
theorem xor_u8 (b m : UInt8) : IntKind.u8.wrap ((BitVec.ofInt IntKind.u8.bits (b.toNat : Int) ^^^ BitVec.ofInt IntKind.u8.bits (m.toNat : Int)).toNat : Int) = ((b ^^^ m).toNat : Int) := by
 have e : ∀ c : UInt8, BitVec.ofInt IntKind.u8.bits (c.toNat : Int) = c.toBitVec := by
  intro c
  apply BitVec.eq_of_toNat_eq
  have := c.toNat_lt
  simp only [BitVec.toNat_ofInt, IntKind.bits]
  show ((c.toNat : Int) % ((2 ^ 8 : Nat) : Int)).toNat = c.toNat
  omega
 rw [e, e]
 have h : ((b.toBitVec ^^^ m.toBitVec).toNat : Int) = ((b ^^^ m).toNat : Int) := rfl
 have h2 := (b ^^^ m).toNat_lt
 have h3 : (((b ^^^ m).toNat : Nat) : Int) < 256 := by omega
 exact wrap_u8s (n := ((b ^^^ m).toNat : Int)) (by omega) h3
theorem turn_set {bs : List UInt8} {i : Nat} {b : UInt8} (m : UInt8) (h : bs[i]? = some b) :
  (List.map u8 bs).set i (D.int IntKind.u8 (IntKind.u8.wrap ((BitVec.ofInt IntKind.u8.bits (b.toNat : Int) ^^^ BitVec.ofInt IntKind.u8.bits (m.toNat : Int)).toNat : Int))) = List.map u8 (turnB bs i m) := by
 rw [xor_u8]
 unfold turnB
 rw [List.getD_eq_getElem?_getD, h, List.map_set]; rfl
theorem turnB_len (bs : List UInt8) (i : Nat) (m : UInt8) : (turnB bs i m).length = bs.length := by simp [turnB]
theorem spec_81n (d : Rk) (N : Nat) (h : d.Ok N) (x : ByteArray) (a : Int) (m : UInt8) (h0 : atR d.now x < 0) :
   CallsA Try.prog 81 [.ptr 0 0 0, .d (.str x), .d (.int .i64 a), .d (u8 m)] (SR d false) fun r σ' => r = .ret (.d (.bool false)) ∧ σ' = SR d true := by
 refine CallsA.start F81 (tm := mk (Try.f81.ntmps) [(0, .ptr 0 0 0), (1, .d (.str x)), (2, .d (.int .i64 a)), (3, .d (u8 m))]) (by kernel_rfl) ?_
 have q1 := h.nl
 have q2 := h.nb
 refine .sge 11 [0, 1, 2, 3, 8, 11, 12, 13, 14, 15] (G81 11 []) ?_
 refine .cd (G81 12 []) F102 (@spec_102 (d.now) (x) (by omega)) ?_
 refine .sg0 8 [0, 2, 3, 8, 9, 17, 18, 19] (G81 20 []) [(9, .d (.int .i64 (atR d.now x))), (17, .d (.int .i64 (atR d.now x))), (18, .d (.bool (decide (atR d.now x < 0)))), (19, .d (.bool (decide (atR d.now x < 0))))] ?_
 rcases Bool.eq_false_or_eq_true (decide (atR d.now x < 0)) with h1 | h1
 · rw [h1]
   simp only [bsX] at h1
   refine .sge 22 [0, 2, 3, 8, 9] (cgo 42 [true] [.code B81]) ?_
   refine .raises [1, 2] ?_
   refine .rt F81 (V.d (D.bool false)) ?_
   exact ⟨rfl, by kernel_rfl⟩
 · rw [h1]
   simp only [bsX] at h1
   omega
theorem spec_81s (d : Rk) (N : Nat) (h : d.Ok N) (x : ByteArray) (a : Int) (m : UInt8) (h0 : 0 ≤ atR d.now x) (f : List UInt8 × Nat) (hf : d.files[(atR d.now x).toNat]? = some f) (ha0 : 0 ≤ a) (ha1 : a < f.1.length) :
    CallsA Try.prog 81 [.ptr 0 0 0, .d (.str x), .d (.int .i64 a), .d (u8 m)] (SR d false) fun r σ' => r = .ret (.d (.bool true)) ∧ σ' = SR { d with files := d.files.set (atR d.now x).toNat (turnB f.1 a.toNat m, f.2) } true := by
  refine CallsA.start F81 (tm := mk (Try.f81.ntmps) [(0, .ptr 0 0 0), (1, .d (.str x)), (2, .d (.int .i64 a)), (3, .d (u8 m))]) (by kernel_rfl) ?_
  have q1 := h.nl
  have q2 := h.nb
  have q3 := h.fl
  have hlt : (atR d.now x).toNat < d.files.length := (List.getElem?_eq_some_iff.1 hf).1
  have hfl := (h.fs f (List.mem_of_getElem? hf)).2
  obtain ⟨b, hb⟩ := get_some (l := f.1) (i := a.toNat) (by omega)
  refine .sg0 11 [0, 1, 2, 3, 8, 11, 12, 13, 14, 15] (G81 11 []) [(8, .d (.bool false)), (11, .ptr 0 0 0), (12, .ptr 0 0 0), (13, .ptr 0 0 1), (14, .d (.list 2 (map nmD d.now))), (15, .d (.str x))] ?_
  refine .cd (G81 12 []) F102 (@spec_102 (d.now) (x) (by omega)) ?_
  refine .sg0 8 [0, 2, 3, 8, 9, 17, 18, 19] (G81 20 []) [(9, .d (.int .i64 (atR d.now x))), (17, .d (.int .i64 (atR d.now x))), (18, .d (.bool (decide (atR d.now x < 0)))), (19, .d (.bool (decide (atR d.now x < 0))))] ?_
  rcases Bool.eq_false_or_eq_true (decide (atR d.now x < 0)) with h1 | h1
  · rw [h1]
    simp only [bsX] at h1
    omega
  · rw [h1]
    simp only [bsX] at h1
    refine .sg0 4 [0, 2, 3, 8, 9, 17, 18, 19, 20, 21, 22, 23] (G81 24 []) [(20, .d (.int .i64 a)), (21, .d (.bool (decide (a < 0)))), (22, .d (.bool (decide (a < 0)))), (23, .d (.bool (decide (a < 0))))] ?_
    rcases Bool.eq_false_or_eq_true (decide (a < 0)) with h2 | h2
    · rw [h2]
      simp only [bsX] at h2
      omega
    · rw [h2]
      simp only [bsX] at h2
      refine .sg0 6 [0, 2, 3, 8, 9, 17, 18, 19, 20, 21, 22, 23, 24, 25, 26, 27, 28, 29] (G81 30 []) [(24, .d (.int .i64 a)), (25, .ptr 0 0 0), (26, .ptr 0 0 0), (27, .ptr 0 0 0), (28, .row 1), (29, .d (.int .i64 (atR d.now x)))] ?_
      refine .op' (G81 31 []) (ixRow_ok (t := 68) (x := (.tmp 28)) (i := (.tmp 29)) (k := IntKind.i64) (n := atR d.now x) (l := 1) (sz := 2) (xs := map fileD d.files) (mv := false) (by kernel_rfl) (by kernel_rfl) (by kernel_rfl) (by kernel_rfl) (by kernel_rfl) (by assumption) (by simp <;> omega)) ?_
      refine .sg0 1 [0, 2, 3, 8, 9, 17, 18, 19, 20, 21, 22, 23, 24, 25, 26, 27, 28, 29, 30, 31] (G81 32 []) [(31, .ptr 1 (atR d.now x).toNat 0)] ?_
      refine .ld (G81 33 []) (xs := map fileD d.files) (map_get hf) ?_
      refine .sg0 4 [0, 2, 3, 8, 9, 35] (G81 37 []) [(35, .d (.bool (decide (a ≥ (↑(map u8 f.fst).length : Int)))))] ?_
      simp only [List.length_map]
      refine .if' (decide (a ≥ (↑f.fst.length : Int))) (G81 38 [true]) (G81 38 [false]) (fun h3 => ?_) (fun h3 => ?_)
      · simp only [bsX] at h3
        omega
      · simp only [bsX] at h3
        refine .sg0 3 [0, 2, 3, 8, 9] (G81 41 [false]) [] ?_
        refine .op' (G81 42 [false]) (build0_ok (t := 22) (e := 5) (sz := 1) (sz' := 1) (by kernel_rfl) (by kernel_rfl) (by kernel_rfl)) ?_
        refine .sg0 5 [0, 2, 3, 8, 9, 36, 37, 38, 39, 40, 41] (G81 47 [false]) [(37, .ptr 0 0 0), (38, .ptr 0 0 0), (39, .ptr 0 0 0), (40, .row 1), (41, .d (.int .i64 (atR d.now x)))] ?_
        refine .op' (G81 48 [false]) (ixRow_ok (t := 68) (x := (.tmp 40)) (i := (.tmp 41)) (k := IntKind.i64) (n := atR d.now x) (l := 1) (sz := 2) (xs := map fileD d.files) (mv := false) (by kernel_rfl) (by kernel_rfl) (by kernel_rfl) (by kernel_rfl) (by kernel_rfl) (by assumption) (by simp <;> omega)) ?_
        refine .sg0 1 [0, 2, 3, 8, 9, 36, 37, 38, 39, 40, 41, 42, 43] (G81 49 [false]) [(43, .ptr 1 (atR d.now x).toNat 0)] ?_
        refine .ld (G81 50 [false]) (xs := map fileD d.files) (map_get hf) ?_
        refine .virtE 36 1 (by kernel_rfl) ?_
        refine .op' (G81 51 [false]) (appRow_ok (s := (.tmp 36)) (x := (.tmp 44)) (t := 22) (t2 := 22) (sz := 1) (by' := 1) (ys := map u8 f.fst) (l := 3) (xs := []) (mv := false) (by kernel_rfl) (by kernel_rfl) (by kernel_rfl) (by kernel_rfl) (by kernel_rfl) (by kernel_rfl) (by simp <;> omega) (by first | (simp [maxLen] <;> omega) | omega)) ?_
        refine .sg0 6 [0, 2, 3, 8, 9, 10, 46, 47] (G81 57 [false]) [(10, .row 3), (46, .row 3), (47, .d (.int .i64 a))] ?_
        refine .op' (G81 58 [false]) (ixRow_ok (t := 22) (x := (.tmp 46)) (i := (.tmp 47)) (k := IntKind.i64) (n := a) (l := 3) (sz := 1) (xs := [] ++ map u8 f.fst) (mv := true) (by kernel_rfl) (by kernel_rfl) (by kernel_rfl) (by kernel_rfl) (by kernel_rfl) (by assumption) (by simp <;> omega)) ?_
        simp only [List.nil_append]
        refine .ld (G81 59 [false]) (xs := map u8 f.fst) (map_get hb) ?_
        refine .sg0 2 [0, 2, 3, 8, 9, 10, 46, 47, 48, 49, 50, 51] (G81 61 [false]) [(50, .d (.int .u8 (↑m.toNat : Int))), (51, .d (.int .u8 (IntKind.u8.wrap (↑(BitVec.ofInt IntKind.u8.bits (↑b.toNat : Int) ^^^ BitVec.ofInt IntKind.u8.bits (↑m.toNat : Int)).toNat : Int))))] ?_
        refine .op' (G81 62 [false]) (ixRow_ok (t := 22) (x := (.tmp 46)) (i := (.tmp 47)) (k := IntKind.i64) (n := a) (l := 3) (sz := 1) (xs := map u8 f.fst) (mv := true) (by kernel_rfl) (by kernel_rfl) (by kernel_rfl) (by kernel_rfl) (by kernel_rfl) (by assumption) (by simp <;> omega)) ?_
        refine .op' (G81 63 [false]) (stRow_ok (t := 5) (x := (.tmp 52)) (y := (.tmp 51)) (l := 3) (i := a.toNat) (s := 0) (sz := 1) (xs := map u8 f.fst) (mv := true) (d := u8 b) (d' := D.int IntKind.u8 (IntKind.u8.wrap (↑(BitVec.ofInt IntKind.u8.bits (↑b.toNat : Int) ^^^ BitVec.ofInt IntKind.u8.bits (↑m.toNat : Int)).toNat : Int))) (by kernel_rfl) (by kernel_rfl) (by kernel_rfl) (map_get hb) (by kernel_rfl)) ?_
        refine .sg0 1 [0, 8, 9, 10] (G81 64 [false]) [] ?_
        rw [turn_set m hb]
        refine .freeze 3 (sz := 1) (xs := (turnB f.1 a.toNat m).map u8) (mv := true) (by kernel_rfl) ?_
        refine .sg0 8 [0, 8, 9, 10, 53, 54, 55, 56, 57, 58] (G81 72 [false]) [(53, .ptr 0 0 0), (54, .ptr 0 0 0), (55, .ptr 0 0 0), (56, .row 1), (57, .d (.int .i64 (atR d.now x))), (58, .d (.list 1 (map u8 (turnB f.fst a.toNat m))))] ?_
        refine .op' (G81 73 [false]) (ixRow_ok (t := 68) (x := (.tmp 56)) (i := (.tmp 57)) (k := IntKind.i64) (n := atR d.now x) (l := 1) (sz := 2) (xs := map fileD d.files) (mv := false) (by kernel_rfl) (by kernel_rfl) (by kernel_rfl) (by kernel_rfl) (by kernel_rfl) (by assumption) (by simp <;> omega)) ?_
        refine .sg0 1 [0, 8, 9, 10, 53, 54, 55, 56, 57, 58, 59, 60] (G81 74 [false]) [(60, .ptr 1 (atR d.now x).toNat 0)] ?_
        refine .op' (G81 75 [false]) (stRow_ok (t := 22) (x := (.tmp 60)) (y := (.tmp 58)) (l := 1) (i := (atR d.now x).toNat) (s := 0) (sz := 2) (xs := map fileD d.files) (mv := false) (d := fileD f) (d' := D.agg [D.list 1 (map u8 (turnB f.fst a.toNat m)), D.int IntKind.i64 (↑f.snd : Int)]) (by kernel_rfl) (by kernel_rfl) (by kernel_rfl) (map_get hf) (by kernel_rfl)) ?_
        refine .sg0 5 [8] (G81 80 [false]) [(8, .d (.bool true))] ?_
        refine .raises [1, 2] ?_
        refine .kp [8] ?_
        refine .su [0, 1, 2] (mk 61 [(8, .d (.bool true))]) [.cells (rC 1 2 d), .row 2 ((map fileD d.files).set (atR d.now x).toNat (D.agg [D.list 1 (map u8 (turnB f.fst a.toNat m)), D.int IntKind.i64 (↑f.snd : Int)])) true, .row 3 (map chD d.ch) true] ?_
        refine .rt F81 (V.d (D.bool true)) ?_
        refine ⟨rfl, ?_⟩
        unfold SR
        rw [List.map_set]
        rfl
theorem spec_81f (d : Rk) (N : Nat) (h : d.Ok N) (x : ByteArray) (a : Int) (m : UInt8) (h0 : 0 ≤ atR d.now x) (f : List UInt8 × Nat) (hf : d.files[(atR d.now x).toNat]? = some f) (ha : ¬ (0 ≤ a ∧ a < f.1.length)) :
    CallsA Try.prog 81 [.ptr 0 0 0, .d (.str x), .d (.int .i64 a), .d (u8 m)] (SR d false) fun r σ' => r = .ret (.d (.bool false)) ∧ σ' = SR d true := by
  refine CallsA.start F81 (tm := mk (Try.f81.ntmps) [(0, .ptr 0 0 0), (1, .d (.str x)), (2, .d (.int .i64 a)), (3, .d (u8 m))]) (by kernel_rfl) ?_
  have q1 := h.nl
  have q2 := h.nb
  have q3 := h.fl
  have hlt : (atR d.now x).toNat < d.files.length := (List.getElem?_eq_some_iff.1 hf).1
  have hfl := (h.fs f (List.mem_of_getElem? hf)).2
  refine .sge 11 [0, 1, 2, 3, 8, 11, 12, 13, 14, 15] (G81 11 []) ?_
  refine .cd (G81 12 []) F102 (@spec_102 (d.now) (x) (by omega)) ?_
  refine .sg0 8 [0, 2, 3, 8, 9, 17, 18, 19] (G81 20 []) [(9, .d (.int .i64 (atR d.now x))), (17, .d (.int .i64 (atR d.now x))), (18, .d (.bool (decide (atR d.now x < 0)))), (19, .d (.bool (decide (atR d.now x < 0))))] ?_
  rcases Bool.eq_false_or_eq_true (decide (atR d.now x < 0)) with h1 | h1
  · rw [h1]
    simp only [bsX] at h1
    omega
  · rw [h1]
    simp only [bsX] at h1
    refine .sg0 4 [0, 2, 3, 8, 9, 17, 18, 19, 20, 21, 22, 23] (G81 24 []) [(20, .d (.int .i64 a)), (21, .d (.bool (decide (a < 0)))), (22, .d (.bool (decide (a < 0)))), (23, .d (.bool (decide (a < 0))))] ?_
    rcases Bool.eq_false_or_eq_true (decide (a < 0)) with h2 | h2
    · rw [h2]
      simp only [bsX] at h2
      refine .sge 18 [0, 2, 3, 8, 9] (cgo 42 [true] [.code B81]) ?_
      refine .raises [1, 2] ?_
      refine .rt F81 (V.d (D.bool false)) ?_
      exact ⟨rfl, by kernel_rfl⟩
    · rw [h2]
      simp only [bsX] at h2
      refine .sge 6 [0, 2, 3, 8, 9, 17, 18, 19, 20, 21, 22, 23, 24, 25, 26, 27, 28, 29] (G81 30 []) ?_
      refine .op' (G81 31 []) (ixRow_ok (t := 68) (x := (.tmp 28)) (i := (.tmp 29)) (k := IntKind.i64) (n := atR d.now x) (l := 1) (sz := 2) (xs := map fileD d.files) (mv := false) (by kernel_rfl) (by kernel_rfl) (by kernel_rfl) (by kernel_rfl) (by kernel_rfl) (by assumption) (by simp <;> omega)) ?_
      refine .sge 1 [0, 2, 3, 8, 9, 17, 18, 19, 20, 21, 22, 23, 24, 25, 26, 27, 28, 29, 30, 31] (G81 32 []) ?_
      refine .ld (G81 33 []) (xs := map fileD d.files) (map_get hf) ?_
      refine .sg0 4 [0, 2, 3, 8, 9, 35] (G81 37 []) [(35, .d (.bool (decide (a ≥ (↑(map u8 f.fst).length : Int)))))] ?_
      simp only [List.length_map]
      refine .if' (decide (a ≥ (↑f.fst.length : Int))) (G81 38 [true]) (G81 38 [false]) (fun h3 => ?_) (fun h3 => ?_)
      · simp only [bsX] at h3
        refine .sge 4 [0, 2, 3, 8, 9] (cgo 42 [true] [.code B81]) ?_
        refine .raises [1, 2] ?_
        refine .rt F81 (V.d (D.bool false)) ?_
        exact ⟨rfl, by kernel_rfl⟩
      · simp only [bsX] at h3
        omega
theorem spec_61r (b : UInt8) (bs : List UInt8) (hlen : bs.length ≤ 140737488355000) : CallsA Try.prog 61 [.d (bsD (b :: bs))] [] fun r σ' => r = .ret (.row 0) ∧ σ' = [.row 1 ((b :: bs).map u8) false] := by
 refine CallsA.start F61 (tm := (mk 8 [(0, .d (bsD (b :: bs)))])) (by kernel_rfl) ?_
 refine .sg0 8 [0, 3] (G61 8 []) [(3, .d (bsD (b :: bs)))] ?_
 refine .anyH (o := (opOf (G61 8 [])).getD default) (by kernel_rfl) (by kernel_rfl) (by kernel_rfl) (T' := (G61 9 [])) (by kernel_rfl) (nilEq_ok (x := .tmp 3) (y := .const (.slice none 0 0)) (t := 22) (ty := 22) (sz := 1) (xs := (b :: bs).map u8) (neg := false) (by kernel_rfl) (by kernel_rfl) (by kernel_rfl) (by kernel_rfl)) ?_
 rintro v ⟨z, rfl, hb⟩
 cases z with
 | true =>
   have h0 : b :: bs = [] := by simpa using hb rfl
   cases h0
 | false =>
   refine .sg0 5 [0] (G61 14 [false]) [] ?_
   refine .op' (G61 15 [false]) (build0_ok (t := 22) (e := 5) (sz := 1) (sz' := 1) (by kernel_rfl) (by kernel_rfl) (by kernel_rfl)) ?_
   refine .sg0 1 [5, 6] (G61 16 [false]) [(6, .d (bsD (b :: bs)))] ?_
   refine .op' (G61 17 [false]) (appEx_ok (s := .tmp 5) (x := .tmp 6) (t := 22) (t2 := 22) (sz := 1) (by' := 1) (xs := []) (ys := (b :: bs).map u8) (by kernel_rfl) (by kernel_rfl) (by kernel_rfl) (by kernel_rfl) (by kernel_rfl) (by simp) (by simp at hlen ⊢; omega) (by simp [maxLen] at hlen ⊢; omega)) ?_
   refine .seg 2 [2] (T' := cgo 19 [false] [.code B61]) (tm' := mk 8 [(2, .row 0)]) (σ' := [.row 1 ((b :: bs).map u8) false]) (by kernel_rfl) ?_
   exact .retH F61 (by kernel_rfl) (by kernel_rfl) (⟨rfl, rfl⟩)
theorem spec_61s (l : List UInt8) (h : l ≠ []) (hlen : l.length ≤ 140737488355000) : CallsA Try.prog 61 [.d (.list 1 (l.map u8))] [] fun r σ' => r = .ret (.row 0) ∧ σ' = [.row 1 (l.map u8) false] := by
 cases l with
 | nil => exact absurd rfl h
 | cons b bs => exact spec_61r b bs (by simp at hlen; omega)
theorem spec_80 (d : Dk) (N : Nat) (h : d.Ok N) (x : ByteArray) (a : Int) (m : UInt8) :
    CallsA Try.prog 80 [.ptr 0 0 0, .d (.str x), .d (.int .i64 a), .d (u8 m)] (SD d false) fun r σ' => r = .ret (.d (.bool (d.turnOk x a))) ∧ σ' = SD (d.turnD x a m) true := by
  refine CallsA.start F80 (tm := mk (Try.f80.ntmps) [(0, .ptr 0 0 0), (1, .d (.str x)), (2, .d (.int .i64 a)), (3, .d (u8 m))]) (by kernel_rfl) ?_
  have q1 := h.nr
  have q2 := h.nl
  have q3 := h.nkl
  have q4 := h.nb
  have q5 : ∀ k, look d.nk d.nv x = some k → 0 ≤ k ∧ k < d.files.length := fun k hk => h.nn k (look_mem hk)
  cases ho : look d.nk d.nv x with
  | none =>
    have e1 : d.turnOk x a = false := by simp [Dk.turnOk, ho]
    have e2 : d.turnD x a m = d := by simp [Dk.turnD, e1]
    rw [e1, e2]
    clear e1 e2
    refine .sg0 8 [0, 1, 2, 3, 8, 12, 13] (G80 8 []) [(8, .d (.bool false)), (12, .ptr 0 0 0), (13, .d (.str x))] ?_
    refine .ca [0, 1, 2, 3, 4, 5] (G80 9 []) F65 (@spec_65 (d) (x) (none) (by assumption) (by assumption) (by assumption) (by omega) (by assumption)) ?_
    rintro r0 s0 ⟨rfl, rfl⟩
    refine ⟨_, rfl, ?_⟩
    refine .seg 30 [2, 3, 8, 9] (T' := cgo 39 [true] [.code B80]) (tm' := mk 50 [(2, .d (.int .i64 a)), (3, .d (.int .u8 (↑m.toNat : Int))), (8, .d (.bool false)), (9, .d (.raw (Value.pointer none)))]) (σ' := (SP 1 2 d false [])) (by kernel_rfl) ?_
    refine .raise 1 rfl rfl ?_
    refine .raise 3 rfl rfl ?_
    refine .raise 4 rfl rfl ?_
    refine .raise 5 rfl rfl ?_
    refine .rt F80 (V.d (D.bool false)) ?_
    exact ⟨rfl, rfl⟩
  | some k =>
    obtain ⟨g1, g2⟩ := q5 k ho
    refine .sg0 8 [0, 1, 2, 3, 8, 12, 13] (G80 8 []) [(8, .d (.bool false)), (12, .ptr 0 0 0), (13, .d (.str x))] ?_
    refine .ca [0, 1, 2, 3, 4, 5] (G80 9 []) F65 (@spec_65 (d) (x) (some k) (by assumption) (by assumption) (by assumption) (by omega) (by assumption)) ?_
    rintro r0 s0 ⟨rfl, rfl⟩
    refine ⟨_, rfl, ?_⟩
    refine .sg0 16 [2, 3, 8, 9, 10, 17, 18, 19, 20, 21, 22, 23] (G80 25 []) [(9, .ptr 1 k.toNat 0), (10, .d (.bool true)), (17, .d (.bool true)), (18, .d (.bool false)), (19, .d (.bool false)), (20, .d (.int .i64 a)), (21, .d (.bool (decide (a < 0)))), (22, .d (.bool (decide (a < 0)))), (23, .d (.bool (decide (a < 0))))] ?_
    rcases Bool.eq_false_or_eq_true (decide (a < 0)) with h2 | h2
    · rw [h2]
      simp only [bsX] at h2
      refine .seg 14 [2, 3, 8, 9] (T' := cgo 39 [true] [.code B80]) (tm' := mk 50 [(2, .d (.int .i64 a)), (3, .d (.int .u8 (↑m.toNat : Int))), (8, .d (.bool false)), (9, .ptr 1 k.toNat 0)]) (σ' := (SP 1 2 d false [])) (by kernel_rfl) ?_
      refine .raise 1 rfl rfl ?_
      refine .raise 3 rfl rfl ?_
      refine .raise 4 rfl rfl ?_
      refine .raise 5 rfl rfl ?_
      refine .rt F80 (V.d (D.bool false)) ?_
      have e1 : d.turnOk x a = false := by
        simp only [Dk.turnOk, Bool.and_eq_false_iff, decide_eq_false_iff_not]
        exact .inl (.inr (by omega))
      rw [show d.turnD x a m = d by simp [Dk.turnD, e1], e1]
      exact ⟨rfl, rfl⟩
    · rw [h2]
      simp only [bsX] at h2
      refine .sg0 4 [2, 3, 8, 9, 10, 17, 18, 19, 20, 21, 22, 23, 24, 25, 26, 27] (G80 29 []) [(24, .d (.int .i64 a)), (25, .ptr 1 k.toNat 0), (26, .ptr 1 k.toNat 0), (27, .ptr 1 k.toNat 0)] ?_
      obtain ⟨y3, hy3⟩ := get_some (l := d.files) (i := k.toNat) (by omega)
      refine .ld (G80 30 []) (xs := map fileD d.files) (map_get hy3) ?_
      refine .sg0 4 [2, 3, 8, 9, 31] (G80 34 []) [(31, .d (.bool (decide (a ≥ (↑(map u8 y3.fst).length : Int)))))] ?_
      simp only [List.length_map]
      refine .if' (decide (a ≥ (↑y3.fst.length : Int))) (G80 35 [true]) (G80 35 [false]) (fun h4 => ?_) (fun h4 => ?_)
      · simp only [bsX] at h4
        refine .seg 4 [2, 3, 8, 9] (T' := cgo 39 [true] [.code B80]) (tm' := mk 50 [(2, .d (.int .i64 a)), (3, .d (.int .u8 (↑m.toNat : Int))), (8, .d (.bool false)), (9, .ptr 1 k.toNat 0)]) (σ' := (SP 1 2 d false [])) (by kernel_rfl) ?_
        refine .raise 1 rfl rfl ?_
        refine .raise 3 rfl rfl ?_
        refine .raise 4 rfl rfl ?_
        refine .raise 5 rfl rfl ?_
        refine .rt F80 (V.d (D.bool false)) ?_
        have en : d.num x = k.toNat := by unfold Dk.num; rw [ho]; rfl
        have ef : d.file (d.num x) = y3 := by rw [en]; unfold Dk.file; rw [List.getD_eq_getElem?_getD, hy3]; rfl
        have e1 : d.turnOk x a = false := by
          simp only [Dk.turnOk, Bool.and_eq_false_iff, decide_eq_false_iff_not]
          exact .inr (by rw [ef]; omega)
        rw [show d.turnD x a m = d by simp [Dk.turnD, e1], e1]
        exact ⟨rfl, rfl⟩
      · simp only [bsX] at h4
        refine .sg0 7 [2, 3, 8, 9, 32, 33, 34, 35] (G80 42 [false]) [(32, .ptr 1 k.toNat 0), (33, .ptr 1 k.toNat 0), (34, .ptr 1 k.toNat 0), (35, .ptr 1 k.toNat 0)] ?_
        refine .ld (G80 43 [false]) (xs := map fileD d.files) (map_get hy3) ?_
        have hne : y3.1 ≠ [] := by intro e; rw [e] at h4; simp at h4; omega
        have hfl := (h.fs y3 (List.mem_of_getElem? hy3)).2
        obtain ⟨b, hb⟩ := get_some (l := y3.1) (i := a.toNat) (by omega)
        refine .ca [] (G80 44 [false]) F61 (spec_61s y3.1 hne (by omega)) ?_
        rintro r1 s1 ⟨rfl, rfl⟩
        refine ⟨_, rfl, ?_⟩
        refine .raw (l := 6) 37 (by kernel_rfl) fun z => ?_
        have hx : ((d.files.map fileD).set k.toNat (D.agg [D.raw z, D.int IntKind.i64 (↑y3.2 : Int)]))[k.toNat]? = some (D.agg [D.raw z, D.int IntKind.i64 (↑y3.2 : Int)]) := List.getElem?_set_self (by simp; omega)
        refine .seg 2 [2, 3, 8, 9, 37, 39] (T' := cgo 46 [false] [.code B80]) (tm' := mk 50 [(2, .d (.int .i64 a)), (3, .d (u8 m)), (8, .d (.bool false)), (9, .ptr 1 k.toNat 0), (37, .d (.raw z)), (39, .ptr 1 k.toNat 0)]) (σ' := SD d false ++ [.row 1 (y3.1.map u8) false]) (by kernel_rfl) ?_
        refine .op' (G80 47 [false]) (stRow_ok (t := 22) (x := .tmp 39) (y := .tmp 37) (l := 1) (i := k.toNat) (s := 0) (sz := 2) (xs := d.files.map fileD) (mv := false) (d := fileD y3) (d' := D.agg [D.raw z, D.int IntKind.i64 (↑y3.2 : Int)]) (by kernel_rfl) (by kernel_rfl) (by kernel_rfl) (map_get hy3) (by kernel_rfl)) (by kernel_rfl) ?_
        refine .seg 6 [2, 3, 8, 9, 42] (T' := cgo 53 [false] [.code B80]) (tm' := mk 50 [(2, .d (.int .i64 a)), (3, .d (u8 m)), (8, .d (.bool false)), (9, .ptr 1 k.toNat 0), (42, .ptr 1 k.toNat 0)]) (σ' := (SD d false).set 1 (.row 2 ((d.files.map fileD).set k.toNat (D.agg [D.raw z, D.int IntKind.i64 (↑y3.2 : Int)])) false) ++ [.row 1 (y3.1.map u8) false]) (by kernel_rfl) ?_
        refine .op' (G80 54 [false]) (ldRow_ok (t := 22) (x := .tmp 42) (l := 1) (i := k.toNat) (s := 0) (sz := 2) (xs := ((d.files.map fileD).set k.toNat (D.agg [D.raw z, D.int IntKind.i64 (↑y3.2 : Int)]))) (mv := false) (d := D.agg [D.raw z, D.int IntKind.i64 (↑y3.2 : Int)]) (v := .d (.raw z)) (by kernel_rfl) (by kernel_rfl) (by kernel_rfl) hx (by kernel_rfl)) (by kernel_rfl) ?_
        refine .unraw 43 (by kernel_rfl) ?_
        refine .seg 1 [3, 8, 43, 44] (T' := cgo 55 [false] [.code B80]) (tm' := mk 50 [(3, .d (u8 m)), (8, .d (.bool false)), (43, .row 6), (44, .d (.int .i64 a))]) (σ' := (SD d false).set 1 (.row 2 ((d.files.map fileD).set k.toNat (D.agg [D.raw z, D.int IntKind.i64 (↑y3.2 : Int)])) false) ++ [.row 1 (y3.1.map u8) false]) (by kernel_rfl) ?_
        refine .op' (G80 56 [false]) (ixRow_ok (t := 22) (x := .tmp 43) (i := .tmp 44) (k := IntKind.i64) (n := a) (l := 6) (sz := 1) (xs := y3.1.map u8) (mv := false) (by kernel_rfl) (by kernel_rfl) (by kernel_rfl) (by kernel_rfl) (by kernel_rfl) (by omega) (by simp <;> omega)) (by kernel_rfl) ?_
        refine .op' (G80 57 [false]) (ldRow_ok (t := 5) (x := .tmp 45) (l := 6) (i := a.toNat) (s := 0) (sz := 1) (xs := y3.1.map u8) (mv := false) (d := u8 b) (v := .d (u8 b)) (by kernel_rfl) (by kernel_rfl) (by kernel_rfl) (map_get hb) (by kernel_rfl)) (by kernel_rfl) ?_
        refine .seg 2 [8, 43, 44, 48] (T' := cgo 59 [false] [.code B80]) (tm' := mk 50 [(8, .d (.bool false)), (43, .row 6), (44, .d (.int .i64 a)), (48, .d (.int .u8 (IntKind.u8.wrap (↑(BitVec.ofInt IntKind.u8.bits (↑b.toNat : Int) ^^^ BitVec.ofInt IntKind.u8.bits (↑m.toNat : Int)).toNat : Int))))]) (σ' := (SD d false).set 1 (.row 2 ((d.files.map fileD).set k.toNat (D.agg [D.raw z, D.int IntKind.i64 (↑y3.2 : Int)])) false) ++ [.row 1 (y3.1.map u8) false]) (by kernel_rfl) ?_
        refine .op' (G80 60 [false]) (ixRow_ok (t := 22) (x := .tmp 43) (i := .tmp 44) (k := IntKind.i64) (n := a) (l := 6) (sz := 1) (xs := y3.1.map u8) (mv := false) (by kernel_rfl) (by kernel_rfl) (by kernel_rfl) (by kernel_rfl) (by kernel_rfl) (by omega) (by simp <;> omega)) (by kernel_rfl) ?_
        refine .op' (G80 61 [false]) (stRow_ok (t := 5) (x := .tmp 49) (y := .tmp 48) (l := 6) (i := a.toNat) (s := 0) (sz := 1) (xs := y3.1.map u8) (mv := false) (d := u8 b) (d' := D.int IntKind.u8 (IntKind.u8.wrap (↑(BitVec.ofInt IntKind.u8.bits (↑b.toNat : Int) ^^^ BitVec.ofInt IntKind.u8.bits (↑m.toNat : Int)).toNat : Int))) (by kernel_rfl) (by kernel_rfl) (by kernel_rfl) (map_get hb) (by kernel_rfl)) (by kernel_rfl) ?_
        rw [turn_set m hb]
        refine .seg 0 [8] (T' := cgo 61 [false] [.code B80]) (tm' := mk 50 [(8, .d (.bool false))]) (σ' := (SD d false).set 1 (.row 2 ((d.files.map fileD).set k.toNat (D.agg [D.raw z, D.int IntKind.i64 (↑y3.2 : Int)])) false) ++ [.row 1 ((turnB y3.1 a.toNat m).map u8) false]) (by kernel_rfl) ?_
        refine .rest 1 k.toNat (l := 6) (sz := 1) (xs := (turnB y3.1 a.toNat m).map u8) (mv := false) (fsz := 2) (fs := ((d.files.map fileD).set k.toNat (D.agg [D.raw z, D.int IntKind.i64 (↑y3.2 : Int)]))) (cs := [D.int IntKind.i64 (↑y3.2 : Int)]) (fmv := false) (by kernel_rfl) (by kernel_rfl) hx ?_
        rw [List.set_set]
        refine .sg0 5 [8] (G80 66 [false]) [(8, .d (.bool true))] ?_
        refine .raises [1, 3, 4, 5] ?_
        refine .kp [8] ?_
        refine .su [0, 1, 2, 3, 4, 5] (mk 50 [(8, .d (.bool true))]) [.cells (hC 1 2 5 d), .row 2 ((map fileD d.files).set k.toNat (D.agg [D.list 1 (map u8 (turnB y3.fst a.toNat m)), D.int IntKind.i64 (↑y3.snd : Int)])) true, .cells [.row 3, .row 4], .row 1 (map strD d.nk) true, .row 1 (map intD d.nv) true, .row 3 (map chD d.ch) true] ?_
        refine .rt F80 (V.d (D.bool true)) ?_
        have en : d.num x = k.toNat := by unfold Dk.num; rw [ho]; rfl
        have ef : d.file (d.num x) = y3 := by rw [en]; unfold Dk.file; rw [List.getD_eq_getElem?_getD, hy3]; rfl
        have e1 : d.turnOk x a = true := by
          simp only [Dk.turnOk, Bool.and_eq_true, decide_eq_true_eq, ho]
          exact ⟨⟨rfl, by omega⟩, by rw [ef]; omega⟩
        have e2 : d.turnD x a m = { d with files := d.files.set k.toNat (turnB y3.1 a.toNat m, y3.2) } := by unfold Dk.turnD; rw [e1, if_pos rfl, ef, en]
        rw [e1, e2]
        refine ⟨rfl, ?_⟩
        unfold SD
        rw [List.map_set]
        rfl
theorem spec_81r (d : Dk) (t : Int) (N : Nat) (h : d.Ok N) (ht : Rb t) (x : ByteArray) (a : Int) (m : UInt8) :
   CallsA Try.prog 81 [.ptr 0 0 0, .d (.str x), .d (.int .i64 a), .d (u8 m)] (SR (Rof d t) false) fun r σ' => r = .ret (.d (.bool (d.turnOk x a))) ∧ σ' = SR (Rof (d.turnD x a m) t) true := by
 have hR := Rof_ok h ht
 cases hl : look d.nk d.nv x with
 | none =>
   have e1 : d.turnOk x a = false := by simp [Dk.turnOk, hl]
   have e2 : d.turnD x a m = d := by simp [Dk.turnD, e1]
   rw [e1, e2]
   exact spec_81n (Rof d t) N hR x a m (by rw [at_none h hl]; omega)
 | some v =>
   obtain ⟨a1, a2, a3, a4⟩ := at_some (t := t) h hl
   have a5 : d.file (d.num x) = d.file v.toNat := by rw [a3]
   by_cases ha : 0 ≤ a ∧ a < ((d.file v.toNat).1.length : Int)
   · have e1 : d.turnOk x a = true := by
        simp only [Dk.turnOk, Bool.and_eq_true, decide_eq_true_eq, hl, a5]
        exact ⟨⟨rfl, ha.1⟩, ha.2⟩
     have e2 : d.turnD x a m = { d with files := d.files.set v.toNat (turnB (d.file v.toNat).1 a.toNat m, (d.file v.toNat).2) } := by unfold Dk.turnD; rw [e1, if_pos rfl, a5, a3]
     rw [e1, e2]
     have hc := spec_81s (Rof d t) N hR x a m (by rw [a1]; exact a2) (d.file v.toNat) (by rw [a1]; exact a4) ha.1 ha.2
     rw [a1] at hc
     exact hc
   · have e1 : d.turnOk x a = false := by
        cases hb : d.turnOk x a with
        | false => rfl
        | true =>
          simp only [Dk.turnOk, Bool.and_eq_true, decide_eq_true_eq, a5] at hb
          exact absurd ⟨hb.1.2, hb.2⟩ ha
     have e2 : d.turnD x a m = d := by simp [Dk.turnD, e1]
     rw [e1, e2]
     exact spec_81f (Rof d t) N hR x a m (by rw [a1]; exact a2) (d.file v.toNat) (by rw [a1]; exact a4) ha
def turnM (n : Int) : UInt8 := UInt8.ofNat (n.fdiv 256 % 256).toNat
theorem turnM_eq (n : Int) : D.int IntKind.u8 (IntKind.u8.wrap (n.fdiv (2 ^ min (Int.toNat 8) IntKind.i64.bits))) = u8 (turnM n) := by
 have e : ((2 : Int) ^ min (Int.toNat 8) IntKind.i64.bits) = 256 := rfl
 rw [e]
 unfold u8 turnM
 congr 1
 have h : ((UInt8.ofNat (n.fdiv 256 % 256).toNat).toNat : Int) = ((n.fdiv 256 % 256).toNat % 256 : Nat) := by simp
 rw [h]
 simp only [IntKind.wrap, IntKind.bits, IntKind.signed, Bool.false_and]
 simp
 omega
theorem spec_80a (d : Dk) (N : Nat) (h : d.Ok N) (x : ByteArray) (a : Int) :
  CallsA Try.prog 80 [.ptr 0 0 0, .d (.str x), .d (.int .i64 a), .d (.int IntKind.u8 (IntKind.u8.wrap (a.fdiv (2 ^ min (Int.toNat 8) IntKind.i64.bits))))] (SD d false) fun r σ' => r = .ret (.d (.bool (d.turnOk x a))) ∧ σ' = SD (d.turnD x a (turnM a)) true := by
 rw [turnM_eq]
 exact spec_80 d N h x a (turnM a)
theorem spec_81a (d : Dk) (t : Int) (N : Nat) (h : d.Ok N) (ht : Rb t) (x : ByteArray) (a : Int) :
  CallsA Try.prog 81 [.ptr 0 0 0, .d (.str x), .d (.int .i64 a), .d (.int IntKind.u8 (IntKind.u8.wrap (a.fdiv (2 ^ min (Int.toNat 8) IntKind.i64.bits))))] (SR (Rof d t) false) fun r σ' => r = .ret (.d (.bool (d.turnOk x a))) ∧ σ' = SR (Rof (d.turnD x a (turnM a)) t) true := by
 rw [turnM_eq]
 exact spec_81r d t N h ht x a (turnM a)
theorem do9 (d : Dk) (t : Int) (N : Nat) (h : d.Ok N) (ht : Rb t) (o : DOp) (hf : o.fits) (hk : o.kind % 10 = 9) :
   CallsA Try.prog 42 [.ptr 0 0 0, .ptr 6 0 0, .d (dopD o)] (SX d t false) fun r σ' => r = .ret (.d (.bool true)) ∧ σ' = SX (d.turnD o.a o.n (turnM o.n)) t true := by
 refine CallsA.start F42 (tm := mk (Try.f42.ntmps) [(0, .ptr 0 0 0), (1, .ptr 6 0 0), (2, .d (dopD o))]) (by kernel_rfl) ?_
 have hkk := hf.k
 have hn0 := hf.n0
 have hn1 := hf.n1
 have hk2 : ((o.kind : Int) % 10) = 9 := by omega
 clear hf
 refine .sg 13 [0, 1, 5, 6, 7, 8, 9, 10, 11] (G42 13 []) [(5, .ptr 9 0 0), (6, .d (.bool false)), (7, .d (.int .i64 (IntKind.i64.wrap ((↑o.kind : Int).tmod 10)))), (8, .ptr 9 0 0), (9, .d (.int .u64 (↑o.kind : Int))), (10, .d (.int .u64 ((↑o.kind : Int).tmod 10))), (11, .d (.int .i64 (IntKind.i64.wrap ((↑o.kind : Int).tmod 10))))] [(9, .cells [.d (.int .u64 (↑o.kind : Int)), .d (.str o.a), .d (.str o.b), .d (.list 1 (map u8 o.data)), .d (.int .i64 o.n), .d (.int .i64 o.dir), .d (.list 1 (map intD o.keep))])] ?_
 simp (disch := omega) only [bsW]
 rw [hk2]
 clear hk2 hk
 refine .sg0 61 [0, 1, 5, 6] (G42 74 [false, false, false, false, false, false, false, false, false]) [] ?_
 refine .dr (G42 75 [false, false, false, false, false, false, false, false, false]) [(6, .d (.bool (d.turnOk o.a o.n == d.turnOk o.a o.n))), (13, .ptr 0 0 0), (14, .ptr 9 0 1), (15, .d (.str o.a)), (16, .ptr 9 0 4), (17, .d (.int .i64 o.n)), (18, .ptr 9 0 4), (19, .d (.int .i64 o.n)), (20, .d (.int .i64 (o.n.fdiv (2 ^ min (Int.toNat 8) IntKind.i64.bits)))), (21, .d (.int .u8 (IntKind.u8.wrap (o.n.fdiv (2 ^ min (Int.toNat 8) IntKind.i64.bits))))), (22, .d (.bool (d.turnOk o.a o.n))), (23, .ptr 6 0 0), (24, .ptr 9 0 1), (25, .d (.str o.a)), (26, .ptr 9 0 4), (27, .d (.int .i64 o.n)), (28, .ptr 9 0 4), (29, .d (.int .i64 o.n)), (30, .d (.int .i64 (o.n.fdiv (2 ^ min (Int.toNat 8) IntKind.i64.bits)))), (31, .d (.int .u8 (IntKind.u8.wrap (o.n.fdiv (2 ^ min (Int.toNat 8) IntKind.i64.bits))))), (32, .d (.bool (d.turnOk o.a o.n))), (33, .d (.bool (d.turnOk o.a o.n == d.turnOk o.a o.n)))] [(0, .cells (hC 1 2 5 (d.turnD o.a o.n (turnM o.n)))), (1, .row 2 (map fileD (d.turnD o.a o.n (turnM o.n)).files) true), (3, .row 1 (map strD (d.turnD o.a o.n (turnM o.n)).nk) true), (4, .row 1 (map intD (d.turnD o.a o.n (turnM o.n)).nv) true), (5, .row 3 (map chD (d.turnD o.a o.n (turnM o.n)).ch) true), (6, .cells (rC 7 8 (Rof (d.turnD o.a o.n (turnM o.n)) t))), (7, .row 2 (map fileD (Rof (d.turnD o.a o.n (turnM o.n)) t).files) true), (8, .row 3 (map chD (Rof (d.turnD o.a o.n (turnM o.n)) t).ch) true)] (fun kz L hL => ?_) ?_
 · refine ⟨[fO 0, fA 9, fR 9, fA 9, fR 9, fA 9, fR 9, nF, nF, fX [0, 1, 2, 3, 4, 5] [0, 1, 2, 3, 4, 5] [1, 3, 4, 5] [1, 2, 5, 3, 4] [0, 1, 2, 5, 3, 4], fO 6, fA 9, fR 9, fA 9, fR 9, fA 9, fR 9, nF, nF, fX [6, 7, 8] [6, 7, 8] [7, 8] [7, 8] [6, 7, 8], nF, nF], run_amongF hL _ [] [0, 1, 2, 3, 4, 5, 6, 7, 8, 10, 11, 12, 13, 14, 15, 16, 17, 18, 9, 19, 20, 21] (by intro p hp; cases hp) (by kernel_rfl) ?_⟩
   refine Run.ap [0, 1, 2, 3, 4, 5, 6, 7, 8, 10, 11, 12, 13, 14, 15, 16, 17, 18] [(13, .ptr 0 0 0), (14, .ptr 9 0 1), (15, .d (.str o.a)), (16, .ptr 9 0 4), (17, .d (.int .i64 o.n)), (18, .ptr 9 0 4), (19, .d (.int .i64 o.n)), (20, .d (.int .i64 (o.n.fdiv (2 ^ min (Int.toNat 8) IntKind.i64.bits)))), (21, .d (.int .u8 (IntKind.u8.wrap (o.n.fdiv (2 ^ min (Int.toNat 8) IntKind.i64.bits))))), (23, .ptr 6 0 0), (24, .ptr 9 0 1), (25, .d (.str o.a)), (26, .ptr 9 0 4), (27, .d (.int .i64 o.n)), (28, .ptr 9 0 4), (29, .d (.int .i64 o.n)), (30, .d (.int .i64 (o.n.fdiv (2 ^ min (Int.toNat 8) IntKind.i64.bits)))), (31, .d (.int .u8 (IntKind.u8.wrap (o.n.fdiv (2 ^ min (Int.toNat 8) IntKind.i64.bits)))))] [] ?_
   refine Run.cl 9 [0, 1, 2, 3, 4, 5] F80 (@spec_80a (d) (N) (by assumption) (o.a) (o.n)) ?_
   refine Run.cl 19 [6, 7, 8] F81 (@spec_81a (d) (t) (N) (by assumption) (by assumption) (o.a) (o.n)) ?_
   exact Run.fin
 refine .kp [6] ?_
 refine .su [0, 1, 2, 3, 4, 5, 6, 7, 8] (mk 147 [(6, .d (.bool (d.turnOk o.a o.n == d.turnOk o.a o.n)))]) (SP 1 2 (d.turnD o.a o.n (turnM o.n)) true [.cells (rC 7 8 (Rof (d.turnD o.a o.n (turnM o.n)) t)), .row 2 (map fileD (Rof (d.turnD o.a o.n (turnM o.n)) t).files) true, .row 3 (map chD (Rof (d.turnD o.a o.n (turnM o.n)) t).ch) true]) ?_
 refine .rt F42 (V.d (D.bool (d.turnOk o.a o.n == d.turnOk o.a o.n))) ?_
 exact ⟨by simp, rfl⟩
def applyAll (l : List (ByteArray × Int)) (cs : List (ByteArray × ByteArray × Int)) : List (ByteArray × Int) := cs.foldl applyR l
theorem applyAll_zip : ∀ (cs : List (ByteArray × ByteArray × Int)) {ks : List ByteArray} {vs : List Int}, Rising ks → vs.length = ks.length → (∀ k ∈ ks, k.size ≠ 0) →
   applyAll (ks.zip vs) cs = (kfold cs (ks, vs)).1.zip (kfold cs (ks, vs)).2
 | [], ks, vs, _, _, _ => rfl
 | c :: cs, ks, vs, hr, hv, hn => by
   obtain ⟨g, n, k⟩ := c
   have h1 := applyR_zip hr hv hn g n k
   have h2 : applyAll (ks.zip vs) ((g, n, k) :: cs) = applyAll (applyR (ks.zip vs) (g, n, k)) cs := rfl
   rw [h2, h1]
   refine applyAll_zip cs (kapply_rising hr) (kapply_len hv) fun z hz => ?_
   rcases kapply_keys hr hv hz with h3 | ⟨h3, rfl⟩
   · exact hn z h3
   · exact h3
def reNum (has : Nat → Bool) (i : Nat) (p : ByteArray × Int) : ByteArray × Int := if p.2 < i then (p.1, (rank has p.2.toNat : Int)) else p
theorem reNum_zero (has : Nat → Bool) {l : List (ByteArray × Int)} (h : ∀ p ∈ l, 0 ≤ p.2) : l.map (reNum has 0) = l := by
 rw [List.map_congr_left (g := id) fun p hp => ?_, List.map_id]
 unfold reNum
 rw [if_neg (by have := h p hp; simp; omega)]
 rfl
def hasR (l : List (ByteArray × Int)) (i : Nat) : Bool := l.any fun p => p.2 == (i : Int)
def Rk.lossN (d : Rk) (dir : Int) : List (ByteArray × Int) := applyAll d.sure (d.ch.take (min dir d.ch.length).toNat)
def Rk.crash (d : Rk) (dir : Int) (keep : List Int) : Rk :=
  { files := kept (hasR (d.lossN dir)) keep 0 d.files, now := (d.lossN dir).map (reNum (hasR (d.lossN dir)) d.files.length), sure := (d.lossN dir).map (reNum (hasR (d.lossN dir)) d.files.length), ch := [], quota := d.quota, full := false, off := false, stop := -1, calls := d.calls }
theorem any_zip {l : List ByteArray} : ∀ {v : List Int}, v.length = l.length → ∀ i : Nat, hasR (l.zip v) i = decide ((i : Int) ∈ v) := by
  induction l with
  | nil => intro v hv i; cases v <;> simp_all [hasR]
  | cons x l ih =>
    intro v hv i
    cases v with
    | nil => simp at hv
    | cons y v =>
      have := ih (v := v) (by simpa using hv) i
      unfold hasR at this ⊢
      rw [List.zip_cons_cons, List.any_cons, this]
      by_cases h : y = (i : Int)
      · subst h; simp
      · have h' : (i : Int) ≠ y := fun e => h e.symm
        simp [h, h']
theorem map_zip2 {α : Type} {f : α × Int → α × Int} {g : Int → Int} : ∀ {l : List α} {v : List Int}, (∀ k x, k ∈ v → f (x, k) = (x, g k)) → (l.zip v).map f = l.zip (v.map g)
 | [], v, _ => by simp
 | x :: l, [], _ => by simp
 | x :: l, y :: v, h => by
   simp only [List.zip_cons_cons, List.map_cons]
   rw [h y x (by simp), map_zip2 fun k z hk => h k z (by simp [hk])]
theorem Rof_lossN {d : Dk} {t : Int} {N : Nat} (h : d.Ok N) (hn : d.Nm) (dir : Int) : (Rof d t).lossN dir = (d.names dir).1.zip (d.names dir).2 := by
 unfold Rk.lossN Dk.names
 exact applyAll_zip _ h.sr h.sl hn.sk
theorem Rof_crash {d : Dk} {t : Int} {N : Nat} (h : d.Ok N) (hn : d.Nm) (dir : Int) (keep : List Int) : (Rof d t).crash dir keep = Rof (d.crash dir keep) (-1) := by
 obtain ⟨h1, h2, h3, h4⟩ := Dk.names_ok h dir
 have e1 := Rof_lossN (t := t) h hn dir
 have e2 : hasR ((Rof d t).lossN dir) = d.has dir := by
  funext i
  rw [e1, any_zip h2]
  rfl
 have e3 : ((Rof d t).lossN dir).map (reNum (hasR ((Rof d t).lossN dir)) (Rof d t).files.length) = (d.names dir).1.zip ((d.names dir).2.map fun k => (rank (d.has dir) k.toNat : Int)) := by
  rw [e2, e1]
  refine map_zip2 fun k x hk => ?_
  unfold reNum
  rw [if_pos (show (x, k).snd < ((Rof d t).files.length : Int) from (h3 k hk).2)]
 unfold Rk.crash
 rw [e3, e2]
 rfl
theorem kfold_keys : ∀ (cs : List (ByteArray × ByteArray × Int)) {ks : List ByteArray} {vs : List Int}, Rising ks → vs.length = ks.length → (∀ k ∈ ks, k.size ≠ 0) → ∀ z ∈ (kfold cs (ks, vs)).1, z.size ≠ 0
 | [], ks, vs, _, _, hn => hn
 | (g, n, k) :: cs, ks, vs, hr, hv, hn => by
   refine kfold_keys cs (kapply_rising hr) (kapply_len hv) fun z hz => ?_
   rcases kapply_keys hr hv hz with h3 | ⟨h3, rfl⟩
   · exact hn z h3
   · exact h3
theorem crash_nm {d : Dk} {N : Nat} (h : d.Ok N) (hn : d.Nm) (dir : Int) (keep : List Int) : (d.crash dir keep).Nm :=
 ⟨kfold_keys _ h.sr h.sl hn.sk, kfold_keys _ h.sr h.sl hn.sk⟩
def mid (has : Nat → Bool) (i : Nat) (l : List (ByteArray × Int)) (k : Nat) : List (ByteArray × Int) := (l.take k).map (reNum has (i + 1)) ++ (l.drop k).map (reNum has i)
theorem mid_zero (has : Nat → Bool) (i : Nat) (l : List (ByteArray × Int)) : mid has i l 0 = l.map (reNum has i) := by simp [mid]
theorem mid_all (has : Nat → Bool) (i : Nat) (l : List (ByteArray × Int)) : mid has i l l.length = l.map (reNum has (i + 1)) := by simp [mid]
theorem mid_len (has : Nat → Bool) (i : Nat) (l : List (ByteArray × Int)) (k : Nat) : (mid has i l k).length = l.length := by simp [mid]; omega
theorem dropGet {α : Type} {l : List α} {k : Nat} {p : α} (h : l[k]? = some p) : l.drop k = p :: l.drop (k + 1) := by
 obtain ⟨hk, rfl⟩ := List.getElem?_eq_some_iff.1 h
 exact List.drop_eq_getElem_cons hk
theorem take_get {α : Type} {l : List α} {k : Nat} {p : α} (h : l[k]? = some p) : l.take (k + 1) = l.take k ++ [p] := by
 rw [List.take_add_one, h]; rfl
theorem mid_miss {has : Nat → Bool} {i : Nat} {l : List (ByteArray × Int)} {k : Nat} {p : ByteArray × Int} (h : l[k]? = some p) (hp : p.2 ≠ (i : Int)) : mid has i l (k + 1) = mid has i l k := by
 unfold mid
 rw [take_get h, dropGet h]
 have : reNum has (i + 1) p = reNum has i p := by
  unfold reNum
  by_cases hlt : p.2 < (i : Int)
  · rw [if_pos hlt, if_pos (by omega)]
  · rw [if_neg hlt, if_neg (by omega)]
 simp [this]
theorem mid_hit {has : Nat → Bool} {i : Nat} {l : List (ByteArray × Int)} {k : Nat} {x : ByteArray} (h : l[k]? = some (x, (i : Int))) : (mid has i l k).set k (x, (rank has i : Int)) = mid has i l (k + 1) ∧ (mid has i l k)[k]? = some (x, (i : Int)) := by
 have hk : k < l.length := (List.getElem?_eq_some_iff.1 h).1
 have hl : ((l.take k).map (reNum has (i + 1))).length = k := by simp; omega
 have e1 : reNum has i (x, (i : Int)) = (x, (i : Int)) := by unfold reNum; rw [if_neg (by simp)]
 have e2 : reNum has (i + 1) (x, (i : Int)) = (x, (rank has i : Int)) := by unfold reNum; rw [if_pos (by simp; omega)]; simp
 constructor
 · unfold mid
   rw [take_get h, dropGet h, List.map_cons, e1]
   rw [List.set_append_right _ _ (by omega), hl]
   simp [e2]
 · unfold mid
   rw [dropGet h, List.map_cons, e1, List.getElem?_append_right (by omega), hl]
   simp
def seenR (l : List (ByteArray × Int)) (i : Nat) (k : Nat) : Bool := hasR (l.take k) i
theorem seenR_zero (l : List (ByteArray × Int)) (i : Nat) : seenR l i 0 = false := by simp [seenR, hasR]
theorem seenR_all (l : List (ByteArray × Int)) (i : Nat) : seenR l i l.length = hasR l i := by simp [seenR]
theorem seenR_hit {l : List (ByteArray × Int)} {i k : Nat} {x : ByteArray} (h : l[k]? = some (x, (i : Int))) : seenR l i (k + 1) = true := by
 unfold seenR; rw [take_get h]; simp [hasR]
theorem seenR_miss {l : List (ByteArray × Int)} {i k : Nat} {p : ByteArray × Int} (h : l[k]? = some p) (hp : p.2 ≠ (i : Int)) : seenR l i (k + 1) = seenR l i k := by
 unfold seenR; rw [take_get h]; simp [hasR, hp]
theorem kept_take {has : Nat → Bool} {keep : List Int} {fs : List (List UInt8 × Nat)} {i : Nat} {f : List UInt8 × Nat} (h : fs[i]? = some f) :
  kept has keep 0 (fs.take (i + 1)) = kept has keep 0 (fs.take i) ++ if has i then [(f.1.take (leftOf f i keep), leftOf f i keep)] else [] := by
 have hi : i < fs.length := (List.getElem?_eq_some_iff.1 h).1
 rw [take_get h, kept_snoc]
 simp only [List.length_take, Nat.zero_add, Nat.min_eq_left (Nat.le_of_lt hi)]
theorem kept_rank {has : Nat → Bool} {keep : List Int} {fs : List (List UInt8 × Nat)} {i : Nat} (hi : i ≤ fs.length) : (kept has keep 0 (fs.take i)).length = rank has i := by
 rw [kept_len0]; simp [Nat.min_eq_left hi]
noncomputable def B79 : Code := (Try.f79.body).getD .skip
noncomputable def G79 (n l) := cgo n l [.code B79]
theorem F79 : Fnc Try.prog 79 Try.f79 B79 := ⟨Try.func79, by kernel_rfl, by kernel_rfl⟩
def S79 (d : Rk) (dir : Int) (keep : List Int) : Store := SR d false ++ [.cells [.d (.int .i64 dir), .d (.list 1 (keep.map intD))]]
def S79b (d : Rk) (dir : Int) (keep : List Int) (l : List (ByteArray × Int)) (fs : List (List UInt8 × Nat)) : Store := S79 d dir keep ++ [.row 2 (l.map nmD) true, .row 2 (fs.map fileD) true]
def Rk.so (d : Rk) (dir : Int) (i : Nat) : List (ByteArray × Int) := applyAll d.sure (d.ch.take (min dir i).toNat)
theorem Rk.so_zero (d : Rk) (dir : Int) : d.so dir 0 = d.sure := by
 unfold Rk.so
 rw [show (min dir ((0 : Nat) : Int)).toNat = 0 by omega]; rfl
theorem Rk.so_in {d : Rk} {dir : Int} {i : Nat} {c : ByteArray × ByteArray × Int} (hc : d.ch[i]? = some c) (h : (i : Int) < dir) : applyR (d.so dir i) c = d.so dir (i + 1) := by
 unfold Rk.so applyAll
 rw [show (min dir ((i : Nat) : Int)).toNat = i by omega, show (min dir ((i + 1 : Nat) : Int)).toNat = i + 1 by omega, take_get hc, List.foldl_append]; rfl
theorem Rk.so_out {d : Rk} {dir : Int} {i : Nat} (h : ¬ (i : Int) < dir) : d.so dir (i + 1) = d.so dir i := by
 unfold Rk.so
 rw [show (min dir ((i : Nat) : Int)).toNat = (min dir ((i + 1 : Nat) : Int)).toNat by omega]
theorem lo79a (d : Rk) (N : Nat) (h : d.Ok N) (dir : Int) (keep : List Int) (hb : ∀ i, (d.so dir i).length < 1000000) (Q : AE → Store → Prop)
    (hnext : AW Try.prog 79 none 3 (G79 58 [false]) (mk 133 [(0, .ptr 0 0 0), (3, .ptr 3 0 0), (4, .d (.list 2 ((d.lossN dir).map nmD))), (7, .row 5), (8, .row 4), (44, .row 1), (45, .d (.int .i64 (d.files.length : Nat))), (46, .d (.int .i64 0))]) (S79b d dir keep (d.lossN dir) []) [] Q) : ∀ (m i : Nat), i + m = d.ch.length →
    AW Try.prog 79 none 3 (G79 24 []) (mk 133 [(0, .ptr 0 0 0), (3, .ptr 3 0 0), (4, .d (.list 2 ((d.so dir i).map nmD))), (23, .row 2), (24, .d (.int .i64 (d.ch.length : Nat))), (25, .d (.int .i64 (i : Nat)))]) (S79 d dir keep) [] Q := by
  have q1 := h.chl
  have q2 := h.nb
  intro m
  induction m with
  | zero =>
    intro i hi
    have hi : i = d.ch.length := by omega
    subst hi
    have e : d.so dir d.ch.length = d.lossN dir := rfl
    have hl := hb d.ch.length
    rw [e] at hl ⊢
    clear hb
    refine .sge 5 [0, 3, 4, 23, 24, 25, 26] (G79 29 []) ?_
    refine .if' (decide ((↑d.ch.length : Int) < (↑d.ch.length : Int))) (G79 30 [true]) (G79 30 [false]) (fun h1 => ?_) (fun h1 => ?_)
    · simp only [bsX] at h1
      omega
    · simp only [bsX] at h1
      refine .sge 13 [0, 3, 4, 7, 8, 38, 39] (cgo 43 [false] [.code B79]) ?_
      refine .virtT 38 2 (by kernel_rfl) ?_
      refine .op' (G79 44 [false]) (appRow_ok (s := (.tmp 38)) (x := (.tmp 39)) (t := 69) (t2 := 69) (sz := 2) (by' := 24) (ys := map nmD (d.lossN dir)) (l := 4) (xs := []) (mv := false) (by kernel_rfl) (by kernel_rfl) (by kernel_rfl) (by kernel_rfl) (by kernel_rfl) (by kernel_rfl) (by simp <;> omega) (by first | (simp [maxLen] <;> omega) | omega)) ?_
      refine .seg 13 [0, 3, 4, 7, 8, 44, 45, 46] (T' := cgo 57 [false] [.code B79]) (tm' := mk 133 [(0, .ptr 0 0 0), (3, .ptr 3 0 0), (4, .d (.list 2 (map nmD (d.lossN dir)))), (7, .nils), (8, .row 4), (44, .row 1), (45, .d (.int .i64 (↑(map fileD d.files).length : Int))), (46, .d (.int .i64 0))]) (σ' := (SQ d false [.cells [.d (.int .i64 dir), .d (.list 1 (map intD keep))], .row 2 ([] ++ map nmD (d.lossN dir)) true])) (by kernel_rfl) ?_
      simp only [List.length_map]
      refine .virtT 7 2 (by kernel_rfl) ?_
      refine .raises [5] ?_
      exact .seg 1 [0, 3, 4, 7, 8, 44, 45, 46] (by kernel_rfl) hnext
  | succ m ih =>
    intro i hi
    obtain ⟨c, hc⟩ := get_some (l := d.ch) (i := i) (by omega)
    have hb := hb i
    clear hnext
    refine .sge 5 [0, 3, 4, 23, 24, 25, 26] (G79 29 []) ?_
    refine .if' (decide ((↑i : Int) < (↑d.ch.length : Int))) (G79 30 [true]) (G79 30 [false]) (fun h1 => ?_) (fun h1 => ?_)
    · simp only [bsX] at h1
      refine .sge 6 [0, 3, 4, 23, 24, 25, 26, 27] (G79 36 [true]) ?_
      refine .op' (G79 37 [true]) (ixRow_ok (t := 70) (x := (.tmp 23)) (i := (.tmp 25)) (k := IntKind.i64) (n := (↑i : Int)) (l := 2) (sz := 3) (xs := map chD d.ch) (mv := false) (by kernel_rfl) (by kernel_rfl) (by kernel_rfl) (by kernel_rfl) (by kernel_rfl) (by omega) (by simp <;> omega)) ?_
      refine .ld (G79 38 [true]) (xs := map chD d.ch) (map_get hc) ?_
      refine .sge 11 [0, 3, 4, 5, 6, 23, 24, 25, 26, 27, 28, 29, 30, 31, 32, 33] (G79 49 [true]) ?_
      refine .if' (decide ((↑i : Int) < dir)) (G79 50 [true, true]) (G79 50 [true, false]) (fun h2 => ?_) (fun h2 => ?_)
      · simp only [bsX] at h2
        refine .sge 3 [0, 3, 4, 5, 6, 23, 24, 25, 26, 27, 28, 29, 30, 31, 32, 33, 34, 35] (G79 53 [true, true]) ?_
        refine .cd (G79 54 [true, true]) F103 (@spec_103 (d.so dir i) (c) (by assumption)) ?_
        refine .sg0 7 [0, 3, 4, 5, 6, 23, 24, 25, 26, 27, 28, 29, 30, 31, 32, 33, 34, 35, 36, 37] (G79 61 [true, true]) [(4, .d (.list 2 (map nmD (applyR (d.so dir i) c)))), (25, .d (.int .i64 (IntKind.i64.wrap ((↑i : Int) + 1)))), (37, .d (.int .i64 (IntKind.i64.wrap ((↑i : Int) + 1))))] ?_
        simp (disch := omega) only [bsW]
        rw [Rk.so_in hc h2]
        refine .kp [0, 3, 4, 23, 24, 25] ?_
        refine .su [0, 1, 2, 3] (mk 133 [(0, .ptr 0 0 0), (3, .ptr 3 0 0), (4, .d (.list 2 ((d.so dir (i + 1)).map nmD))), (23, .row 2), (24, .d (.int .i64 (d.ch.length : Nat))), (25, .d (.int .i64 ((i + 1 : Nat) : Int)))]) (S79 d dir keep) ?_
        exact .seg 1 [0, 3, 4, 23, 24, 25] (by kernel_rfl) (ih (i + 1) (by omega))
      · simp only [bsX] at h2
        refine .sg0 6 [0, 3, 4, 5, 6, 23, 24, 25, 26, 27, 28, 29, 30, 31, 32, 33, 37] (G79 56 [true, false]) [(25, .d (.int .i64 (IntKind.i64.wrap ((↑i : Int) + 1)))), (37, .d (.int .i64 (IntKind.i64.wrap ((↑i : Int) + 1))))] ?_
        simp (disch := omega) only [bsW]
        rw [← Rk.so_out h2]
        refine .kp [0, 3, 4, 23, 24, 25] ?_
        refine .su [0, 1, 2, 3] (mk 133 [(0, .ptr 0 0 0), (3, .ptr 3 0 0), (4, .d (.list 2 ((d.so dir (i + 1)).map nmD))), (23, .row 2), (24, .d (.int .i64 (d.ch.length : Nat))), (25, .d (.int .i64 ((i + 1 : Nat) : Int)))]) (S79 d dir keep) ?_
        exact .seg 1 [0, 3, 4, 23, 24, 25] (by kernel_rfl) (ih (i + 1) (by omega))
    · simp only [bsX] at h1
      omega
def S79c (d : Rk) (dir : Int) (keep : List Int) (l : List (ByteArray × Int)) (fs : List (List UInt8 × Nat)) (f : List UInt8 × Nat) : Store := S79b d dir keep l fs ++ [.cells [.d (bsD f.1), .d (.int .i64 f.2)]]
theorem lo79c (d : Rk) (N : Nat) (h : d.Ok N) (dir : Int) (keep : List Int) (l : List (ByteArray × Int)) (hl : l.length < 1000000) (i : Nat) (hi : i < d.files.length) (fs : List (List UInt8 × Nat)) (hfs : fs.length = rank (hasR l) i) (f : List UInt8 × Nat) (Q : AE → Store → Prop)
    (hnext : AW Try.prog 79 none 3 (G79 96 [false, true, false]) (mk 133 [(0, .ptr 0 0 0), (3, .ptr 3 0 0), (4, .d (.list 2 (l.map nmD))), (7, .row 5), (8, .row 4), (9, .d (.int .i64 (i : Nat))), (10, .ptr 6 0 0), (11, .d (.bool (hasR l i))), (44, .row 1), (45, .d (.int .i64 (d.files.length : Nat))), (46, .d (.int .i64 (i : Nat)))]) (S79c d dir keep (l.map (reNum (hasR l) (i + 1))) fs f) [] Q) : ∀ (m k : Nat), k + m = l.length →
    AW Try.prog 79 none 3 (G79 89 [false, true]) (mk 133 [(0, .ptr 0 0 0), (3, .ptr 3 0 0), (4, .d (.list 2 (l.map nmD))), (7, .row 5), (8, .row 4), (9, .d (.int .i64 (i : Nat))), (10, .ptr 6 0 0), (11, .d (.bool (seenR l i k))), (44, .row 1), (45, .d (.int .i64 (d.files.length : Nat))), (46, .d (.int .i64 (i : Nat))), (51, .d (.list 2 (l.map nmD))), (52, .d (.int .i64 (l.length : Nat))), (53, .d (.int .i64 (k : Nat)))]) (S79c d dir keep (mid (hasR l) i l k) fs f) [] Q := by
  have q1 := h.fl
  have q2 := h.nb
  intro m
  induction m with
  | zero =>
    intro k hk
    have hk : k = l.length := by omega
    subst hk
    have e : seenR l i l.length = hasR l i := seenR_all l i
    rw [e, mid_all]
    refine .sge 5 [0, 3, 4, 7, 8, 9, 10, 11, 44, 45, 46, 51, 52, 53, 54] (G79 94 [false, true]) ?_
    refine .if' (decide ((↑l.length : Int) < (↑l.length : Int))) (G79 95 [false, true, true]) (G79 95 [false, true, false]) (fun h1 => ?_) (fun h1 => ?_)
    · simp only [bsX] at h1
      omega
    · simp only [bsX] at h1
      refine .seg 1 [0, 3, 4, 7, 8, 9, 10, 11, 44, 45, 46, 51, 52, 53, 54] (T' := cgo 96 [false, true, false] [.code B79]) (tm' := mk 133 [(0, .ptr 0 0 0), (3, .ptr 3 0 0), (4, .d (.list 2 (map nmD l))), (7, .row 5), (8, .row 4), (9, .d (.int .i64 (↑i : Int))), (10, .ptr 6 0 0), (11, .d (.bool (hasR l i))), (44, .row 1), (45, .d (.int .i64 (↑d.files.length : Int))), (46, .d (.int .i64 (↑i : Int))), (51, .d (.list 2 (map nmD l))), (52, .d (.int .i64 (↑l.length : Int))), (53, .d (.int .i64 (↑l.length : Int))), (54, .d (.bool (decide ((↑l.length : Int) < (↑l.length : Int)))))]) (σ' := (SQ d false [.cells [.d (.int .i64 dir), .d (.list 1 (map intD keep))], .row 2 (map nmD (map (reNum (hasR l) (i + 1)) l)) true, .row 2 (map fileD fs) true, .cells [.d (.list 1 (map u8 f.fst)), .d (.int .i64 (↑f.snd : Int))]])) (by kernel_rfl) ?_
      exact .seg 0 [0, 3, 4, 7, 8, 9, 10, 11, 44, 45, 46] (by kernel_rfl) hnext
  | succ m ih =>
    intro k hk
    obtain ⟨p, hp⟩ := get_some (l := l) (i := k) (by omega)
    clear hnext
    by_cases he : p.2 = (i : Int)
    · obtain ⟨x, y⟩ := p
      dsimp only at he
      subst he
      obtain ⟨m1, m2⟩ := mid_hit (has := hasR l) hp
      have hsn := seenR_hit hp
      have hml := mid_len (hasR l) i l k
      refine .sge 5 [0, 3, 4, 7, 8, 9, 10, 11, 44, 45, 46, 51, 52, 53, 54] (G79 94 [false, true]) ?_
      refine .if' (decide ((↑k : Int) < (↑l.length : Int))) (G79 95 [false, true, true]) (G79 95 [false, true, false]) (fun h1 => ?_) (fun h1 => ?_)
      · simp only [bsX] at h1
        refine .sg0 6 [0, 3, 4, 7, 8, 9, 10, 11, 44, 45, 46, 51, 52, 53, 54, 55] (G79 101 [false, true, true]) [(55, .d (.int .i64 (↑k : Int)))] ?_
        obtain ⟨y2, hy2⟩ := get_some (l := l) (i := k) (by omega)
        refine .op' (G79 102 [false, true, true]) (ixData_ok (t := 69) (x := (.tmp 51)) (i := (.tmp 53)) (k := IntKind.i64) (n := (↑k : Int)) (sz := 2) (xs := map nmD l) (d := nmD y2) (by kernel_rfl) (by kernel_rfl) (by kernel_rfl) (by kernel_rfl) (by omega) (map_get hy2)) ?_
        refine .sge 12 [0, 3, 4, 7, 8, 9, 10, 11, 12, 13, 44, 45, 46, 51, 52, 53, 54, 55, 56, 57, 58, 59, 60, 61] (G79 114 [false, true, true]) ?_
        refine .if' (y2.snd == (↑i : Int)) (G79 115 [false, true, true, true]) (G79 115 [false, true, true, false]) (fun h3 => ?_) (fun h3 => ?_)
        · simp only [bsX] at h3
          refine .sg0 9 [0, 3, 4, 7, 8, 9, 10, 11, 12, 13, 44, 45, 46, 51, 52, 53, 54, 55, 56, 57, 58, 59, 60, 61, 62, 63, 64, 65] (G79 124 [false, true, true, true]) [(11, .d (.bool true)), (62, .row 4), (63, .d (.int .i64 (↑k : Int))), (64, .row 5), (65, .d (.int .i64 (↑(map fileD fs).length : Int)))] ?_
          simp only [List.length_map]
          refine .op' (G79 125 [false, true, true, true]) (ixRow_ok (t := 69) (x := (.tmp 62)) (i := (.tmp 63)) (k := IntKind.i64) (n := (↑k : Int)) (l := 4) (sz := 2) (xs := map nmD (mid (hasR l) i l k)) (mv := true) (by kernel_rfl) (by kernel_rfl) (by kernel_rfl) (by kernel_rfl) (by kernel_rfl) (by omega) (by simp <;> omega)) ?_
          refine .sg0 1 [0, 3, 4, 7, 8, 9, 10, 11, 12, 13, 44, 45, 46, 51, 52, 53, 54, 55, 56, 57, 58, 59, 60, 61, 62, 63, 64, 65, 66, 67] (G79 126 [false, true, true, true]) [(67, .ptr 4 (↑k : Int).toNat 1)] ?_
          obtain ⟨y4, hy4⟩ := get_some (l := mid (hasR l) i l k) (i := (↑k : Int).toNat) (by omega)
          refine .op' (G79 127 [false, true, true, true]) (stRow_ok (t := 3) (x := (.tmp 67)) (y := (.tmp 65)) (l := 4) (i := (↑k : Int).toNat) (s := 1) (sz := 2) (xs := map nmD (mid (hasR l) i l k)) (mv := true) (d := nmD y4) (d' := D.agg [D.str y4.fst, D.int IntKind.i64 (↑fs.length : Int)]) (by kernel_rfl) (by kernel_rfl) (by kernel_rfl) (map_get hy4) (by kernel_rfl)) ?_
          refine .seg 6 [0, 3, 4, 7, 8, 9, 10, 11, 12, 13, 44, 45, 46, 51, 52, 53, 54, 55, 56, 57, 58, 59, 60, 61, 62, 63, 64, 65, 66, 67, 68] (T' := cgo 133 [false, true, true, true] [.code B79]) (tm' := mk 133 [(0, .ptr 0 0 0), (3, .ptr 3 0 0), (4, .d (.list 2 (map nmD l))), (7, .row 5), (8, .row 4), (9, .d (.int .i64 (↑i : Int))), (10, .ptr 6 0 0), (11, .d (.bool true)), (12, .d (.int .i64 (↑k : Int))), (13, .ptr 7 0 0), (44, .row 1), (45, .d (.int .i64 (↑d.files.length : Int))), (46, .d (.int .i64 (↑i : Int))), (51, .d (.list 2 (map nmD l))), (52, .d (.int .i64 (↑l.length : Int))), (53, .d (.int .i64 (IntKind.i64.wrap ((↑k : Int) + 1)))), (54, .d (.bool (decide ((↑k : Int) < (↑l.length : Int))))), (55, .d (.int .i64 (↑k : Int))), (56, .ep 2 (D.agg [D.str y2.fst, D.int IntKind.i64 y2.snd]) 0), (57, .d (.agg [D.str y2.fst, D.int IntKind.i64 y2.snd])), (58, .ptr 7 0 1), (59, .d (.int .i64 y2.snd)), (60, .d (.int .i64 (↑i : Int))), (61, .d (.bool (y2.snd == (↑i : Int)))), (62, .row 4), (63, .d (.int .i64 (↑k : Int))), (64, .row 5), (65, .d (.int .i64 (↑fs.length : Int))), (66, .ptr 4 (↑k : Int).toNat 0), (67, .ptr 4 (↑k : Int).toNat 1), (68, .d (.int .i64 (IntKind.i64.wrap ((↑k : Int) + 1))))]) (σ' := (SQ d false [.cells [.d (.int .i64 dir), .d (.list 1 (map intD keep))], .row 2 ((map nmD (mid (hasR l) i l k)).set (↑k : Int).toNat (D.agg [D.str y4.fst, D.int IntKind.i64 (↑fs.length : Int)])) true, .row 2 (map fileD fs) true, .cells [.d (.list 1 (map u8 f.fst)), .d (.int .i64 (↑f.snd : Int))], .cells [.d (.str y2.fst), .d (.int .i64 y2.snd)]])) (by kernel_rfl) ?_
          simp (disch := omega) only [bsW]
          have e4 : y4 = (x, (i : Int)) := by
            have h5 : (mid (hasR l) i l k)[k]? = some y4 := hy4
            rw [m2] at h5
            exact (Option.some.inj h5).symm
          subst e4
          have e5 : (List.map nmD (mid (hasR l) i l k)).set (↑k : Int).toNat (D.agg [D.str x, D.int IntKind.i64 (↑fs.length : Int)]) = List.map nmD (mid (hasR l) i l (k + 1)) := by
            rw [← m1, List.map_set, hfs]; rfl
          rw [e5]
          refine .kp [0, 3, 4, 7, 8, 9, 10, 11, 44, 45, 46, 51, 52, 53] ?_
          have ih := ih (k + 1) (by omega)
          rw [hsn] at ih
          refine .su [0, 1, 2, 3, 4, 5, 6] (mk 133 [(0, .ptr 0 0 0), (3, .ptr 3 0 0), (4, .d (.list 2 (l.map nmD))), (7, .row 5), (8, .row 4), (9, .d (.int .i64 (i : Nat))), (10, .ptr 6 0 0), (11, .d (.bool true)), (44, .row 1), (45, .d (.int .i64 (d.files.length : Nat))), (46, .d (.int .i64 (i : Nat))), (51, .d (.list 2 (l.map nmD))), (52, .d (.int .i64 (l.length : Nat))), (53, .d (.int .i64 ((k + 1 : Nat) : Int)))]) (S79c d dir keep (mid (hasR l) i l (k + 1)) fs f) ?_
          exact .seg 1 [0, 3, 4, 7, 8, 9, 10, 11, 44, 45, 46, 51, 52, 53] (by kernel_rfl) ih
        · simp only [bsX] at h3
          simp_all
      · simp only [bsX] at h1
        omega
    · have m1 := mid_miss (has := hasR l) hp he
      have hsn := seenR_miss hp he
      refine .sge 5 [0, 3, 4, 7, 8, 9, 10, 11, 44, 45, 46, 51, 52, 53, 54] (G79 94 [false, true]) ?_
      refine .if' (decide ((↑k : Int) < (↑l.length : Int))) (G79 95 [false, true, true]) (G79 95 [false, true, false]) (fun h1 => ?_) (fun h1 => ?_)
      · simp only [bsX] at h1
        refine .sge 6 [0, 3, 4, 7, 8, 9, 10, 11, 44, 45, 46, 51, 52, 53, 54, 55] (G79 101 [false, true, true]) ?_
        refine .op' (G79 102 [false, true, true]) (ixData_ok (t := 69) (x := (.tmp 51)) (i := (.tmp 53)) (k := IntKind.i64) (n := (↑k : Int)) (sz := 2) (xs := map nmD l) (d := nmD p) (by kernel_rfl) (by kernel_rfl) (by kernel_rfl) (by kernel_rfl) (by omega) (map_get hp)) ?_
        refine .sge 12 [0, 3, 4, 7, 8, 9, 10, 11, 12, 13, 44, 45, 46, 51, 52, 53, 54, 55, 56, 57, 58, 59, 60, 61] (G79 114 [false, true, true]) ?_
        refine .if' (p.snd == (↑i : Int)) (G79 115 [false, true, true, true]) (G79 115 [false, true, true, false]) (fun h2 => ?_) (fun h2 => ?_)
        · simp only [bsX] at h2
          omega
        · simp only [bsX] at h2
          refine .sg0 6 [0, 3, 4, 7, 8, 9, 10, 11, 12, 13, 44, 45, 46, 51, 52, 53, 54, 55, 56, 57, 58, 59, 60, 61, 68] (G79 121 [false, true, true, false]) [(53, .d (.int .i64 (IntKind.i64.wrap ((↑k : Int) + 1)))), (68, .d (.int .i64 (IntKind.i64.wrap ((↑k : Int) + 1))))] ?_
          simp (disch := omega) only [bsW]
          refine .kp [0, 3, 4, 7, 8, 9, 10, 11, 44, 45, 46, 51, 52, 53] ?_
          have ih := ih (k + 1) (by omega)
          rw [hsn, m1] at ih
          refine .su [0, 1, 2, 3, 4, 5, 6] (mk 133 [(0, .ptr 0 0 0), (3, .ptr 3 0 0), (4, .d (.list 2 (l.map nmD))), (7, .row 5), (8, .row 4), (9, .d (.int .i64 (i : Nat))), (10, .ptr 6 0 0), (11, .d (.bool (seenR l i k))), (44, .row 1), (45, .d (.int .i64 (d.files.length : Nat))), (46, .d (.int .i64 (i : Nat))), (51, .d (.list 2 (l.map nmD))), (52, .d (.int .i64 (l.length : Nat))), (53, .d (.int .i64 ((k + 1 : Nat) : Int)))]) (S79c d dir keep (mid (hasR l) i l k) fs f) ?_
          exact .seg 1 [0, 3, 4, 7, 8, 9, 10, 11, 44, 45, 46, 51, 52, 53] (by kernel_rfl) ih
      · simp only [bsX] at h1
        omega
end Go.Proofs.Ytoelkgbeefoplaa
