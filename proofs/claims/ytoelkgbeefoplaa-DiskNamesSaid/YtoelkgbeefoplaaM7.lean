/- Texts of this proof, part 7: LivesD, LookP, NamesA. -/
import Derived.Test.YtoelkgbeefoplaaM6
namespace Go.Proofs.Ytoelkgbeefoplaa
open Go Go.Br Go.Proofs
set_option linter.unusedSimpArgs false
theorem spec_31c (d : Dk) (N : Nat) (h : d.Ok N) (hN : N + 2 ≤ 50000) (x : ByteArray) (hx : x.size < 1000000000) (bs : List UInt8) (ds : List D) (hds : ds = bs.map u8) (hb : bs.length < 1000000000) :
    CallsA Try.prog 31 [.ptr 0 0 0, .d (.str x), .d (.list 1 ds)] (SD d false) fun r σ' => r = .ret (.d (.int .i64 (d.begun.appendE x bs))) ∧ σ' = SD (d.begun.appendD x bs) true := by
  subst hds
  exact spec_31 d N h hN x hx bs hb
theorem spec_35c (d : Dk) (N : Nat) (h : d.Ok N) (dir : Int) (keep : List Int) (ds : List D) (hds : ds = keep.map intD) (hk : keep.length < 1000000000) (hkv : ∀ v ∈ keep, -9223372036854775808 ≤ v ∧ v < 9223372036854775808) :
    CallsA Try.prog 35 [.ptr 0 0 0, .d (.agg [.int .i64 dir, .list 1 ds])] (SD d false) fun r σ' => r = .ret (.tuple []) ∧ σ' = SDc d (d.crash dir keep) := by
  subst hds
  exact spec_35 d N h dir keep hk hkv
noncomputable def B30 : Code := (Try.f30.body).getD .skip
theorem F30 : Fnc Try.prog 30 Try.f30 B30 := ⟨Try.func30, by kernel_rfl, by kernel_rfl⟩
/-- What the example makes of a disk. -/
def d1 : Dk := (Dk.new 10).begun.createD ⟨#[97]⟩
def d2 : Dk := d1.begun.appendD ⟨#[97]⟩ (List.replicate 12 0)
def d3 : Dk := d2.begun.appendD ⟨#[97]⟩ (List.replicate 5 0)
theorem e2 : (Dk.new 10).begun.createE ⟨#[97]⟩ = 0 := by kernel_rfl
theorem e3 : d1.begun.appendE ⟨#[97]⟩ (List.replicate 12 0) = 4 := by kernel_rfl
theorem e4 : d2.begun.appendE ⟨#[97]⟩ (List.replicate 5 0) = 0 := by kernel_rfl
theorem e5 : d3.begun.err true [⟨#[97]⟩] = 0 := by kernel_rfl
theorem lv30 (d : Dk) (hd : d = Dk.new 10) :
    AW Try.prog 30 none 0 (cgo 9 [] [Item.code B30]) (mk 66 [(1, .ptr 0 0 0)]) (SD d true) [] fun r σ' => r = .ret (.d (.bool true)) := by
  have h0 : d.Ok 0 := hd ▸ Dk.new_ok (by decide)
  have ha : (ByteArray.mk #[97]).size < 1000000000 := by decide
  have h1 := Dk.createD_ok (Dk.begun_ok h0 (by omega)) (by omega) (ByteArray.mk #[97])
  have b12 : List.replicate 12 (D.int IntKind.u8 0) = List.map u8 (List.replicate 12 0) := rfl
  have b5 : List.replicate 5 (D.int IntKind.u8 0) = List.map u8 (List.replicate 5 0) := rfl
  have h2 := Dk.appendD_ok (Dk.begun_ok h1 (by omega)) (ByteArray.mk #[97]) (List.replicate 12 0)
  have h3 := Dk.appendD_ok (Dk.begun_ok h2 (by omega)) (ByteArray.mk #[97]) (List.replicate 5 0)
  have h4 := Dk.syncD_ok (Dk.begun_ok h3 (by omega)) (ByteArray.mk #[97])
  have b2 : [D.int IntKind.u8 1, D.int IntKind.u8 2] = List.map u8 [1, 2] := rfl
  have h5 := Dk.appendD_ok (Dk.begun_ok h4 (by omega)) (ByteArray.mk #[97]) [1, 2]
  have h6 := Dk.syncDirD_ok (Dk.begun_ok h5 (by omega))
  have k1 : [D.int IntKind.i64 1] = List.map intD [1] := rfl
  have h7 := Dk.crash_ok h6 0 [1]
  refine .seg 1 [1] (T' := cgo 10 [] [.code B30]) (tm' := mk 66 [(1, .ptr 0 0 0)]) (σ' := (SP 1 2 d true [])) (by kernel_rfl) ?_
  refine .drawF (T' := cgo 11 [] [.code B30]) (tm' := mk 66 [(1, .ptr 0 0 0), (2, .d (.int .i64 (d.begun.createE (ByteArray.mk #[97])))), (3, .d (.int .i64 ((d.begun.createD (ByteArray.mk #[97])).begun.appendE (ByteArray.mk #[97]) (List.replicate 12 0)))), (4, .d (.int .i64 (((d.begun.createD (ByteArray.mk #[97])).begun.appendD (ByteArray.mk #[97]) (List.replicate 12 0)).begun.appendE (ByteArray.mk #[97]) (List.replicate 5 0)))), (11, .ptr 0 0 0), (12, .d (.int .i64 (d.begun.createE (ByteArray.mk #[97])))), (13, .ptr 0 0 0), (14, .d (.list 1 [D.int IntKind.u8 0, D.int IntKind.u8 0, D.int IntKind.u8 0, D.int IntKind.u8 0, D.int IntKind.u8 0, D.int IntKind.u8 0, D.int IntKind.u8 0, D.int IntKind.u8 0, D.int IntKind.u8 0, D.int IntKind.u8 0, D.int IntKind.u8 0, D.int IntKind.u8 0])), (15, .d (.int .i64 ((d.begun.createD (ByteArray.mk #[97])).begun.appendE (ByteArray.mk #[97]) (List.replicate 12 0)))), (16, .ptr 0 0 0), (17, .d (.list 1 [D.int IntKind.u8 0, D.int IntKind.u8 0, D.int IntKind.u8 0, D.int IntKind.u8 0, D.int IntKind.u8 0])), (18, .d (.int .i64 (((d.begun.createD (ByteArray.mk #[97])).begun.appendD (ByteArray.mk #[97]) (List.replicate 12 0)).begun.appendE (ByteArray.mk #[97]) (List.replicate 5 0))))]) (σ' := (SP 1 2 (((d.begun.createD (ByteArray.mk #[97])).begun.appendD (ByteArray.mk #[97]) (List.replicate 12 0)).begun.appendD (ByteArray.mk #[97]) (List.replicate 5 0)) true [])) (by kernel_rfl) (by kernel_rfl) (by kernel_rfl) (by kernel_rfl) (fun kz L hL => ?_) ?_
  · refine ⟨[⟨[], [], [], [0], [0], [], true, false⟩, ⟨[0, 1, 2, 3, 4, 5], [0, 1, 2, 3, 4, 5], [1, 3, 4, 5], [1, 2, 5, 3, 4], [0, 1, 2, 5, 3, 4], [], true, false⟩, ⟨[], [], [], [0], [0], [], true, false⟩, ⟨[], [], [], [], [], [], true, false⟩, ⟨[0, 1, 2, 3, 4, 5], [0, 1, 2, 3, 4, 5], [1, 3, 4, 5], [1, 2, 5, 3, 4], [0, 1, 2, 5, 3, 4], [], true, false⟩, ⟨[], [], [], [0], [0], [], true, false⟩, ⟨[], [], [], [], [], [], true, false⟩, ⟨[0, 1, 2, 3, 4, 5], [0, 1, 2, 3, 4, 5], [1, 3, 4, 5], [1, 2, 5, 3, 4], [0, 1, 2, 5, 3, 4], [], true, false⟩, ⟨[], [], [], [], [], [], true, false⟩, ⟨[], [], [], [], [], [], true, false⟩, ⟨[], [], [], [], [], [], true, false⟩], run_amongF hL _ [] [0, 2, 3, 5, 6, 1, 4, 7, 8, 9, 10] (by intro p hp; cases hp) (by kernel_rfl) ?_⟩
    refine Run.append (A := [0, 2]) (srunF_ok (tm' := mk 66 [(1, .ptr 0 0 0), (11, .ptr 0 0 0), (13, .ptr 0 0 0)]) (σ' := (SP 1 2 d true [])) (by kernel_rfl)) ?_
    refine Run.one (StepF.look (o := ((drawOf (cgo 10 [] [.code B30]))[3]?).getD default) (v := .d (.list 1 [D.int IntKind.u8 0, D.int IntKind.u8 0, D.int IntKind.u8 0, D.int IntKind.u8 0, D.int IntKind.u8 0, D.int IntKind.u8 0, D.int IntKind.u8 0, D.int IntKind.u8 0, D.int IntKind.u8 0, D.int IntKind.u8 0, D.int IntKind.u8 0, D.int IntKind.u8 0])) [(.const (Value.int IntKind.i64 12)), (.const (Value.int IntKind.i64 12))] (by kernel_rfl) rfl (by kernel_rfl) (by kernel_rfl) (by kernel_rfl) (by kernel_rfl) (by kernel_rfl) (fun tm' σ2 hv hr => makeD_ok (t := 22) (l := (.const (Value.int IntKind.i64 12))) (c := (.const (Value.int IntKind.i64 12))) (e := 5) (z := (Value.int IntKind.u8 (0))) (dz := D.int IntKind.u8 0) (bytes := 1) (n := 12) (kl := IntKind.i64) (kc := IntKind.i64) (by kernel_rfl) (by kernel_rfl) (by kernel_rfl) (by kernel_rfl) (by rw [hv _ (by simp)]; kernel_rfl) (by rw [hv _ (by simp)]; kernel_rfl) (by omega) (by first | (simp [maxLen] <;> omega) | omega))) ?_
    refine Run.asP (tm' := mk 66 [(1, .ptr 0 0 0), (11, .ptr 0 0 0), (13, .ptr 0 0 0), (14, .d (.list 1 [D.int IntKind.u8 0, D.int IntKind.u8 0, D.int IntKind.u8 0, D.int IntKind.u8 0, D.int IntKind.u8 0, D.int IntKind.u8 0, D.int IntKind.u8 0, D.int IntKind.u8 0, D.int IntKind.u8 0, D.int IntKind.u8 0, D.int IntKind.u8 0, D.int IntKind.u8 0]))]) (σ' := (SP 1 2 d true [])) (by kernel_rfl) (by kernel_rfl) ?_
    refine Run.append (A := [5]) (srunF_ok (tm' := mk 66 [(1, .ptr 0 0 0), (11, .ptr 0 0 0), (13, .ptr 0 0 0), (14, .d (.list 1 [D.int IntKind.u8 0, D.int IntKind.u8 0, D.int IntKind.u8 0, D.int IntKind.u8 0, D.int IntKind.u8 0, D.int IntKind.u8 0, D.int IntKind.u8 0, D.int IntKind.u8 0, D.int IntKind.u8 0, D.int IntKind.u8 0, D.int IntKind.u8 0, D.int IntKind.u8 0])), (16, .ptr 0 0 0)]) (σ' := (SP 1 2 d true [])) (by kernel_rfl)) ?_
    refine Run.one (StepF.look (o := ((drawOf (cgo 10 [] [.code B30]))[6]?).getD default) (v := .d (.list 1 [D.int IntKind.u8 0, D.int IntKind.u8 0, D.int IntKind.u8 0, D.int IntKind.u8 0, D.int IntKind.u8 0])) [(.const (Value.int IntKind.i64 5)), (.const (Value.int IntKind.i64 5))] (by kernel_rfl) rfl (by kernel_rfl) (by kernel_rfl) (by kernel_rfl) (by kernel_rfl) (by kernel_rfl) (fun tm' σ2 hv hr => makeD_ok (t := 22) (l := (.const (Value.int IntKind.i64 5))) (c := (.const (Value.int IntKind.i64 5))) (e := 5) (z := (Value.int IntKind.u8 (0))) (dz := D.int IntKind.u8 0) (bytes := 1) (n := 5) (kl := IntKind.i64) (kc := IntKind.i64) (by kernel_rfl) (by kernel_rfl) (by kernel_rfl) (by kernel_rfl) (by rw [hv _ (by simp)]; kernel_rfl) (by rw [hv _ (by simp)]; kernel_rfl) (by omega) (by first | (simp [maxLen] <;> omega) | omega))) ?_
    refine Run.asP (tm' := mk 66 [(1, .ptr 0 0 0), (11, .ptr 0 0 0), (13, .ptr 0 0 0), (14, .d (.list 1 [D.int IntKind.u8 0, D.int IntKind.u8 0, D.int IntKind.u8 0, D.int IntKind.u8 0, D.int IntKind.u8 0, D.int IntKind.u8 0, D.int IntKind.u8 0, D.int IntKind.u8 0, D.int IntKind.u8 0, D.int IntKind.u8 0, D.int IntKind.u8 0, D.int IntKind.u8 0])), (16, .ptr 0 0 0), (17, .d (.list 1 [D.int IntKind.u8 0, D.int IntKind.u8 0, D.int IntKind.u8 0, D.int IntKind.u8 0, D.int IntKind.u8 0]))]) (σ' := (SP 1 2 d true [])) (by kernel_rfl) (by kernel_rfl) ?_
    refine Run.one (StepF.call (o := ((drawOf (cgo 10 [] [.code B30]))[1]?).getD default) (x := (.func 26)) (args := #[(.tmp 11), (.const (Value.string (ByteArray.mk #[97])))]) (ts := #[40, 9]) (first := []) (cap := []) [0, 1, 2, 3, 4, 5] [.ptr 0 0 0, .d (.str (ByteArray.mk #[97]))] (SP 1 2 d false []) [.cells [.row 1, .ptr 2 0 0, .ep 2 (dirD (d.begun.createD (ByteArray.mk #[97])).sk (d.begun.createD (ByteArray.mk #[97])).sv) 0, .row 5, .d (.int .i64 (d.begun.createD (ByteArray.mk #[97])).quota), .d (.bool (d.begun.createD (ByteArray.mk #[97])).full), .d (.bool (d.begun.createD (ByteArray.mk #[97])).off), .d (.int .i64 (d.begun.createD (ByteArray.mk #[97])).stop), .d (.int .i64 (d.begun.createD (ByteArray.mk #[97])).calls)], .row 2 (List.map fileD (d.begun.createD (ByteArray.mk #[97])).files) true, .cells [.row 3, .row 4], .row 1 (List.map strD (d.begun.createD (ByteArray.mk #[97])).nk) true, .row 1 (List.map intD (d.begun.createD (ByteArray.mk #[97])).nv) true, .row 3 (List.map chD (d.begun.createD (ByteArray.mk #[97])).ch) true] (v := .d (.int .i64 (d.begun.createE (ByteArray.mk #[97])))) (tm' := mk 66 [(1, .ptr 0 0 0), (11, .ptr 0 0 0), (12, .d (.int .i64 (d.begun.createE (ByteArray.mk #[97])))), (13, .ptr 0 0 0), (14, .d (.list 1 [D.int IntKind.u8 0, D.int IntKind.u8 0, D.int IntKind.u8 0, D.int IntKind.u8 0, D.int IntKind.u8 0, D.int IntKind.u8 0, D.int IntKind.u8 0, D.int IntKind.u8 0, D.int IntKind.u8 0, D.int IntKind.u8 0, D.int IntKind.u8 0, D.int IntKind.u8 0])), (16, .ptr 0 0 0), (17, .d (.list 1 [D.int IntKind.u8 0, D.int IntKind.u8 0, D.int IntKind.u8 0, D.int IntKind.u8 0, D.int IntKind.u8 0]))]) (σ' := (SP 1 2 (d.begun.createD (ByteArray.mk #[97])) true [])) (by kernel_rfl) rfl (by kernel_rfl) (by kernel_rfl) F26 (@spec_26 (d) (0) (by assumption) (by omega) (ByteArray.mk #[97]) (by assumption)) (by kernel_rfl) (by kernel_rfl) (by kernel_rfl) (by kernel_rfl) ⟨rfl, rfl, by kernel_rfl⟩ (by kernel_rfl) (by kernel_rfl) (by kernel_rfl) (by kernel_rfl) (by kernel_rfl) (by kernel_rfl) (by kernel_rfl)) ?_
    refine Run.asP (tm' := mk 66 [(1, .ptr 0 0 0), (11, .ptr 0 0 0), (12, .d (.int .i64 (d.begun.createE (ByteArray.mk #[97])))), (13, .ptr 0 0 0), (14, .d (.list 1 [D.int IntKind.u8 0, D.int IntKind.u8 0, D.int IntKind.u8 0, D.int IntKind.u8 0, D.int IntKind.u8 0, D.int IntKind.u8 0, D.int IntKind.u8 0, D.int IntKind.u8 0, D.int IntKind.u8 0, D.int IntKind.u8 0, D.int IntKind.u8 0, D.int IntKind.u8 0])), (16, .ptr 0 0 0), (17, .d (.list 1 [D.int IntKind.u8 0, D.int IntKind.u8 0, D.int IntKind.u8 0, D.int IntKind.u8 0, D.int IntKind.u8 0]))]) (σ' := (SP 1 2 (d.begun.createD (ByteArray.mk #[97])) true [])) (by kernel_rfl) (by kernel_rfl) ?_
    refine Run.one (StepF.call (o := ((drawOf (cgo 10 [] [.code B30]))[4]?).getD default) (x := (.func 31)) (args := #[(.tmp 13), (.const (Value.string (ByteArray.mk #[97]))), (.tmp 14)]) (ts := #[40, 9, 22]) (first := []) (cap := []) [0, 1, 2, 3, 4, 5] [.ptr 0 0 0, .d (.str (ByteArray.mk #[97])), .d (.list 1 [D.int IntKind.u8 0, D.int IntKind.u8 0, D.int IntKind.u8 0, D.int IntKind.u8 0, D.int IntKind.u8 0, D.int IntKind.u8 0, D.int IntKind.u8 0, D.int IntKind.u8 0, D.int IntKind.u8 0, D.int IntKind.u8 0, D.int IntKind.u8 0, D.int IntKind.u8 0])] (SP 1 2 (d.begun.createD (ByteArray.mk #[97])) false []) [.cells [.row 1, .ptr 2 0 0, .ep 2 (dirD ((d.begun.createD (ByteArray.mk #[97])).begun.appendD (ByteArray.mk #[97]) (List.replicate 12 0)).sk ((d.begun.createD (ByteArray.mk #[97])).begun.appendD (ByteArray.mk #[97]) (List.replicate 12 0)).sv) 0, .row 5, .d (.int .i64 ((d.begun.createD (ByteArray.mk #[97])).begun.appendD (ByteArray.mk #[97]) (List.replicate 12 0)).quota), .d (.bool ((d.begun.createD (ByteArray.mk #[97])).begun.appendD (ByteArray.mk #[97]) (List.replicate 12 0)).full), .d (.bool ((d.begun.createD (ByteArray.mk #[97])).begun.appendD (ByteArray.mk #[97]) (List.replicate 12 0)).off), .d (.int .i64 ((d.begun.createD (ByteArray.mk #[97])).begun.appendD (ByteArray.mk #[97]) (List.replicate 12 0)).stop), .d (.int .i64 ((d.begun.createD (ByteArray.mk #[97])).begun.appendD (ByteArray.mk #[97]) (List.replicate 12 0)).calls)], .row 2 (List.map fileD ((d.begun.createD (ByteArray.mk #[97])).begun.appendD (ByteArray.mk #[97]) (List.replicate 12 0)).files) true, .cells [.row 3, .row 4], .row 1 (List.map strD ((d.begun.createD (ByteArray.mk #[97])).begun.appendD (ByteArray.mk #[97]) (List.replicate 12 0)).nk) true, .row 1 (List.map intD ((d.begun.createD (ByteArray.mk #[97])).begun.appendD (ByteArray.mk #[97]) (List.replicate 12 0)).nv) true, .row 3 (List.map chD ((d.begun.createD (ByteArray.mk #[97])).begun.appendD (ByteArray.mk #[97]) (List.replicate 12 0)).ch) true] (v := .d (.int .i64 ((d.begun.createD (ByteArray.mk #[97])).begun.appendE (ByteArray.mk #[97]) (List.replicate 12 0)))) (tm' := mk 66 [(1, .ptr 0 0 0), (11, .ptr 0 0 0), (12, .d (.int .i64 (d.begun.createE (ByteArray.mk #[97])))), (13, .ptr 0 0 0), (14, .d (.list 1 [D.int IntKind.u8 0, D.int IntKind.u8 0, D.int IntKind.u8 0, D.int IntKind.u8 0, D.int IntKind.u8 0, D.int IntKind.u8 0, D.int IntKind.u8 0, D.int IntKind.u8 0, D.int IntKind.u8 0, D.int IntKind.u8 0, D.int IntKind.u8 0, D.int IntKind.u8 0])), (15, .d (.int .i64 ((d.begun.createD (ByteArray.mk #[97])).begun.appendE (ByteArray.mk #[97]) (List.replicate 12 0)))), (16, .ptr 0 0 0), (17, .d (.list 1 [D.int IntKind.u8 0, D.int IntKind.u8 0, D.int IntKind.u8 0, D.int IntKind.u8 0, D.int IntKind.u8 0]))]) (σ' := (SP 1 2 ((d.begun.createD (ByteArray.mk #[97])).begun.appendD (ByteArray.mk #[97]) (List.replicate 12 0)) true [])) (by kernel_rfl) rfl (by kernel_rfl) (by kernel_rfl) F31 (@spec_31c (d.begun.createD (ByteArray.mk #[97])) (0 + 1 + 1) (by assumption) (by omega) (ByteArray.mk #[97]) (by assumption) (List.replicate 12 0) ([D.int IntKind.u8 0, D.int IntKind.u8 0, D.int IntKind.u8 0, D.int IntKind.u8 0, D.int IntKind.u8 0, D.int IntKind.u8 0, D.int IntKind.u8 0, D.int IntKind.u8 0, D.int IntKind.u8 0, D.int IntKind.u8 0, D.int IntKind.u8 0, D.int IntKind.u8 0]) (by assumption) (by simp; done)) (by kernel_rfl) (by kernel_rfl) (by kernel_rfl) (by kernel_rfl) ⟨rfl, rfl, by kernel_rfl⟩ (by kernel_rfl) (by kernel_rfl) (by kernel_rfl) (by kernel_rfl) (by kernel_rfl) (by kernel_rfl) (by kernel_rfl)) ?_
    refine Run.asP (tm' := mk 66 [(1, .ptr 0 0 0), (11, .ptr 0 0 0), (12, .d (.int .i64 (d.begun.createE (ByteArray.mk #[97])))), (13, .ptr 0 0 0), (14, .d (.list 1 [D.int IntKind.u8 0, D.int IntKind.u8 0, D.int IntKind.u8 0, D.int IntKind.u8 0, D.int IntKind.u8 0, D.int IntKind.u8 0, D.int IntKind.u8 0, D.int IntKind.u8 0, D.int IntKind.u8 0, D.int IntKind.u8 0, D.int IntKind.u8 0, D.int IntKind.u8 0])), (15, .d (.int .i64 ((d.begun.createD (ByteArray.mk #[97])).begun.appendE (ByteArray.mk #[97]) (List.replicate 12 0)))), (16, .ptr 0 0 0), (17, .d (.list 1 [D.int IntKind.u8 0, D.int IntKind.u8 0, D.int IntKind.u8 0, D.int IntKind.u8 0, D.int IntKind.u8 0]))]) (σ' := (SP 1 2 ((d.begun.createD (ByteArray.mk #[97])).begun.appendD (ByteArray.mk #[97]) (List.replicate 12 0)) true [])) (by kernel_rfl) (by kernel_rfl) ?_
    refine Run.one (StepF.call (o := ((drawOf (cgo 10 [] [.code B30]))[7]?).getD default) (x := (.func 31)) (args := #[(.tmp 16), (.const (Value.string (ByteArray.mk #[97]))), (.tmp 17)]) (ts := #[40, 9, 22]) (first := []) (cap := []) [0, 1, 2, 3, 4, 5] [.ptr 0 0 0, .d (.str (ByteArray.mk #[97])), .d (.list 1 [D.int IntKind.u8 0, D.int IntKind.u8 0, D.int IntKind.u8 0, D.int IntKind.u8 0, D.int IntKind.u8 0])] (SP 1 2 ((d.begun.createD (ByteArray.mk #[97])).begun.appendD (ByteArray.mk #[97]) (List.replicate 12 0)) false []) [.cells [.row 1, .ptr 2 0 0, .ep 2 (dirD (((d.begun.createD (ByteArray.mk #[97])).begun.appendD (ByteArray.mk #[97]) (List.replicate 12 0)).begun.appendD (ByteArray.mk #[97]) (List.replicate 5 0)).sk (((d.begun.createD (ByteArray.mk #[97])).begun.appendD (ByteArray.mk #[97]) (List.replicate 12 0)).begun.appendD (ByteArray.mk #[97]) (List.replicate 5 0)).sv) 0, .row 5, .d (.int .i64 (((d.begun.createD (ByteArray.mk #[97])).begun.appendD (ByteArray.mk #[97]) (List.replicate 12 0)).begun.appendD (ByteArray.mk #[97]) (List.replicate 5 0)).quota), .d (.bool (((d.begun.createD (ByteArray.mk #[97])).begun.appendD (ByteArray.mk #[97]) (List.replicate 12 0)).begun.appendD (ByteArray.mk #[97]) (List.replicate 5 0)).full), .d (.bool (((d.begun.createD (ByteArray.mk #[97])).begun.appendD (ByteArray.mk #[97]) (List.replicate 12 0)).begun.appendD (ByteArray.mk #[97]) (List.replicate 5 0)).off), .d (.int .i64 (((d.begun.createD (ByteArray.mk #[97])).begun.appendD (ByteArray.mk #[97]) (List.replicate 12 0)).begun.appendD (ByteArray.mk #[97]) (List.replicate 5 0)).stop), .d (.int .i64 (((d.begun.createD (ByteArray.mk #[97])).begun.appendD (ByteArray.mk #[97]) (List.replicate 12 0)).begun.appendD (ByteArray.mk #[97]) (List.replicate 5 0)).calls)], .row 2 (List.map fileD (((d.begun.createD (ByteArray.mk #[97])).begun.appendD (ByteArray.mk #[97]) (List.replicate 12 0)).begun.appendD (ByteArray.mk #[97]) (List.replicate 5 0)).files) true, .cells [.row 3, .row 4], .row 1 (List.map strD (((d.begun.createD (ByteArray.mk #[97])).begun.appendD (ByteArray.mk #[97]) (List.replicate 12 0)).begun.appendD (ByteArray.mk #[97]) (List.replicate 5 0)).nk) true, .row 1 (List.map intD (((d.begun.createD (ByteArray.mk #[97])).begun.appendD (ByteArray.mk #[97]) (List.replicate 12 0)).begun.appendD (ByteArray.mk #[97]) (List.replicate 5 0)).nv) true, .row 3 (List.map chD (((d.begun.createD (ByteArray.mk #[97])).begun.appendD (ByteArray.mk #[97]) (List.replicate 12 0)).begun.appendD (ByteArray.mk #[97]) (List.replicate 5 0)).ch) true] (v := .d (.int .i64 (((d.begun.createD (ByteArray.mk #[97])).begun.appendD (ByteArray.mk #[97]) (List.replicate 12 0)).begun.appendE (ByteArray.mk #[97]) (List.replicate 5 0)))) (tm' := mk 66 [(1, .ptr 0 0 0), (11, .ptr 0 0 0), (12, .d (.int .i64 (d.begun.createE (ByteArray.mk #[97])))), (13, .ptr 0 0 0), (14, .d (.list 1 [D.int IntKind.u8 0, D.int IntKind.u8 0, D.int IntKind.u8 0, D.int IntKind.u8 0, D.int IntKind.u8 0, D.int IntKind.u8 0, D.int IntKind.u8 0, D.int IntKind.u8 0, D.int IntKind.u8 0, D.int IntKind.u8 0, D.int IntKind.u8 0, D.int IntKind.u8 0])), (15, .d (.int .i64 ((d.begun.createD (ByteArray.mk #[97])).begun.appendE (ByteArray.mk #[97]) (List.replicate 12 0)))), (16, .ptr 0 0 0), (17, .d (.list 1 [D.int IntKind.u8 0, D.int IntKind.u8 0, D.int IntKind.u8 0, D.int IntKind.u8 0, D.int IntKind.u8 0])), (18, .d (.int .i64 (((d.begun.createD (ByteArray.mk #[97])).begun.appendD (ByteArray.mk #[97]) (List.replicate 12 0)).begun.appendE (ByteArray.mk #[97]) (List.replicate 5 0))))]) (σ' := (SP 1 2 (((d.begun.createD (ByteArray.mk #[97])).begun.appendD (ByteArray.mk #[97]) (List.replicate 12 0)).begun.appendD (ByteArray.mk #[97]) (List.replicate 5 0)) true [])) (by kernel_rfl) rfl (by kernel_rfl) (by kernel_rfl) F31 (@spec_31c ((d.begun.createD (ByteArray.mk #[97])).begun.appendD (ByteArray.mk #[97]) (List.replicate 12 0)) (0 + 1 + 1 + 1) (by assumption) (by omega) (ByteArray.mk #[97]) (by assumption) (List.replicate 5 0) ([D.int IntKind.u8 0, D.int IntKind.u8 0, D.int IntKind.u8 0, D.int IntKind.u8 0, D.int IntKind.u8 0]) (by assumption) (by simp; done)) (by kernel_rfl) (by kernel_rfl) (by kernel_rfl) (by kernel_rfl) ⟨rfl, rfl, by kernel_rfl⟩ (by kernel_rfl) (by kernel_rfl) (by kernel_rfl) (by kernel_rfl) (by kernel_rfl) (by kernel_rfl) (by kernel_rfl)) ?_
    refine Run.asP (tm' := mk 66 [(1, .ptr 0 0 0), (11, .ptr 0 0 0), (12, .d (.int .i64 (d.begun.createE (ByteArray.mk #[97])))), (13, .ptr 0 0 0), (14, .d (.list 1 [D.int IntKind.u8 0, D.int IntKind.u8 0, D.int IntKind.u8 0, D.int IntKind.u8 0, D.int IntKind.u8 0, D.int IntKind.u8 0, D.int IntKind.u8 0, D.int IntKind.u8 0, D.int IntKind.u8 0, D.int IntKind.u8 0, D.int IntKind.u8 0, D.int IntKind.u8 0])), (15, .d (.int .i64 ((d.begun.createD (ByteArray.mk #[97])).begun.appendE (ByteArray.mk #[97]) (List.replicate 12 0)))), (16, .ptr 0 0 0), (17, .d (.list 1 [D.int IntKind.u8 0, D.int IntKind.u8 0, D.int IntKind.u8 0, D.int IntKind.u8 0, D.int IntKind.u8 0])), (18, .d (.int .i64 (((d.begun.createD (ByteArray.mk #[97])).begun.appendD (ByteArray.mk #[97]) (List.replicate 12 0)).begun.appendE (ByteArray.mk #[97]) (List.replicate 5 0))))]) (σ' := (SP 1 2 (((d.begun.createD (ByteArray.mk #[97])).begun.appendD (ByteArray.mk #[97]) (List.replicate 12 0)).begun.appendD (ByteArray.mk #[97]) (List.replicate 5 0)) true [])) (by kernel_rfl) (by kernel_rfl) ?_
    exact srunF_ok (by kernel_rfl)
  refine .seg 3 [1, 2, 3, 4, 19] (T' := cgo 14 [] [.code B30]) (tm' := mk 66 [(1, .ptr 0 0 0), (2, .d (.int .i64 (d.begun.createE (ByteArray.mk #[97])))), (3, .d (.int .i64 ((d.begun.createD (ByteArray.mk #[97])).begun.appendE (ByteArray.mk #[97]) (List.replicate 12 0)))), (4, .d (.int .i64 (((d.begun.createD (ByteArray.mk #[97])).begun.appendD (ByteArray.mk #[97]) (List.replicate 12 0)).begun.appendE (ByteArray.mk #[97]) (List.replicate 5 0)))), (19, .ptr 0 0 0)]) (σ' := (SP 1 2 (((d.begun.createD (ByteArray.mk #[97])).begun.appendD (ByteArray.mk #[97]) (List.replicate 12 0)).begun.appendD (ByteArray.mk #[97]) (List.replicate 5 0)) true [])) (by kernel_rfl) ?_
  refine .callH (o := (opOf (cgo 14 [] [.code B30])).getD default) (x := (.func 32)) (args := #[(.tmp 19), (.const (Value.string (ByteArray.mk #[97])))]) (ts := #[40, 9]) (first := []) (cap := []) [0, 1, 2, 3, 4, 5] [.ptr 0 0 0, .d (.str (ByteArray.mk #[97]))] (SP 1 2 (((d.begun.createD (ByteArray.mk #[97])).begun.appendD (ByteArray.mk #[97]) (List.replicate 12 0)).begun.appendD (ByteArray.mk #[97]) (List.replicate 5 0)) false []) F32 (@spec_32 (((d.begun.createD (ByteArray.mk #[97])).begun.appendD (ByteArray.mk #[97]) (List.replicate 12 0)).begun.appendD (ByteArray.mk #[97]) (List.replicate 5 0)) (0 + 1 + 1 + 1 + 1) (by assumption) (by omega) (ByteArray.mk #[97]) (by assumption)) (by kernel_rfl) (by kernel_rfl) (T' := cgo 15 [] [.code B30]) (by kernel_rfl) (by kernel_rfl) (by kernel_rfl) (by kernel_rfl) (by kernel_rfl) ⟨rfl, rfl, by kernel_rfl⟩ ?_
  rintro r9 s9 ⟨rfl, rfl⟩
  refine ⟨_, rfl, ?_⟩
  refine .seg 6 [1, 2, 3, 4, 5, 21, 22] (T' := cgo 21 [] [.code B30]) (tm' := mk 66 [(1, .ptr 0 0 0), (2, .d (.int .i64 (d.begun.createE (ByteArray.mk #[97])))), (3, .d (.int .i64 ((d.begun.createD (ByteArray.mk #[97])).begun.appendE (ByteArray.mk #[97]) (List.replicate 12 0)))), (4, .d (.int .i64 (((d.begun.createD (ByteArray.mk #[97])).begun.appendD (ByteArray.mk #[97]) (List.replicate 12 0)).begun.appendE (ByteArray.mk #[97]) (List.replicate 5 0)))), (5, .d (.int .i64 ((((d.begun.createD (ByteArray.mk #[97])).begun.appendD (ByteArray.mk #[97]) (List.replicate 12 0)).begun.appendD (ByteArray.mk #[97]) (List.replicate 5 0)).begun.err true [ByteArray.mk #[97]]))), (21, .ptr 0 0 0), (22, .row 6)]) (σ' := (SP 1 2 ((((d.begun.createD (ByteArray.mk #[97])).begun.appendD (ByteArray.mk #[97]) (List.replicate 12 0)).begun.appendD (ByteArray.mk #[97]) (List.replicate 5 0)).begun.syncD (ByteArray.mk #[97])) true [.row 1 [D.int IntKind.u8 1, D.int IntKind.u8 2] false])) (by kernel_rfl) ?_
  refine .freeze 6 (sz := 1) (xs := [D.int IntKind.u8 1, D.int IntKind.u8 2]) (mv := false) (by kernel_rfl) ?_
  refine .callH (o := (opOf (cgo 21 [] [.code B30])).getD default) (x := (.func 31)) (args := #[(.tmp 21), (.const (Value.string (ByteArray.mk #[97]))), (.tmp 22)]) (ts := #[40, 9, 22]) (first := []) (cap := []) [0, 1, 2, 3, 4, 5] [.ptr 0 0 0, .d (.str (ByteArray.mk #[97])), .d (.list 1 [D.int IntKind.u8 1, D.int IntKind.u8 2])] (SP 1 2 ((((d.begun.createD (ByteArray.mk #[97])).begun.appendD (ByteArray.mk #[97]) (List.replicate 12 0)).begun.appendD (ByteArray.mk #[97]) (List.replicate 5 0)).begun.syncD (ByteArray.mk #[97])) false []) F31 (@spec_31c ((((d.begun.createD (ByteArray.mk #[97])).begun.appendD (ByteArray.mk #[97]) (List.replicate 12 0)).begun.appendD (ByteArray.mk #[97]) (List.replicate 5 0)).begun.syncD (ByteArray.mk #[97])) (0 + 1 + 1 + 1 + 1 + 1) (by assumption) (by omega) (ByteArray.mk #[97]) (by assumption) ([1, 2]) ([D.int IntKind.u8 1, D.int IntKind.u8 2]) (by assumption) (by simp; done)) (by kernel_rfl) (by kernel_rfl) (T' := cgo 22 [] [.code B30]) (by kernel_rfl) (by kernel_rfl) (by kernel_rfl) (by kernel_rfl) (by kernel_rfl) ⟨rfl, rfl, by kernel_rfl⟩ ?_
  rintro r10 s10 ⟨rfl, rfl⟩
  refine ⟨_, rfl, ?_⟩
  refine .seg 1 [1, 2, 3, 4, 5, 21, 22, 23, 24] (T' := cgo 23 [] [.code B30]) (tm' := mk 66 [(1, .ptr 0 0 0), (2, .d (.int .i64 (d.begun.createE (ByteArray.mk #[97])))), (3, .d (.int .i64 ((d.begun.createD (ByteArray.mk #[97])).begun.appendE (ByteArray.mk #[97]) (List.replicate 12 0)))), (4, .d (.int .i64 (((d.begun.createD (ByteArray.mk #[97])).begun.appendD (ByteArray.mk #[97]) (List.replicate 12 0)).begun.appendE (ByteArray.mk #[97]) (List.replicate 5 0)))), (5, .d (.int .i64 ((((d.begun.createD (ByteArray.mk #[97])).begun.appendD (ByteArray.mk #[97]) (List.replicate 12 0)).begun.appendD (ByteArray.mk #[97]) (List.replicate 5 0)).begun.err true [ByteArray.mk #[97]]))), (21, .ptr 0 0 0), (22, .d (.list 1 [D.int IntKind.u8 1, D.int IntKind.u8 2])), (23, .d (.int .i64 (((((d.begun.createD (ByteArray.mk #[97])).begun.appendD (ByteArray.mk #[97]) (List.replicate 12 0)).begun.appendD (ByteArray.mk #[97]) (List.replicate 5 0)).begun.syncD (ByteArray.mk #[97])).begun.appendE (ByteArray.mk #[97]) [1, 2]))), (24, .ptr 0 0 0)]) (σ' := (SP 1 2 (((((d.begun.createD (ByteArray.mk #[97])).begun.appendD (ByteArray.mk #[97]) (List.replicate 12 0)).begun.appendD (ByteArray.mk #[97]) (List.replicate 5 0)).begun.syncD (ByteArray.mk #[97])).begun.appendD (ByteArray.mk #[97]) [1, 2]) true [O.dead])) (by kernel_rfl) ?_
  refine .callH (o := (opOf (cgo 23 [] [.code B30])).getD default) (x := (.func 33)) (args := #[(.tmp 24)]) (ts := #[40]) (first := []) (cap := []) [0, 1, 2, 3, 4, 5] [.ptr 0 0 0] (SP 1 2 (((((d.begun.createD (ByteArray.mk #[97])).begun.appendD (ByteArray.mk #[97]) (List.replicate 12 0)).begun.appendD (ByteArray.mk #[97]) (List.replicate 5 0)).begun.syncD (ByteArray.mk #[97])).begun.appendD (ByteArray.mk #[97]) [1, 2]) false []) F33 (@spec_33 (((((d.begun.createD (ByteArray.mk #[97])).begun.appendD (ByteArray.mk #[97]) (List.replicate 12 0)).begun.appendD (ByteArray.mk #[97]) (List.replicate 5 0)).begun.syncD (ByteArray.mk #[97])).begun.appendD (ByteArray.mk #[97]) [1, 2]) (0 + 1 + 1 + 1 + 1 + 1 + 1) (by assumption) (by omega)) (by kernel_rfl) (by kernel_rfl) (T' := cgo 24 [] [.code B30]) (by kernel_rfl) (by kernel_rfl) (by kernel_rfl) (by kernel_rfl) (by kernel_rfl) ⟨rfl, rfl, by kernel_rfl⟩ ?_
  rintro r11 s11 ⟨rfl, rfl⟩
  refine ⟨_, rfl, ?_⟩
  refine .seg 8 [1, 2, 3, 4, 5, 6, 7, 26, 27, 28] (T' := cgo 32 [] [.code B30]) (tm' := mk 66 [(1, .ptr 0 0 0), (2, .d (.int .i64 (d.begun.createE (ByteArray.mk #[97])))), (3, .d (.int .i64 ((d.begun.createD (ByteArray.mk #[97])).begun.appendE (ByteArray.mk #[97]) (List.replicate 12 0)))), (4, .d (.int .i64 (((d.begun.createD (ByteArray.mk #[97])).begun.appendD (ByteArray.mk #[97]) (List.replicate 12 0)).begun.appendE (ByteArray.mk #[97]) (List.replicate 5 0)))), (5, .d (.int .i64 ((((d.begun.createD (ByteArray.mk #[97])).begun.appendD (ByteArray.mk #[97]) (List.replicate 12 0)).begun.appendD (ByteArray.mk #[97]) (List.replicate 5 0)).begun.err true [ByteArray.mk #[97]]))), (6, .d (.int .i64 (((((d.begun.createD (ByteArray.mk #[97])).begun.appendD (ByteArray.mk #[97]) (List.replicate 12 0)).begun.appendD (ByteArray.mk #[97]) (List.replicate 5 0)).begun.syncD (ByteArray.mk #[97])).begun.appendE (ByteArray.mk #[97]) [1, 2]))), (7, .d (.int .i64 ((((((d.begun.createD (ByteArray.mk #[97])).begun.appendD (ByteArray.mk #[97]) (List.replicate 12 0)).begun.appendD (ByteArray.mk #[97]) (List.replicate 5 0)).begun.syncD (ByteArray.mk #[97])).begun.appendD (ByteArray.mk #[97]) [1, 2]).begun.err false []))), (26, .ptr 0 0 0), (27, .row 7), (28, V.agg [.d (.int .i64 0), .row 7])]) (σ' := (SP 1 2 (((((d.begun.createD (ByteArray.mk #[97])).begun.appendD (ByteArray.mk #[97]) (List.replicate 12 0)).begun.appendD (ByteArray.mk #[97]) (List.replicate 5 0)).begun.syncD (ByteArray.mk #[97])).begun.appendD (ByteArray.mk #[97]) [1, 2]).begun.syncDirD true [O.dead, .row 1 [D.int IntKind.i64 1] false])) (by kernel_rfl) ?_
  refine .freeze 7 (sz := 1) (xs := [D.int IntKind.i64 1]) (mv := false) (by kernel_rfl) ?_
  refine .callH (o := (opOf (cgo 32 [] [.code B30])).getD default) (x := (.func 35)) (args := #[(.tmp 26), (.tmp 28)]) (ts := #[40, 48]) (first := []) (cap := []) [0, 1, 2, 3, 4, 5] [.ptr 0 0 0, .d (.agg [D.int IntKind.i64 0, D.list 1 [D.int IntKind.i64 1]])] (SP 1 2 (((((d.begun.createD (ByteArray.mk #[97])).begun.appendD (ByteArray.mk #[97]) (List.replicate 12 0)).begun.appendD (ByteArray.mk #[97]) (List.replicate 5 0)).begun.syncD (ByteArray.mk #[97])).begun.appendD (ByteArray.mk #[97]) [1, 2]).begun.syncDirD false []) F35 (@spec_35c ((((((d.begun.createD (ByteArray.mk #[97])).begun.appendD (ByteArray.mk #[97]) (List.replicate 12 0)).begun.appendD (ByteArray.mk #[97]) (List.replicate 5 0)).begun.syncD (ByteArray.mk #[97])).begun.appendD (ByteArray.mk #[97]) [1, 2]).begun.syncDirD) (0 + 1 + 1 + 1 + 1 + 1 + 1 + 1) (by assumption) (0) ([1]) ([D.int IntKind.i64 1]) (by assumption) (by assumption) (by simp; done)) (by kernel_rfl) (by kernel_rfl) (T' := cgo 33 [] [.code B30]) (by kernel_rfl) (by kernel_rfl) (by kernel_rfl) (by kernel_rfl) (by kernel_rfl) ⟨rfl, rfl, by kernel_rfl⟩ ?_
  rintro r12 s12 ⟨rfl, rfl⟩
  refine ⟨_, rfl, ?_⟩
  refine .seg 4 [1, 2, 3, 4, 5, 6, 7, 31] (T' := cgo 37 [] [.code B30]) (tm' := mk 66 [(1, .ptr 0 0 0), (2, .d (.int .i64 (d.begun.createE (ByteArray.mk #[97])))), (3, .d (.int .i64 ((d.begun.createD (ByteArray.mk #[97])).begun.appendE (ByteArray.mk #[97]) (List.replicate 12 0)))), (4, .d (.int .i64 (((d.begun.createD (ByteArray.mk #[97])).begun.appendD (ByteArray.mk #[97]) (List.replicate 12 0)).begun.appendE (ByteArray.mk #[97]) (List.replicate 5 0)))), (5, .d (.int .i64 ((((d.begun.createD (ByteArray.mk #[97])).begun.appendD (ByteArray.mk #[97]) (List.replicate 12 0)).begun.appendD (ByteArray.mk #[97]) (List.replicate 5 0)).begun.err true [ByteArray.mk #[97]]))), (6, .d (.int .i64 (((((d.begun.createD (ByteArray.mk #[97])).begun.appendD (ByteArray.mk #[97]) (List.replicate 12 0)).begun.appendD (ByteArray.mk #[97]) (List.replicate 5 0)).begun.syncD (ByteArray.mk #[97])).begun.appendE (ByteArray.mk #[97]) [1, 2]))), (7, .d (.int .i64 ((((((d.begun.createD (ByteArray.mk #[97])).begun.appendD (ByteArray.mk #[97]) (List.replicate 12 0)).begun.appendD (ByteArray.mk #[97]) (List.replicate 5 0)).begun.syncD (ByteArray.mk #[97])).begun.appendD (ByteArray.mk #[97]) [1, 2]).begun.err false []))), (31, .ptr 0 0 0)]) (σ' := [.cells [.row 1, .ptr 8 0 0, .ep 2 (D.agg [D.list 1 (List.map strD ((((((d.begun.createD (ByteArray.mk #[97])).begun.appendD (ByteArray.mk #[97]) (List.replicate 12 0)).begun.appendD (ByteArray.mk #[97]) (List.replicate 5 0)).begun.syncD (ByteArray.mk #[97])).begun.appendD (ByteArray.mk #[97]) [1, 2]).begun.syncDirD.crash 0 [1]).sk), D.list 1 (List.map intD ((((((d.begun.createD (ByteArray.mk #[97])).begun.appendD (ByteArray.mk #[97]) (List.replicate 12 0)).begun.appendD (ByteArray.mk #[97]) (List.replicate 5 0)).begun.syncD (ByteArray.mk #[97])).begun.appendD (ByteArray.mk #[97]) [1, 2]).begun.syncDirD.crash 0 [1]).sv)]) 0, .row 5, .d (.int .i64 ((((((d.begun.createD (ByteArray.mk #[97])).begun.appendD (ByteArray.mk #[97]) (List.replicate 12 0)).begun.appendD (ByteArray.mk #[97]) (List.replicate 5 0)).begun.syncD (ByteArray.mk #[97])).begun.appendD (ByteArray.mk #[97]) [1, 2]).begun.syncDirD.crash 0 [1]).quota), .d (.bool false), .d (.bool false), .d (.int .i64 ((((((d.begun.createD (ByteArray.mk #[97])).begun.appendD (ByteArray.mk #[97]) (List.replicate 12 0)).begun.appendD (ByteArray.mk #[97]) (List.replicate 5 0)).begun.syncD (ByteArray.mk #[97])).begun.appendD (ByteArray.mk #[97]) [1, 2]).begun.syncDirD.crash 0 [1]).stop), .d (.int .i64 ((((((d.begun.createD (ByteArray.mk #[97])).begun.appendD (ByteArray.mk #[97]) (List.replicate 12 0)).begun.appendD (ByteArray.mk #[97]) (List.replicate 5 0)).begun.syncD (ByteArray.mk #[97])).begun.appendD (ByteArray.mk #[97]) [1, 2]).begun.syncDirD.crash 0 [1]).calls)], .row 2 (List.map fileD ((((((d.begun.createD (ByteArray.mk #[97])).begun.appendD (ByteArray.mk #[97]) (List.replicate 12 0)).begun.appendD (ByteArray.mk #[97]) (List.replicate 5 0)).begun.syncD (ByteArray.mk #[97])).begun.appendD (ByteArray.mk #[97]) [1, 2]).begun.syncDirD.crash 0 [1]).files) true, .cells [.row 3, .row 4], .row 1 (List.map strD (((((d.begun.createD (ByteArray.mk #[97])).begun.appendD (ByteArray.mk #[97]) (List.replicate 12 0)).begun.appendD (ByteArray.mk #[97]) (List.replicate 5 0)).begun.syncD (ByteArray.mk #[97])).begun.appendD (ByteArray.mk #[97]) [1, 2]).begun.syncDirD.nk) true, .row 1 (List.map intD (((((d.begun.createD (ByteArray.mk #[97])).begun.appendD (ByteArray.mk #[97]) (List.replicate 12 0)).begun.appendD (ByteArray.mk #[97]) (List.replicate 5 0)).begun.syncD (ByteArray.mk #[97])).begun.appendD (ByteArray.mk #[97]) [1, 2]).begun.syncDirD.nv) true, .row 3 [] true, O.dead, O.dead, .cells [.row 9, .row 10], .row 1 (List.map strD ((((((d.begun.createD (ByteArray.mk #[97])).begun.appendD (ByteArray.mk #[97]) (List.replicate 12 0)).begun.appendD (ByteArray.mk #[97]) (List.replicate 5 0)).begun.syncD (ByteArray.mk #[97])).begun.appendD (ByteArray.mk #[97]) [1, 2]).begun.syncDirD.crash 0 [1]).nk) true, .row 1 (List.map intD ((((((d.begun.createD (ByteArray.mk #[97])).begun.appendD (ByteArray.mk #[97]) (List.replicate 12 0)).begun.appendD (ByteArray.mk #[97]) (List.replicate 5 0)).begun.syncD (ByteArray.mk #[97])).begun.appendD (ByteArray.mk #[97]) [1, 2]).begun.syncDirD.crash 0 [1]).nv) true]) (by kernel_rfl) ?_
  refine .callH (o := (opOf (cgo 37 [] [.code B30])).getD default) (x := (.func 27)) (args := #[(.tmp 31), (.const (Value.string (ByteArray.mk #[97])))]) (ts := #[40, 9]) (first := []) (cap := []) [0, 1, 8, 9, 10, 5] [.ptr 0 0 0, .d (.str (ByteArray.mk #[97]))] [.cells [.row 1, .ptr 2 0 0, .ep 2 (D.agg [D.list 1 (List.map strD ((((((d.begun.createD (ByteArray.mk #[97])).begun.appendD (ByteArray.mk #[97]) (List.replicate 12 0)).begun.appendD (ByteArray.mk #[97]) (List.replicate 5 0)).begun.syncD (ByteArray.mk #[97])).begun.appendD (ByteArray.mk #[97]) [1, 2]).begun.syncDirD.crash 0 [1]).sk), D.list 1 (List.map intD ((((((d.begun.createD (ByteArray.mk #[97])).begun.appendD (ByteArray.mk #[97]) (List.replicate 12 0)).begun.appendD (ByteArray.mk #[97]) (List.replicate 5 0)).begun.syncD (ByteArray.mk #[97])).begun.appendD (ByteArray.mk #[97]) [1, 2]).begun.syncDirD.crash 0 [1]).sv)]) 0, .row 5, .d (.int .i64 ((((((d.begun.createD (ByteArray.mk #[97])).begun.appendD (ByteArray.mk #[97]) (List.replicate 12 0)).begun.appendD (ByteArray.mk #[97]) (List.replicate 5 0)).begun.syncD (ByteArray.mk #[97])).begun.appendD (ByteArray.mk #[97]) [1, 2]).begun.syncDirD.crash 0 [1]).quota), .d (.bool false), .d (.bool false), .d (.int .i64 ((((((d.begun.createD (ByteArray.mk #[97])).begun.appendD (ByteArray.mk #[97]) (List.replicate 12 0)).begun.appendD (ByteArray.mk #[97]) (List.replicate 5 0)).begun.syncD (ByteArray.mk #[97])).begun.appendD (ByteArray.mk #[97]) [1, 2]).begun.syncDirD.crash 0 [1]).stop), .d (.int .i64 ((((((d.begun.createD (ByteArray.mk #[97])).begun.appendD (ByteArray.mk #[97]) (List.replicate 12 0)).begun.appendD (ByteArray.mk #[97]) (List.replicate 5 0)).begun.syncD (ByteArray.mk #[97])).begun.appendD (ByteArray.mk #[97]) [1, 2]).begun.syncDirD.crash 0 [1]).calls)], .row 2 (List.map fileD ((((((d.begun.createD (ByteArray.mk #[97])).begun.appendD (ByteArray.mk #[97]) (List.replicate 12 0)).begun.appendD (ByteArray.mk #[97]) (List.replicate 5 0)).begun.syncD (ByteArray.mk #[97])).begun.appendD (ByteArray.mk #[97]) [1, 2]).begun.syncDirD.crash 0 [1]).files) false, .cells [.row 3, .row 4], .row 1 (List.map strD ((((((d.begun.createD (ByteArray.mk #[97])).begun.appendD (ByteArray.mk #[97]) (List.replicate 12 0)).begun.appendD (ByteArray.mk #[97]) (List.replicate 5 0)).begun.syncD (ByteArray.mk #[97])).begun.appendD (ByteArray.mk #[97]) [1, 2]).begun.syncDirD.crash 0 [1]).nk) false, .row 1 (List.map intD ((((((d.begun.createD (ByteArray.mk #[97])).begun.appendD (ByteArray.mk #[97]) (List.replicate 12 0)).begun.appendD (ByteArray.mk #[97]) (List.replicate 5 0)).begun.syncD (ByteArray.mk #[97])).begun.appendD (ByteArray.mk #[97]) [1, 2]).begun.syncDirD.crash 0 [1]).nv) false, .row 3 [] false] F27 (@spec_27 ((((((d.begun.createD (ByteArray.mk #[97])).begun.appendD (ByteArray.mk #[97]) (List.replicate 12 0)).begun.appendD (ByteArray.mk #[97]) (List.replicate 5 0)).begun.syncD (ByteArray.mk #[97])).begun.appendD (ByteArray.mk #[97]) [1, 2]).begun.syncDirD.crash 0 [1]) (0 + 1 + 1 + 1 + 1 + 1 + 1 + 1) (by assumption) (ByteArray.mk #[97])) (by kernel_rfl) (by kernel_rfl) (T' := cgo 38 [] [.code B30]) (by kernel_rfl) (by kernel_rfl) (by kernel_rfl) (by kernel_rfl) (by kernel_rfl) ⟨rfl, rfl, by kernel_rfl⟩ ?_
  rintro r13 s13 ⟨rfl, rfl⟩
  refine ⟨_, rfl, ?_⟩
  refine .seg 7 [2, 3, 4, 5, 6, 7, 8, 9] (T' := cgo 45 [] [.code B30]) (tm' := mk 66 [(2, .d (.int .i64 (d.begun.createE (ByteArray.mk #[97])))), (3, .d (.int .i64 ((d.begun.createD (ByteArray.mk #[97])).begun.appendE (ByteArray.mk #[97]) (List.replicate 12 0)))), (4, .d (.int .i64 (((d.begun.createD (ByteArray.mk #[97])).begun.appendD (ByteArray.mk #[97]) (List.replicate 12 0)).begun.appendE (ByteArray.mk #[97]) (List.replicate 5 0)))), (5, .d (.int .i64 ((((d.begun.createD (ByteArray.mk #[97])).begun.appendD (ByteArray.mk #[97]) (List.replicate 12 0)).begun.appendD (ByteArray.mk #[97]) (List.replicate 5 0)).begun.err true [ByteArray.mk #[97]]))), (6, .d (.int .i64 (((((d.begun.createD (ByteArray.mk #[97])).begun.appendD (ByteArray.mk #[97]) (List.replicate 12 0)).begun.appendD (ByteArray.mk #[97]) (List.replicate 5 0)).begun.syncD (ByteArray.mk #[97])).begun.appendE (ByteArray.mk #[97]) [1, 2]))), (7, .d (.int .i64 ((((((d.begun.createD (ByteArray.mk #[97])).begun.appendD (ByteArray.mk #[97]) (List.replicate 12 0)).begun.appendD (ByteArray.mk #[97]) (List.replicate 5 0)).begun.syncD (ByteArray.mk #[97])).begun.appendD (ByteArray.mk #[97]) [1, 2]).begun.err false []))), (8, .d (if (look ((((((d.begun.createD (ByteArray.mk #[97])).begun.appendD (ByteArray.mk #[97]) (List.replicate 12 0)).begun.appendD (ByteArray.mk #[97]) (List.replicate 5 0)).begun.syncD (ByteArray.mk #[97])).begun.appendD (ByteArray.mk #[97]) [1, 2]).begun.syncDirD.crash 0 [1]).nk ((((((d.begun.createD (ByteArray.mk #[97])).begun.appendD (ByteArray.mk #[97]) (List.replicate 12 0)).begun.appendD (ByteArray.mk #[97]) (List.replicate 5 0)).begun.syncD (ByteArray.mk #[97])).begun.appendD (ByteArray.mk #[97]) [1, 2]).begun.syncDirD.crash 0 [1]).nv (ByteArray.mk #[97])).isSome = true then bsD (((((((d.begun.createD (ByteArray.mk #[97])).begun.appendD (ByteArray.mk #[97]) (List.replicate 12 0)).begun.appendD (ByteArray.mk #[97]) (List.replicate 5 0)).begun.syncD (ByteArray.mk #[97])).begun.appendD (ByteArray.mk #[97]) [1, 2]).begun.syncDirD.crash 0 [1]).file (((((((d.begun.createD (ByteArray.mk #[97])).begun.appendD (ByteArray.mk #[97]) (List.replicate 12 0)).begun.appendD (ByteArray.mk #[97]) (List.replicate 5 0)).begun.syncD (ByteArray.mk #[97])).begun.appendD (ByteArray.mk #[97]) [1, 2]).begun.syncDirD.crash 0 [1]).num (ByteArray.mk #[97]))).fst else D.list 1 [])), (9, .d (.int .i64 (if (look ((((((d.begun.createD (ByteArray.mk #[97])).begun.appendD (ByteArray.mk #[97]) (List.replicate 12 0)).begun.appendD (ByteArray.mk #[97]) (List.replicate 5 0)).begun.syncD (ByteArray.mk #[97])).begun.appendD (ByteArray.mk #[97]) [1, 2]).begun.syncDirD.crash 0 [1]).nk ((((((d.begun.createD (ByteArray.mk #[97])).begun.appendD (ByteArray.mk #[97]) (List.replicate 12 0)).begun.appendD (ByteArray.mk #[97]) (List.replicate 5 0)).begun.syncD (ByteArray.mk #[97])).begun.appendD (ByteArray.mk #[97]) [1, 2]).begun.syncDirD.crash 0 [1]).nv (ByteArray.mk #[97])).isSome = true then 0 else 3)))]) (σ' := [.cells [.row 1, .ptr 8 0 0, .ep 2 (D.agg [D.list 1 (List.map strD ((((((d.begun.createD (ByteArray.mk #[97])).begun.appendD (ByteArray.mk #[97]) (List.replicate 12 0)).begun.appendD (ByteArray.mk #[97]) (List.replicate 5 0)).begun.syncD (ByteArray.mk #[97])).begun.appendD (ByteArray.mk #[97]) [1, 2]).begun.syncDirD.crash 0 [1]).sk), D.list 1 (List.map intD ((((((d.begun.createD (ByteArray.mk #[97])).begun.appendD (ByteArray.mk #[97]) (List.replicate 12 0)).begun.appendD (ByteArray.mk #[97]) (List.replicate 5 0)).begun.syncD (ByteArray.mk #[97])).begun.appendD (ByteArray.mk #[97]) [1, 2]).begun.syncDirD.crash 0 [1]).sv)]) 0, .row 5, .d (.int .i64 ((((((d.begun.createD (ByteArray.mk #[97])).begun.appendD (ByteArray.mk #[97]) (List.replicate 12 0)).begun.appendD (ByteArray.mk #[97]) (List.replicate 5 0)).begun.syncD (ByteArray.mk #[97])).begun.appendD (ByteArray.mk #[97]) [1, 2]).begun.syncDirD.crash 0 [1]).quota), .d (.bool false), .d (.bool false), .d (.int .i64 ((((((d.begun.createD (ByteArray.mk #[97])).begun.appendD (ByteArray.mk #[97]) (List.replicate 12 0)).begun.appendD (ByteArray.mk #[97]) (List.replicate 5 0)).begun.syncD (ByteArray.mk #[97])).begun.appendD (ByteArray.mk #[97]) [1, 2]).begun.syncDirD.crash 0 [1]).stop), .d (.int .i64 ((((((d.begun.createD (ByteArray.mk #[97])).begun.appendD (ByteArray.mk #[97]) (List.replicate 12 0)).begun.appendD (ByteArray.mk #[97]) (List.replicate 5 0)).begun.syncD (ByteArray.mk #[97])).begun.appendD (ByteArray.mk #[97]) [1, 2]).begun.syncDirD.crash 0 [1]).calls)], .row 2 (List.map fileD ((((((d.begun.createD (ByteArray.mk #[97])).begun.appendD (ByteArray.mk #[97]) (List.replicate 12 0)).begun.appendD (ByteArray.mk #[97]) (List.replicate 5 0)).begun.syncD (ByteArray.mk #[97])).begun.appendD (ByteArray.mk #[97]) [1, 2]).begun.syncDirD.crash 0 [1]).files) true, .cells [.row 3, .row 4], .row 1 (List.map strD (((((d.begun.createD (ByteArray.mk #[97])).begun.appendD (ByteArray.mk #[97]) (List.replicate 12 0)).begun.appendD (ByteArray.mk #[97]) (List.replicate 5 0)).begun.syncD (ByteArray.mk #[97])).begun.appendD (ByteArray.mk #[97]) [1, 2]).begun.syncDirD.nk) true, .row 1 (List.map intD (((((d.begun.createD (ByteArray.mk #[97])).begun.appendD (ByteArray.mk #[97]) (List.replicate 12 0)).begun.appendD (ByteArray.mk #[97]) (List.replicate 5 0)).begun.syncD (ByteArray.mk #[97])).begun.appendD (ByteArray.mk #[97]) [1, 2]).begun.syncDirD.nv) true, .row 3 [] true, O.dead, O.dead, .cells [.row 9, .row 10], .row 1 (List.map strD ((((((d.begun.createD (ByteArray.mk #[97])).begun.appendD (ByteArray.mk #[97]) (List.replicate 12 0)).begun.appendD (ByteArray.mk #[97]) (List.replicate 5 0)).begun.syncD (ByteArray.mk #[97])).begun.appendD (ByteArray.mk #[97]) [1, 2]).begun.syncDirD.crash 0 [1]).nk) true, .row 1 (List.map intD ((((((d.begun.createD (ByteArray.mk #[97])).begun.appendD (ByteArray.mk #[97]) (List.replicate 12 0)).begun.appendD (ByteArray.mk #[97]) (List.replicate 5 0)).begun.syncD (ByteArray.mk #[97])).begun.appendD (ByteArray.mk #[97]) [1, 2]).begun.syncDirD.crash 0 [1]).nv) true]) (by kernel_rfl) ?_
  subst hd
  refine .goes [2, 3, 4, 5, 6, 7, 8, 9] (tm' := mk 66 [(2, .d (.int .i64 0)), (3, .d (.int .i64 4)), (4, .d (.int .i64 0)), (5, .d (.int .i64 0)), (6, .d (.int .i64 0)), (7, .d (.int .i64 0)), (8, .d (bsD [0, 0, 0, 0, 0, 1])), (9, .d (.int .i64 0))]) rfl (by kernel_rfl) rfl ?_
  refine .seg 34 [0] (T' := cgo 79 [] [.code B30]) (tm' := mk 66 [(0, .d (.bool true))]) (σ' := [.cells [.row 1, .ptr 8 0 0, .ep 2 (D.agg [D.list 1 [D.str (ByteArray.mk #[97])], D.list 1 [D.int IntKind.i64 0]]) 0, .row 5, .d (.int .i64 10), .d (.bool false), .d (.bool false), .d (.int .i64 (-1)), .d (.int .i64 6)], .row 2 [D.agg [D.list 1 [D.int IntKind.u8 0, D.int IntKind.u8 0, D.int IntKind.u8 0, D.int IntKind.u8 0, D.int IntKind.u8 0, D.int IntKind.u8 1], D.int IntKind.i64 6]] true, .cells [.row 3, .row 4], .row 1 [D.str (ByteArray.mk #[97])] true, .row 1 [D.int IntKind.i64 0] true, .row 3 [] true, O.dead, O.dead, .cells [.row 9, .row 10], .row 1 [D.str (ByteArray.mk #[97])] true, .row 1 [D.int IntKind.i64 0] true]) (by kernel_rfl) ?_
  refine .keeps [0] (tm' := mk 66 [(0, .d (.bool true))]) (by kernel_rfl) ?_
  refine .sub [] (mk 66 [(0, .d (.bool true))]) [] none [] ⟨rfl, rfl, by kernel_rfl⟩ (by kernel_rfl) ⟨Nat.le_of_ble_eq_true (by kernel_rfl), by kernel_rfl⟩ (by kernel_rfl) ⟨by kernel_rfl, by kernel_rfl⟩ ⟨rfl, rfl⟩ ?_
  refine .retH F30 (v := V.d (D.bool true)) (by kernel_rfl) (by kernel_rfl) ?_
  exact rfl
theorem spec_30 : Br.Pure Try.prog 30 [] (.d (.bool true)) := by
  refine CallsA.pure ?_ rfl
  refine CallsA.start F30 (tm := mk (Try.f30.ntmps) []) (by kernel_rfl) ?_
  refine .seg 6 [0] (T' := cgo 6 [] [.code B30]) (tm' := mk 66 [(0, .d (.bool false))]) (σ' := []) (by kernel_rfl) ?_
  refine .callH (o := (opOf (cgo 6 [] [.code B30])).getD default) (x := (.func 25)) (args := #[(.const (Value.int IntKind.i64 10))]) (ts := #[3]) (first := []) (cap := []) [] [.d (.int .i64 10)] [] F25 (@spec_25 (10)) (by kernel_rfl) (by kernel_rfl) (T' := cgo 7 [] [.code B30]) (by kernel_rfl) (by kernel_rfl) (by kernel_rfl) (by kernel_rfl) (by kernel_rfl) ⟨rfl, rfl, by kernel_rfl⟩ ?_
  rintro r0 s0 ⟨rfl, rfl⟩
  refine ⟨_, rfl, ?_⟩
  refine .seg 2 [0, 1] (T' := cgo 9 [] [.code B30]) (tm' := mk 66 [(0, .d (.bool false)), (1, .ptr 0 0 0)]) (σ' := [.cells [.row 1, .ptr 2 0 0, .ep 2 (D.agg [D.list 1 [], D.list 1 []]) 0, .row 5, .d (.int .i64 10), .d (.bool false), .d (.bool false), .d (.int .i64 (-1)), .d (.int .i64 0)], .row 2 [] true, .cells [.row 3, .row 4], .row 1 [] true, .row 1 [] true, .row 3 [] true]) (by kernel_rfl) ?_
  exact .goes [1] (by kernel_rfl) (by kernel_rfl) (by kernel_rfl) (lv30 (Dk.new 10) rfl)
end Go.Proofs.Ytoelkgbeefoplaa

namespace Go.Proofs.Ytoelkgbeefoplaa
open Go Go.Br Go.Proofs
theorem pos_at {ks : List ByteArray} {x : ByteArray} (hr : Rising ks) {i : Nat} (h : ks[i]? = some x) : pos ks x = i := by
  obtain ⟨hi, rfl⟩ := List.getElem?_eq_some_iff.1 h
  have hp := pos_le ks ks[i]
  rcases Nat.lt_trichotomy (pos ks ks[i]) i with h1 | h1 | h1
  · have h2 := pos_high hr (Nat.le_refl (pos ks ks[i])) (by omega)
    have h3 := List.pairwise_iff_getElem.1 hr (pos ks ks[i]) i (by omega) hi h1
    rw [h2] at h3; cases h3
  · exact h1
  · have h2 := pos_low h1 hi
    rw [lt_irrefl] at h2; cases h2
theorem look_iff {ks : List ByteArray} {V2 : List Int} (hr : Rising ks) {x : ByteArray} {v : Int} : look ks V2 x = some v ↔ ∃ i : Nat, ks[i]? = some x ∧ V2[i]? = some v := by
  constructor
  · intro h
    unfold look at h
    split at h
    · exact ⟨_, by assumption, h⟩
    · cases h
  · rintro ⟨i, h1, h2⟩
    have hp := pos_at hr h1
    unfold look
    rw [hp, if_pos h1, h2]
theorem look_ext {o o' : Option Int} (h : ∀ v, o = some v ↔ o' = some v) : o = o' := by
  cases o with
  | none =>
    cases o' with
    | none => rfl
    | some v => exact absurd ((h v).2 rfl) (by simp)
  | some v => exact ((h v).1 rfl).symm
theorem ins_get {α : Type} (l : List α) (p : Nat) (x : α) (hp : p ≤ l.length) (i : Nat) : (l.take p ++ x :: l.drop p)[i]? = if i < p then l[i]? else if i = p then some x else l[i - 1]? := by
  have hlen : (l.take p).length = p := by simp; omega
  by_cases h1 : i < p
  · rw [if_pos h1, List.getElem?_append_left (by omega), List.getElem?_take, if_pos h1]
  · rw [if_neg h1, List.getElem?_append_right (by omega), hlen]
    by_cases h2 : i = p
    · rw [if_pos h2, h2, Nat.sub_self]; rfl
    · rw [if_neg h2]
      obtain ⟨j, rfl⟩ : ∃ j, i = p + 1 + j := ⟨i - p - 1, by omega⟩
      rw [show p + 1 + j - p = j + 1 by omega, List.getElem?_cons_succ, List.getElem?_drop, show p + 1 + j - 1 = p + j by omega]
theorem at_inj {ks : List ByteArray} (hr : Rising ks) {i j : Nat} {x : ByteArray} (h : ks[i]? = some x) (h' : ks[j]? = some x) : i = j := by
  rw [← pos_at hr h, ← pos_at hr h']
theorem put_at {ks : List ByteArray} {V2 : List Int} (hr : Rising ks) (hv : V2.length = ks.length) (x : ByteArray) (y : Int) (z : ByteArray) (v : Int) :
    (∃ i : Nat, (kput ks V2 x y).1[i]? = some z ∧ (kput ks V2 x y).2[i]? = some v) ↔ (z = x ∧ v = y) ∨ (z ≠ x ∧ ∃ i : Nat, ks[i]? = some z ∧ V2[i]? = some v) := by
  have hp := pos_le ks x
  unfold kput
  split
  · rename_i hk
    have hpl : pos ks x < V2.length := by have := (List.getElem?_eq_some_iff.1 hk).1; omega
    constructor
    · rintro ⟨i, h1, h2⟩
      dsimp only at h1 h2
      rw [List.getElem?_set] at h2
      by_cases h3 : pos ks x = i
      · subst h3
        rw [if_pos rfl, if_pos hpl] at h2
        rw [hk] at h1
        cases h1; cases h2
        exact .inl ⟨rfl, rfl⟩
      · rw [if_neg h3] at h2
        refine .inr ⟨?_, i, h1, h2⟩
        rintro rfl
        exact h3 (at_inj hr hk h1)
    · rintro (⟨rfl, rfl⟩ | ⟨h0, i, h1, h2⟩)
      · exact ⟨pos ks z, hk, by rw [List.getElem?_set_self hpl]⟩
      · refine ⟨i, h1, ?_⟩
        rw [List.getElem?_set, if_neg, h2]
        rintro rfl
        rw [hk] at h1; cases h1; exact h0 rfl
  · rename_i hk
    have hno : ∀ i : Nat, ks[i]? ≠ some x := fun i h => hk (by rw [pos_at hr h]; exact h)
    constructor
    · rintro ⟨i, h1, h2⟩
      dsimp only at h1 h2
      rw [ins_get _ _ _ hp] at h1
      rw [ins_get _ _ _ (by omega)] at h2
      by_cases h3 : i < pos ks x
      · rw [if_pos h3] at h1 h2
        exact .inr ⟨fun e => hno i (by rw [← e]; exact h1), i, h1, h2⟩
      · rw [if_neg h3] at h1 h2
        by_cases h4 : i = pos ks x
        · rw [if_pos h4] at h1 h2
          cases h1; cases h2; exact .inl ⟨rfl, rfl⟩
        · rw [if_neg h4] at h1 h2
          exact .inr ⟨fun e => hno (i - 1) (by rw [← e]; exact h1), i - 1, h1, h2⟩
    · rintro (⟨rfl, rfl⟩ | ⟨h0, i, h1, h2⟩)
      · refine ⟨pos ks z, ?_, ?_⟩
        · rw [ins_get _ _ _ hp, if_neg (by omega), if_pos rfl]
        · rw [ins_get _ _ _ (by omega), if_neg (by omega), if_pos rfl]
      · by_cases h3 : i < pos ks x
        · refine ⟨i, ?_, ?_⟩
          · rw [ins_get _ _ _ hp, if_pos h3, h1]
          · rw [ins_get _ _ _ (by omega), if_pos h3, h2]
        · refine ⟨i + 1, ?_, ?_⟩
          · rw [ins_get _ _ _ hp, if_neg (by omega), if_neg (by omega)]; exact h1
          · rw [ins_get _ _ _ (by omega), if_neg (by omega), if_neg (by omega)]; exact h2
theorem drop_at {ks : List ByteArray} {V2 : List Int} (hr : Rising ks) (x z : ByteArray) (v : Int) :
    (∃ i : Nat, (kdrop ks V2 x).1[i]? = some z ∧ (kdrop ks V2 x).2[i]? = some v) ↔ (z ≠ x ∧ ∃ i : Nat, ks[i]? = some z ∧ V2[i]? = some v) := by
  unfold kdrop
  split
  · rename_i hk
    constructor
    · rintro ⟨i, h1, h2⟩
      dsimp only at h1 h2
      rw [List.getElem?_eraseIdx] at h1 h2
      by_cases h3 : i < pos ks x
      · rw [if_pos h3] at h1 h2
        refine ⟨?_, i, h1, h2⟩
        rintro rfl
        have := at_inj hr hk h1; omega
      · rw [if_neg h3] at h1 h2
        refine ⟨?_, i + 1, h1, h2⟩
        rintro rfl
        have := at_inj hr hk h1; omega
    · rintro ⟨h0, i, h1, h2⟩
      have h3 : i ≠ pos ks x := by
        rintro rfl
        rw [hk] at h1; cases h1; exact h0 rfl
      by_cases h4 : i < pos ks x
      · exact ⟨i, by dsimp only; rw [List.getElem?_eraseIdx, if_pos h4, h1], by dsimp only; rw [List.getElem?_eraseIdx, if_pos h4, h2]⟩
      · refine ⟨i - 1, ?_, ?_⟩
        · dsimp only; rw [List.getElem?_eraseIdx, if_neg (by omega), show i - 1 + 1 = i by omega, h1]
        · dsimp only; rw [List.getElem?_eraseIdx, if_neg (by omega), show i - 1 + 1 = i by omega, h2]
  · rename_i hk
    have hno : ∀ i : Nat, ks[i]? ≠ some x := fun i h => hk (by rw [pos_at hr h]; exact h)
    constructor
    · rintro ⟨i, h1, h2⟩
      exact ⟨fun e => hno i (by rw [← e]; exact h1), i, h1, h2⟩
    · rintro ⟨_, h⟩; exact h
theorem look_put {ks : List ByteArray} {V2 : List Int} (hr : Rising ks) (hv : V2.length = ks.length) (x : ByteArray) (y : Int) (z : ByteArray) : look (kput ks V2 x y).1 (kput ks V2 x y).2 z = if z = x then some y else look ks V2 z := by
  apply look_ext
  intro v
  rw [look_iff (kput_rising hr), put_at hr hv]
  by_cases h : z = x
  · rw [if_pos h]
    constructor
    · rintro (⟨_, rfl⟩ | ⟨h0, _⟩)
      · rfl
      · exact absurd h h0
    · intro e; cases e; exact .inl ⟨h, rfl⟩
  · rw [if_neg h, look_iff hr]
    constructor
    · rintro (⟨h0, _⟩ | ⟨_, h1⟩)
      · exact absurd h0 h
      · exact h1
    · exact fun h1 => .inr ⟨h, h1⟩
theorem look_drop {ks : List ByteArray} {V2 : List Int} (hr : Rising ks) (x z : ByteArray) : look (kdrop ks V2 x).1 (kdrop ks V2 x).2 z = if z = x then none else look ks V2 z := by
  apply look_ext
  intro v
  rw [look_iff (kdrop_rising hr), drop_at hr]
  by_cases h : z = x
  · rw [if_pos h]
    constructor
    · rintro ⟨h0, _⟩; exact absurd h h0
    · intro e; cases e
  · rw [if_neg h, look_iff hr]
    constructor
    · rintro ⟨_, h1⟩; exact h1
    · exact fun h1 => ⟨h, h1⟩
/-- What a directory says behind a change. -/
theorem look_apply {ks : List ByteArray} {V2 : List Int} (hr : Rising ks) (hv : V2.length = ks.length) (g n : ByteArray) (k : Int) (z : ByteArray) : look (kapply ks V2 g n k).1 (kapply ks V2 g n k).2 z = if n.size ≠ 0 ∧ z = n then some k else if g.size ≠ 0 ∧ z = g then none else look ks V2 z := by
  unfold kapply
  dsimp only
  by_cases h1 : g.size = 0 <;> by_cases h2 : n.size = 0
  · simp only [h1, h2, if_true, ne_eq, not_true_eq_false, false_and, if_false]
  · simp only [h1, h2, if_true, if_false, ne_eq, not_true_eq_false, not_false_eq_true, false_and, true_and]
    rw [look_put hr hv]
  · simp only [h1, h2, if_true, if_false, ne_eq, not_true_eq_false, not_false_eq_true, false_and, true_and]
    rw [look_drop hr]
  · simp only [h1, h2, if_false, ne_eq, not_false_eq_true, true_and]
    rw [look_put (kdrop_rising hr) (kdrop_len hv), look_drop hr]
end Go.Proofs.Ytoelkgbeefoplaa

namespace Go.Proofs.Ytoelkgbeefoplaa
open Go Go.Br Go.Proofs
set_option linter.unusedSimpArgs false
noncomputable def B6 : Code := (Try.f6.body).getD .skip
theorem F6 : Fnc Try.prog 6 Try.f6 B6 := ⟨Try.func6, by kernel_rfl, by kernel_rfl⟩
theorem nm6 (d : Dk) (hd : d = Dk.new 0) (s : ByteArray) (hs : s.size ≤ 3000) :
    AW Try.prog 6 none 0 (cgo 19 [] [Item.code B6]) (mk 44 [(0, .d (.str s)), (3, .ptr 0 0 0)]) (SD d true) [] fun r _ => r = .ret (.d (.bool true)) := by
  have h0 : d.Ok 0 := hd ▸ Dk.new_ok (by decide)
  have h1 := Dk.createD_ok (Dk.begun_ok h0 (by omega)) (by omega) s
  have hs1 : s.size < 1000000000 := by omega
  have hs2 : s.size < 9223372036854775807 := by omega
  have hb : d.begun = { Dk.new 0 with calls := 1 } := by subst hd; rfl
  have hl0 : look d.begun.nk d.begun.nv s = none := by rw [hb]; simp [look, Dk.new]
  have heq : d.begun.createE s = if mayName s then 0 else 1 := by
    unfold Dk.createE Dk.err
    rw [hl0, hb]
    cases hm : mayName s <;> simp [Dk.new, hm]
  cases hm : mayName s with
  | true =>
    have e1 : d.begun.createE s = 0 := by rw [heq, hm]; rfl
    have e2 : (look (d.begun.createD s).nk (d.begun.createD s).nv s).isSome = true := by
      have hsz : s.size ≠ 0 := by
        simp only [mayName, Bool.and_eq_true, decide_eq_true_eq] at hm
        omega
      have e0 : d.begun.createD s = ({ d.begun with files := d.begun.files ++ [([], 0)] } : Dk).turn noName s d.begun.files.length := by simp [Dk.createD, e1]
      rw [e0]
      have hk := Dk.begun_ok h0 (by omega : 0 + 1 ≤ 50000)
      show (look (kapply d.begun.nk d.begun.nv noName s d.begun.files.length).1 (kapply d.begun.nk d.begun.nv noName s d.begun.files.length).2 s).isSome = true
      rw [look_apply hk.nr hk.nl, if_pos ⟨hsz, rfl⟩]; rfl
    clear hb heq hl0 hd
    refine .seg 3 [0, 3, 13, 14] (T' := cgo 22 [] [.code B6]) (tm' := mk 44 [(0, .d (.str s)), (3, .ptr 0 0 0), (13, .ptr 0 0 0), (14, .d (.str s))]) (σ' := (SP 1 2 d true [])) (by kernel_rfl) ?_
    refine .callH (o := (opOf (cgo 22 [] [.code B6])).getD default) (x := (.func 26)) (args := #[(.tmp 13), (.tmp 14)]) (ts := #[40, 9]) (first := []) (cap := []) [0, 1, 2, 3, 4, 5] [.ptr 0 0 0, .d (.str s)] (SP 1 2 d false []) F26 (@spec_26 (d) (0) (by assumption) (by omega) (s) (by assumption)) (by kernel_rfl) (by kernel_rfl) (T' := cgo 23 [] [.code B6]) (by kernel_rfl) (by kernel_rfl) (by kernel_rfl) (by kernel_rfl) (by kernel_rfl) ⟨rfl, rfl, by kernel_rfl⟩ ?_
    rintro r0 s0 ⟨rfl, rfl⟩
    refine ⟨_, rfl, ?_⟩
    refine .seg 6 [0, 3, 4, 17, 18] (T' := cgo 29 [] [.code B6]) (tm' := mk 44 [(0, .d (.str s)), (3, .ptr 0 0 0), (4, .d (.int .i64 (d.begun.createE s))), (17, .ptr 0 0 0), (18, .d (.str s))]) (σ' := (SP 1 2 (d.begun.createD s) true [])) (by kernel_rfl) ?_
    refine .callH (o := (opOf (cgo 29 [] [.code B6])).getD default) (x := (.func 27)) (args := #[(.tmp 17), (.tmp 18)]) (ts := #[40, 9]) (first := []) (cap := []) [0, 1, 2, 3, 4, 5] [.ptr 0 0 0, .d (.str s)] (SP 1 2 (d.begun.createD s) false []) F27 (@spec_27 (d.begun.createD s) (0 + 1 + 1) (by assumption) (s)) (by kernel_rfl) (by kernel_rfl) (T' := cgo 30 [] [.code B6]) (by kernel_rfl) (by kernel_rfl) (by kernel_rfl) (by kernel_rfl) (by kernel_rfl) ⟨rfl, rfl, by kernel_rfl⟩ ?_
    rintro r1 s1 ⟨rfl, rfl⟩
    refine ⟨_, rfl, ?_⟩
    refine .seg 6 [0, 4, 6] (T' := cgo 36 [] [.code B6]) (tm' := mk 44 [(0, .d (.str s)), (4, .d (.int .i64 (d.begun.createE s))), (6, .d (.int .i64 (if (look (d.begun.createD s).nk (d.begun.createD s).nv s).isSome = true then 0 else 3)))]) (σ' := (SP 1 2 (d.begun.createD s) true [])) (by kernel_rfl) ?_
    rw [e1, e2]
    refine .seg 3 [0, 4, 6, 22] (T' := cgo 39 [] [.code B6]) (tm' := mk 44 [(0, .d (.str s)), (4, .d (.int .i64 0)), (6, .d (.int .i64 0)), (22, .d (.str s))]) (σ' := (SP 1 2 (d.begun.createD s) true [])) (by kernel_rfl) ?_
    refine .semH (o := (opOf (cgo 39 [] [Item.code B6])).getD default) (v := V.d (D.bool (mayName s))) (σ' := (SP 1 2 (d.begun.createD s) true [])) (by kernel_rfl) (by kernel_rfl) (T' := cgo 40 [] [Item.code B6]) (by kernel_rfl) (fun kz => sem_data0 (x := (.func 28)) (args := #[(.tmp 22)]) (ts := #[9]) (first := []) (cap := []) (ds := [V.d (D.str s)]) (v := V.d (D.bool (mayName s))) F28 (@spec_28 (s) (by assumption)) (by kernel_rfl) (by kernel_rfl) (by kernel_rfl) (by kernel_rfl) (by kernel_rfl) (by kernel_rfl) _) ?_
    refine .seg 1 [0, 4, 6, 22, 23, 24] (T' := cgo 41 [] [.code B6]) (tm' := mk 44 [(0, .d (.str s)), (4, .d (.int .i64 0)), (6, .d (.int .i64 0)), (22, .d (.str s)), (23, .d (.bool (mayName s))), (24, .d (.str s))]) (σ' := (SP 1 2 (d.begun.createD s) true [])) (by kernel_rfl) ?_
    refine .semH (o := (opOf (cgo 41 [] [Item.code B6])).getD default) (v := V.d (D.bool (mayName s))) (σ' := (SP 1 2 (d.begun.createD s) true [])) (by kernel_rfl) (by kernel_rfl) (T' := cgo 42 [] [Item.code B6]) (by kernel_rfl) (fun kz => sem_data0 (x := (.func 29)) (args := #[(.tmp 24)]) (ts := #[9]) (first := []) (cap := []) (ds := [V.d (D.str s)]) (v := V.d (D.bool (mayName s))) F29 (@spec_29 (s) (by assumption)) (by kernel_rfl) (by kernel_rfl) (by kernel_rfl) (by kernel_rfl) (by kernel_rfl) (by kernel_rfl) _) ?_
    refine .seg 2 [0, 4, 6, 22, 23, 24, 25, 26, 27] (T' := cgo 44 [] [.code B6]) (tm' := mk 44 [(0, .d (.str s)), (4, .d (.int .i64 0)), (6, .d (.int .i64 0)), (22, .d (.str s)), (23, .d (.bool (mayName s))), (24, .d (.str s)), (25, .d (.bool (mayName s))), (26, .d (.bool (mayName s == mayName s))), (27, .d (.bool (mayName s == mayName s)))]) (σ' := (SP 1 2 (d.begun.createD s) true [])) (by kernel_rfl) ?_
    rcases Bool.eq_false_or_eq_true (mayName s == mayName s) with h2 | h2
    · rw [h2]
      simp only [decide_eq_true_eq, decide_eq_false_iff_not, beq_iff_eq, bne_iff_ne, beq_eq_false_iff_ne, bne_eq_false_iff_eq, Bool.not_eq_true', Bool.not_eq_false', ne_eq, Decidable.not_not, Bool.not_eq_true, Bool.not_eq_false] at h2
      refine .seg 3 [0, 4, 6, 22, 23, 24, 25, 26, 27, 28, 29, 30] (T' := cgo 47 [] [.code B6]) (tm' := mk 44 [(0, .d (.str s)), (4, .d (.int .i64 0)), (6, .d (.int .i64 0)), (22, .d (.str s)), (23, .d (.bool (mayName s))), (24, .d (.str s)), (25, .d (.bool (mayName s))), (26, .d (.bool true)), (27, .d (.bool true)), (28, .d (.int .i64 0)), (29, .d (.bool true)), (30, .d (.str s))]) (σ' := (SP 1 2 (d.begun.createD s) true [])) (by kernel_rfl) ?_
      refine .semH (o := (opOf (cgo 47 [] [Item.code B6])).getD default) (v := V.d (D.bool (mayName s))) (σ' := (SP 1 2 (d.begun.createD s) true [])) (by kernel_rfl) (by kernel_rfl) (T' := cgo 48 [] [Item.code B6]) (by kernel_rfl) (fun kz => sem_data0 (x := (.func 29)) (args := #[(.tmp 30)]) (ts := #[9]) (first := []) (cap := []) (ds := [V.d (D.str s)]) (v := V.d (D.bool (mayName s))) F29 (@spec_29 (s) (by assumption)) (by kernel_rfl) (by kernel_rfl) (by kernel_rfl) (by kernel_rfl) (by kernel_rfl) (by kernel_rfl) _) ?_
      refine .seg 3 [0, 4, 6, 22, 23, 24, 25, 26, 27, 28, 29, 30, 31, 32, 33, 34] (T' := cgo 51 [] [.code B6]) (tm' := mk 44 [(0, .d (.str s)), (4, .d (.int .i64 0)), (6, .d (.int .i64 0)), (22, .d (.str s)), (23, .d (.bool (mayName s))), (24, .d (.str s)), (25, .d (.bool (mayName s))), (26, .d (.bool true)), (27, .d (.bool true)), (28, .d (.int .i64 0)), (29, .d (.bool true)), (30, .d (.str s)), (31, .d (.bool (mayName s))), (32, .d (.bool (true == mayName s))), (33, .d (.bool (true == mayName s))), (34, .d (.bool (true == mayName s)))]) (σ' := (SP 1 2 (d.begun.createD s) true [])) (by kernel_rfl) ?_
      rcases Bool.eq_false_or_eq_true (true == mayName s) with h3 | h3
      · rw [h3]
        simp only [decide_eq_true_eq, decide_eq_false_iff_not, beq_iff_eq, bne_iff_ne, beq_eq_false_iff_ne, bne_eq_false_iff_eq, Bool.not_eq_true', Bool.not_eq_false', ne_eq, Decidable.not_not, Bool.not_eq_true, Bool.not_eq_false] at h3
        refine .seg 3 [0, 4, 6, 22, 23, 24, 25, 26, 27, 28, 29, 30, 31, 32, 33, 34, 35, 36, 37] (T' := cgo 54 [] [.code B6]) (tm' := mk 44 [(0, .d (.str s)), (4, .d (.int .i64 0)), (6, .d (.int .i64 0)), (22, .d (.str s)), (23, .d (.bool (mayName s))), (24, .d (.str s)), (25, .d (.bool (mayName s))), (26, .d (.bool true)), (27, .d (.bool true)), (28, .d (.int .i64 0)), (29, .d (.bool true)), (30, .d (.str s)), (31, .d (.bool (mayName s))), (32, .d (.bool true)), (33, .d (.bool true)), (34, .d (.bool true)), (35, .d (.int .i64 0)), (36, .d (.bool true)), (37, .d (.str s))]) (σ' := (SP 1 2 (d.begun.createD s) true [])) (by kernel_rfl) ?_
        refine .semH (o := (opOf (cgo 54 [] [Item.code B6])).getD default) (v := V.d (D.bool (mayName s))) (σ' := (SP 1 2 (d.begun.createD s) true [])) (by kernel_rfl) (by kernel_rfl) (T' := cgo 55 [] [Item.code B6]) (by kernel_rfl) (fun kz => sem_data0 (x := (.func 29)) (args := #[(.tmp 37)]) (ts := #[9]) (first := []) (cap := []) (ds := [V.d (D.str s)]) (v := V.d (D.bool (mayName s))) F29 (@spec_29 (s) (by assumption)) (by kernel_rfl) (by kernel_rfl) (by kernel_rfl) (by kernel_rfl) (by kernel_rfl) (by kernel_rfl) _) ?_
        refine .seg 3 [0, 4, 6, 22, 23, 24, 25, 26, 27, 28, 29, 30, 31, 32, 33, 34, 35, 36, 37, 38, 39, 40, 41] (T' := cgo 58 [] [.code B6]) (tm' := mk 44 [(0, .d (.str s)), (4, .d (.int .i64 0)), (6, .d (.int .i64 0)), (22, .d (.str s)), (23, .d (.bool (mayName s))), (24, .d (.str s)), (25, .d (.bool (mayName s))), (26, .d (.bool true)), (27, .d (.bool true)), (28, .d (.int .i64 0)), (29, .d (.bool true)), (30, .d (.str s)), (31, .d (.bool (mayName s))), (32, .d (.bool true)), (33, .d (.bool true)), (34, .d (.bool true)), (35, .d (.int .i64 0)), (36, .d (.bool true)), (37, .d (.str s)), (38, .d (.bool (mayName s))), (39, .d (.bool (true == mayName s))), (40, .d (.bool (true == mayName s))), (41, .d (.bool (true == mayName s)))]) (σ' := (SP 1 2 (d.begun.createD s) true [])) (by kernel_rfl) ?_
        rcases Bool.eq_false_or_eq_true (true == mayName s) with h4 | h4
        · rw [h4]
          simp only [decide_eq_true_eq, decide_eq_false_iff_not, beq_iff_eq, bne_iff_ne, beq_eq_false_iff_ne, bne_eq_false_iff_eq, Bool.not_eq_true', Bool.not_eq_false', ne_eq, Decidable.not_not, Bool.not_eq_true, Bool.not_eq_false] at h4
          refine .semH (o := (opOf (cgo 58 [] [Item.code B6])).getD default) (v := V.d (D.bool true)) (σ' := (SP 1 2 (d.begun.createD s) true [])) (by kernel_rfl) (by kernel_rfl) (T' := cgo 59 [] [Item.code B6]) (by kernel_rfl) (fun kz => sem_data0 (x := (.func 30)) (args := #[]) (ts := #[]) (first := []) (cap := []) (ds := []) (v := V.d (D.bool true)) F30 (@spec_30) (by kernel_rfl) (by kernel_rfl) (by kernel_rfl) (by kernel_rfl) (by kernel_rfl) (by kernel_rfl) _) ?_
          refine .seg 3 [2] (T' := cgo 62 [] [.code B6]) (tm' := mk 44 [(2, .d (.bool true))]) (σ' := (SP 1 2 (d.begun.createD s) true [])) (by kernel_rfl) ?_
          refine .keeps [2] (tm' := mk 44 [(2, .d (.bool true))]) (by kernel_rfl) ?_
          refine .sub [] (mk 44 [(2, .d (.bool true))]) [] none [] ⟨rfl, rfl, by kernel_rfl⟩ (by kernel_rfl) ⟨Nat.le_of_ble_eq_true (by kernel_rfl), by kernel_rfl⟩ (by kernel_rfl) ⟨by kernel_rfl, by kernel_rfl⟩ ⟨rfl, rfl⟩ ?_
          refine .retH F6 (v := V.d (D.bool true)) (by kernel_rfl) (by kernel_rfl) ?_
          exact rfl
        · rw [h4]
          simp only [decide_eq_true_eq, decide_eq_false_iff_not, beq_iff_eq, bne_iff_ne, beq_eq_false_iff_ne, bne_eq_false_iff_eq, Bool.not_eq_true', Bool.not_eq_false', ne_eq, Decidable.not_not, Bool.not_eq_true, Bool.not_eq_false] at h4
          simp_all
      · rw [h3]
        simp only [decide_eq_true_eq, decide_eq_false_iff_not, beq_iff_eq, bne_iff_ne, beq_eq_false_iff_ne, bne_eq_false_iff_eq, Bool.not_eq_true', Bool.not_eq_false', ne_eq, Decidable.not_not, Bool.not_eq_true, Bool.not_eq_false] at h3
        simp_all
    · rw [h2]
      simp only [decide_eq_true_eq, decide_eq_false_iff_not, beq_iff_eq, bne_iff_ne, beq_eq_false_iff_ne, bne_eq_false_iff_eq, Bool.not_eq_true', Bool.not_eq_false', ne_eq, Decidable.not_not, Bool.not_eq_true, Bool.not_eq_false] at h2
      simp_all
  | false =>
    have e1 : d.begun.createE s = 1 := by rw [heq, hm]; rfl
    have e2 : (look (d.begun.createD s).nk (d.begun.createD s).nv s).isSome = false := by
      have e0 : d.begun.createD s = d.begun := by simp [Dk.createD, e1]
      rw [e0, hl0]; rfl
    clear hb heq hl0 hd
    refine .seg 3 [0, 3, 13, 14] (T' := cgo 22 [] [.code B6]) (tm' := mk 44 [(0, .d (.str s)), (3, .ptr 0 0 0), (13, .ptr 0 0 0), (14, .d (.str s))]) (σ' := (SP 1 2 d true [])) (by kernel_rfl) ?_
    refine .callH (o := (opOf (cgo 22 [] [.code B6])).getD default) (x := (.func 26)) (args := #[(.tmp 13), (.tmp 14)]) (ts := #[40, 9]) (first := []) (cap := []) [0, 1, 2, 3, 4, 5] [.ptr 0 0 0, .d (.str s)] (SP 1 2 d false []) F26 (@spec_26 (d) (0) (by assumption) (by omega) (s) (by assumption)) (by kernel_rfl) (by kernel_rfl) (T' := cgo 23 [] [.code B6]) (by kernel_rfl) (by kernel_rfl) (by kernel_rfl) (by kernel_rfl) (by kernel_rfl) ⟨rfl, rfl, by kernel_rfl⟩ ?_
    rintro r0 s0 ⟨rfl, rfl⟩
    refine ⟨_, rfl, ?_⟩
    refine .seg 6 [0, 3, 4, 17, 18] (T' := cgo 29 [] [.code B6]) (tm' := mk 44 [(0, .d (.str s)), (3, .ptr 0 0 0), (4, .d (.int .i64 (d.begun.createE s))), (17, .ptr 0 0 0), (18, .d (.str s))]) (σ' := (SP 1 2 (d.begun.createD s) true [])) (by kernel_rfl) ?_
    refine .callH (o := (opOf (cgo 29 [] [.code B6])).getD default) (x := (.func 27)) (args := #[(.tmp 17), (.tmp 18)]) (ts := #[40, 9]) (first := []) (cap := []) [0, 1, 2, 3, 4, 5] [.ptr 0 0 0, .d (.str s)] (SP 1 2 (d.begun.createD s) false []) F27 (@spec_27 (d.begun.createD s) (0 + 1 + 1) (by assumption) (s)) (by kernel_rfl) (by kernel_rfl) (T' := cgo 30 [] [.code B6]) (by kernel_rfl) (by kernel_rfl) (by kernel_rfl) (by kernel_rfl) (by kernel_rfl) ⟨rfl, rfl, by kernel_rfl⟩ ?_
    rintro r1 s1 ⟨rfl, rfl⟩
    refine ⟨_, rfl, ?_⟩
    refine .seg 6 [0, 4, 6] (T' := cgo 36 [] [.code B6]) (tm' := mk 44 [(0, .d (.str s)), (4, .d (.int .i64 (d.begun.createE s))), (6, .d (.int .i64 (if (look (d.begun.createD s).nk (d.begun.createD s).nv s).isSome = true then 0 else 3)))]) (σ' := (SP 1 2 (d.begun.createD s) true [])) (by kernel_rfl) ?_
    rw [e1, e2]
    refine .seg 3 [0, 4, 6, 22] (T' := cgo 39 [] [.code B6]) (tm' := mk 44 [(0, .d (.str s)), (4, .d (.int .i64 1)), (6, .d (.int .i64 3)), (22, .d (.str s))]) (σ' := (SP 1 2 (d.begun.createD s) true [])) (by kernel_rfl) ?_
    refine .semH (o := (opOf (cgo 39 [] [Item.code B6])).getD default) (v := V.d (D.bool (mayName s))) (σ' := (SP 1 2 (d.begun.createD s) true [])) (by kernel_rfl) (by kernel_rfl) (T' := cgo 40 [] [Item.code B6]) (by kernel_rfl) (fun kz => sem_data0 (x := (.func 28)) (args := #[(.tmp 22)]) (ts := #[9]) (first := []) (cap := []) (ds := [V.d (D.str s)]) (v := V.d (D.bool (mayName s))) F28 (@spec_28 (s) (by assumption)) (by kernel_rfl) (by kernel_rfl) (by kernel_rfl) (by kernel_rfl) (by kernel_rfl) (by kernel_rfl) _) ?_
    refine .seg 1 [0, 4, 6, 22, 23, 24] (T' := cgo 41 [] [.code B6]) (tm' := mk 44 [(0, .d (.str s)), (4, .d (.int .i64 1)), (6, .d (.int .i64 3)), (22, .d (.str s)), (23, .d (.bool (mayName s))), (24, .d (.str s))]) (σ' := (SP 1 2 (d.begun.createD s) true [])) (by kernel_rfl) ?_
    refine .semH (o := (opOf (cgo 41 [] [Item.code B6])).getD default) (v := V.d (D.bool (mayName s))) (σ' := (SP 1 2 (d.begun.createD s) true [])) (by kernel_rfl) (by kernel_rfl) (T' := cgo 42 [] [Item.code B6]) (by kernel_rfl) (fun kz => sem_data0 (x := (.func 29)) (args := #[(.tmp 24)]) (ts := #[9]) (first := []) (cap := []) (ds := [V.d (D.str s)]) (v := V.d (D.bool (mayName s))) F29 (@spec_29 (s) (by assumption)) (by kernel_rfl) (by kernel_rfl) (by kernel_rfl) (by kernel_rfl) (by kernel_rfl) (by kernel_rfl) _) ?_
    refine .seg 2 [0, 4, 6, 22, 23, 24, 25, 26, 27] (T' := cgo 44 [] [.code B6]) (tm' := mk 44 [(0, .d (.str s)), (4, .d (.int .i64 1)), (6, .d (.int .i64 3)), (22, .d (.str s)), (23, .d (.bool (mayName s))), (24, .d (.str s)), (25, .d (.bool (mayName s))), (26, .d (.bool (mayName s == mayName s))), (27, .d (.bool (mayName s == mayName s)))]) (σ' := (SP 1 2 (d.begun.createD s) true [])) (by kernel_rfl) ?_
    rcases Bool.eq_false_or_eq_true (mayName s == mayName s) with h2 | h2
    · rw [h2]
      simp only [decide_eq_true_eq, decide_eq_false_iff_not, beq_iff_eq, bne_iff_ne, beq_eq_false_iff_ne, bne_eq_false_iff_eq, Bool.not_eq_true', Bool.not_eq_false', ne_eq, Decidable.not_not, Bool.not_eq_true, Bool.not_eq_false] at h2
      refine .seg 3 [0, 4, 6, 22, 23, 24, 25, 26, 27, 28, 29, 30] (T' := cgo 47 [] [.code B6]) (tm' := mk 44 [(0, .d (.str s)), (4, .d (.int .i64 1)), (6, .d (.int .i64 3)), (22, .d (.str s)), (23, .d (.bool (mayName s))), (24, .d (.str s)), (25, .d (.bool (mayName s))), (26, .d (.bool true)), (27, .d (.bool true)), (28, .d (.int .i64 1)), (29, .d (.bool false)), (30, .d (.str s))]) (σ' := (SP 1 2 (d.begun.createD s) true [])) (by kernel_rfl) ?_
      refine .semH (o := (opOf (cgo 47 [] [Item.code B6])).getD default) (v := V.d (D.bool (mayName s))) (σ' := (SP 1 2 (d.begun.createD s) true [])) (by kernel_rfl) (by kernel_rfl) (T' := cgo 48 [] [Item.code B6]) (by kernel_rfl) (fun kz => sem_data0 (x := (.func 29)) (args := #[(.tmp 30)]) (ts := #[9]) (first := []) (cap := []) (ds := [V.d (D.str s)]) (v := V.d (D.bool (mayName s))) F29 (@spec_29 (s) (by assumption)) (by kernel_rfl) (by kernel_rfl) (by kernel_rfl) (by kernel_rfl) (by kernel_rfl) (by kernel_rfl) _) ?_
      refine .seg 3 [0, 4, 6, 22, 23, 24, 25, 26, 27, 28, 29, 30, 31, 32, 33, 34] (T' := cgo 51 [] [.code B6]) (tm' := mk 44 [(0, .d (.str s)), (4, .d (.int .i64 1)), (6, .d (.int .i64 3)), (22, .d (.str s)), (23, .d (.bool (mayName s))), (24, .d (.str s)), (25, .d (.bool (mayName s))), (26, .d (.bool true)), (27, .d (.bool true)), (28, .d (.int .i64 1)), (29, .d (.bool false)), (30, .d (.str s)), (31, .d (.bool (mayName s))), (32, .d (.bool (false == mayName s))), (33, .d (.bool (false == mayName s))), (34, .d (.bool (false == mayName s)))]) (σ' := (SP 1 2 (d.begun.createD s) true [])) (by kernel_rfl) ?_
      rcases Bool.eq_false_or_eq_true (false == mayName s) with h3 | h3
      · rw [h3]
        simp only [decide_eq_true_eq, decide_eq_false_iff_not, beq_iff_eq, bne_iff_ne, beq_eq_false_iff_ne, bne_eq_false_iff_eq, Bool.not_eq_true', Bool.not_eq_false', ne_eq, Decidable.not_not, Bool.not_eq_true, Bool.not_eq_false] at h3
        refine .seg 3 [0, 4, 6, 22, 23, 24, 25, 26, 27, 28, 29, 30, 31, 32, 33, 34, 35, 36, 37] (T' := cgo 54 [] [.code B6]) (tm' := mk 44 [(0, .d (.str s)), (4, .d (.int .i64 1)), (6, .d (.int .i64 3)), (22, .d (.str s)), (23, .d (.bool (mayName s))), (24, .d (.str s)), (25, .d (.bool (mayName s))), (26, .d (.bool true)), (27, .d (.bool true)), (28, .d (.int .i64 1)), (29, .d (.bool false)), (30, .d (.str s)), (31, .d (.bool (mayName s))), (32, .d (.bool true)), (33, .d (.bool true)), (34, .d (.bool true)), (35, .d (.int .i64 3)), (36, .d (.bool false)), (37, .d (.str s))]) (σ' := (SP 1 2 (d.begun.createD s) true [])) (by kernel_rfl) ?_
        refine .semH (o := (opOf (cgo 54 [] [Item.code B6])).getD default) (v := V.d (D.bool (mayName s))) (σ' := (SP 1 2 (d.begun.createD s) true [])) (by kernel_rfl) (by kernel_rfl) (T' := cgo 55 [] [Item.code B6]) (by kernel_rfl) (fun kz => sem_data0 (x := (.func 29)) (args := #[(.tmp 37)]) (ts := #[9]) (first := []) (cap := []) (ds := [V.d (D.str s)]) (v := V.d (D.bool (mayName s))) F29 (@spec_29 (s) (by assumption)) (by kernel_rfl) (by kernel_rfl) (by kernel_rfl) (by kernel_rfl) (by kernel_rfl) (by kernel_rfl) _) ?_
        refine .seg 3 [0, 4, 6, 22, 23, 24, 25, 26, 27, 28, 29, 30, 31, 32, 33, 34, 35, 36, 37, 38, 39, 40, 41] (T' := cgo 58 [] [.code B6]) (tm' := mk 44 [(0, .d (.str s)), (4, .d (.int .i64 1)), (6, .d (.int .i64 3)), (22, .d (.str s)), (23, .d (.bool (mayName s))), (24, .d (.str s)), (25, .d (.bool (mayName s))), (26, .d (.bool true)), (27, .d (.bool true)), (28, .d (.int .i64 1)), (29, .d (.bool false)), (30, .d (.str s)), (31, .d (.bool (mayName s))), (32, .d (.bool true)), (33, .d (.bool true)), (34, .d (.bool true)), (35, .d (.int .i64 3)), (36, .d (.bool false)), (37, .d (.str s)), (38, .d (.bool (mayName s))), (39, .d (.bool (false == mayName s))), (40, .d (.bool (false == mayName s))), (41, .d (.bool (false == mayName s)))]) (σ' := (SP 1 2 (d.begun.createD s) true [])) (by kernel_rfl) ?_
        rcases Bool.eq_false_or_eq_true (false == mayName s) with h4 | h4
        · rw [h4]
          simp only [decide_eq_true_eq, decide_eq_false_iff_not, beq_iff_eq, bne_iff_ne, beq_eq_false_iff_ne, bne_eq_false_iff_eq, Bool.not_eq_true', Bool.not_eq_false', ne_eq, Decidable.not_not, Bool.not_eq_true, Bool.not_eq_false] at h4
          refine .semH (o := (opOf (cgo 58 [] [Item.code B6])).getD default) (v := V.d (D.bool true)) (σ' := (SP 1 2 (d.begun.createD s) true [])) (by kernel_rfl) (by kernel_rfl) (T' := cgo 59 [] [Item.code B6]) (by kernel_rfl) (fun kz => sem_data0 (x := (.func 30)) (args := #[]) (ts := #[]) (first := []) (cap := []) (ds := []) (v := V.d (D.bool true)) F30 (@spec_30) (by kernel_rfl) (by kernel_rfl) (by kernel_rfl) (by kernel_rfl) (by kernel_rfl) (by kernel_rfl) _) ?_
          refine .seg 3 [2] (T' := cgo 62 [] [.code B6]) (tm' := mk 44 [(2, .d (.bool true))]) (σ' := (SP 1 2 (d.begun.createD s) true [])) (by kernel_rfl) ?_
          refine .keeps [2] (tm' := mk 44 [(2, .d (.bool true))]) (by kernel_rfl) ?_
          refine .sub [] (mk 44 [(2, .d (.bool true))]) [] none [] ⟨rfl, rfl, by kernel_rfl⟩ (by kernel_rfl) ⟨Nat.le_of_ble_eq_true (by kernel_rfl), by kernel_rfl⟩ (by kernel_rfl) ⟨by kernel_rfl, by kernel_rfl⟩ ⟨rfl, rfl⟩ ?_
          refine .retH F6 (v := V.d (D.bool true)) (by kernel_rfl) (by kernel_rfl) ?_
          exact rfl
        · rw [h4]
          simp only [decide_eq_true_eq, decide_eq_false_iff_not, beq_iff_eq, bne_iff_ne, beq_eq_false_iff_ne, bne_eq_false_iff_eq, Bool.not_eq_true', Bool.not_eq_false', ne_eq, Decidable.not_not, Bool.not_eq_true, Bool.not_eq_false] at h4
          simp_all
      · rw [h3]
        simp only [decide_eq_true_eq, decide_eq_false_iff_not, beq_iff_eq, bne_iff_ne, beq_eq_false_iff_ne, bne_eq_false_iff_eq, Bool.not_eq_true', Bool.not_eq_false', ne_eq, Decidable.not_not, Bool.not_eq_true, Bool.not_eq_false] at h3
        simp_all
    · rw [h2]
      simp only [decide_eq_true_eq, decide_eq_false_iff_not, beq_iff_eq, bne_iff_ne, beq_eq_false_iff_ne, bne_eq_false_iff_eq, Bool.not_eq_true', Bool.not_eq_false', ne_eq, Decidable.not_not, Bool.not_eq_true, Bool.not_eq_false] at h2
      simp_all
theorem spec_6 (s : ByteArray) (hs : s.size ≤ 9223372036854775807) : Br.Pure Try.prog 6 [.d (.str s)] (.d (.bool true)) := by
  refine CallsA.pure ?_ rfl
  refine CallsA.start F6 (tm := mk (Try.f6.ntmps) [(0, .d (.str s))]) (by kernel_rfl) ?_
  refine .seg 10 [0, 2, 7, 8, 9, 10] (T' := cgo 10 [] [.code B6]) (tm' := mk 44 [(0, .d (.str s)), (2, .d (.bool false)), (7, .d (.str s)), (8, .d (.str s)), (9, .d (.int .i64 (↑s.size : Int))), (10, .d (.int .i64 (if 3000 < (↑s.size : Int) then 3000 else (↑s.size : Int))))]) (σ' := []) (by kernel_rfl) ?_
  refine .opH (o := (opOf (cgo 10 [] [.code B6])).getD default) (by kernel_rfl) (by kernel_rfl) (by kernel_rfl) (T' := cgo 11 [] [.code B6]) (by kernel_rfl) (slStr_ok (t := 9) (x := (.tmp 7)) (lo := none) (hi := (some (.tmp 10))) (s := s) (0) ((if 3000 < (↑s.size : Int) then 3000 else (↑s.size : Int)).toNat) (by kernel_rfl) (by kernel_rfl) (by kernel_rfl) rfl (bnd_some (k := IntKind.i64) (i := if 3000 < (↑s.size : Int) then 3000 else (↑s.size : Int)) (by kernel_rfl) (by omega) (by rfl)) (by omega) (by omega)) ?_
  refine .seg 1 [0, 2, 7, 8, 9, 10, 11] (T' := cgo 12 [] [.code B6]) (tm' := mk 44 [(0, .d (.str (s.extract 0 (if 3000 < (↑s.size : Int) then 3000 else (↑s.size : Int)).toNat))), (2, .d (.bool false)), (7, .d (.str s)), (8, .d (.str s)), (9, .d (.int .i64 (↑s.size : Int))), (10, .d (.int .i64 (if 3000 < (↑s.size : Int) then 3000 else (↑s.size : Int)))), (11, .d (.str (s.extract 0 (if 3000 < (↑s.size : Int) then 3000 else (↑s.size : Int)).toNat)))]) (σ' := []) (by kernel_rfl) ?_
  obtain ⟨t, ht⟩ : ∃ t, t = s.extract 0 (if (3000 : Int) < (s.size : Int) then 3000 else (s.size : Int)).toNat := ⟨_, rfl⟩
  have hts : t.size ≤ 3000 := by rw [ht, ByteArray.size_extract]; split <;> omega
  rw [← ht]
  clear ht
  refine .seg 3 [0, 2] (T' := cgo 15 [] [.code B6]) (tm' := mk 44 [(0, .d (.str t)), (2, .d (.bool false))]) (σ' := []) (by kernel_rfl) ?_
  refine .callH (o := (opOf (cgo 15 [] [.code B6])).getD default) (x := (.func 25)) (args := #[(.const (Value.int IntKind.i64 0))]) (ts := #[3]) (first := []) (cap := []) [] [.d (.int .i64 0)] [] F25 (@spec_25 (0)) (by kernel_rfl) (by kernel_rfl) (T' := cgo 16 [] [.code B6]) (by kernel_rfl) (by kernel_rfl) (by kernel_rfl) (by kernel_rfl) (by kernel_rfl) ⟨rfl, rfl, by kernel_rfl⟩ ?_
  rintro r0 s0 ⟨rfl, rfl⟩
  refine ⟨_, rfl, ?_⟩
  refine .seg 3 [0, 2, 3] (T' := cgo 19 [] [.code B6]) (tm' := mk 44 [(0, .d (.str t)), (2, .d (.bool false)), (3, .ptr 0 0 0)]) (σ' := [.cells [.row 1, .ptr 2 0 0, .ep 2 (D.agg [D.list 1 [], D.list 1 []]) 0, .row 5, .d (.int .i64 0), .d (.bool false), .d (.bool false), .d (.int .i64 (-1)), .d (.int .i64 0)], .row 2 [] true, .cells [.row 3, .row 4], .row 1 [] true, .row 1 [] true, .row 3 [] true]) (by kernel_rfl) ?_
  exact .goes [0, 3] (by kernel_rfl) (by kernel_rfl) (by kernel_rfl) (nm6 (Dk.new 0) rfl t hts)
end Go.Proofs.Ytoelkgbeefoplaa

