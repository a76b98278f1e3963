/- The records of some bytes: walks of slices.Clone, wal.frames and wal.Parse. -/
import Derived.Test.YtoelkgbeefoplaaFirstA
import Derived.Test.YtoelkgbeefoplaaBrY
namespace Go.Proofs.Ytoelkgbeefoplaa
open Go Go.Br Go.Proofs

def bsD (bs : List UInt8) : D := .list 1 (bs.map u8)
noncomputable def B61 : Code := (Try.f61.body).getD .skip
theorem F61 : Fnc Try.prog 61 Try.f61 B61 := ⟨Try.func61, by kernel_rfl, by kernel_rfl⟩
theorem clone_pure (bs : List UInt8) (hlen : bs.length ≤ 140737488355000) : Pure Try.prog 61 [.d (bsD bs)] (.d (bsD bs)) := by
  refine CallsA.start F61 (tm := (mk 8 [(0, .d (bsD bs))])) (by kernel_rfl) ?_
  refine .seg 8 [0, 3] (T' := cgo 8 [] [.code B61]) (tm' := mk 8 [(0, .d (bsD bs)), (3, .d (bsD bs))]) (σ' := []) (by kernel_rfl) ?_
  refine .anyH (o := (opOf (cgo 8 [] [.code B61])).getD default) (by kernel_rfl) (by kernel_rfl) (by kernel_rfl) (T' := (cgo 9 [] [.code B61])) (by kernel_rfl) (nilEq_ok (x := .tmp 3) (y := .const (.slice none 0 0)) (t := 22) (ty := 22) (sz := 1) (xs := bs.map u8) (neg := false) (by kernel_rfl) (by kernel_rfl) (by kernel_rfl) (by kernel_rfl)) ?_
  rintro v ⟨b, rfl, hb⟩
  cases b with
  | true =>
    have h0 : bs = [] := by simpa using hb rfl
    subst h0
    refine .seg 6 [2] (T' := cgo 15 [true] [.code B61]) (tm' := mk 8 [(2, .nils)]) (σ' := []) (by kernel_rfl) ?_
    refine .coerce [22, 22, 22] ?_
    exact .retH (v := .d (bsD [])) F61 (by kernel_rfl) (by kernel_rfl) ⟨rfl, rfl⟩
  | false =>
    refine .seg 5 [0] (T' := cgo 14 [false] [.code B61]) (tm' := mk 8 [(0, .d (bsD bs))]) (σ' := []) (by kernel_rfl) ?_
    refine .opH (o := (opOf (cgo 14 [false] [.code B61])).getD default) (by kernel_rfl) (by kernel_rfl) (by kernel_rfl) (T' := cgo 15 [false] [.code B61]) (by kernel_rfl) (build0_ok (t := 22) (e := 5) (sz := 1) (sz' := 1) (by kernel_rfl) (by kernel_rfl) (by kernel_rfl)) ?_
    refine .seg 1 [5, 6] (T' := cgo 16 [false] [.code B61]) (tm' := mk 8 [(5, .ex 1 []), (6, .d (bsD bs))]) (σ' := []) (by kernel_rfl) ?_
    cases bs with
    | nil =>
      refine .opH (o := (opOf (cgo 16 [false] [.code B61])).getD default) (by kernel_rfl) (by kernel_rfl) (by kernel_rfl) (T' := cgo 17 [false] [.code B61]) (by kernel_rfl) (appNone_ok (s := .tmp 5) (x := .tmp 6) (t := 22) (t2 := 22) (sz := 1) (by' := 1) (xs := []) (by kernel_rfl) (by kernel_rfl) (by kernel_rfl) (by kernel_rfl) (by kernel_rfl)) ?_
      refine .seg 2 [2] (T' := cgo 19 [false] [.code B61]) (tm' := mk 8 [(2, .ex 1 [])]) (σ' := []) (by kernel_rfl) ?_
      refine .coerce [22, 22, 22] ?_
      exact .retH (v := .d (bsD [])) F61 (by kernel_rfl) (by kernel_rfl) ⟨rfl, rfl⟩
    | cons b bs =>
      refine .opH (o := (opOf (cgo 16 [false] [.code B61])).getD default) (by kernel_rfl) (by kernel_rfl) (by kernel_rfl) (T' := cgo 17 [false] [.code B61]) (by kernel_rfl) (appEx_ok (s := .tmp 5) (x := .tmp 6) (t := 22) (t2 := 22) (sz := 1) (by' := 1) (xs := []) (ys := (b :: bs).map u8) (by kernel_rfl) (by kernel_rfl) (by kernel_rfl) (by kernel_rfl) (by kernel_rfl) (by simp) (by simp at hlen ⊢; omega) (by simp [maxLen] at hlen ⊢; omega)) ?_
      refine .seg 2 [2] (T' := cgo 19 [false] [.code B61]) (tm' := mk 8 [(2, .row 0)]) (σ' := [.row 1 ((b :: bs).map u8) false]) (by kernel_rfl) ?_
      refine .freeze 0 (sz := 1) (xs := (b :: bs).map u8) (mv := false) rfl ?_
      refine .sub [] ((mk 8 [(2, .d (bsD (b :: bs)))])) [] none [] ⟨rfl, rfl, rfl⟩ rfl ⟨by simp, rfl⟩ rfl ⟨rfl, rfl⟩ ⟨rfl, rfl⟩ ?_
      exact .retH F61 (by kernel_rfl) (by kernel_rfl) (⟨rfl, rfl⟩)

noncomputable def B60 : Code := (Try.f60.body).getD .skip
theorem F60 : Fnc Try.prog 60 Try.f60 B60 := ⟨Try.func60, by kernel_rfl, by kernel_rfl⟩
theorem frames_pure (bs : List UInt8) : CallsA Try.prog 60 [.d (bsD bs)] [] fun r σ' => r = .ret (.fn (.func 91) [] [.ptr 0 0 0]) ∧ σ' = [.cells [.d (bsD bs)]] := by
  refine CallsA.start F60 (tm := (mk 4 [(0, .d (bsD bs))])) (by kernel_rfl) ?_
  refine .seg 10 [2] (T' := cgo 10 [] [.code B60]) (tm' := mk 4 [(2, .fn (.func 91) [] [.ptr 0 0 0])]) (σ' := [.cells [.d (bsD bs)]]) (by kernel_rfl) ?_
  exact .retH F60 (by kernel_rfl) (by kernel_rfl) (⟨rfl, rfl⟩)

/-- The frames from the front on. -/
def recs : Nat → List UInt8 → List (List UInt8)
  | 0, _ => []
  | n + 1, bs => if fits bs && sumOk bs then piece bs :: recs n (bs.drop (nOf bs + 8)) else []
def good (rs : List (List UInt8)) : Nat := (rs.map fun r => r.length + 8).sum
theorem fits_le {bs : List UInt8} (h : fits bs = true) : nOf bs + 8 ≤ bs.length ∧ nOf bs ≤ 65536 := by
  simp only [fits, Bool.and_eq_true, decide_eq_true_eq] at h
  unfold nOf
  omega
theorem piece_length {bs : List UInt8} (h : fits bs = true) : (piece bs).length = nOf bs := by
  have := (fits_le h).1
  simp [piece]
  omega

noncomputable def B17 : Code := (Try.f17.body).getD .skip
theorem F17 : Fnc Try.prog 17 Try.f17 B17 := ⟨Try.func17, by kernel_rfl, by kernel_rfl⟩
noncomputable def R17 : List Item := [.code (rfAs (cgo 12 [] [.code B17])), .beginRound, .code (rfBd (cgo 12 [] [.code B17]))]
/-- The slots that the loop finds. -/
def tm17 : List V := (mk 20 [(2, .ptr 0 0 0), (3, .ptr 1 0 0), (6, .fn (.func 91) [] [.ptr 2 0 0])])
/-- What there is while wal.Parse goes over frames. -/
noncomputable def S17 (rs : List (List UInt8)) (g : Nat) (bs : List UInt8) (mv : Bool) (st : LoopState) : Store :=
  [.cells [.row 3], .cells [.d (i64 g)], .cells [.d (bsD bs)], .row 1 (rs.map bsD) mv, .defd, lp (cgo 12 [] [.code B17]) 17 tm17 st]
theorem body17 (rs : List (List UInt8)) (g : Nat) (bs : List UInt8) (mv : Bool) (r : List UInt8) (hr : r.length ≤ 65536) (hg : g ≤ 1125899906842624) (hrs : rs.length ≤ 1099511627776) :
    AW Try.prog 17 (some 5) 6 R17 ((mk 20 [(2, .ptr 0 0 0), (3, .ptr 1 0 0), (6, .fn (.func 91) [] [.ptr 2 0 0]), (7, .ex 1 (r.map u8))])) (S17 rs g bs mv .ready) [] fun a σ' => a = .ret (.d (.bool true)) ∧ σ' = S17 (rs ++ [r]) (g + (r.length + 8)) bs true .ready := by
  refine .seg 3 [2, 3, 4] (T' := cgo 3 [] R17) (tm' := mk 20 [(2, .ptr 0 0 0), (3, .ptr 1 0 0), (4, .ex 1 (r.map u8))]) (σ' := S17 rs g bs mv .ready) (by kernel_rfl) ?_
  refine .beginL (T0 := (cgo 12 [] [.code B17])) (fn := 17) (tml := tm17) (by kernel_rfl) (T' := (cgo 4 [] R17)) (by kernel_rfl) (σ' := S17 rs g bs mv .busy) (by kernel_rfl) (by kernel_rfl) ?_
  refine .seg 2 [2, 3, 4] (T' := cgo 6 [] R17) (tm' := mk 20 [(2, .ptr 0 0 0), (3, .ptr 1 0 0), (4, .ex 1 (r.map u8))]) (σ' := S17 rs g bs mv .busy) (by kernel_rfl) ?_
  have happ (tm : List V) (h8 : ev tm (.tmp 8) = V.row 3) (h11 : ev tm (.tmp 11) = V.row 6) : OpOk Try.prog (((drawOf (cgo 6 [] R17))[4]?).getD default) tm (S17 rs g bs mv .busy ++ [O.row 1 [bsD r] false]) (.row 3) (V.killL (Nat.beq 3) tm) (((S17 rs g bs mv .busy ++ [O.row 1 [bsD r] false]).map (O.kill (Nat.beq 3))).set 3 (O.row 1 (rs.map bsD ++ [bsD r]) true)) :=
    appRow_ok (s := .tmp 8) (x := .tmp 11) (t := 26) (t2 := 26) (l := 3) (sz := 1) (by' := 24) (xs := rs.map bsD) (ys := [bsD r]) (mv := mv) (by kernel_rfl) h8 (by kernel_rfl) (by rw [h11]; kernel_rfl) (by kernel_rfl) (by kernel_rfl) (by simp; omega) (by simp [maxLen]; omega)
  refine .draw2H (T' := (cgo 7 [] R17)) (tm' := (mk 20 [(2, .ptr 0 0 0), (3, .ptr 1 0 0), (4, .ex 1 (r.map u8)), (9, .ex 1 (r.map u8)), (10, .d (bsD r)), (11, .row 6), (12, .row 3)])) (σ' := S17 (rs ++ [r]) g bs true .busy ++ [O.row 1 [bsD r] false]) [1, 0, 0, 2, 3, 2] 0 3 [0, 1, 2, 3, 4, 5] [1, 2, 3, 0, 4, 5] (by kernel_rfl) (by kernel_rfl) (by kernel_rfl) (by kernel_rfl) (fun k => ?_) (fun k => ?_) ?_
  · refine Run.append (A := [0, 1]) (srun_ok (tm' := (mk 20 [(2, .ptr 0 0 0), (3, .ptr 1 0 0), (4, .ex 1 (r.map u8)), (8, .row 3), (9, .ex 1 (r.map u8))])) (σ' := S17 rs g bs mv .busy) (by kernel_rfl)) ?_
    refine Run.one (StepQ.data (o := ((drawOf (cgo 6 [] R17))[2]?).getD default) (v := .d (bsD r)) (by kernel_rfl) (by kernel_rfl) (by kernel_rfl) (sem_data0 (x := .func 61) (args := #[.tmp 9]) (ts := #[22]) (first := []) (cap := []) (ds := [.d (bsD r)]) F61 (clone_pure r (by omega)) (by kernel_rfl) (by kernel_rfl) (by kernel_rfl) (by kernel_rfl) (by kernel_rfl) (by kernel_rfl))) ?_
    refine Run.append (A := [3]) (srun_ok (tm' := (mk 20 [(2, .ptr 0 0 0), (3, .ptr 1 0 0), (4, .ex 1 (r.map u8)), (8, .row 3), (9, .ex 1 (r.map u8)), (10, .d (bsD r)), (11, .row 6)])) (σ' := S17 rs g bs mv .busy ++ [O.row 1 [bsD r] false]) (by kernel_rfl)) ?_
    refine Run.one (s1 := ((mk 20 [(2, .ptr 0 0 0), (3, .ptr 1 0 0), (4, .ex 1 (r.map u8)), (9, .ex 1 (r.map u8)), (10, .d (bsD r)), (11, .row 6), (12, .row 3)]), ((S17 rs g bs mv .busy ++ [O.row 1 [bsD r] false]).map (O.kill (Nat.beq 3))).set 3 (O.row 1 (rs.map bsD ++ [bsD r]) true))) (StepQ.all (by kernel_rfl) fun rest hn => .op (o := ((drawOf (cgo 6 [] R17))[4]?).getD default) (by kernel_rfl) (by kernel_rfl) (by kernel_rfl) (happ _ (by kernel_rfl) (by kernel_rfl)) hn) ?_
    rw [show rs.map bsD ++ [bsD r] = (rs ++ [r]).map bsD by simp]
    exact srun_ok (by kernel_rfl)
  · refine Run.append (A := [1]) (srun_ok (tm' := (mk 20 [(2, .ptr 0 0 0), (3, .ptr 1 0 0), (4, .ex 1 (r.map u8)), (9, .ex 1 (r.map u8))])) (σ' := S17 rs g bs mv .busy) (by kernel_rfl)) ?_
    refine Run.one (StepQ.data (o := ((drawOf (cgo 6 [] R17))[2]?).getD default) (v := .d (bsD r)) (by kernel_rfl) (by kernel_rfl) (by kernel_rfl) (sem_data0 (x := .func 61) (args := #[.tmp 9]) (ts := #[22]) (first := []) (cap := []) (ds := [.d (bsD r)]) F61 (clone_pure r (by omega)) (by kernel_rfl) (by kernel_rfl) (by kernel_rfl) (by kernel_rfl) (by kernel_rfl) (by kernel_rfl))) ?_
    refine Run.append (A := [3, 0]) (srun_ok (tm' := (mk 20 [(2, .ptr 0 0 0), (3, .ptr 1 0 0), (4, .ex 1 (r.map u8)), (8, .row 3), (9, .ex 1 (r.map u8)), (10, .d (bsD r)), (11, .row 6)])) (σ' := S17 rs g bs mv .busy ++ [O.row 1 [bsD r] false]) (by kernel_rfl)) ?_
    refine Run.one (s1 := ((mk 20 [(2, .ptr 0 0 0), (3, .ptr 1 0 0), (4, .ex 1 (r.map u8)), (9, .ex 1 (r.map u8)), (10, .d (bsD r)), (11, .row 6), (12, .row 3)]), ((S17 rs g bs mv .busy ++ [O.row 1 [bsD r] false]).map (O.kill (Nat.beq 3))).set 3 (O.row 1 (rs.map bsD ++ [bsD r]) true))) (StepQ.all (by kernel_rfl) fun rest hn => .op (o := ((drawOf (cgo 6 [] R17))[4]?).getD default) (by kernel_rfl) (by kernel_rfl) (by kernel_rfl) (happ _ (by kernel_rfl) (by kernel_rfl)) hn) ?_
    rw [show rs.map bsD ++ [bsD r] = (rs ++ [r]).map bsD by simp]
    exact srun_ok (by kernel_rfl)
  refine .seg 9 [] (T' := cgo 16 [] R17) (tm' := mk 20 []) (σ' := [.cells [.row 3], .cells [.d (.int .i64 (iadd .i64 g (iadd .i64 ((r.map u8).length : Nat) 8)))], .cells [.d (bsD bs)], .row 1 ((rs ++ [r]).map bsD) true, .defd, lp (cgo 12 [] [.code B17]) 17 tm17 .busy, .row 1 [bsD r] false]) (by kernel_rfl) ?_
  rw [List.length_map, iadd_i64 (a := (r.length : Int)) (b := 8) (by omega) (by omega), iadd_i64 (a := (g : Int)) (b := (r.length : Int) + 8) (by omega) (by omega), show (g : Int) + ((r.length : Int) + 8) = ((g + (r.length + 8) : Nat) : Int) by omega]
  refine .sub [0, 1, 2, 3, 4, 5] ((mk 20 [])) (S17 (rs ++ [r]) (g + (r.length + 8)) bs true .busy) (some 5) [] (by refine ⟨rfl, rfl, ?_⟩; kernel_rfl) rfl ⟨by simp [S17], rfl⟩ (by kernel_rfl) ⟨rfl, rfl⟩ ⟨rfl, rfl⟩ ?_
  exact .roundEndL (T0 := (cgo 12 [] [.code B17])) (fn := 17) (tml := tm17) (st := .busy) (by kernel_rfl) (by kernel_rfl) rfl ⟨rfl, by kernel_rfl⟩

theorem fst_no {bs : List UInt8} (h : (fits bs && sumOk bs) = false) : ∃ X : V, X.locs = [] ∧ fstV bs = .tuple [X, .d (.bool false)] := by
  unfold fstV
  cases hf : fits bs with
  | false => exact ⟨.nils, rfl, by simp⟩
  | true =>
    rw [hf, Bool.true_and] at h
    exact ⟨.ex 1 ((piece bs).map u8), rfl, by rw [h]; simp⟩
theorem fst_yes {bs : List UInt8} (h : (fits bs && sumOk bs) = true) : fstV bs = .tuple [.ex 1 ((piece bs).map u8), .d (.bool true)] := by
  simp only [Bool.and_eq_true] at h
  unfold fstV
  rw [h.1, h.2]; rfl
noncomputable def B91 : Code := (Try.f91.body).getD .skip
theorem F91 : Fnc Try.prog 91 Try.f91 B91 := ⟨Try.func91, by kernel_rfl, by kernel_rfl⟩
theorem it91 : ∀ (m : Nat) (rs : List (List UInt8)) (g : Nat) (bs : List UInt8) (mv : Bool), bs.length < m → g + bs.length ≤ 1125899906842624 → rs.length + bs.length ≤ 1099511627776 →
    AW Try.prog 91 none 6 ((cgo 2 [] [.code B91])) ((mk 23 [(0, .yield 5), (1, .ptr 2 0 0)])) (S17 rs g bs mv .ready) [] fun r σ' => ∃ rest mv', r = .ret (.tuple []) ∧ σ' = S17 (rs ++ recs m bs) (g + good (recs m bs)) rest mv' .ready := by
  intro m
  induction m with
  | zero => intro rs g bs mv h; omega
  | succ m ih =>
    intro rs g bs mv hm hg hrs
    refine .seg 4 [0, 1, 6] (T' := cgo 6 [] [.code B91]) (tm' := mk 23 [(0, .yield 5), (1, .ptr 2 0 0), (6, .d (bsD bs))]) (σ' := S17 rs g bs mv .ready) (by kernel_rfl) ?_
    cases hf : (fits bs && sumOk bs) with
    | false =>
      obtain ⟨X, hX, hv⟩ := fst_no hf
      have hp := first_pure bs (by omega)
      rw [hv] at hp
      refine .semH (o := (opOf (cgo 6 [] [.code B91])).getD default) (v := .tuple [X, .d (.bool false)]) (σ' := S17 rs g bs mv .ready) (by kernel_rfl) (by kernel_rfl) (T' := cgo 7 [] [.code B91]) (by kernel_rfl) (fun k => sem_data0 (x := .func 92) (args := #[.tmp 6]) (ts := #[22]) (first := []) (cap := []) F92 hp (by kernel_rfl) (by kernel_rfl) (by kernel_rfl) (by kernel_rfl) (by kernel_rfl) (by simp [V.locs, V.locsL, hX]) _) ?_
      refine .seg 19 [] (T' := cgo 26 [true] [.code B91]) (tm' := mk 23 []) (σ' := S17 rs g bs mv .ready) (by kernel_rfl) ?_
      refine .retH F91 (v := .tuple []) (by kernel_rfl) (by kernel_rfl) ⟨bs, mv, rfl, ?_⟩
      simp [recs, hf, good]
    | true =>
      have hv := fst_yes hf
      have hp := first_pure bs (by omega)
      rw [hv] at hp
      have hf1 : fits bs = true := by simp only [Bool.and_eq_true] at hf; exact hf.1
      have hle := fits_le hf1
      refine .semH (o := (opOf (cgo 6 [] [.code B91])).getD default) (v := .tuple [.ex 1 ((piece bs).map u8), .d (.bool true)]) (σ' := S17 rs g bs mv .ready) (by kernel_rfl) (by kernel_rfl) (T' := cgo 7 [] [.code B91]) (by kernel_rfl) (fun k => sem_data0 (x := .func 92) (args := #[.tmp 6]) (ts := #[22]) (first := []) (cap := []) F92 hp (by kernel_rfl) (by kernel_rfl) (by kernel_rfl) (by kernel_rfl) (by kernel_rfl) (by kernel_rfl) _) ?_
      refine .seg 14 [0, 1, 3, 12, 13, 14] (T' := cgo 21 [] [.code B91]) (tm' := mk 23 [(0, .yield 5), (1, .ptr 2 0 0), (3, .ex 1 ((piece bs).map u8)), (12, .d (.bool (false))), (13, .yield 5), (14, .ex 1 ((piece bs).map u8))]) (σ' := S17 rs g bs mv .ready) (by kernel_rfl) ?_
      refine .yieldL (T0 := (cgo 12 [] [.code B17])) (o := (opOf (cgo 21 [] [.code B91])).getD default) (x := .tmp 13) (args := #[.tmp 14]) (ts := #[22]) (l := 5) (st := .ready) (fn := 17) (tml := tm17) (R := R17) (N := 6) (by kernel_rfl) (by kernel_rfl) (by kernel_rfl) (T' := (cgo 22 [] [.code B91])) (by kernel_rfl) (by kernel_rfl) (by kernel_rfl) (by kernel_rfl) (by kernel_rfl) (by kernel_rfl) (by kernel_rfl) (body17 rs g bs mv (piece bs) (by rw [piece_length hf1]; omega) (by omega) (by omega)) ?_
      rintro r σ' ⟨rfl, rfl⟩
      refine ⟨_, rfl, ?_⟩
      refine .seg 10 [0, 1, 18, 21] (T' := cgo 32 [false] [.code B91]) (tm' := mk 23 [(0, .yield 5), (1, .ptr 2 0 0), (18, .d (bsD bs)), (21, .d (.int .i64 (iadd .i64 (((piece bs).map u8).length : Nat) 8)))]) (σ' := S17 (rs ++ [piece bs]) (g + ((piece bs).length + 8)) bs true .ready) (by kernel_rfl) ?_
      rw [List.length_map, piece_length hf1, iadd_i64 (by omega) (by omega), show (nOf bs : Int) + 8 = ((nOf bs + 8 : Nat) : Int) by omega]
      refine .opH (o := (opOf (cgo 32 [false] [.code B91])).getD default) (by kernel_rfl) (by kernel_rfl) (by kernel_rfl) (T' := cgo 33 [false] [.code B91]) (by kernel_rfl) (slData_ok (t := 22) (x := .tmp 18) (lo := some (.tmp 21)) (hi := none) (sz := 1) (xs := bs.map u8) (nOf bs + 8) (bs.map u8).length (by kernel_rfl) (by kernel_rfl) (by kernel_rfl) ⟨.i64, ((nOf bs + 8 : Nat) : Int), by kernel_rfl, Int.natCast_nonneg _, Int.toNat_natCast _⟩ rfl (by simp; omega) (by omega)) ?_
      rw [List.take_length, ← List.map_drop]
      refine .seg 4 [0, 1] (T' := cgo 2 [] [.code B91]) (tm' := mk 23 [(0, .yield 5), (1, .ptr 2 0 0)]) (σ' := S17 (rs ++ [piece bs]) (g + (nOf bs + 8)) (bs.drop (nOf bs + 8)) true .ready) (by kernel_rfl) ?_
      have := ih (rs ++ [piece bs]) (g + (nOf bs + 8)) (bs.drop (nOf bs + 8)) true (by simp; omega) (by simp; omega) (by simp; omega)
      refine this.mono ?_
      rintro r σ' ⟨rest, mv', rfl, rfl⟩
      refine ⟨rest, mv', rfl, ?_⟩
      have e : recs (m + 1) bs = piece bs :: recs m (bs.drop (nOf bs + 8)) := by rw [recs, if_pos hf]
      rw [e]
      simp [good, piece_length hf1, Nat.add_assoc]

def parsed (bs : List UInt8) : List (List UInt8) := recs (bs.length + 1) bs
theorem it91_calls (bs : List UInt8) (hlen : bs.length ≤ 1099511627776) : CallsA Try.prog 91 [.yield 5, .ptr 2 0 0] (S17 [] 0 bs false .ready) fun r σ' => ∃ rest mv', r = .ret (.tuple []) ∧ σ' = S17 (parsed bs) (good (parsed bs)) rest mv' .ready := by
  refine CallsA.start F91 (tm := mk 23 [(0, .yield 5), (1, .ptr 2 0 0)]) (by kernel_rfl) ?_
  refine .seg 2 [0, 1] (T' := (cgo 2 [] [.code B91])) (tm' := mk 23 [(0, .yield 5), (1, .ptr 2 0 0)]) (σ' := S17 [] 0 bs false .ready) (by kernel_rfl) ?_
  have := it91 (bs.length + 1) [] 0 bs false (by omega) (by omega) (by simp; omega)
  simp only [List.nil_append, Nat.zero_add] at this
  exact this
theorem parse_pure (bs : List UInt8) (hlen : bs.length ≤ 1099511627776) : Pure Try.prog 17 [.d (bsD bs)] (.tuple [.d (.list 1 ((parsed bs).map bsD)), .d (i64 (good (parsed bs)))]) := by
  refine CallsA.pure ?_ rfl
  refine CallsA.start F17 (tm := (mk 20 [(0, .d (bsD bs))])) (by kernel_rfl) ?_
  refine .seg 2 [0] (T' := cgo 2 [] [.code B17]) (tm' := mk 20 [(0, .d (bsD bs))]) (σ' := []) (by kernel_rfl) ?_
  refine .opH (o := (opOf (cgo 2 [] [.code B17])).getD default) (by kernel_rfl) (by kernel_rfl) (by kernel_rfl) (T' := cgo 3 [] [.code B17]) (by kernel_rfl) (allocNil_ok (t := 26) (by kernel_rfl) (by kernel_rfl)) ?_
  refine .seg 6 [2, 3, 5] (T' := cgo 9 [] [.code B17]) (tm' := mk 20 [(2, .ptr 0 0 0), (3, .ptr 1 0 0), (5, .d (bsD bs))]) (σ' := [.cells [.nils], .cells [.d (i64 0)]]) (by kernel_rfl) ?_
  refine .semH (o := (opOf (cgo 9 [] [.code B17])).getD default) (v := .fn (.func 91) [] [.ptr 2 0 0]) (σ' := [.cells [.nils], .cells [.d (i64 0)], .cells [.d (bsD bs)]]) (by kernel_rfl) (by kernel_rfl) (T' := cgo 10 [] [.code B17]) (by kernel_rfl) (fun k => sem_data (x := .func 60) (args := #[.tmp 5]) (ts := #[22]) (first := []) (cap := []) F60 (frames_pure bs) (by kernel_rfl) (by kernel_rfl) (by kernel_rfl) (by kernel_rfl) (by kernel_rfl) [.cells [.nils], .cells [.d (i64 0)]]) ?_
  refine .seg 2 [2, 3, 6] (T' := cgo 12 [] [.code B17]) (tm' := mk 20 [(2, .ptr 0 0 0), (3, .ptr 1 0 0), (6, .fn (.func 91) [] [.ptr 2 0 0])]) (σ' := [.cells [.nils], .cells [.d (i64 0)], .cells [.d (bsD bs)]]) (by kernel_rfl) ?_
  refine .virt 0 0 1 rfl rfl ?_
  refine .rangeH (first := []) (cap := [.ptr 2 0 0]) [0, 1, 2, 3, 4, 5] [.yield 5, .ptr 2 0 0] (S17 [] 0 bs false .ready) F91 (by kernel_rfl) (T' := (cgo 13 [] [.code B17])) (by kernel_rfl) (by kernel_rfl) (it91_calls bs hlen) (by kernel_rfl) (by kernel_rfl) (by refine ⟨rfl, rfl, ?_⟩; kernel_rfl) ?_
  rintro r σc' ⟨rest, mv', rfl, rfl⟩
  refine ⟨.tuple [], .ready, tm17, rfPs (cgo 12 [] [.code B17]), rfAs (cgo 12 [] [.code B17]), rfBd (cgo 12 [] [.code B17]), 17, rfl, by simp, by kernel_rfl, ?_⟩
  refine .seg 2 [2, 3] (T' := cgo 15 [] [.code B17]) (tm' := mk 20 [(2, .ptr 0 0 0), (3, .ptr 1 0 0)]) (σ' := S17 (parsed bs) (good (parsed bs)) rest mv' .exhausted) (by kernel_rfl) ?_
  refine .draw2H (T' := (cgo 16 [] [.code B17])) (tm' := (mk 20 [(2, .ptr 0 0 0), (3, .ptr 1 0 0), (18, .row 3), (19, .d (.int .i64 (good (parsed bs))))])) (σ' := S17 (parsed bs) (good (parsed bs)) rest mv' .exhausted) [1, 1, 2, 2] 1 2 [0, 1, 2, 3] [0, 2, 1, 3] (by kernel_rfl) (by kernel_rfl) (by kernel_rfl) (by kernel_rfl) (fun k => srun_ok (by kernel_rfl)) (fun k => srun_ok (by kernel_rfl)) ?_
  refine .freeze 3 (sz := 1) (xs := (parsed bs).map bsD) (mv := mv') rfl ?_
  refine .retD F17 (by kernel_rfl) ⟨rfl, by simp⟩ rfl (by kernel_rfl) rfl
end Go.Proofs.Ytoelkgbeefoplaa

