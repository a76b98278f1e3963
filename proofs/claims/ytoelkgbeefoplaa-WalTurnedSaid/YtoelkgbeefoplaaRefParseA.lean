/- The document's Parse: a walk. -/
import Derived.Test.YtoelkgbeefoplaaSameA
namespace Go.Proofs.Ytoelkgbeefoplaa
open Go Go.Br Go.Proofs

/-- The length that the document reads. -/
def rlen (bs : List UInt8) : Nat := (bs.getD 0 0).toNat + (bs.getD 1 0).toNat * 256 + (bs.getD 2 0).toNat * 65536
def rpiece (bs : List UInt8) : List UInt8 := (bs.take (4 + rlen bs)).drop 4
/-- Stands a frame at the front? -/
def rfits (bs : List UInt8) : Bool :=
  !(decide (bs.length < 8)) && !(decide ((bs.getD 3 0).toNat > 0)) && !(decide ((bs.getD 2 0).toNat > 1)) && !(decide (rlen bs > 65536)) && !(decide (bs.length < rlen bs + 8)) && decide (frame (rpiece bs) = bs.take (rlen bs + 8))
def rrecs : Nat → List UInt8 → List (List UInt8)
  | 0, _ => []
  | n + 1, bs => if rfits bs then rpiece bs :: rrecs n (bs.drop (rlen bs + 8)) else []

theorem iconv_i64_u8 (b : UInt8) : iconv .i64 (b.toNat : Int) = (b.toNat : Int) := by
  have := UInt8.toNat_lt b
  exact wrap_i64 (by omega) (by omega)
theorem imul_nat {a : Nat} (h : a < 256) (c : Nat) (hc : c ≤ 65536) : imul .i64 (a : Int) (c : Int) = ((a * c : Nat) : Int) := by
  show IntKind.i64.wrap _ = _
  rw [← Int.natCast_mul]
  have : a * c ≤ 255 * 65536 := Nat.mul_le_mul (by omega) hc
  exact wrap_i64 (by omega) (by omega)
theorem rlen_raw (bs : List UInt8) : iadd .i64 (iadd .i64 (iconv .i64 (bs.getD 0 0).toNat) (imul .i64 (iconv .i64 (bs.getD 1 0).toNat) ((256 : Nat) : Int))) (imul .i64 (iconv .i64 (bs.getD 2 0).toNat) ((65536 : Nat) : Int)) = ((rlen bs : Nat) : Int) := by
  have h0 := UInt8.toNat_lt (bs.getD 0 0)
  have h1 := UInt8.toNat_lt (bs.getD 1 0)
  have h2 := UInt8.toNat_lt (bs.getD 2 0)
  rw [iconv_i64_u8, iconv_i64_u8, iconv_i64_u8, imul_nat h1 _ (by omega), imul_nat h2 _ (by omega), iadd_i64 (a := ((bs.getD 0 0).toNat : Int)) (by omega) (by omega), iadd_i64 (by omega) (by omega)]
  unfold rlen
  omega

noncomputable def B18 : Code := (Try.f18.body).getD .skip
theorem F18 : Fnc Try.prog 18 Try.f18 B18 := ⟨Try.func18, by kernel_rfl, by kernel_rfl⟩
theorem rl18 (bs : List UInt8) (hlen : bs.length ≤ 1099511627776) : ∀ (m : Nat) (rs : List (List UInt8)) (g : Nat) (mv : Bool) (rest : List UInt8), bs.drop g = rest → g ≤ bs.length → rest.length < m → rs.length + rest.length ≤ 1099511627776 →
    AW Try.prog 18 none 0 ((cgo 15 [] [.code B18])) ((mk 82 [(0, .d (bsD bs)), (4, .row 0), (5, .d (.int .i64 (g)))])) [.row 1 (rs.map bsD) mv] [] fun r _ => r = .ret (.tuple [.d (.list 1 ((rs ++ rrecs m rest).map bsD)), .d (i64 (g + good (rrecs m rest)))]) := by
  intro m
  induction m with
  | zero => intro rs g mv rest h1 h2 h; omega
  | succ m ih =>
    intro rs g mv rest hrest hg hm hrs
    have hrl : rest.length = bs.length - g := by rw [← hrest]; simp
    have stop : rfits rest = false → ∀ T, isRet T = true → AW Try.prog 18 none 0 T ((mk 82 [(2, .row 0), (3, .d (.int .i64 (g)))])) [.row 1 (rs.map bsD) mv] [] fun r _ => r = .ret (.tuple [.d (.list 1 ((rs ++ rrecs (m + 1) rest).map bsD)), .d (i64 (g + good (rrecs (m + 1) rest)))]) := by
      intro hno T hT
      refine .freeze 0 (sz := 1) (xs := rs.map bsD) (mv := mv) rfl ?_
      refine .retH F18 hT (v := .tuple [.d (.list 1 (rs.map bsD)), .d (i64 g)]) (by kernel_rfl) ?_
      simp [rrecs, hno, good]
    refine .seg 5 [0, 4, 5, 9, 10] (T' := cgo 20 [] [.code B18]) (tm' := mk 82 [(0, .d (bsD bs)), (4, .row 0), (5, .d (.int .i64 (g))), (9, .d (bsD bs)), (10, .d (.int .i64 (g)))]) (σ' := [.row 1 (rs.map bsD) mv]) (by kernel_rfl) ?_
    refine .opH (o := (opOf (cgo 20 [] [.code B18])).getD default) (by kernel_rfl) (by kernel_rfl) (by kernel_rfl) (T' := cgo 21 [] [.code B18]) (by kernel_rfl) (slData_ok (t := 22) (x := .tmp 9) (lo := some (.tmp 10)) (hi := none) (sz := 1) (xs := bs.map u8) g (bs.map u8).length (by kernel_rfl) (by kernel_rfl) (by kernel_rfl) ⟨.i64, (g : Nat), by kernel_rfl, Int.natCast_nonneg _, Int.toNat_natCast _⟩ rfl (by simp; omega) (by omega)) ?_
    rw [List.take_length, ← List.map_drop, hrest]
    refine .seg 9 [0, 4, 5, 6, 15] (T' := cgo 30 [] [.code B18]) (tm' := mk 82 [(0, .d (bsD bs)), (4, .row 0), (5, .d (.int .i64 (g))), (6, .d (bsD rest)), (15, .d (.bool (decide (((rest.map u8).length : Int) < 8))))]) (σ' := [.row 1 (rs.map bsD) mv]) (by kernel_rfl) ?_
    rw [List.length_map]
    by_cases h8 : rest.length < 8
    case pos =>
      rw [decide_eq_true (show (rest.length : Int) < 8 by omega)]
      refine .seg 20 [2, 3] (T' := cgo 50 [true] [.code B18]) (tm' := mk 82 [(2, .row 0), (3, .d (.int .i64 (g)))]) (σ' := [.row 1 (rs.map bsD) mv]) (by kernel_rfl) ?_
      exact stop (by simp [rfits, h8]) _ (by kernel_rfl)
    rw [decide_eq_false (show ¬ (rest.length : Int) < 8 by omega)]
    refine .seg 1 [0, 4, 5, 6, 15, 16] (T' := cgo 31 [] [.code B18]) (tm' := mk 82 [(0, .d (bsD bs)), (4, .row 0), (5, .d (.int .i64 (g))), (6, .d (bsD rest)), (15, .d (.bool (false))), (16, .d (bsD rest))]) (σ' := [.row 1 (rs.map bsD) mv]) (by kernel_rfl) ?_
    refine .opH (o := (opOf (cgo 31 [] [.code B18])).getD default) (by kernel_rfl) (by kernel_rfl) (by kernel_rfl) (T' := cgo 32 [] [.code B18]) (by kernel_rfl) (ixData_ok (t := 22) (x := .tmp 16) (i := .const (.int .i64 3)) (sz := 1) (xs := rest.map u8) (k := .i64) (n := ((3 : Nat) : Int)) (d := u8 (rest.getD 3 0)) (by kernel_rfl) (by kernel_rfl) (by kernel_rfl) (by kernel_rfl) (by omega) (u8s_getD (by omega))) ?_
    refine .seg 4 [0, 4, 5, 6, 21] (T' := cgo 36 [] [.code B18]) (tm' := mk 82 [(0, .d (bsD bs)), (4, .row 0), (5, .d (.int .i64 (g))), (6, .d (bsD rest)), (21, .d (.bool (decide (((rest.getD 3 0).toNat : Int) > 0))))]) (σ' := [.row 1 (rs.map bsD) mv]) (by kernel_rfl) ?_
    by_cases h3 : (rest.getD 3 0).toNat > 0
    case pos =>
      rw [decide_eq_true (show ((rest.getD 3 0).toNat : Int) > 0 by omega)]
      refine .seg 14 [2, 3] (T' := cgo 50 [true] [.code B18]) (tm' := mk 82 [(2, .row 0), (3, .d (.int .i64 (g)))]) (σ' := [.row 1 (rs.map bsD) mv]) (by kernel_rfl) ?_
      exact stop (by simp only [rfits, decide_eq_true h3]; simp) _ (by kernel_rfl)
    rw [decide_eq_false (show ¬ ((rest.getD 3 0).toNat : Int) > 0 by omega)]
    refine .seg 1 [0, 4, 5, 6, 21, 22] (T' := cgo 37 [] [.code B18]) (tm' := mk 82 [(0, .d (bsD bs)), (4, .row 0), (5, .d (.int .i64 (g))), (6, .d (bsD rest)), (21, .d (.bool (false))), (22, .d (bsD rest))]) (σ' := [.row 1 (rs.map bsD) mv]) (by kernel_rfl) ?_
    refine .opH (o := (opOf (cgo 37 [] [.code B18])).getD default) (by kernel_rfl) (by kernel_rfl) (by kernel_rfl) (T' := cgo 38 [] [.code B18]) (by kernel_rfl) (ixData_ok (t := 22) (x := .tmp 22) (i := .const (.int .i64 2)) (sz := 1) (xs := rest.map u8) (k := .i64) (n := ((2 : Nat) : Int)) (d := u8 (rest.getD 2 0)) (by kernel_rfl) (by kernel_rfl) (by kernel_rfl) (by kernel_rfl) (by omega) (u8s_getD (by omega))) ?_
    refine .seg 4 [0, 4, 5, 6, 26] (T' := cgo 42 [] [.code B18]) (tm' := mk 82 [(0, .d (bsD bs)), (4, .row 0), (5, .d (.int .i64 (g))), (6, .d (bsD rest)), (26, .d (.bool (decide (((rest.getD 2 0).toNat : Int) > 1))))]) (σ' := [.row 1 (rs.map bsD) mv]) (by kernel_rfl) ?_
    by_cases h2 : (rest.getD 2 0).toNat > 1
    case pos =>
      rw [decide_eq_true (show ((rest.getD 2 0).toNat : Int) > 1 by omega)]
      refine .seg 8 [2, 3] (T' := cgo 50 [true] [.code B18]) (tm' := mk 82 [(2, .row 0), (3, .d (.int .i64 (g)))]) (σ' := [.row 1 (rs.map bsD) mv]) (by kernel_rfl) ?_
      exact stop (by simp only [rfits, decide_eq_true h2]; simp) _ (by kernel_rfl)
    rw [decide_eq_false (show ¬ ((rest.getD 2 0).toNat : Int) > 1 by omega)]
    refine .seg 3 [0, 4, 5, 6] (T' := cgo 45 [false] [.code B18]) (tm' := mk 82 [(0, .d (bsD bs)), (4, .row 0), (5, .d (.int .i64 (g))), (6, .d (bsD rest))]) (σ' := [.row 1 (rs.map bsD) mv]) (by kernel_rfl) ?_
    refine .drawH (T' := (cgo 46 [false] [.code B18])) (tm' := (mk 82 [(0, .d (bsD bs)), (4, .row 0), (5, .d (.int .i64 (g))), (6, .d (bsD rest)), (7, .d (.int .i64 (iadd .i64 (iadd .i64 (iconv .i64 (rest.getD 0 0).toNat) (imul .i64 (iconv .i64 (rest.getD 1 0).toNat) ((256 : Nat) : Int))) (imul .i64 (iconv .i64 (rest.getD 2 0).toNat) ((65536 : Nat) : Int))))), (29, .d (bsD rest)), (30, .ep 1 (u8 (rest.getD 0 0)) 0), (31, .d (u8 (rest.getD 0 0))), (32, .d (.int .i64 (iconv .i64 (rest.getD 0 0).toNat))), (33, .d (bsD rest)), (34, .ep 1 (u8 (rest.getD 1 0)) 0), (35, .d (u8 (rest.getD 1 0))), (36, .d (.int .i64 (iconv .i64 (rest.getD 1 0).toNat))), (37, .d (.int .i64 (imul .i64 (iconv .i64 (rest.getD 1 0).toNat) ((256 : Nat) : Int)))), (38, .d (.int .i64 (iadd .i64 (iconv .i64 (rest.getD 0 0).toNat) (imul .i64 (iconv .i64 (rest.getD 1 0).toNat) ((256 : Nat) : Int))))), (39, .d (bsD rest)), (40, .ep 1 (u8 (rest.getD 2 0)) 0), (41, .d (u8 (rest.getD 2 0))), (42, .d (.int .i64 (iconv .i64 (rest.getD 2 0).toNat))), (43, .d (.int .i64 (imul .i64 (iconv .i64 (rest.getD 2 0).toNat) ((65536 : Nat) : Int)))), (44, .d (.int .i64 (iadd .i64 (iadd .i64 (iconv .i64 (rest.getD 0 0).toNat) (imul .i64 (iconv .i64 (rest.getD 1 0).toNat) ((256 : Nat) : Int))) (imul .i64 (iconv .i64 (rest.getD 2 0).toNat) ((65536 : Nat) : Int)))))])) (σ' := [.row 1 (rs.map bsD) mv]) (List.replicate 17 0) [0, 1, 2, 3, 4, 5, 6, 7, 8, 9, 10, 11, 12, 13, 14, 15, 16] (by kernel_rfl) (by kernel_rfl) (by kernel_rfl) (by kernel_rfl) (fun k => ?_) ?_
    · refine Run.append (A := [0]) (srun_ok (tm' := (mk 82 [(0, .d (bsD bs)), (4, .row 0), (5, .d (.int .i64 (g))), (6, .d (bsD rest)), (29, .d (bsD rest))])) (σ' := [.row 1 (rs.map bsD) mv]) (by kernel_rfl)) ?_
      refine Run.one (StepQ.rule (o := ((drawOf (cgo 45 [false] [.code B18]))[1]?).getD default) (v := .ep 1 (u8 (rest.getD 0 0)) 0) [.tmp 29, .const (.int .i64 0)] (by kernel_rfl) (by kernel_rfl) (by kernel_rfl) (by kernel_rfl) (by kernel_rfl) (fun s tm' hv => ixData_ok (t := 22) (x := .tmp 29) (i := .const (.int .i64 0)) (sz := 1) (xs := rest.map u8) (k := .i64) (n := ((0 : Nat) : Int)) (by kernel_rfl) (by rw [hv _ (by simp)]; kernel_rfl) (by kernel_rfl) (by kernel_rfl) (by omega) (u8s_getD (by omega)))) ?_
      refine Run.append (A := [2, 3, 4]) (srun_ok (tm' := (mk 82 [(0, .d (bsD bs)), (4, .row 0), (5, .d (.int .i64 (g))), (6, .d (bsD rest)), (29, .d (bsD rest)), (30, .ep 1 (u8 (rest.getD 0 0)) 0), (31, .d (u8 (rest.getD 0 0))), (32, .d (.int .i64 (iconv .i64 (rest.getD 0 0).toNat))), (33, .d (bsD rest))])) (σ' := [.row 1 (rs.map bsD) mv]) (by kernel_rfl)) ?_
      refine Run.one (StepQ.rule (o := ((drawOf (cgo 45 [false] [.code B18]))[5]?).getD default) (v := .ep 1 (u8 (rest.getD 1 0)) 0) [.tmp 33, .const (.int .i64 1)] (by kernel_rfl) (by kernel_rfl) (by kernel_rfl) (by kernel_rfl) (by kernel_rfl) (fun s tm' hv => ixData_ok (t := 22) (x := .tmp 33) (i := .const (.int .i64 1)) (sz := 1) (xs := rest.map u8) (k := .i64) (n := ((1 : Nat) : Int)) (by kernel_rfl) (by rw [hv _ (by simp)]; kernel_rfl) (by kernel_rfl) (by kernel_rfl) (by omega) (u8s_getD (by omega)))) ?_
      refine Run.append (A := [6, 7, 8, 9, 10]) (srun_ok (tm' := (mk 82 [(0, .d (bsD bs)), (4, .row 0), (5, .d (.int .i64 (g))), (6, .d (bsD rest)), (29, .d (bsD rest)), (30, .ep 1 (u8 (rest.getD 0 0)) 0), (31, .d (u8 (rest.getD 0 0))), (32, .d (.int .i64 (iconv .i64 (rest.getD 0 0).toNat))), (33, .d (bsD rest)), (34, .ep 1 (u8 (rest.getD 1 0)) 0), (35, .d (u8 (rest.getD 1 0))), (36, .d (.int .i64 (iconv .i64 (rest.getD 1 0).toNat))), (37, .d (.int .i64 (imul .i64 (iconv .i64 (rest.getD 1 0).toNat) ((256 : Nat) : Int)))), (38, .d (.int .i64 (iadd .i64 (iconv .i64 (rest.getD 0 0).toNat) (imul .i64 (iconv .i64 (rest.getD 1 0).toNat) ((256 : Nat) : Int))))), (39, .d (bsD rest))])) (σ' := [.row 1 (rs.map bsD) mv]) (by kernel_rfl)) ?_
      refine Run.one (StepQ.rule (o := ((drawOf (cgo 45 [false] [.code B18]))[11]?).getD default) (v := .ep 1 (u8 (rest.getD 2 0)) 0) [.tmp 39, .const (.int .i64 2)] (by kernel_rfl) (by kernel_rfl) (by kernel_rfl) (by kernel_rfl) (by kernel_rfl) (fun s tm' hv => ixData_ok (t := 22) (x := .tmp 39) (i := .const (.int .i64 2)) (sz := 1) (xs := rest.map u8) (k := .i64) (n := ((2 : Nat) : Int)) (by kernel_rfl) (by rw [hv _ (by simp)]; kernel_rfl) (by kernel_rfl) (by kernel_rfl) (by omega) (u8s_getD (by omega)))) ?_
      exact srun_ok (by kernel_rfl)
    rw [rlen_raw]
    have hrn : rlen rest ≤ 255 + 255 * 256 + 255 * 65536 := by
      have k0 := UInt8.toNat_lt (rest.getD 0 0)
      have k1 := UInt8.toNat_lt (rest.getD 1 0)
      have k2 := UInt8.toNat_lt (rest.getD 2 0)
      unfold rlen
      omega
    refine .seg 6 [0, 4, 5, 6, 7, 47] (T' := cgo 52 [false] [.code B18]) (tm' := mk 82 [(0, .d (bsD bs)), (4, .row 0), (5, .d (.int .i64 (g))), (6, .d (bsD rest)), (7, .d (.int .i64 (rlen rest))), (47, .d (.bool (decide ((rlen rest : Int) > 65536))))]) (σ' := [.row 1 (rs.map bsD) mv]) (by kernel_rfl) ?_
    by_cases h6 : rlen rest > 65536
    case pos =>
      rw [decide_eq_true (show (rlen rest : Int) > 65536 by omega)]
      refine .seg 15 [2, 3] (T' := cgo 67 [false, true] [.code B18]) (tm' := mk 82 [(2, .row 0), (3, .d (.int .i64 (g)))]) (σ' := [.row 1 (rs.map bsD) mv]) (by kernel_rfl) ?_
      exact stop (by simp only [rfits, decide_eq_true h6]; simp) _ (by kernel_rfl)
    rw [decide_eq_false (show ¬ (rlen rest : Int) > 65536 by omega)]
    refine .seg 7 [0, 4, 5, 6, 7, 53] (T' := cgo 59 [false] [.code B18]) (tm' := mk 82 [(0, .d (bsD bs)), (4, .row 0), (5, .d (.int .i64 (g))), (6, .d (bsD rest)), (7, .d (.int .i64 (rlen rest))), (53, .d (.bool (decide (((rest.map u8).length : Int) < iadd .i64 (rlen rest : Nat) 8))))]) (σ' := [.row 1 (rs.map bsD) mv]) (by kernel_rfl) ?_
    rw [List.length_map, iadd_i64 (by omega) (by omega)]
    by_cases h7 : rest.length < rlen rest + 8
    case pos =>
      rw [decide_eq_true (show (rest.length : Int) < (rlen rest : Int) + 8 by omega)]
      refine .seg 8 [2, 3] (T' := cgo 67 [false, true] [.code B18]) (tm' := mk 82 [(2, .row 0), (3, .d (.int .i64 (g)))]) (σ' := [.row 1 (rs.map bsD) mv]) (by kernel_rfl) ?_
      exact stop (by simp only [rfits, decide_eq_true h7]; simp) _ (by kernel_rfl)
    rw [decide_eq_false (show ¬ (rest.length : Int) < (rlen rest : Int) + 8 by omega)]
    refine .seg 7 [0, 4, 5, 6, 7, 56, 58] (T' := cgo 66 [false, false] [.code B18]) (tm' := mk 82 [(0, .d (bsD bs)), (4, .row 0), (5, .d (.int .i64 (g))), (6, .d (bsD rest)), (7, .d (.int .i64 (rlen rest))), (56, .d (bsD rest)), (58, .d (.int .i64 (iadd .i64 4 (rlen rest : Nat))))]) (σ' := [.row 1 (rs.map bsD) mv]) (by kernel_rfl) ?_
    rw [iadd_i64 (by omega) (by omega), show (4 : Int) + (rlen rest : Int) = ((4 + rlen rest : Nat) : Int) by omega]
    refine .opH (o := (opOf (cgo 66 [false, false] [.code B18])).getD default) (by kernel_rfl) (by kernel_rfl) (by kernel_rfl) (T' := cgo 67 [false, false] [.code B18]) (by kernel_rfl) (slData_ok (t := 22) (x := .tmp 56) (lo := some (.const (.int .i64 4))) (hi := some (.tmp 58)) (sz := 1) (xs := rest.map u8) 4 (4 + rlen rest) (by kernel_rfl) (by kernel_rfl) (by kernel_rfl) ⟨.i64, 4, by kernel_rfl, by omega, by omega⟩ ⟨.i64, ((4 + rlen rest : Nat) : Int), by kernel_rfl, Int.natCast_nonneg _, Int.toNat_natCast _⟩ (by omega) (by simp; omega)) ?_
    rw [← List.map_take, ← List.map_drop]
    have hpl : (rpiece rest).length = rlen rest := by simp [rpiece]; omega
    refine .seg 0 [0, 4, 5, 6, 7, 59] (T' := cgo 67 [false, false] [.code B18]) (tm' := mk 82 [(0, .d (bsD bs)), (4, .row 0), (5, .d (.int .i64 (g))), (6, .d (bsD rest)), (7, .d (.int .i64 (rlen rest))), (59, .d (bsD (rpiece rest)))]) (σ' := [.row 1 (rs.map bsD) mv]) (by kernel_rfl) ?_
    refine .semH (o := (opOf (cgo 67 [false, false] [.code B18])).getD default) (v := .row 1) (σ' := [.row 1 (rs.map bsD) mv, .row 1 ((frame (rpiece rest)).map u8) true]) (by kernel_rfl) (by kernel_rfl) (T' := cgo 68 [false, false] [.code B18]) (by kernel_rfl) (fun k => sem_data (x := .func 19) (args := #[.tmp 59]) (ts := #[22]) (first := []) (cap := []) F19 (rframe_pure (rpiece rest) (by omega)) (by kernel_rfl) (by kernel_rfl) (by kernel_rfl) (by kernel_rfl) (by kernel_rfl) [.row 1 (rs.map bsD) mv]) ?_
    refine .seg 4 [0, 4, 5, 6, 7, 8] (T' := cgo 72 [false, false] [.code B18]) (tm' := mk 82 [(0, .d (bsD bs)), (4, .row 0), (5, .d (.int .i64 (g))), (6, .d (bsD rest)), (7, .d (.int .i64 (rlen rest))), (8, .row 1)]) (σ' := [.row 1 (rs.map bsD) mv, .row 1 ((frame (rpiece rest)).map u8) true]) (by kernel_rfl) ?_
    refine .freeze 1 (sz := 1) (xs := (frame (rpiece rest)).map u8) (mv := true) rfl ?_
    refine .sub [0] ((mk 82 [(0, .d (bsD bs)), (4, .row 0), (5, .d (.int .i64 (g))), (6, .d (bsD rest)), (7, .d (.int .i64 (rlen rest))), (8, .d (bsD (frame (rpiece rest))))])) [.row 1 (rs.map bsD) mv] none [] ⟨rfl, rfl, rfl⟩ rfl ⟨by simp, rfl⟩ rfl ⟨rfl, rfl⟩ ⟨rfl, rfl⟩ ?_
    refine .drawH (T' := (cgo 73 [false, false] [.code B18])) (tm' := (mk 82 [(0, .d (bsD bs)), (4, .row 0), (5, .d (.int .i64 (g))), (6, .d (bsD rest)), (7, .d (.int .i64 (rlen rest))), (8, .d (bsD (frame (rpiece rest)))), (61, .d (bsD (frame (rpiece rest)))), (62, .d (.str (strOf (frame (rpiece rest))))), (63, .d (bsD rest)), (64, .d (.int .i64 (rlen rest))), (65, .d (.int .i64 (((rlen rest + 8 : Nat) : Int)))), (66, .d (bsD (rest.take (rlen rest + 8)))), (67, .d (.str (strOf (rest.take (rlen rest + 8))))), (68, .d (.bool (!((strOf (frame (rpiece rest))).toList == (strOf (rest.take (rlen rest + 8))).toList))))])) (σ' := [.row 1 (rs.map bsD) mv]) (List.replicate 8 0) [0, 1, 2, 3, 4, 5, 6, 7] (by kernel_rfl) (by kernel_rfl) (by kernel_rfl) (by kernel_rfl) (fun k => ?_) ?_
    · refine Run.append (A := [0]) (srun_ok (tm' := (mk 82 [(0, .d (bsD bs)), (4, .row 0), (5, .d (.int .i64 (g))), (6, .d (bsD rest)), (7, .d (.int .i64 (rlen rest))), (8, .d (bsD (frame (rpiece rest)))), (61, .d (bsD (frame (rpiece rest))))])) (σ' := [.row 1 (rs.map bsD) mv]) (by kernel_rfl)) ?_
      refine Run.one (StepQ.rule (o := ((drawOf (cgo 72 [false, false] [.code B18]))[1]?).getD default) (v := .d (.str (strOf (frame (rpiece rest))))) [.tmp 61] (by kernel_rfl) (by kernel_rfl) (by kernel_rfl) (by kernel_rfl) (by kernel_rfl) (fun s tm' hv => bts_data (s := 22) (t := 9) (x := .tmp 61) (by kernel_rfl) (by kernel_rfl) (by kernel_rfl) ((hv _ (by simp)).trans (by kernel_rfl)))) ?_
      have e8 : iadd .i64 (rlen rest : Nat) 8 = ((rlen rest + 8 : Nat) : Int) := by rw [iadd_i64 (by omega) (by omega)]; omega
      rw [← e8]
      refine Run.append (A := [2, 3, 4]) (srun_ok (tm' := (mk 82 [(0, .d (bsD bs)), (4, .row 0), (5, .d (.int .i64 (g))), (6, .d (bsD rest)), (7, .d (.int .i64 (rlen rest))), (8, .d (bsD (frame (rpiece rest)))), (61, .d (bsD (frame (rpiece rest)))), (62, .d (.str (strOf (frame (rpiece rest))))), (63, .d (bsD rest)), (64, .d (.int .i64 (rlen rest))), (65, .d (.int .i64 (iadd .i64 (rlen rest : Nat) 8)))])) (σ' := [.row 1 (rs.map bsD) mv]) (by kernel_rfl)) ?_
      have h5 : (rest.map u8).take (rlen rest + 8) = (rest.take (rlen rest + 8)).map u8 := by rw [List.map_take]
      refine Run.one (StepQ.rule (o := ((drawOf (cgo 72 [false, false] [.code B18]))[5]?).getD default) (v := .d (.list 1 (((rest.map u8).take (rlen rest + 8)).drop 0))) [.tmp 63, .tmp 65] (by kernel_rfl) (by kernel_rfl) (by kernel_rfl) (by kernel_rfl) (by kernel_rfl) (fun s tm' hv => slData_ok (t := 22) (x := .tmp 63) (lo := none) (hi := some (.tmp 65)) (sz := 1) (xs := rest.map u8) 0 (rlen rest + 8) (by kernel_rfl) (by rw [hv _ (by simp)]; kernel_rfl) (by kernel_rfl) rfl ⟨.i64, ((rlen rest + 8 : Nat) : Int), (hv _ (by simp)).trans (by rw [← e8]; kernel_rfl), Int.natCast_nonneg _, Int.toNat_natCast _⟩ (by omega) (by simp; omega))) ?_
      rw [List.drop_zero, h5]
      refine Run.one (StepQ.rule (o := ((drawOf (cgo 72 [false, false] [.code B18]))[6]?).getD default) (v := .d (.str (strOf (rest.take (rlen rest + 8))))) [.tmp 66] (by kernel_rfl) (by kernel_rfl) (by kernel_rfl) (by kernel_rfl) (by kernel_rfl) (fun s tm' hv => bts_data (s := 22) (t := 9) (x := .tmp 66) (by kernel_rfl) (by kernel_rfl) (by kernel_rfl) ((hv _ (by simp)).trans (by kernel_rfl)))) ?_
      exact srun_ok (by kernel_rfl)
    rw [strOf_eq]
    by_cases hfr : frame (rpiece rest) = rest.take (rlen rest + 8)
    case neg =>
      rw [decide_eq_false hfr]
      refine .seg 8 [2, 3] (T' := cgo 81 [false, false, true] [.code B18]) (tm' := mk 82 [(2, .row 0), (3, .d (.int .i64 (g)))]) (σ' := [.row 1 (rs.map bsD) mv]) (by kernel_rfl) ?_
      exact stop (by simp only [rfits, decide_eq_false hfr]; simp) _ (by kernel_rfl)
    have hyes : rfits rest = true := by simp only [rfits, decide_eq_false h8, decide_eq_false h3, decide_eq_false h2, decide_eq_false h6, decide_eq_false h7, decide_eq_true hfr]; rfl
    rw [decide_eq_true hfr]
    refine .seg 8 [0, 5, 7, 71, 72, 74] (T' := cgo 81 [false, false, false] [.code B18]) (tm' := mk 82 [(0, .d (bsD bs)), (5, .d (.int .i64 (g))), (7, .d (.int .i64 (rlen rest))), (71, .row 0), (72, .d (bsD rest)), (74, .d (.int .i64 (iadd .i64 4 (rlen rest : Nat))))]) (σ' := [.row 1 (rs.map bsD) mv]) (by kernel_rfl) ?_
    rw [iadd_i64 (by omega) (by omega), show (4 : Int) + (rlen rest : Int) = ((4 + rlen rest : Nat) : Int) by omega]
    refine .opH (o := (opOf (cgo 81 [false, false, false] [.code B18])).getD default) (by kernel_rfl) (by kernel_rfl) (by kernel_rfl) (T' := cgo 82 [false, false, false] [.code B18]) (by kernel_rfl) (slData_ok (t := 22) (x := .tmp 72) (lo := some (.const (.int .i64 4))) (hi := some (.tmp 74)) (sz := 1) (xs := rest.map u8) 4 (4 + rlen rest) (by kernel_rfl) (by kernel_rfl) (by kernel_rfl) ⟨.i64, 4, by kernel_rfl, by omega, by omega⟩ ⟨.i64, ((4 + rlen rest : Nat) : Int), by kernel_rfl, Int.natCast_nonneg _, Int.toNat_natCast _⟩ (by omega) (by simp; omega)) ?_
    rw [← List.map_take, ← List.map_drop]
    refine .seg 1 [0, 5, 7, 71, 76] (T' := cgo 83 [false, false, false] [.code B18]) (tm' := mk 82 [(0, .d (bsD bs)), (5, .d (.int .i64 (g))), (7, .d (.int .i64 (rlen rest))), (71, .row 0), (76, .row 1)]) (σ' := [.row 1 (rs.map bsD) mv, .row 1 [bsD (rpiece rest)] false]) (by kernel_rfl) ?_
    refine .opH (o := (opOf (cgo 83 [false, false, false] [.code B18])).getD default) (by kernel_rfl) (by kernel_rfl) (by kernel_rfl) (T' := cgo 84 [false, false, false] [.code B18]) (by kernel_rfl) (appRow_ok (s := .tmp 71) (x := .tmp 76) (t := 26) (t2 := 26) (l := 0) (sz := 1) (by' := 24) (xs := rs.map bsD) (ys := [bsD (rpiece rest)]) (mv := mv) (by kernel_rfl) (by kernel_rfl) (by kernel_rfl) (by kernel_rfl) (by kernel_rfl) (by kernel_rfl) (by simp; omega) (by simp [maxLen]; omega)) ?_
    refine .seg 11 [0, 4, 5] (T' := cgo 15 [] [.code B18]) (tm' := mk 82 [(0, .d (bsD bs)), (4, .row 0), (5, .d (.int .i64 (iadd .i64 g (iadd .i64 (rlen rest : Nat) 8))))]) (σ' := [.row 1 (rs.map bsD ++ [bsD (rpiece rest)]) true, .row 1 [bsD (rpiece rest)] false]) (by kernel_rfl) ?_
    rw [iadd_i64 (a := ((rlen rest : Nat) : Int)) (by omega) (by omega), iadd_i64 (by omega) (by omega), show (g : Int) + ((rlen rest : Int) + 8) = ((g + (rlen rest + 8) : Nat) : Int) by omega, show rs.map bsD ++ [bsD (rpiece rest)] = (rs ++ [rpiece rest]).map bsD by simp]
    refine .sub [0] ((mk 82 [(0, .d (bsD bs)), (4, .row 0), (5, .d (.int .i64 (((g + (rlen rest + 8) : Nat) : Int))))])) [.row 1 ((rs ++ [rpiece rest]).map bsD) true] none [] ⟨rfl, rfl, rfl⟩ rfl ⟨by simp, rfl⟩ rfl ⟨rfl, rfl⟩ ⟨rfl, rfl⟩ ?_
    have hnext := ih (rs ++ [rpiece rest]) (g + (rlen rest + 8)) true (rest.drop (rlen rest + 8)) (by rw [← hrest, List.drop_drop]) (by omega) (by simp; omega) (by simp; omega)
    refine hnext.mono ?_
    rintro r σ' rfl
    have e : rrecs (m + 1) rest = rpiece rest :: rrecs m (rest.drop (rlen rest + 8)) := by rw [rrecs, if_pos hyes]
    rw [e]
    simp [good, hpl, Int.add_assoc]
theorem rparse_pure (bs : List UInt8) (hlen : bs.length ≤ 1099511627776) : Pure Try.prog 18 [.d (bsD bs)] (.tuple [.d (.list 1 ((rrecs (bs.length + 1) bs).map bsD)), .d (i64 (good (rrecs (bs.length + 1) bs)))]) := by
  refine CallsA.pure ?_ rfl
  refine CallsA.start F18 (tm := (mk 82 [(0, .d (bsD bs))])) (by kernel_rfl) ?_
  refine .seg 15 [0, 4, 5] (T' := cgo 15 [] [.code B18]) (tm' := mk 82 [(0, .d (bsD bs)), (4, .nils), (5, .d (.int .i64 (0)))]) (σ' := []) (by kernel_rfl) ?_
  refine .virtT 4 1 rfl ?_
  refine .seg 0 [0, 4, 5] (T' := (cgo 15 [] [.code B18])) (tm' := (mk 82 [(0, .d (bsD bs)), (4, .row 0), (5, .d (.int .i64 (((0 : Nat) : Int))))])) (σ' := [.row 1 (([] : List (List UInt8)).map bsD) false]) (by kernel_rfl) ?_
  have := rl18 bs hlen (bs.length + 1) [] 0 false bs (by simp) (by omega) (by omega) (by simp; omega)
  simpa using this
end Go.Proofs.Ytoelkgbeefoplaa

