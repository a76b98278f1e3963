/- Texts of this proof, part 13: BitsA, BitsB, LeftA, CrashA, CrashB, CrashC. -/
import Derived.Test.YtoelkgbeefoplaaM12
set_option linter.unusedSimpArgs false
set_option linter.unusedVariables false
set_option linter.constructorNameAsVariable false
namespace Go.Proofs.Ytoelkgbeefoplaa
open Go Go.Br Go.Proofs
open List (map)
theorem wrap_u64 (n : Nat) : IntKind.u64.wrap (n : Int) = ((BitVec.ofNat 64 n).toNat : Int) := by
 simp [IntKind.wrap, IntKind.bits, IntKind.signed]
theorem iand_u64 (x y : BitVec 64) : iand .u64 (x.toNat : Int) (y.toNat : Int) = ((x &&& y).toNat : Int) := by
 show IntKind.u64.wrap (BitVec.ofInt 64 (x.toNat : Int) &&& BitVec.ofInt 64 (y.toNat : Int)).toNat = _
 rw [show BitVec.ofInt 64 (x.toNat : Int) = x by simp, show BitVec.ofInt 64 (y.toNat : Int) = y by simp, wrap_u64]; simp
theorem ior_u64 (x y : BitVec 64) : ior .u64 (x.toNat : Int) (y.toNat : Int) = ((x ||| y).toNat : Int) := by
 show IntKind.u64.wrap (BitVec.ofInt 64 (x.toNat : Int) ||| BitVec.ofInt 64 (y.toNat : Int)).toNat = _
 rw [show BitVec.ofInt 64 (x.toNat : Int) = x by simp, show BitVec.ofInt 64 (y.toNat : Int) = y by simp, wrap_u64]; simp
theorem ishr_u64 (x : BitVec 64) (n : Nat) : ishr .u64 (x.toNat : Int) (n : Int) = ((x >>> n).toNat : Int) := by
 show Int.fdiv (x.toNat : Int) (2 ^ min (n : Int).toNat 64) = _
 have h1 : ((2 : Int) ^ min (n : Int).toNat 64) = ((2 ^ min n 64 : Nat) : Int) := by simp
 rw [h1, Int.fdiv_eq_ediv_of_nonneg _ (Int.natCast_nonneg _), ← Int.natCast_ediv]
 congr 1
 rw [BitVec.toNat_ushiftRight, Nat.shiftRight_eq_div_pow]
 by_cases hn : n ≤ 64
 · rw [Nat.min_eq_left hn]
 · rw [Nat.min_eq_right (by omega)]
   have h2 : x.toNat < 2 ^ 64 := x.isLt
   rw [Nat.div_eq_of_lt h2, Nat.div_eq_of_lt (Nat.lt_of_lt_of_le h2 (Nat.pow_le_pow_right (by omega) (by omega)))]
theorem ishl_u64 (n : Nat) (hn : n < 64) : ishl .u64 1 (n : Int) = ((1#64 <<< n).toNat : Int) := by
 show IntKind.u64.wrap (1 * 2 ^ min (n : Int).toNat 64) = _
 have h1 : (1 * (2 : Int) ^ min (n : Int).toNat 64) = ((2 ^ n : Nat) : Int) := by
  rw [Int.one_mul, Int.toNat_natCast, Nat.min_eq_left (by omega)]; simp
 rw [h1, wrap_u64]
 congr 1
 rw [BitVec.toNat_shiftLeft, BitVec.toNat_ofNat, Nat.shiftLeft_eq]
 simp
def w64 (x : BitVec 64) : D := .int .u64 (x.toNat : Int)
def bitsHas (ws : List (BitVec 64)) (n : Nat) : Bool := (ws.getD (n / 64) 0#64).getLsbD (n % 64)
theorem bit_and (x : BitVec 64) (k : Nat) : (iand .u64 (ishr .u64 (x.toNat : Int) (k : Int)) 1 == 1) = x.getLsbD k := by
 rw [ishr_u64, show (1 : Int) = ((1#64).toNat : Int) by rfl, iand_u64, BitVec.and_one_eq_setWidth_ofBool_getLsbD, BitVec.getLsbD_ushiftRight, Nat.add_zero]
 cases x.getLsbD k <;> decide
noncomputable def B99 : Code := (Try.f99.body).getD .skip
noncomputable def G99 (n : Nat) (l : List Bool) : List Item := cgo n l [.code B99]
theorem F99 : Fnc Try.prog 99 Try.f99 B99 := ⟨Try.func99, by kernel_rfl, by kernel_rfl⟩
noncomputable def B74 : Code := (Try.f74.body).getD .skip
noncomputable def G74 (n : Nat) (l : List Bool) : List Item := cgo n l [.code B74]
theorem F74 : Fnc Try.prog 74 Try.f74 B74 := ⟨Try.func74, by kernel_rfl, by kernel_rfl⟩
theorem spec_99 (ws : List D) : CallsA Try.prog 99 [.ptr 0 0 0] [.cells [.row 1], .row 1 ws false] fun r σ' => r = .ret (.row 1) ∧ σ' = [.cells [.row 1], .row 1 ws false] := by
 refine CallsA.start F99 (tm := mk (Try.f99.ntmps) [(0, .ptr 0 0 0)]) (by kernel_rfl) ?_
 refine .seg 20 [2] (T' := cgo 20 [false] [.code B99]) (tm' := mk 9 [(2, .row 1)]) (σ' := [.cells [.row 1], .row 1 ws false]) (by kernel_rfl) ?_
 refine .rt F99 (V.row 1) ?_
 exact ⟨rfl, rfl⟩
theorem spec_74 (ws : List (BitVec 64)) (n : Nat) (hn : n < 1000000000) (hw : ws.length < 1000000000) : CallsA Try.prog 74 [.ptr 0 0 0, .d (.int .i64 (n : Nat))] [.cells [.row 1], .row 1 (ws.map w64) false] fun r σ' => r = .ret (.d (.bool (bitsHas ws n))) ∧ σ' = [.cells [.row 1], .row 1 (ws.map w64) false] := by
 refine CallsA.start F74 (tm := mk (Try.f74.ntmps) [(0, .ptr 0 0 0), (1, .d (.int .i64 (n : Nat)))]) (by kernel_rfl) ?_
 refine .sg0 7 [0, 1, 4, 6] (G74 7 []) [(4, .d (.bool false)), (6, .ptr 0 0 0)] ?_
 refine .ca [0, 1] (G74 8 []) F99 (@spec_99 (map w64 ws)) ?_
 rintro r0 s0 ⟨rfl, rfl⟩
 refine ⟨_, rfl, ?_⟩
 refine .sg0 14 [1, 4, 5, 8, 9, 10, 11, 12, 13, 14, 15, 16, 17] (G74 22 []) [(5, .row 1), (8, .d (.int .i64 (↑n : Int))), (9, .d (.bool true)), (10, .d (.bool true)), (11, .d (.int .i64 (↑n : Int))), (12, .d (.int .i64 (IntKind.i64.wrap ((↑n : Int).tdiv 64)))), (13, .row 1), (14, .d (.int .i64 (↑(map w64 ws).length : Int))), (15, .d (.bool (decide (IntKind.i64.wrap ((↑n : Int).tdiv 64) < (↑(map w64 ws).length : Int))))), (16, .d (.bool (decide (IntKind.i64.wrap ((↑n : Int).tdiv 64) < (↑(map w64 ws).length : Int))))), (17, .d (.bool (decide (IntKind.i64.wrap ((↑n : Int).tdiv 64) < (↑(map w64 ws).length : Int)))))] ?_
 simp only [List.length_map]
 simp (disch := omega) only [bsW]
 rcases Bool.eq_false_or_eq_true (decide ((↑n : Int) / 64 < (↑ws.length : Int))) with h2 | h2
 · rw [h2]
   simp only [bsX] at h2
   refine .sg0 3 [1, 4, 5, 8, 9, 10, 11, 12, 13, 14, 15, 16, 17, 18, 19, 20] (G74 25 []) [(12, .d (.int .i64 ((↑n : Int) / 64))), (18, .row 1), (19, .d (.int .i64 (↑n : Int))), (20, .d (.int .i64 (IntKind.i64.wrap ((↑n : Int).tdiv 64))))] ?_
   simp (disch := omega) only [bsW]
   refine .op' (G74 26 []) (ixRow_ok (t := 124) (x := (.tmp 18)) (i := (.tmp 20)) (k := IntKind.i64) (n := (↑n : Int) / 64) (l := 1) (sz := 1) (xs := map w64 ws) (mv := false) (by kernel_rfl) (by kernel_rfl) (by kernel_rfl) (by kernel_rfl) (by kernel_rfl) (by omega) (by simp <;> omega)) ?_
   obtain ⟨y3, hy3⟩ := get_some (l := ws) (i := ((↑n : Int) / 64).toNat) (by omega)
   refine .op' (G74 27 []) (ldRow_ok (t := 151) (x := (.tmp 21)) (l := 1) (i := ((↑n : Int) / 64).toNat) (s := 0) (sz := 1) (xs := map w64 ws) (mv := false) (d := w64 y3) (v := .d (.int .u64 (↑y3.toNat : Int))) (by kernel_rfl) (by kernel_rfl) (by kernel_rfl) (map_get hy3) (by kernel_rfl)) ?_
   refine .seg 8 [4] (T' := cgo 35 [] [.code B74]) (tm' := mk 29 [(4, .d (.bool (IntKind.u64.wrap (↑(BitVec.ofInt IntKind.u64.bits ((↑y3.toNat : Int).fdiv (2 ^ min ((↑n : Int).tmod 64).toNat IntKind.u64.bits)) &&& BitVec.ofInt IntKind.u64.bits 1).toNat : Int) == 1)))]) (σ' := [.cells [.row 1], .row 1 (map w64 ws) false]) (by kernel_rfl) ?_
   simp (disch := omega) only [bsW]
   refine .rt F74 (V.d (D.bool (IntKind.u64.wrap (↑(BitVec.ofInt IntKind.u64.bits ((↑y3.toNat : Int).fdiv (2 ^ min ((↑n : Int) % 64).toNat IntKind.u64.bits)) &&& BitVec.ofInt IntKind.u64.bits 1).toNat : Int) == 1))) ?_
   have e1 : (n : Int) % 64 = ((n % 64 : Nat) : Int) := by omega
   have e2 : ((n : Int) / 64).toNat = n / 64 := by omega
   rw [e2] at hy3
   rw [e1]
   have e3 : bitsHas ws n = y3.getLsbD (n % 64) := by unfold bitsHas; rw [List.getD_eq_getElem?_getD, hy3]; rfl
   rw [e3, ← bit_and]
   exact ⟨rfl, rfl⟩
 · rw [h2]
   simp only [bsX] at h2
   refine .seg 13 [4] (T' := cgo 35 [] [.code B74]) (tm' := mk 29 [(4, .d (.bool false))]) (σ' := [.cells [.row 1], .row 1 (map w64 ws) false]) (by kernel_rfl) ?_
   refine .rt F74 (V.d (D.bool false)) ?_
   have e3 : bitsHas ws n = false := by
    unfold bitsHas
    rw [List.getD_eq_getElem?_getD, List.getElem?_eq_none (by omega)]
    simp
   rw [e3]
   exact ⟨rfl, rfl⟩
end Go.Proofs.Ytoelkgbeefoplaa
namespace Go.Proofs.Ytoelkgbeefoplaa
open Go Go.Br Go.Proofs
open List (map)
noncomputable def B73 : Code := (Try.f73.body).getD .skip
noncomputable def G73 (n : Nat) (l : List Bool) : List Item := cgo n l [.code B73]
theorem F73 : Fnc Try.prog 73 Try.f73 B73 := ⟨Try.func73, by kernel_rfl, by kernel_rfl⟩
def bitsSet (ws : List (BitVec 64)) (n : Nat) : List (BitVec 64) := ws.set (n / 64) (ws.getD (n / 64) 0#64 ||| (1#64 <<< (n % 64)))
def bitsPut (ws : List (BitVec 64)) (n : Nat) : List (BitVec 64) := if bitsHas ws n then ws else bitsSet (ws ++ List.replicate (n / 64 + 1 - ws.length) 0#64) n
theorem lo73 (n : Nat) (hn : n < 65536) : ∀ (m : Nat) (ws : List (BitVec 64)) (mv : Bool), (ws.length + m = n / 64 + 1 ∨ (m = 0 ∧ n / 64 < ws.length)) → ws.length < 1000000000 →
    AW Try.prog 73 none 2 (G73 28 [false]) (mk 50 [(0, .ptr 0 0 0), (1, .d (.int .i64 (n : Nat)))]) [.cells [.row 1], .row 1 (ws.map w64) mv] [] fun r σ' => r = .ret (.d (.bool true)) ∧ σ' = [.cells [.row 1], .row 1 ((bitsSet (ws ++ List.replicate m 0#64) n).map w64) true] := by
  have hq : IntKind.i64.wrap ((n : Int).tdiv 64) = ((n / 64 : Nat) : Int) := by
    rw [tdiv_nn (by omega), wrap_i64 (by omega) (by omega)]; omega
  intro m
  induction m with
  | zero =>
    intro ws mv hm hw
    have hlt : n / 64 < ws.length := by omega
    obtain ⟨y, hy⟩ := get_some (l := ws) (i := (IntKind.i64.wrap ((n : Int).tdiv 64)).toNat) (by omega)
    refine .raise 1 rfl rfl ?_
    refine .sg0 12 [0, 1, 20, 21, 22, 23, 24, 25, 26, 27] (G73 40 [false]) [(20, .ptr 0 0 0), (21, .ptr 0 0 0), (22, .ptr 0 0 0), (23, .row 1), (24, .d (.int .i64 (↑(map w64 ws).length : Int))), (25, .d (.int .i64 (↑n : Int))), (26, .d (.int .i64 (IntKind.i64.wrap ((↑n : Int).tdiv 64)))), (27, .d (.bool (decide ((↑(map w64 ws).length : Int) ≤ IntKind.i64.wrap ((↑n : Int).tdiv 64)))))] ?_
    simp only [List.length_map]
    simp (disch := omega) only [bsW]
    refine .if' (decide ((↑ws.length : Int) ≤ (↑n : Int) / 64)) (G73 41 [false, true]) (G73 41 [false, false]) (fun h1 => ?_) (fun h1 => ?_)
    · simp only [bsX] at h1
      omega
    · simp only [bsX] at h1
      refine .sg0 2 [0, 1] (G73 43 [false, false]) [] ?_
      refine .dr (G73 44 [false, false]) [(37, .ptr 0 0 0), (38, .ptr 0 0 0), (39, .ptr 0 0 0), (40, .row 1), (41, .d (.int .i64 (↑n : Int))), (42, .d (.int .i64 (IntKind.i64.wrap ((↑n : Int).tdiv 64)))), (43, .ptr 1 (IntKind.i64.wrap ((↑n : Int).tdiv 64)).toNat 0), (44, .d (.int .u64 (↑y.toNat : Int))), (45, .d (.int .i64 (↑n : Int))), (46, .d (.int .i64 ((↑n : Int).tmod 64))), (47, .d (.int .u64 (IntKind.u64.wrap (1 * 2 ^ min ((↑n : Int).tmod 64).toNat IntKind.u64.bits)))), (48, .d (.int .u64 (IntKind.u64.wrap (↑(BitVec.ofInt IntKind.u64.bits (↑y.toNat : Int) ||| BitVec.ofInt IntKind.u64.bits (IntKind.u64.wrap (1 * 2 ^ min ((↑n : Int).tmod 64).toNat IntKind.u64.bits))).toNat : Int)))), (49, .ptr 1 (IntKind.i64.wrap ((↑n : Int).tdiv 64)).toNat 0)] [(1, .row 1 ((map w64 ws).set (IntKind.i64.wrap ((↑n : Int).tdiv 64)).toNat (D.int IntKind.u64 (IntKind.u64.wrap (↑(BitVec.ofInt IntKind.u64.bits (↑y.toNat : Int) ||| BitVec.ofInt IntKind.u64.bits (IntKind.u64.wrap (1 * 2 ^ min ((↑n : Int).tmod 64).toNat IntKind.u64.bits))).toNat : Int)))) true)] (fun kz L hL => ?_) ?_
      · refine ⟨[fO 0, fA 0, fA 0, fB 0 1, nF, nF, ⟨[1], [], [], [1], [1], [], true, false⟩, fR 1, nF, nF, nF, nF, ⟨[1], [], [], [1], [1], [], true, false⟩, ⟨[1], [1], [], [], [1], [], true, false⟩], run_amongF hL _ [] [0, 1, 2, 3, 4, 5, 6, 7, 8, 9, 10, 11, 12, 13] (by intro p hp; cases hp) (by kernel_rfl) ?_⟩
        refine Run.ap [0, 1, 2, 3, 4, 5] [(37, .ptr 0 0 0), (38, .ptr 0 0 0), (39, .ptr 0 0 0), (40, .row 1), (41, .d (.int .i64 (↑n : Int))), (42, .d (.int .i64 (IntKind.i64.wrap ((↑n : Int).tdiv 64))))] [] ?_
        refine Run.lk 6 (.ptr 1 (IntKind.i64.wrap ((↑n : Int).tdiv 64)).toNat 0) [(.tmp 40), (.tmp 42)] (fun tm' σ2 hv hr => ixRow_ok (t := 124) (x := (.tmp 40)) (i := (.tmp 42)) (k := IntKind.i64) (n := IntKind.i64.wrap ((↑n : Int).tdiv 64)) (l := 1) (sz := 1) (xs := map w64 ws) (mv := true) (by kernel_rfl) (evv hv) (evv hv) (atr hr) (by kernel_rfl) (by omega) (by simp at * <;> omega)) ?_
        refine Run.lk 7 (.d (.int .u64 (↑y.toNat : Int))) [(.tmp 43)] (fun tm' σ2 hv hr => ldRow_ok (t := 151) (x := (.tmp 43)) (l := 1) (i := (IntKind.i64.wrap ((↑n : Int).tdiv 64)).toNat) (s := 0) (sz := 1) (xs := map w64 ws) (mv := true) (d := w64 y) (v := .d (.int .u64 (↑y.toNat : Int))) (by kernel_rfl) (evv hv) (atr hr) (map_get hy) (by kernel_rfl)) ?_
        refine Run.ap [8, 9, 10, 11] [(45, .d (.int .i64 (↑n : Int))), (46, .d (.int .i64 ((↑n : Int).tmod 64))), (47, .d (.int .u64 (IntKind.u64.wrap (1 * 2 ^ min ((↑n : Int).tmod 64).toNat IntKind.u64.bits)))), (48, .d (.int .u64 (IntKind.u64.wrap (↑(BitVec.ofInt IntKind.u64.bits (↑y.toNat : Int) ||| BitVec.ofInt IntKind.u64.bits (IntKind.u64.wrap (1 * 2 ^ min ((↑n : Int).tmod 64).toNat IntKind.u64.bits))).toNat : Int))))] [] ?_
        refine Run.lk 12 (.ptr 1 (IntKind.i64.wrap ((↑n : Int).tdiv 64)).toNat 0) [(.tmp 40), (.tmp 42)] (fun tm' σ2 hv hr => ixRow_ok (t := 124) (x := (.tmp 40)) (i := (.tmp 42)) (k := IntKind.i64) (n := IntKind.i64.wrap ((↑n : Int).tdiv 64)) (l := 1) (sz := 1) (xs := map w64 ws) (mv := true) (by kernel_rfl) (evv hv) (evv hv) (atr hr) (by kernel_rfl) (by omega) (by simp at * <;> omega)) ?_
        refine Run.one (StepF.sets (o := ((drawOf (G73 43 [false, false]))[13]?).getD default) (v := .undef) [(.tmp 49), (.tmp 48)] 1 (.row 1 ((map w64 ws).set (IntKind.i64.wrap ((↑n : Int).tdiv 64)).toNat (D.int IntKind.u64 (IntKind.u64.wrap (↑(BitVec.ofInt IntKind.u64.bits (↑y.toNat : Int) ||| BitVec.ofInt IntKind.u64.bits (IntKind.u64.wrap (1 * 2 ^ min ((↑n : Int).tmod 64).toNat IntKind.u64.bits))).toNat : Int)))) true) (by kernel_rfl) rfl (by kernel_rfl) (by kernel_rfl) (by kernel_rfl) (by kernel_rfl) (by kernel_rfl) (fun tm' σ2 hv hr => stRow_ok (t := 151) (x := (.tmp 49)) (y := (.tmp 48)) (l := 1) (i := (IntKind.i64.wrap ((↑n : Int).tdiv 64)).toNat) (s := 0) (sz := 1) (xs := map w64 ws) (mv := true) (d := w64 y) (d' := D.int IntKind.u64 (IntKind.u64.wrap (↑(BitVec.ofInt IntKind.u64.bits (↑y.toNat : Int) ||| BitVec.ofInt IntKind.u64.bits (IntKind.u64.wrap (1 * 2 ^ min ((↑n : Int).tmod 64).toNat IntKind.u64.bits))).toNat : Int))) (by kernel_rfl) (evv hv) (atr hr) (map_get hy) (by unfold storeE; rw [hv _ (by simp)]; kernel_rfl))) ?_
        exact Run.fin
      refine .seg 4 [4] (T' := cgo 48 [false, false] [.code B73]) (tm' := mk 50 [(4, .d (.bool true))]) (σ' := [.cells [.row 1], .row 1 ((map w64 ws).set (IntKind.i64.wrap ((↑n : Int).tdiv 64)).toNat (D.int IntKind.u64 (IntKind.u64.wrap (↑(BitVec.ofInt IntKind.u64.bits (↑y.toNat : Int) ||| BitVec.ofInt IntKind.u64.bits (IntKind.u64.wrap (1 * 2 ^ min ((↑n : Int).tmod 64).toNat IntKind.u64.bits))).toNat : Int)))) true]) (by kernel_rfl) ?_
      simp (disch := omega) only [bsW]
      refine .rt F73 (V.d (D.bool true)) ?_
      have e1 : (n : Int) % 64 = ((n % 64 : Nat) : Int) := by omega
      have e2 : ((n : Int) / 64).toNat = n / 64 := by omega
      have e3 : ior .u64 (y.toNat : Int) (ishl .u64 1 ((n % 64 : Nat) : Int)) = ((y ||| (1#64 <<< (n % 64))).toNat : Int) := by rw [ishl_u64 _ (Nat.mod_lt _ (by omega)), ior_u64]
      rw [hq, Int.toNat_natCast] at hy
      rw [e1, e2]
      change _ ∧ [O.cells [V.row 1], O.row 1 ((List.map w64 ws).set (n / 64) (D.int .u64 (ior .u64 (y.toNat : Int) (ishl .u64 1 ((n % 64 : Nat) : Int))))) true] = _
      rw [e3]
      have e4 : ws.getD (n / 64) 0#64 = y := by rw [List.getD_eq_getElem?_getD, hy]; rfl
      refine ⟨rfl, ?_⟩
      rw [List.replicate_zero, List.append_nil]
      unfold bitsSet
      rw [e4, List.map_set]
      rfl
  | succ m ih =>
    intro ws mv hm hw
    refine .sg0 12 [0, 1, 20, 21, 22, 23, 24, 25, 26, 27] (G73 40 [false]) [(20, .ptr 0 0 0), (21, .ptr 0 0 0), (22, .ptr 0 0 0), (23, .row 1), (24, .d (.int .i64 (↑(map w64 ws).length : Int))), (25, .d (.int .i64 (↑n : Int))), (26, .d (.int .i64 (IntKind.i64.wrap ((↑n : Int).tdiv 64)))), (27, .d (.bool (decide ((↑(map w64 ws).length : Int) ≤ IntKind.i64.wrap ((↑n : Int).tdiv 64)))))] ?_
    simp only [List.length_map]
    simp (disch := omega) only [bsW]
    refine .if' (decide ((↑ws.length : Int) ≤ (↑n : Int) / 64)) (G73 41 [false, true]) (G73 41 [false, false]) (fun h1 => ?_) (fun h1 => ?_)
    · simp only [bsX] at h1
      refine .sg 9 [0, 1, 20, 21, 22, 23, 24, 25, 26, 27, 28, 29, 30, 31, 32, 33] (G73 50 [false, true]) [(26, .d (.int .i64 ((↑n : Int) / 64))), (27, .d (.bool (decide ((↑ws.length : Int) ≤ (↑n : Int) / 64)))), (28, .ptr 0 0 0), (29, .ptr 0 0 0), (30, .ptr 0 0 0), (31, .ptr 0 0 0), (32, .row 1), (33, .row 2)] [(2, .row 1 [D.int IntKind.u64 0] false)] ?_
      refine .op' (G73 51 [false, true]) (appRow_ok (s := (.tmp 32)) (x := (.tmp 33)) (t := 124) (t2 := 124) (sz := 1) (by' := 8) (ys := [D.int IntKind.u64 0]) (l := 1) (xs := map w64 ws) (mv := mv) (by kernel_rfl) (by kernel_rfl) (by kernel_rfl) (by kernel_rfl) (by kernel_rfl) (by kernel_rfl) (by simp <;> omega) (by first | (simp [maxLen] <;> omega) | omega)) ?_
      refine .sg 5 [0, 1, 20, 21, 22, 24, 25, 26, 27, 28, 29, 30, 31, 33, 34, 35, 36] (G73 56 [false, true]) [(35, .ptr 0 0 0), (36, .ptr 0 0 0)] [(0, .cells [.row 1])] ?_
      rw [show List.map w64 ws ++ [D.int IntKind.u64 0] = List.map w64 (ws ++ [0#64]) by simp [w64]]
      refine .kp [0, 1] ?_
      refine .su [0, 1] (mk 50 [(0, .ptr 0 0 0), (1, .d (.int .i64 (n : Nat)))]) [.cells [.row 1], .row 1 ((ws ++ [0#64]).map w64) true] ?_
      refine AW.mono (.seg 1 [0, 1] (by kernel_rfl) (ih (ws ++ [0#64]) true (by simp; omega) (by simp; omega))) ?_
      rintro r σ' ⟨rfl, rfl⟩
      exact ⟨rfl, by rw [List.append_assoc]; rfl⟩
    · simp only [bsX] at h1
      omega
theorem spec_73 (ws : List (BitVec 64)) (n : Nat) (hn : n < 65536) (hw : ws.length < 900000000) : CallsA Try.prog 73 [.ptr 0 0 0, .d (.int .i64 (n : Nat))] [.cells [.row 1], .row 1 (ws.map w64) false] fun r σ' => r = .ret (.d (.bool (!bitsHas ws n))) ∧ σ' = [.cells [.row 1], .row 1 ((bitsPut ws n).map w64) true] := by
 refine CallsA.start F73 (tm := mk (Try.f73.ntmps) [(0, .ptr 0 0 0), (1, .d (.int .i64 (n : Nat)))]) (by kernel_rfl) ?_
 refine .sg0 18 [0, 1, 4, 5, 6, 7, 8, 9, 10, 11, 12, 13, 14, 15] (G73 18 []) [(4, .d (.bool false)), (5, .ptr 0 0 0), (6, .d (.bool false)), (7, .d (.bool false)), (8, .d (.int .i64 (↑n : Int))), (9, .d (.bool false)), (10, .d (.bool false)), (11, .d (.bool false)), (12, .d (.int .i64 (↑n : Int))), (13, .d (.bool (decide ((↑n : Int) ≥ 65536)))), (14, .d (.bool (decide ((↑n : Int) ≥ 65536)))), (15, .d (.bool (decide ((↑n : Int) ≥ 65536))))] ?_
 rcases Bool.eq_false_or_eq_true (decide ((↑n : Int) ≥ 65536)) with h1 | h1
 · rw [h1]
   simp only [bsX] at h1
   omega
 · rw [h1]
   simp only [bsX] at h1
   refine .sg0 2 [0, 1, 4, 5, 6, 7, 8, 9, 10, 11, 12, 13, 14, 15, 16, 17] (G73 20 []) [(16, .ptr 0 0 0), (17, .d (.int .i64 (↑n : Int)))] ?_
   refine .ca [0, 1] (G73 21 []) F74 (@spec_74 (ws) (n) (by omega) (by omega)) ?_
   rintro r1 s1 ⟨rfl, rfl⟩
   refine ⟨_, rfl, ?_⟩
   refine .sg0 2 [0, 1, 4, 19] (G73 23 []) [(19, .d (.bool (bitsHas ws n)))] ?_
   refine .if' (bitsHas ws n) (G73 24 [true]) (G73 24 [false]) (fun h3 => ?_) (fun h3 => ?_)
   · refine .seg 4 [0, 1, 4] (T' := cgo 28 [true] [.code B73]) (tm' := mk 50 [(0, .ptr 0 0 0), (1, .d (.int .i64 (↑n : Int))), (4, .d (.bool false))]) (σ' := [.cells [.row 1], .row 1 (map w64 ws) false]) (by kernel_rfl) ?_
     refine .raise 1 rfl rfl ?_
     refine .rt F73 (V.d (D.bool false)) ?_
     simp_all [bitsPut]
   · refine .sg0 3 [0, 1, 4] (G73 27 [false]) [] ?_
     refine AW.mono (.seg 1 [0, 1] (by kernel_rfl) (lo73 n hn (n / 64 + 1 - ws.length) ws false (by omega) (by omega))) ?_
     rintro r σ' ⟨rfl, rfl⟩
     simp_all [bitsPut]
theorem bitsHas_grow (ws : List (BitVec 64)) (k m : Nat) : bitsHas (ws ++ List.replicate k 0#64) m = bitsHas ws m := by
 unfold bitsHas
 congr 1
 rw [List.getD_eq_getElem?_getD, List.getD_eq_getElem?_getD]
 by_cases h : m / 64 < ws.length
 · rw [List.getElem?_append_left h]
 · rw [List.getElem?_append_right (by omega), List.getElem?_eq_none (show ws.length ≤ m / 64 by omega), List.getElem?_replicate]
   split <;> rfl
theorem bitsHas_set (ws : List (BitVec 64)) (n m : Nat) (h : n / 64 < ws.length) : bitsHas (bitsSet ws n) m = (m == n || bitsHas ws m) := by
  unfold bitsHas bitsSet
  rw [List.getD_eq_getElem?_getD, List.getElem?_set]
  by_cases h1 : n / 64 = m / 64
  · rw [if_pos h1, if_pos h, Option.getD_some, BitVec.getLsbD_or, BitVec.getLsbD_shiftLeft, h1]
    by_cases h2 : m = n
    · subst h2
      have : m % 64 < 64 := Nat.mod_lt _ (by omega)
      simp [this]
    · have h3 : m % 64 ≠ n % 64 := by omega
      have h4 : (m == n) = false := by simpa using h2
      rw [h4, Bool.false_or]
      rcases Nat.lt_or_ge (m % 64) (n % 64) with h5 | h5
      · simp [h5]
      · have : m % 64 - n % 64 ≠ 0 := by omega
        rw [BitVec.getLsbD_one]
        simp [this]
  · rw [if_neg h1]
    have h2 : m ≠ n := fun e => h1 (by rw [e])
    have h4 : (m == n) = false := by simpa using h2
    rw [h4, Bool.false_or, List.getD_eq_getElem?_getD]
theorem bitsHas_put (ws : List (BitVec 64)) (n m : Nat) : bitsHas (bitsPut ws n) m = (m == n || bitsHas ws m) := by
 unfold bitsPut
 split
 · rename_i h
   by_cases h2 : m = n
   · subst h2; simp [h]
   · simp [h2]
 · rw [bitsHas_set _ _ _ (by simp; omega), bitsHas_grow]
theorem bitsPut_len (ws : List (BitVec 64)) (n : Nat) (hn : n < 65536) (h : ws.length ≤ 1024) : (bitsPut ws n).length ≤ 1024 := by
 unfold bitsPut
 split
 · exact h
 · unfold bitsSet; simp; omega
end Go.Proofs.Ytoelkgbeefoplaa
namespace Go.Proofs.Ytoelkgbeefoplaa
open Go Go.Br Go.Proofs
open List (map)
noncomputable def B75 : Code := (Try.f75.body).getD .skip
noncomputable def G75 (n : Nat) (l : List Bool) : List Item := cgo n l [.code B75]
theorem F75 : Fnc Try.prog 75 Try.f75 B75 := ⟨Try.func75, by kernel_rfl, by kernel_rfl⟩
theorem spec_75 (bs : List UInt8) (s i : Nat) (keep : List Int) (hf : s ≤ bs.length ∧ bs.length ≤ 1048576) (hi : i < 1000000000) (hk : keep.length < 1000000000) (hkv : ∀ v ∈ keep, -9223372036854775808 ≤ v ∧ v < 9223372036854775808) :
    Br.Pure Try.prog 75 [.d (.agg [.list 1 (bs.map u8), .int .i64 (s : Nat)]), .d (.int .i64 (i : Nat)), .d (.list 1 (keep.map intD))] (.d (.int .i64 (leftOf (bs, s) i keep : Nat))) := by
  refine CallsA.start F75 (tm := mk (Try.f75.ntmps) [(0, .d (.agg [.list 1 (bs.map u8), .int .i64 (s : Nat)])), (1, .d (.int .i64 (i : Nat))), (2, .d (.list 1 (keep.map intD)))]) (by kernel_rfl) ?_
  have hf1 := hf.1
  have hf2 := hf.2
  by_cases hk0 : keep = []
  · subst hk0
    have e : leftOf (bs, s) i [] = s := by simp [leftOf]
    rw [e]
    refine .sg 19 [1, 2, 3, 6] (G75 19 [true]) [(3, .ptr 0 0 0), (6, .d (.int .i64 (↑s : Int)))] [(0, .cells [.d (.list 1 (map u8 bs)), .d (.int .i64 (↑s : Int))])] ?_
    refine .kp [6] ?_
    refine .su [] (mk 32 [(6, .d (.int .i64 (↑s : Int)))]) [] ?_
    refine .rt F75 (V.d (D.int IntKind.i64 (↑s : Int))) ?_
    exact ⟨rfl, rfl⟩
  · have hpos : 0 < keep.length := List.length_pos_iff.2 hk0
    have hlt : i % keep.length < keep.length := Nat.mod_lt _ hpos
    have hq := irem_n i keep.length
    obtain ⟨v, hw⟩ := get_some (l := keep) (i := (irem (i : Int) ((List.map intD keep).length : Int)).toNat) (by rw [List.length_map, hq, Int.toNat_natCast]; exact hlt)
    have hvb := hkv v (List.mem_of_getElem? hw)
    refine .sg 12 [1, 2, 3, 6, 10] (G75 12 []) [(3, .ptr 0 0 0), (6, .d (.int .i64 0)), (10, .d (.bool ((↑(map intD keep).length : Int) == 0)))] [(0, .cells [.d (.list 1 (map u8 bs)), .d (.int .i64 (↑s : Int))])] ?_
    simp only [List.length_map]
    refine .if' ((↑keep.length : Int) == 0) (G75 13 [true]) (G75 13 [false]) (fun h1 => ?_) (fun h1 => ?_)
    · simp only [bsX] at h1
      omega
    · simp only [bsX] at h1
      refine .sg0 12 [1, 2, 3, 6, 7] (G75 25 [false]) [(7, .d (.int .i64 (IntKind.i64.wrap ((↑(map u8 bs).length : Int) - (↑s : Int)))))] ?_
      simp only [List.length_map]
      simp (disch := omega) only [bsW]
      refine .dr (G75 26 [false]) [(6, .d (.int .i64 (IntKind.i64.wrap ((↑s : Int) + if (if (↑bs.length : Int) - (↑s : Int) < v then (↑bs.length : Int) - (↑s : Int) else v) > 0 then if (↑bs.length : Int) - (↑s : Int) < v then (↑bs.length : Int) - (↑s : Int) else v else 0)))), (19, .ptr 0 0 1), (20, .d (.int .i64 (↑s : Int))), (21, .d (.list 1 (map intD keep))), (22, .d (.int .i64 (↑i : Int))), (23, .d (.list 1 (map intD keep))), (24, .d (.int .i64 (↑(map intD keep).length : Int))), (25, .d (.int .i64 (irem (↑i : Int) (↑(map intD keep).length : Int)))), (26, .ep 1 (D.int IntKind.i64 v) 0), (27, .d (.int .i64 v)), (28, .d (.int .i64 ((↑bs.length : Int) - (↑s : Int)))), (29, .d (.int .i64 (if (↑bs.length : Int) - (↑s : Int) < v then (↑bs.length : Int) - (↑s : Int) else v))), (30, .d (.int .i64 (if (if (↑bs.length : Int) - (↑s : Int) < v then (↑bs.length : Int) - (↑s : Int) else v) > 0 then if (↑bs.length : Int) - (↑s : Int) < v then (↑bs.length : Int) - (↑s : Int) else v else 0))), (31, .d (.int .i64 (IntKind.i64.wrap ((↑s : Int) + if (if (↑bs.length : Int) - (↑s : Int) < v then (↑bs.length : Int) - (↑s : Int) else v) > 0 then if (↑bs.length : Int) - (↑s : Int) < v then (↑bs.length : Int) - (↑s : Int) else v else 0))))] [] (fun kz L hL => ?_) ?_
      · refine ⟨[fA 0, fR 0, nF, nF, nF, nF, nF, nF, nF, nF, nF, nF, nF, nF], run_amongF hL _ [] [0, 1, 2, 3, 4, 9, 5, 6, 7, 8, 10, 11, 12, 13] (by intro p hp; cases hp) (by kernel_rfl) ?_⟩
        refine Run.ap [0, 1, 2, 3, 4, 9, 5] [(19, .ptr 0 0 1), (20, .d (.int .i64 (↑s : Int))), (21, .d (.list 1 (map intD keep))), (22, .d (.int .i64 (↑i : Int))), (23, .d (.list 1 (map intD keep))), (24, .d (.int .i64 (↑(map intD keep).length : Int))), (28, .d (.int .i64 ((↑bs.length : Int) - (↑s : Int))))] [] ?_
        refine Run.lk 6 (.d (.int .i64 (irem (↑i : Int) (↑(map intD keep).length : Int)))) [(.tmp 22), (.tmp 24)] (fun tm' σ2 hv hr => rem_ok (t := 3) (ty := 3) (x := (.tmp 22)) (y := (.tmp 24)) (k := IntKind.i64) (a := (↑i : Int)) (b := (↑(map intD keep).length : Int)) (by kernel_rfl) (evv hv) (evv hv) (by simp <;> omega)) ?_
        refine Run.lk 7 (.ep 1 (D.int IntKind.i64 v) 0) [(.tmp 21), (.tmp 25)] (fun tm' σ2 hv hr => ixData_ok (t := 46) (x := (.tmp 21)) (i := (.tmp 25)) (k := IntKind.i64) (n := irem (↑i : Int) (↑(map intD keep).length : Int)) (sz := 1) (xs := map intD keep) (d := intD v) (by kernel_rfl) (evl hv) (evv hv) (by kernel_rfl) (by simp <;> omega) (map_get hw)) ?_
        exact Run.fin
      refine .kp [6] ?_
      refine .su [] (mk 32 [(6, .d (.int .i64 (IntKind.i64.wrap ((↑s : Int) + if (if (↑bs.length : Int) - (↑s : Int) < v then (↑bs.length : Int) - (↑s : Int) else v) > 0 then if (↑bs.length : Int) - (↑s : Int) < v then (↑bs.length : Int) - (↑s : Int) else v else 0))))]) [] ?_
      refine .rt F75 (V.d (D.int IntKind.i64 (IntKind.i64.wrap ((↑s : Int) + if (if (↑bs.length : Int) - (↑s : Int) < v then (↑bs.length : Int) - (↑s : Int) else v) > 0 then if (↑bs.length : Int) - (↑s : Int) < v then (↑bs.length : Int) - (↑s : Int) else v else 0)))) ?_
      rw [List.length_map, hq, Int.toNat_natCast] at hw
      have e : (leftOf (bs, s) i keep : Int) = s + (min v ((bs.length : Int) - s)).toNat := by
        unfold leftOf
        rw [if_neg hk0, List.getD_eq_getElem?_getD, hw]
        simp
      refine ⟨?_, rfl⟩
      rw [e, wrap_i64 (by split <;> split <;> omega) (by split <;> split <;> omega)]
      congr 3
      split <;> split <;> omega
end Go.Proofs.Ytoelkgbeefoplaa
namespace Go.Proofs.Ytoelkgbeefoplaa
open Go Go.Br Go.Proofs
open List (map)
noncomputable def B35 : Code := (Try.f35.body).getD .skip
noncomputable def G35 (n : Nat) (l : List Bool) : List Item := cgo n l [.code B35]
theorem F35 : Fnc Try.prog 35 Try.f35 B35 := ⟨Try.func35, by kernel_rfl, by kernel_rfl⟩
theorem kfold_snoc : ∀ (cs : List (ByteArray × ByteArray × Int)) (c : ByteArray × ByteArray × Int) (p : List ByteArray × List Int), kfold (cs ++ [c]) p = kapply (kfold cs p).1 (kfold cs p).2 c.1 c.2.1 c.2.2
 | [], c, p => rfl
 | c' :: cs, c, p => by simp only [List.cons_append, kfold]; exact kfold_snoc cs c _
def SA (d : Dk) (dir : Int) (keep : List Int) (p : List ByteArray × List Int) : Store :=
  [.cells [.row 1, .ptr 2 0 0, .ep 2 (dirD d.sk d.sv) 0, .row 5, .d (.int .i64 d.quota), .d (.bool d.full), .d (.bool d.off), .d (.int .i64 d.stop), .d (.int .i64 d.calls)], .row 2 (d.files.map fileD) false, .cells [.row 3, .row 4], .row 1 (d.nk.map strD) false, .row 1 (d.nv.map intD) false, .row 3 (d.ch.map chD) false,
    .cells [.ptr 0 0 0], .cells [.d (.int .i64 dir), .d (.list 1 (keep.map intD))], .cells [.row 9, .row 10], .row 1 (p.1.map strD) true, .row 1 (p.2.map intD) true]
theorem loA (d : Dk) (N : Nat) (h : d.Ok N) (dir : Int) (keep : List Int) (K : Nat) (hK : K ≤ d.ch.length) (Q : AE → Store → Prop)
   (hnext : AW Try.prog 35 none 6 (G35 34 [false, false]) (mk 133 [(2, .ptr 6 0 0), (3, .ptr 7 0 0), (4, .ptr 8 0 0)]) (SA d dir keep (kfold (d.ch.take K) (d.sk, d.sv))) [] Q) : ∀ (m i : Nat), i + m = K →
   AW Try.prog 35 none 6 (G35 27 [false]) (mk 133 [(2, .ptr 6 0 0), (3, .ptr 7 0 0), (4, .ptr 8 0 0), (37, .sl 5 0 K none), (38, .d (.int .i64 (K : Nat))), (39, .d (.int .i64 (i : Nat)))]) (SA d dir keep (kfold (d.ch.take i) (d.sk, d.sv))) [] Q := by
 have q0 := h.chl
 have q4 := h.nb
 have q5 := h.skc
 intro m
 induction m with
 | zero =>
   intro i hi
   have hi : i = K := by omega
   subst hi
   refine .sg0 5 [2, 3, 4, 37, 38, 39, 40] (G35 32 [false]) [(40, .d (.bool (decide ((↑i : Int) < (↑i : Int)))))] ?_
   refine .if' (decide ((↑i : Int) < (↑i : Int))) (G35 33 [false, true]) (G35 33 [false, false]) (fun h1 => ?_) (fun h1 => ?_)
   · simp only [bsX] at h1
     omega
   · simp only [bsX] at h1
     refine .sg0 1 [2, 3, 4] (G35 34 [false, false]) [] ?_
     exact .goes [2, 3, 4] (by kernel_rfl) (by kernel_rfl) (by kernel_rfl) hnext
 | succ m ih =>
   intro i hi
   obtain ⟨c, hc⟩ := get_some (l := d.ch) (i := i) (by omega)
   obtain ⟨g1, g2, g3, g4⟩ := kfold_ok (n := d.files.length) (d.ch.take i) (d.sk, d.sv) h.sr h.sl h.sn (fun c hc => h.cn c (List.mem_of_mem_take hc))
   simp only [List.length_take] at g4
   have hc2 : kfold (d.ch.take (i + 1)) (d.sk, d.sv) = kapply (kfold (d.ch.take i) (d.sk, d.sv)).1 (kfold (d.ch.take i) (d.sk, d.sv)).2 c.1 c.2.1 c.2.2 := by
     obtain ⟨hlt, rfl⟩ := List.getElem?_eq_some_iff.1 hc
     rw [List.take_succ_eq_append_getElem hlt, kfold_snoc]
   have g5 : (kfold (d.ch.take i) (d.sk, d.sv)).1.length < 999990 := by omega
   have ihn := ih (i + 1) (by omega)
   rw [hc2] at ihn
   generalize kfold (d.ch.take i) (d.sk, d.sv) = p at *
   refine .sg0 5 [2, 3, 4, 37, 38, 39, 40] (G35 32 [false]) [(40, .d (.bool (decide ((↑i : Int) < (↑K : Int)))))] ?_
   refine .if' (decide ((↑i : Int) < (↑K : Int))) (G35 33 [false, true]) (G35 33 [false, false]) (fun h1 => ?_) (fun h1 => ?_)
   · simp only [bsX] at h1
     refine .sg0 5 [2, 3, 4, 37, 38, 39, 40] (G35 38 [false, true]) [] ?_
     refine .op' (G35 39 [false, true]) (ixSl0_ok (t := 106) (x := (.tmp 37)) (i := (.tmp 39)) (k := IntKind.i64) (n := (↑i : Int)) (l := 5) (len := K) (c := none) (sz := 3) (xs := map chD d.ch) (mv := false) (by kernel_rfl) (by kernel_rfl) (by kernel_rfl) (by kernel_rfl) (by kernel_rfl) (by omega) (by omega)) ?_
     refine .op' (G35 40 [false, true]) (ldRow_ok (t := 117) (x := (.tmp 41)) (l := 5) (i := (↑i : Int).toNat) (s := 0) (sz := 3) (xs := map chD d.ch) (mv := false) (d := chD c) (v := .d (.agg [D.str c.fst, D.str c.snd.fst, D.int IntKind.i64 c.snd.snd])) (by kernel_rfl) (by kernel_rfl) (by kernel_rfl) (map_get hc) (by kernel_rfl)) ?_
     refine .sg 6 [2, 3, 4, 6, 37, 38, 39, 40, 41, 42, 43, 44] (G35 46 [false, true]) [(6, .ptr 11 0 0), (43, .ptr 8 0 0), (44, .d (.agg [D.str c.fst, D.str c.snd.fst, D.int IntKind.i64 c.snd.snd]))] [(11, .cells [.d (.str c.fst), .d (.str c.snd.fst), .d (.int .i64 c.snd.snd)])] ?_
     refine .ca [8, 9, 10] (G35 47 [false, true]) F71 (@spec_71 (p.fst) (p.snd) (c.fst) (c.snd.fst) (c.snd.snd) (by assumption) (by assumption) (by assumption)) ?_
     rintro r1 s1 ⟨rfl, rfl⟩
     refine ⟨_, rfl, ?_⟩
     refine .sg0 6 [2, 3, 4, 6, 37, 38, 39, 40, 41, 42, 43, 44, 46] (G35 53 [false, true]) [(39, .d (.int .i64 (IntKind.i64.wrap ((↑i : Int) + 1)))), (46, .d (.int .i64 (IntKind.i64.wrap ((↑i : Int) + 1))))] ?_
     simp (disch := omega) only [bsW]
     refine .kp [2, 3, 4, 37, 38, 39] ?_
     refine .su [0, 1, 2, 3, 4, 5, 6, 7, 8, 9, 10] (mk 133 [(2, .ptr 6 0 0), (3, .ptr 7 0 0), (4, .ptr 8 0 0), (37, .sl 5 0 K none), (38, .d (.int .i64 (K : Nat))), (39, .d (.int .i64 ((i + 1 : Nat) : Int)))]) (SA d dir keep (kapply p.1 p.2 c.1 c.2.1 c.2.2)) ?_
     exact .seg 1 [2, 3, 4, 37, 38, 39] (by kernel_rfl) ihn
   · simp only [bsX] at h1
     omega
end Go.Proofs.Ytoelkgbeefoplaa
namespace Go.Proofs.Ytoelkgbeefoplaa
open Go Go.Br Go.Proofs
open List (map)
def bitsAll (l : List Int) : List (BitVec 64) := l.foldl (fun ws k => bitsPut ws k.toNat) []
theorem bitsAll_snoc (l : List Int) (k : Int) : bitsAll (l ++ [k]) = bitsPut (bitsAll l) k.toNat := by simp [bitsAll, List.foldl_append]
theorem bitsF_len : ∀ (l : List Int) (ws : List (BitVec 64)), ws.length ≤ 1024 → (∀ v ∈ l, 0 ≤ v ∧ v < 60000) → (l.foldl (fun ws k => bitsPut ws k.toNat) ws).length ≤ 1024
 | [], ws, h, _ => h
 | k :: l, ws, h, hn => by
   have := hn k (by simp)
   exact bitsF_len l _ (bitsPut_len _ _ (by omega) h) (fun v hv => hn v (by simp [hv]))
theorem bitsAll_len (l : List Int) (h : ∀ v ∈ l, 0 ≤ v ∧ v < 60000) : (bitsAll l).length ≤ 1024 := bitsF_len l [] (by simp) h
theorem bitsF_has : ∀ (l : List Int) (ws : List (BitVec 64)) (m : Nat), (∀ v ∈ l, 0 ≤ v ∧ v < 60000) → bitsHas (l.foldl (fun ws k => bitsPut ws k.toNat) ws) m = (decide ((m : Int) ∈ l) || bitsHas ws m)
 | [], ws, m, _ => by simp
 | k :: l, ws, m, hn => by
   have hk := hn k (by simp)
   simp only [List.foldl_cons]
   rw [bitsF_has l _ m (fun v hv => hn v (by simp [hv])), bitsHas_put]
   by_cases h1 : m = k.toNat
   · have h2 : (m : Int) = k := by omega
     simp [h2, ← h1]
   · have h2 : ¬ (m : Int) = k := by omega
     have h3 : (m == k.toNat) = false := by rw [beq_eq_false_iff_ne]; exact h1
     rw [h3, Bool.false_or]
     simp [h2]
theorem bitsAll_has (l : List Int) (h : ∀ v ∈ l, 0 ≤ v ∧ v < 60000) (m : Nat) : bitsHas (bitsAll l) m = decide ((m : Int) ∈ l) := by
 unfold bitsAll
 rw [bitsF_has l [] m h]
 simp [bitsHas]
noncomputable def R35 : List Item := [.code (rfAs (G35 54 [false, false])), .beginRound, .code (rfBd (G35 54 [false, false]))]
noncomputable def S35 (d : Dk) (dir : Int) (keep : List Int) (p : List ByteArray × List Int) (i : Nat) (st : LoopState) : Store :=
  [.cells [.row 1, .ptr 2 0 0, .ep 2 (dirD d.sk d.sv) 0, .row 5, .d (.int .i64 d.quota), .d (.bool d.full), .d (.bool d.off), .d (.int .i64 d.stop), .d (.int .i64 d.calls)], .row 2 (d.files.map fileD) false, .cells [.row 3, .row 4], .row 1 (d.nk.map strD) false, .row 1 (d.nv.map intD) false, .row 3 (d.ch.map chD) false,
    .cells [.ptr 0 0 0], .cells [.d (.int .i64 dir), .d (.list 1 (keep.map intD))], .cells [.row 9, .row 10], .row 1 (p.1.map strD) true, .row 1 (p.2.map intD) true,
    .map [], .cells [.map 11], .cells [.row 17], .cells [.ptr 13 0 0], .cells [.ptr 8 0 0], .cells [.fn (.func 98) [] []], .row 1 ((bitsAll (p.2.take i)).map w64) true, .defd, lp (G35 54 [false, false]) 35 (mk 133 [(2, V.ptr 6 0 0), (3, V.ptr 7 0 0), (4, V.ptr 8 0 0), (7, V.ptr 12 0 0), (8, V.ptr 14 0 0), (51, V.fn (Fn.func 109) [] [V.ptr 15 0 0, V.ptr 16 0 0])]) st]
theorem body35 (d : Dk) (dir : Int) (keep : List Int) (p : List ByteArray × List Int) (hl : p.1.length < 60000) (hv : p.2.length = p.1.length) (hn : ∀ v ∈ p.2, 0 ≤ v ∧ v < 60000) (i : Nat) (x : ByteArray) (v : Int) (hx : p.1[i]? = some x) (hy : p.2[i]? = some v) :
  AW Try.prog 35 (some 19) 20 R35 (mk 133 [(2, V.ptr 6 0 0), (3, V.ptr 7 0 0), (4, V.ptr 8 0 0), (7, V.ptr 12 0 0), (8, V.ptr 14 0 0), (51, V.fn (Fn.func 109) [] [V.ptr 15 0 0, V.ptr 16 0 0]), (52, .d (.str x)), (53, .d (.int .i64 v))]) (S35 d dir keep p i .ready) [] fun a σ' => a = .ret (.d (.bool true)) ∧ σ' = S35 d dir keep p (i + 1) .ready := by
 refine .at (T' := cgo 0 [] R35) rfl ?_
 have hvb := hn v (List.mem_of_getElem? hy)
 obtain ⟨k, rfl⟩ : ∃ k : Nat, v = k := ⟨v.toNat, by omega⟩
 have hk : k < 65536 := by omega
 have hwl := bitsAll_len (p.2.take i) (fun v hv => hn v (List.mem_of_mem_take hv))
 have hwl2 : (bitsAll (p.2.take i)).length < 900000000 := by omega
 have he : bitsAll (p.2.take (i + 1)) = bitsPut (bitsAll (p.2.take i)) k := by
  obtain ⟨hlt, he⟩ := List.getElem?_eq_some_iff.1 hy
  rw [List.take_succ_eq_append_getElem hlt, he, bitsAll_snoc]; rfl
 refine .sg0 3 [2, 3, 4, 7, 8, 10, 51, 53] (cgo 3 [] R35) [(10, .d (.int .i64 (↑k : Int)))] ?_
 refine .beginL (T0 := cgo 54 [false, false] [Item.code B35]) (fn := 35) (tml := (mk 133 [(2, V.ptr 6 0 0), (3, V.ptr 7 0 0), (4, V.ptr 8 0 0), (7, V.ptr 12 0 0), (8, V.ptr 14 0 0), (51, V.fn (Fn.func 109) [] [V.ptr 15 0 0, V.ptr 16 0 0])])) (by kernel_rfl) (T' := cgo 4 [] R35) (by kernel_rfl) (σ' := (SP 1 2 d false [.cells [.ptr 0 0 0], .cells [.d (.int .i64 dir), .d (.list 1 (map intD keep))], .cells [.row 9, .row 10], .row 1 (map strD p.fst) true, .row 1 (map intD p.snd) true, .map [], .cells [.map 11], .cells [.row 17], .cells [.ptr 13 0 0], .cells [.ptr 8 0 0], .cells [.fn (Fn.func 98) [] []], .row 1 (map w64 (bitsAll (List.take i p.snd))) true, .defd, lp (G35 54 [false, false]) 35 (mk 133 [(2, .ptr 6 0 0), (3, .ptr 7 0 0), (4, .ptr 8 0 0), (7, .ptr 12 0 0), (8, .ptr 14 0 0), (51, .fn (Fn.func 109) [] [.ptr 15 0 0, .ptr 16 0 0])]) LoopState.busy])) (by kernel_rfl) (by kernel_rfl) ?_
 refine .sg0 4 [8, 10, 54, 55] (cgo 8 [] R35) [(54, .ptr 13 0 0), (55, .d (.int .i64 (↑k : Int)))] ?_
 refine .ca [13, 17] (cgo 9 [] R35) F73 (@spec_73 (bitsAll (List.take i p.snd)) (k) (by assumption) (by assumption)) ?_
 rintro r0 s0 ⟨rfl, rfl⟩
 refine ⟨_, rfl, ?_⟩
 refine .sg 2 [] (cgo 11 [] R35) [] [(19, lp (G35 54 [false, false]) 35 (mk 133 [(2, .ptr 6 0 0), (3, .ptr 7 0 0), (4, .ptr 8 0 0), (7, .ptr 12 0 0), (8, .ptr 14 0 0), (51, .fn (Fn.func 109) [] [.ptr 15 0 0, .ptr 16 0 0])]) LoopState.busy)] ?_
 refine .roundEndL (T0 := cgo 54 [false, false] [Item.code B35]) (fn := 35) (tml := (mk 133 [(2, V.ptr 6 0 0), (3, V.ptr 7 0 0), (4, V.ptr 8 0 0), (7, V.ptr 12 0 0), (8, V.ptr 14 0 0), (51, V.fn (Fn.func 109) [] [V.ptr 15 0 0, V.ptr 16 0 0])])) (st := LoopState.busy) (by kernel_rfl) (by kernel_rfl) (σ' := (SP 1 2 d false [.cells [.ptr 0 0 0], .cells [.d (.int .i64 dir), .d (.list 1 (map intD keep))], .cells [.row 9, .row 10], .row 1 (map strD p.fst) true, .row 1 (map intD p.snd) true, .map [], .cells [.map 11], .cells [.row 17], .cells [.ptr 13 0 0], .cells [.ptr 8 0 0], .cells [.fn (Fn.func 98) [] []], .row 1 (map w64 (bitsPut (bitsAll (List.take i p.snd)) k)) true, .defd, lp (G35 54 [false, false]) 35 (mk 133 [(2, .ptr 6 0 0), (3, .ptr 7 0 0), (4, .ptr 8 0 0), (7, .ptr 12 0 0), (8, .ptr 14 0 0), (51, .fn (Fn.func 109) [] [.ptr 15 0 0, .ptr 16 0 0])]) LoopState.ready])) (by kernel_rfl) ?_
 simp_all [S35, dirD]
theorem lo35a (d : Dk) (dir : Int) (keep : List Int) (p : List ByteArray × List Int) (hl : p.1.length < 60000) (hv : p.2.length = p.1.length) (hn : ∀ v ∈ p.2, 0 ≤ v ∧ v < 60000) : ∀ (m i : Nat), i + m = (p.1).length →
    AW Try.prog 109 none 20 (G109 24 [false]) (mk 43 [(0, V.yield 19), (5, V.d (.list 1 ((p.1).map strD))), (6, V.d (.list 1 ((p.2).map intD))), (27, V.d (.int .i64 ((p.1).length : Nat))), (28, V.d (.int .i64 (i : Nat)))]) (S35 d dir keep p i .ready) [] fun r σ' => r = .ret (.tuple []) ∧ σ' = S35 d dir keep p (p.1).length .ready := by
  intro m
  induction m with
  | zero =>
    intro i hi
    have hi : i = (p.1).length := by omega
    subst hi
    refine .sg0 5 [0, 5, 6, 27, 28, 29] (G109 29 [false]) [(29, .d (.bool (decide ((↑p.fst.length : Int) < (↑p.fst.length : Int)))))] ?_
    refine .if' (decide ((↑p.fst.length : Int) < (↑p.fst.length : Int))) (G109 30 [false, true]) (G109 30 [false, false]) (fun h1 => ?_) (fun h1 => ?_)
    · simp only [bsX] at h1
      omega
    · simp only [bsX] at h1
      refine .seg 1 [] (T' := cgo 31 [false, false] [.code B109]) (tm' := mk 43 []) (σ' := [.cells (hC 1 2 5 d), .row 2 (map fileD d.files) false, .cells [.row 3, .row 4], .row 1 (map strD d.nk) false, .row 1 (map intD d.nv) false, .row 3 (map chD d.ch) false, .cells [.ptr 0 0 0], .cells [.d (.int .i64 dir), .d (.list 1 (map intD keep))], .cells [.row 9, .row 10], .row 1 (map strD p.fst) true, .row 1 (map intD p.snd) true, .map [], .cells [.map 11], .cells [.row 17], .cells [.ptr 13 0 0], .cells [.ptr 8 0 0], .cells [.fn (Fn.func 98) [] []], .row 1 (map w64 (bitsAll (List.take p.fst.length p.snd))) true, .defd, lp (G35 54 [false, false]) 35 (mk 133 [(2, .ptr 6 0 0), (3, .ptr 7 0 0), (4, .ptr 8 0 0), (7, .ptr 12 0 0), (8, .ptr 14 0 0), (51, .fn (Fn.func 109) [] [.ptr 15 0 0, .ptr 16 0 0])]) LoopState.ready]) (by kernel_rfl) ?_
      refine .rt F109 (V.tuple []) ?_
      exact ⟨rfl, rfl⟩
  | succ m ih =>
    intro i hi
    obtain ⟨x, hx⟩ := get_some (l := p.1) (i := i) (by omega)
    obtain ⟨v, hy⟩ := get_some (l := p.2) (i := i) (by omega)
    have hYi := body35 d dir keep p hl hv hn i x v hx hy
    refine .sg0 5 [0, 5, 6, 27, 28, 29] (G109 29 [false]) [(29, .d (.bool (decide ((↑i : Int) < (↑p.fst.length : Int)))))] ?_
    refine .if' (decide ((↑i : Int) < (↑p.fst.length : Int))) (G109 30 [false, true]) (G109 30 [false, false]) (fun h1 => ?_) (fun h1 => ?_)
    · simp only [bsX] at h1
      refine .sg0 9 [0, 5, 6, 7, 27, 28, 29, 30] (G109 39 [false, true]) [(7, .d (.int .i64 (↑i : Int))), (30, .d (.int .i64 (↑i : Int)))] ?_
      refine .dr (G109 40 [false, true]) [(31, .yield 19), (32, .d (.list 1 (map strD p.fst))), (33, .d (.int .i64 (↑i : Int))), (34, .ep 1 (D.str x) 0), (35, .d (.str x)), (36, .d (.list 1 (map intD p.snd))), (37, .d (.int .i64 (↑i : Int))), (38, .ep 1 (D.int IntKind.i64 v) 0), (39, .d (.int .i64 v)), (40, .d (.bool true)), (41, .d (.bool false))] [(17, .row 1 (map w64 (bitsAll (List.take (i + 1) p.snd))) true)] (fun kz L hL => ?_) ?_
      · refine ⟨[fO 19, nF, nF, nF, nF, nF, nF, nF, nF, ⟨[], [], [], [], [], [], false, true⟩, nF], run_amongF hL _ [] [0, 1, 2, 3, 4, 5, 6, 7, 8, 9, 10] (by intro p hp; cases hp) (by kernel_rfl) ?_⟩
        refine Run.ap [0, 1, 2] [(31, .yield 19), (32, .d (.list 1 (map strD p.fst))), (33, .d (.int .i64 (↑i : Int)))] [] ?_
        refine Run.lk 3 (.ep 1 (D.str x) 0) [(.tmp 32), (.tmp 33)] (fun tm' σ2 hv hr => ixData_ok (t := 66) (x := (.tmp 32)) (i := (.tmp 33)) (k := IntKind.i64) (n := (↑i : Int)) (sz := 1) (xs := map strD p.fst) (d := strD x) (by kernel_rfl) (evl hv) (evv hv) (by kernel_rfl) (by omega) (map_get hx)) ?_
        refine Run.ap [4, 5, 6] [(35, .d (.str x)), (36, .d (.list 1 (map intD p.snd))), (37, .d (.int .i64 (↑i : Int)))] [] ?_
        refine Run.lk 7 (.ep 1 (D.int IntKind.i64 v) 0) [(.tmp 36), (.tmp 37)] (fun tm' σ2 hv hr => ixData_ok (t := 46) (x := (.tmp 36)) (i := (.tmp 37)) (k := IntKind.i64) (n := (↑i : Int)) (sz := 1) (xs := map intD p.snd) (d := intD v) (by kernel_rfl) (evl hv) (evv hv) (by kernel_rfl) (by omega) (map_get hy)) ?_
        refine Run.ap [8] [(39, .d (.int .i64 v))] [] ?_
        refine Run.one (s1 := (mk 43 [(0, .yield 19), (5, .d (.list 1 (map strD p.fst))), (6, .d (.list 1 (map intD p.snd))), (7, .d (.int .i64 (↑i : Int))), (27, .d (.int .i64 (↑p.fst.length : Int))), (28, .d (.int .i64 (↑i : Int))), (29, .d (.bool (decide ((↑i : Int) < (↑p.fst.length : Int))))), (30, .d (.int .i64 (↑i : Int))), (31, .yield 19), (32, .d (.list 1 (map strD p.fst))), (33, .d (.int .i64 (↑i : Int))), (34, .ep 1 (D.str x) 0), (35, .d (.str x)), (36, .d (.list 1 (map intD p.snd))), (37, .d (.int .i64 (↑i : Int))), (38, .ep 1 (D.int IntKind.i64 v) 0), (39, .d (.int .i64 v)), (40, .d (.bool true))], [.cells (hC 1 2 5 d), .row 2 (map fileD d.files) false, .cells [.row 3, .row 4], .row 1 (map strD d.nk) false, .row 1 (map intD d.nv) false, .row 3 (map chD d.ch) false, .cells [.ptr 0 0 0], .cells [.d (.int .i64 dir), .d (.list 1 (map intD keep))], .cells [.row 9, .row 10], .row 1 (map strD p.fst) true, .row 1 (map intD p.snd) true, .map [], .cells [.map 11], .cells [.row 17], .cells [.ptr 13 0 0], .cells [.ptr 8 0 0], .cells [.fn (Fn.func 98) [] []], .row 1 (map w64 (bitsAll (List.take (i + 1) p.snd))) true, .defd, lp (G35 54 [false, false]) 35 (mk 133 [(2, .ptr 6 0 0), (3, .ptr 7 0 0), (4, .ptr 8 0 0), (7, .ptr 12 0 0), (8, .ptr 14 0 0), (51, .fn (Fn.func 109) [] [.ptr 15 0 0, .ptr 16 0 0])]) LoopState.ready])) (StepF.all (o := ((drawOf (G109 39 [false, true]))[9]?).getD default) (by kernel_rfl) (by kernel_rfl) fun rest hn => AW.yieldD (T0 := cgo 54 [false, false] [Item.code B35]) (x := (.tmp 31)) (args := #[(.tmp 35), (.tmp 39)]) (ts := #[9, 3]) (l := 19) (st := LoopState.ready) (fn := 35) (tml := (mk 133 [(2, .ptr 6 0 0), (3, .ptr 7 0 0), (4, .ptr 8 0 0), (7, .ptr 12 0 0), (8, .ptr 14 0 0), (51, .fn (Fn.func 109) [] [.ptr 15 0 0, .ptr 16 0 0])])) (R := R35) (o := ((drawOf (G109 39 [false, true]))[9]?).getD default) (N := 20) (by kernel_rfl) (by kernel_rfl) (by kernel_rfl) (by kernel_rfl) (by kernel_rfl) (by kernel_rfl) (by kernel_rfl) (by kernel_rfl) (by kernel_rfl) hYi (by rintro r s ⟨rfl, rfl⟩; exact ⟨_, rfl, AW.as (by kernel_rfl) (by kernel_rfl) hn⟩)) ?_
        exact Run.fin
      refine .seg 7 [0, 5, 6, 7, 27, 28, 29, 30, 31, 32, 33, 34, 35, 36, 37, 38, 39, 40, 41, 42] (T' := cgo 47 [false, true, false] [.code B109]) (tm' := mk 43 [(0, .yield 19), (5, .d (.list 1 (map strD p.fst))), (6, .d (.list 1 (map intD p.snd))), (7, .d (.int .i64 (↑i : Int))), (27, .d (.int .i64 (↑p.fst.length : Int))), (28, .d (.int .i64 (IntKind.i64.wrap ((↑i : Int) + 1)))), (29, .d (.bool (decide ((↑i : Int) < (↑p.fst.length : Int))))), (30, .d (.int .i64 (↑i : Int))), (31, .yield 19), (32, .d (.list 1 (map strD p.fst))), (33, .d (.int .i64 (↑i : Int))), (34, .ep 1 (D.str x) 0), (35, .d (.str x)), (36, .d (.list 1 (map intD p.snd))), (37, .d (.int .i64 (↑i : Int))), (38, .ep 1 (D.int IntKind.i64 v) 0), (39, .d (.int .i64 v)), (40, .d (.bool true)), (41, .d (.bool false)), (42, .d (.int .i64 (IntKind.i64.wrap ((↑i : Int) + 1))))]) (σ' := [.cells (hC 1 2 5 d), .row 2 (map fileD d.files) false, .cells [.row 3, .row 4], .row 1 (map strD d.nk) false, .row 1 (map intD d.nv) false, .row 3 (map chD d.ch) false, .cells [.ptr 0 0 0], .cells [.d (.int .i64 dir), .d (.list 1 (map intD keep))], .cells [.row 9, .row 10], .row 1 (map strD p.fst) true, .row 1 (map intD p.snd) true, .map [], .cells [.map 11], .cells [.row 17], .cells [.ptr 13 0 0], .cells [.ptr 8 0 0], .cells [.fn (Fn.func 98) [] []], .row 1 (map w64 (bitsAll (List.take (i + 1) p.snd))) true, .defd, lp (G35 54 [false, false]) 35 (mk 133 [(2, .ptr 6 0 0), (3, .ptr 7 0 0), (4, .ptr 8 0 0), (7, .ptr 12 0 0), (8, .ptr 14 0 0), (51, .fn (Fn.func 109) [] [.ptr 15 0 0, .ptr 16 0 0])]) LoopState.ready]) (by kernel_rfl) ?_
      simp (disch := omega) only [bsW]
      exact .seg 1 [0, 5, 6, 27, 28] (by kernel_rfl) (ih (i + 1) (by omega))
    · simp only [bsX] at h1
      omega
theorem it35a (d : Dk) (dir : Int) (keep : List Int) (p : List ByteArray × List Int) (hl : p.1.length < 60000) (hv : p.2.length = p.1.length) (hn : ∀ v ∈ p.2, 0 ≤ v ∧ v < 60000) : CallsA Try.prog 109 [.yield 19, .ptr 15 0 0, .ptr 16 0 0] (S35 d dir keep p 0 .ready) fun r σ' => r = .ret (.tuple []) ∧ σ' = S35 d dir keep p (p.1).length .ready := by
 refine CallsA.start F109 (tm := mk (Try.f109.ntmps) [(0, .yield 19), (1, .ptr 15 0 0), (2, .ptr 16 0 0)]) (by kernel_rfl) ?_
 refine .sg0 11 [0, 1, 2, 10] (G109 11 [false]) [(10, .fn (Fn.func 98) [] [])] ?_
 refine .cd (G109 12 [false]) F98 (@spec_98) ?_
 refine .sg0 3 [0, 1, 4] (G109 15 [false]) [(4, .d (.int .i64 0))] ?_
 refine .dr (G109 16 [false]) [(5, .d (.list 1 (List.take ((map strD p.fst).length - 0) (List.drop 0 (map strD p.fst))))), (6, .d (.list 1 (List.take ((map intD p.snd).length - 0) (List.drop 0 (map intD p.snd))))), (12, .ptr 8 0 0), (13, .ptr 8 0 0), (14, .ptr 8 0 0), (15, .row 9), (16, .d (.int .i64 0)), (17, .sl 9 0 ((map strD p.fst).length - 0) none), (18, .d (.list 1 (List.take ((map strD p.fst).length - 0) (List.drop 0 (map strD p.fst))))), (19, .ptr 8 0 0), (20, .ptr 8 0 0), (21, .ptr 8 0 1), (22, .row 10), (23, .d (.int .i64 0)), (24, .sl 10 0 ((map intD p.snd).length - 0) none), (25, .d (.list 1 (List.take ((map intD p.snd).length - 0) (List.drop 0 (map intD p.snd)))))] [] (fun kz L hL => ?_) ?_
 · refine ⟨[fB 15 8, fA 8, fA 8, ⟨[8], [], [], [9], [8, 9, 10], [], true, false⟩, nF, ⟨[9], [], [], [9], [9], [], true, false⟩, ⟨[9], [9], [], [], [9], [], true, false⟩, fB 15 8, fA 8, fA 8, ⟨[8], [], [], [10], [8, 9, 10], [], true, false⟩, nF, ⟨[10], [], [], [10], [10], [], true, false⟩, fR 10, nF, nF], run_amongF hL _ [] [0, 1, 2, 3, 4, 5, 7, 8, 9, 10, 11, 12, 6, 13, 14, 15] (by intro p hp; cases hp) (by kernel_rfl) ?_⟩
   refine Run.ap [0, 1, 2, 3, 4] [(12, .ptr 8 0 0), (13, .ptr 8 0 0), (14, .ptr 8 0 0), (15, .row 9), (16, .d (.int .i64 0))] [] ?_
   refine Run.lk 5 (.sl 9 0 ((map strD p.fst).length - 0) none) [(.tmp 15), (.tmp 16)] (fun tm' σ2 hv hr => slRow_ok (t := 66) (x := (.tmp 15)) (lo := (some (.tmp 16))) (hi := none) (lc := 9) (sz := 1) (xs := map strD p.fst) (mv := true) (0) ((map strD p.fst).length) (by kernel_rfl) (evv hv) (atr hr) (by kernel_rfl) (bnd_some (k := IntKind.i64) (i := 0) (evv hv) (by omega) (by rfl)) rfl (by omega) (by omega)) ?_
   refine Run.ap [7, 8, 9, 10, 11] [(19, .ptr 8 0 0), (20, .ptr 8 0 0), (21, .ptr 8 0 1), (22, .row 10), (23, .d (.int .i64 0))] [] ?_
   refine Run.lk 12 (.sl 10 0 ((map intD p.snd).length - 0) none) [(.tmp 22), (.tmp 23)] (fun tm' σ2 hv hr => slRow_ok (t := 46) (x := (.tmp 22)) (lo := (some (.tmp 23))) (hi := none) (lc := 10) (sz := 1) (xs := map intD p.snd) (mv := true) (0) ((map intD p.snd).length) (by kernel_rfl) (evv hv) (atr hr) (by kernel_rfl) (bnd_some (k := IntKind.i64) (i := 0) (evv hv) (by omega) (by rfl)) rfl (by omega) (by omega)) ?_
   refine Run.cl 6 [9] F110 (@spec_110b (map strD p.fst) (0) ((map strD p.fst).length - 0) (none) (by omega) (by simp <;> omega)) ?_
   refine Run.cll 13 [10] F111 (@spec_111b (map intD p.snd) (0) ((map intD p.snd).length - 0) (none) (by omega) (by simp <;> omega)) ?_
   exact Run.fin
 refine .seg 7 [0, 5, 6, 27, 28] (T' := cgo 23 [false] [.code B109]) (tm' := mk 43 [(0, .yield 19), (5, .d (.list 1 (List.take ((map strD p.fst).length - 0) (List.drop 0 (map strD p.fst))))), (6, .d (.list 1 (List.take ((map intD p.snd).length - 0) (List.drop 0 (map intD p.snd))))), (27, .d (.int .i64 (↑(List.take ((map strD p.fst).length - 0) (List.drop 0 (map strD p.fst))).length : Int))), (28, .d (.int .i64 0))]) (σ' := [.cells (hC 1 2 5 d), .row 2 (map fileD d.files) false, .cells [.row 3, .row 4], .row 1 (map strD d.nk) false, .row 1 (map intD d.nv) false, .row 3 (map chD d.ch) false, .cells [.ptr 0 0 0], .cells [.d (.int .i64 dir), .d (.list 1 (map intD keep))], .cells [.row 9, .row 10], .row 1 (map strD p.fst) true, .row 1 (map intD p.snd) true, .map [], .cells [.map 11], .cells [.row 17], .cells [.ptr 13 0 0], .cells [.ptr 8 0 0], .cells [.fn (Fn.func 98) [] []], .row 1 [] true, .defd, lp (G35 54 [false, false]) 35 (mk 133 [(2, .ptr 6 0 0), (3, .ptr 7 0 0), (4, .ptr 8 0 0), (7, .ptr 12 0 0), (8, .ptr 14 0 0), (51, .fn (Fn.func 109) [] [.ptr 15 0 0, .ptr 16 0 0])]) LoopState.ready]) (by kernel_rfl) ?_
 simp only [List.length_map]
 rw [eachL (p.1) strD, eachL (p.2) intD, List.length_map]
 exact .seg 1 [0, 5, 6, 27, 28] (by kernel_rfl) (lo35a d dir keep p hl hv hn (p.1).length 0 (by omega))
def SB (d : Dk) (dir : Int) (keep : List Int) (p : List ByteArray × List Int) (ws : List (BitVec 64)) (es : List (Value × D)) : Store :=
  [.cells [.row 1, .ptr 2 0 0, .ep 2 (dirD d.sk d.sv) 0, .row 5, .d (.int .i64 d.quota), .d (.bool d.full), .d (.bool d.off), .d (.int .i64 d.stop), .d (.int .i64 d.calls)], .row 2 (d.files.map fileD) false, .cells [.row 3, .row 4], .row 1 (d.nk.map strD) false, .row 1 (d.nv.map intD) false, .row 3 (d.ch.map chD) false,
    .cells [.ptr 0 0 0], .cells [.d (.int .i64 dir), .d (.list 1 (keep.map intD))], .cells [.row 9, .row 10], .row 1 (p.1.map strD) true, .row 1 (p.2.map intD) true,
    .map es, .cells [.map 11], .cells [.row 15], .cells [.ptr 13 0 0], .row 1 (ws.map w64) true, .defd]
theorem stB (d : Dk) (dir : Int) (keep : List Int) (p : List ByteArray × List Int) (hl : p.1.length < 60000) (hv : p.2.length = p.1.length) (hn : ∀ v ∈ p.2, 0 ≤ v ∧ v < 60000) (Q : AE → Store → Prop)
  (hnext : AW Try.prog 35 none 6 (G35 55 [false, false]) (mk 133 [(2, .ptr 6 0 0), (3, .ptr 7 0 0), (4, .ptr 8 0 0), (7, .ptr 12 0 0), (8, .ptr 14 0 0)]) (SB d dir keep p (bitsAll p.2) []) [16] Q) :
  AW Try.prog 35 none 6 (G35 34 [false, false]) (mk 133 [(2, .ptr 6 0 0), (3, .ptr 7 0 0), (4, .ptr 8 0 0)]) (SA d dir keep p) [] Q := by
 refine .sg0 2 [2, 3, 4] (G35 36 [false, false]) [] ?_
 refine .op' (G35 37 [false, false]) (makeMap_ok (t := 122) (by kernel_rfl)) ?_
 refine .sg 14 [2, 3, 4, 7, 8, 50] (G35 51 [false, false]) [(7, .ptr 12 0 0), (8, .ptr 14 0 0), (50, .ptr 8 0 0)] [(12, .cells [.map 11]), (13, .cells [.ex 1 []]), (14, .cells [.ptr 13 0 0])] ?_
 refine .ca [8, 9, 10] (G35 52 [false, false]) F72 (@spec_72 (map strD p.fst) (map intD p.snd)) ?_
 rintro r0 s0 ⟨rfl, rfl⟩
 refine ⟨_, rfl, ?_⟩
 refine .seg 2 [2, 3, 4, 7, 8, 51] (T' := cgo 54 [false, false] [.code B35]) (tm' := mk 133 [(2, .ptr 6 0 0), (3, .ptr 7 0 0), (4, .ptr 8 0 0), (7, .ptr 12 0 0), (8, .ptr 14 0 0), (51, .fn (Fn.func 109) [] [.ptr 15 0 0, .ptr 16 0 0])]) (σ' := [.cells (hC 1 2 5 d), .row 2 (map fileD d.files) false, .cells [.row 3, .row 4], .row 1 (map strD d.nk) false, .row 1 (map intD d.nv) false, .row 3 (map chD d.ch) false, .cells [.ptr 0 0 0], .cells [.d (.int .i64 dir), .d (.list 1 (map intD keep))], .cells [.row 9, .row 10], .row 1 (map strD p.fst) true, .row 1 (map intD p.snd) true, .map [], .cells [.map 11], .cells [.ex 1 []], .cells [.ptr 13 0 0], .cells [.ptr 8 0 0], .cells [.fn (Fn.func 98) [] []]]) (by kernel_rfl) ?_
 refine .virtX 13 0 1 rfl rfl ?_
 refine .raise 17 rfl rfl ?_
 refine .rangeH (first := []) (cap := [.ptr 15 0 0, .ptr 16 0 0]) (List.range 20) [.yield 19, .ptr 15 0 0, .ptr 16 0 0] (S35 d dir keep p 0 .ready) F109 (by kernel_rfl) (T' := cgo 55 [false, false] [Item.code B35]) (by kernel_rfl) (by kernel_rfl) (it35a d dir keep p hl hv hn) (by kernel_rfl) (by kernel_rfl) (by refine ⟨rfl, by kernel_rfl, ?_⟩; kernel_rfl) ?_
 rintro r σc' ⟨rfl, rfl⟩
 refine ⟨.tuple [], .ready, (mk 133 [(2, V.ptr 6 0 0), (3, V.ptr 7 0 0), (4, V.ptr 8 0 0), (7, V.ptr 12 0 0), (8, V.ptr 14 0 0), (51, V.fn (Fn.func 109) [] [V.ptr 15 0 0, V.ptr 16 0 0])]), rfPs (G35 54 [false, false]), rfAs (G35 54 [false, false]), rfBd (G35 54 [false, false]), 35, rfl, by simp, by kernel_rfl, ?_⟩
 have e1 : bitsAll (p.2.take p.1.length) = bitsAll p.2 := by rw [← hv, List.take_length]
 rw [← e1] at hnext
 refine .kp [2, 3, 4, 7, 8] ?_
 exact .sub [0, 1, 2, 3, 4, 5, 6, 7, 8, 9, 10, 11, 12, 13, 14, 17, 18] (mk 133 [(2, .ptr 6 0 0), (3, .ptr 7 0 0), (4, .ptr 8 0 0), (7, .ptr 12 0 0), (8, .ptr 14 0 0)]) (SB d dir keep p (bitsAll (p.2.take p.1.length)) []) none [16] ⟨rfl, rfl, by kernel_rfl⟩ (by kernel_rfl) ⟨Nat.le_of_ble_eq_true (by kernel_rfl), by kernel_rfl⟩ (by kernel_rfl) ⟨by kernel_rfl, by kernel_rfl⟩ ⟨rfl, rfl⟩ hnext
end Go.Proofs.Ytoelkgbeefoplaa
namespace Go.Proofs.Ytoelkgbeefoplaa
open Go Go.Br Go.Proofs
open List (map)
def numE (has : Nat → Bool) : Nat → List (Value × D)
  | 0 => []
  | i + 1 => if has i then numE has i ++ [(.int .i64 (i : Nat), .int .i64 (rank has i : Nat))] else numE has i
theorem numE_keys (has : Nat → Bool) : ∀ (i : Nat), ∀ e ∈ numE has i, ∃ j : Nat, j < i ∧ has j = true ∧ e = (.int .i64 (j : Nat), .int .i64 (rank has j : Nat))
 | 0, e, h => by simp [numE] at h
 | i + 1, e, h => by
   simp only [numE] at h
   split at h
   · rcases List.mem_append.1 h with h | h
     · obtain ⟨j, h1, h2⟩ := numE_keys has i e h; exact ⟨j, by omega, h2⟩
     · rw [List.mem_singleton] at h; subst h; exact ⟨i, by omega, by assumption, rfl⟩
   · obtain ⟨j, h1, h2⟩ := numE_keys has i e h; exact ⟨j, by omega, h2⟩
theorem numE_ok (has : Nat → Bool) (i : Nat) : keysOk (.int .i64) (numE has i) := by
 intro e he
 obtain ⟨j, _, _, rfl⟩ := numE_keys has i e he
 exact rfl
theorem mapPut_new : ∀ (es : List (Value × D)) (k : Value) (d : D), (∀ e ∈ es, keyB k e.1 = false) → mapPut k d es = es ++ [(k, d)]
 | [], k, d, _ => rfl
 | e :: es, k, d, h => by
   simp only [mapPut, h e (by simp), Bool.false_eq_true, if_false, List.cons_append]
   rw [mapPut_new es k d fun e he => h e (by simp [he])]
theorem mapFind_app : ∀ (es : List (Value × D)) (k : Value) (p : Value × D), (∀ e ∈ es, keyB k e.1 = false) → mapFind k (es ++ [p]) = if keyB k p.1 then some p.2 else none
 | [], k, p, _ => by simp [mapFind]
 | e :: es, k, p, h => by
   simp only [List.cons_append, mapFind, h e (by simp), Bool.false_eq_true, if_false]
   exact mapFind_app es k p fun e he => h e (by simp [he])
theorem mapFind_old : ∀ (es : List (Value × D)) (k : Value) (p : Value × D), keyB k p.1 = false → mapFind k (es ++ [p]) = mapFind k es
 | [], k, p, h => by simp [mapFind, h]
 | e :: es, k, p, h => by
   rw [List.cons_append]
   unfold mapFind
   rw [mapFind_old es k p h]
theorem keyB_int (a b : Nat) : keyB (.int .i64 (a : Nat)) (.int .i64 (b : Nat)) = (a == b) := by
 show ((a : Int) == (b : Int)) = (a == b)
 by_cases h : a = b
 · rw [h, beq_self_eq_true, beq_self_eq_true]
 · rw [beq_eq_false_iff_ne.2 h, beq_eq_false_iff_ne.2 (by omega)]
theorem numE_put (has : Nat → Bool) (i : Nat) (h : has i = true) : mapPut (.int .i64 (i : Nat)) (.int .i64 (rank has i : Nat)) (numE has i) = numE has (i + 1) := by
 have e := mapPut_new (numE has i) (.int .i64 (i : Nat)) (.int .i64 (rank has i : Nat)) (fun e he => by
  obtain ⟨j, hj, _, rfl⟩ := numE_keys has i e he
  rw [keyB_int, beq_eq_false_iff_ne]; omega)
 rw [e]
 show _ = if has i then _ else _
 rw [if_pos h]
theorem numE_find (has : Nat → Bool) : ∀ (n j : Nat), j < n → has j = true → mapFind (.int .i64 (j : Nat)) (numE has n) = some (.int .i64 (rank has j : Nat))
  | 0, j, h, _ => by omega
  | n + 1, j, h, hj => by
    simp only [numE]
    by_cases he : j = n
    · subst he
      rw [if_pos hj, mapFind_app]
      · rw [keyB_int]; simp
      · intro e he
        obtain ⟨k, hk, _, rfl⟩ := numE_keys has j e he
        rw [keyB_int]; simp; omega
    · split
      · rw [mapFind_old]
        · exact numE_find has n j (by omega) hj
        · rw [keyB_int]; simp; omega
      · exact numE_find has n j (by omega) hj
theorem kept_snoc (has : Nat → Bool) (keep : List Int) (f : List UInt8 × Nat) : ∀ (fs : List (List UInt8 × Nat)) (i : Nat), kept has keep i (fs ++ [f]) = kept has keep i fs ++ if has (i + fs.length) then [(f.1.take (leftOf f (i + fs.length) keep), leftOf f (i + fs.length) keep)] else []
 | [], i => by simp only [List.nil_append, kept, List.length_nil, Nat.add_zero]
 | g :: fs, i => by
   simp only [List.cons_append, kept]
   rw [kept_snoc has keep f fs (i + 1)]
   rw [show i + 1 + fs.length = i + (g :: fs).length by simp; omega]
   split <;> simp
theorem kept_len0 (has : Nat → Bool) (keep : List Int) (fs : List (List UInt8 × Nat)) : (kept has keep 0 fs).length = rank has fs.length := by
 have := kept_length has keep fs 0
 simpa [rank] using this
def SC (d : Dk) (dir : Int) (keep : List Int) (p : List ByteArray × List Int) (ws : List (BitVec 64)) (es : List (Value × D)) (fs : List (List UInt8 × Nat)) : Store :=
  SB d dir keep p ws es ++ [.row 2 (fs.map fileD) true]
theorem loC (d : Dk) (N : Nat) (h : d.Ok N) (dir : Int) (keep : List Int) (hk : keep.length < 1000000000) (hkv : ∀ v ∈ keep, -9223372036854775808 ≤ v ∧ v < 9223372036854775808) (p : List ByteArray × List Int) (ws : List (BitVec 64)) (hw : ws.length < 1000000000) (Q : AE → Store → Prop)
    (hnext : AW Try.prog 35 none 6 (G35 79 [false, false, false]) (mk 133 [(2, .ptr 6 0 0), (4, .ptr 8 0 0), (7, .ptr 12 0 0), (11, .row 17)]) (SC d dir keep p ws (numE (bitsHas ws) d.files.length) (kept (bitsHas ws) keep 0 d.files)) [16] Q) : ∀ (m i : Nat), i + m = d.files.length →
    AW Try.prog 35 none 6 (G35 72 [false, false]) (mk 133 [(2, .ptr 6 0 0), (3, .ptr 7 0 0), (4, .ptr 8 0 0), (7, .ptr 12 0 0), (8, .ptr 14 0 0), (11, .row 17), (60, .row 1), (61, .d (.int .i64 (d.files.length : Nat))), (62, .d (.int .i64 (i : Nat)))]) (SC d dir keep p ws (numE (bitsHas ws) i) (kept (bitsHas ws) keep 0 (d.files.take i))) [16] Q := by
  have q0 := h.fl
  have q4 := h.nb
  intro m
  induction m with
  | zero =>
    intro i hi
    have hi : i = d.files.length := by omega
    subst hi
    rw [List.take_length]
    refine .sg0 5 [2, 3, 4, 7, 8, 11, 60, 61, 62, 63] (G35 77 [false, false]) [(63, .d (.bool (decide ((↑d.files.length : Int) < (↑d.files.length : Int)))))] ?_
    refine .if' (decide ((↑d.files.length : Int) < (↑d.files.length : Int))) (G35 78 [false, false, true]) (G35 78 [false, false, false]) (fun h1 => ?_) (fun h1 => ?_)
    · simp only [bsX] at h1
      omega
    · simp only [bsX] at h1
      refine .sg0 1 [2, 4, 7, 11] (G35 79 [false, false, false]) [] ?_
      exact .goes [2, 4, 7, 11] (by kernel_rfl) (by kernel_rfl) (by kernel_rfl) hnext
  | succ m ih =>
    intro i hi
    obtain ⟨f, hf⟩ := get_some (l := d.files) (i := i) (by omega)
    have hm := h.fs f (List.mem_of_getElem? hf)
    have hko := numE_ok (bitsHas ws) i
    have hlen : (d.files.take i).length = i := by simp; omega
    have hkl := kept_len0 (bitsHas ws) keep (d.files.take i)
    rw [hlen] at hkl
    have hrk : rank (bitsHas ws) i ≤ i := by unfold rank; exact Nat.le_trans (List.length_filter_le _ _) (by simp)
    have hlf : f.2 ≤ leftOf (f.1, f.2) i keep ∧ leftOf (f.1, f.2) i keep ≤ f.1.length := leftOf_le hm.1 i keep
    have hlf1 := hlf.1
    have hlf2 := hlf.2
    have hi2 : i < 1000000000 := by omega
    have hsn := kept_snoc (bitsHas ws) keep f (d.files.take i) 0
    rw [hlen, Nat.zero_add] at hsn
    have hsn2 : kept (bitsHas ws) keep 0 (d.files.take (i + 1)) = kept (bitsHas ws) keep 0 (d.files.take i) ++ if bitsHas ws i then [(f.1.take (leftOf (f.1, f.2) i keep), leftOf (f.1, f.2) i keep)] else [] := by
      obtain ⟨hlt, he⟩ := List.getElem?_eq_some_iff.1 hf
      have hsn3 : kept (bitsHas ws) keep 0 (d.files.take i ++ [f]) = kept (bitsHas ws) keep 0 (d.files.take i) ++ if bitsHas ws i then [(f.1.take (leftOf (f.1, f.2) i keep), leftOf (f.1, f.2) i keep)] else [] := hsn
      rw [← hsn3, List.take_succ_eq_append_getElem hlt, he]
    have hput := numE_put (bitsHas ws) i
    have hih := ih (i + 1) (by omega)
    rw [hsn2] at hih
    generalize hfs : kept (bitsHas ws) keep 0 (d.files.take i) = fs at *
    cases hb : bitsHas ws i with
    | false =>
      rw [hb] at hih
      have hn2 : numE (bitsHas ws) (i + 1) = numE (bitsHas ws) i := by simp [numE, hb]
      rw [hn2] at hih
      simp only [Bool.false_eq_true, if_false, List.append_nil] at hih
      clear ih hsn hsn2 hput hn2 hfs hnext
      refine .sg0 5 [2, 3, 4, 7, 8, 11, 60, 61, 62, 63] (G35 77 [false, false]) [(63, .d (.bool (decide ((↑i : Int) < (↑d.files.length : Int)))))] ?_
      refine .if' (decide ((↑i : Int) < (↑d.files.length : Int))) (G35 78 [false, false, true]) (G35 78 [false, false, false]) (fun h1 => ?_) (fun h1 => ?_)
      · simp only [bsX] at h1
        refine .sg0 6 [2, 3, 4, 7, 8, 11, 60, 61, 62, 63, 64] (G35 84 [false, false, true]) [(64, .d (.int .i64 (↑i : Int)))] ?_
        refine .op' (G35 85 [false, false, true]) (ixRow_ok (t := 105) (x := (.tmp 60)) (i := (.tmp 62)) (k := IntKind.i64) (n := (↑i : Int)) (l := 1) (sz := 2) (xs := map fileD d.files) (mv := false) (by kernel_rfl) (by kernel_rfl) (by kernel_rfl) (by kernel_rfl) (by kernel_rfl) (by omega) (by simp <;> omega)) ?_
        refine .op' (G35 86 [false, false, true]) (ldRow_ok (t := 114) (x := (.tmp 65)) (l := 1) (i := (↑i : Int).toNat) (s := 0) (sz := 2) (xs := map fileD d.files) (mv := false) (d := fileD f) (v := .d (.agg [D.list 1 (map u8 f.fst), D.int IntKind.i64 (↑f.snd : Int)])) (by kernel_rfl) (by kernel_rfl) (by kernel_rfl) (map_get hf) (by kernel_rfl)) ?_
        refine .sg 9 [2, 3, 4, 7, 8, 11, 12, 13, 60, 61, 62, 63, 64, 65, 66, 67, 68] (G35 95 [false, false, true]) [(12, .d (.int .i64 (↑i : Int))), (13, .ptr 18 0 0), (67, .ptr 13 0 0), (68, .d (.int .i64 (↑i : Int)))] [(18, .cells [.d (.list 1 (map u8 f.fst)), .d (.int .i64 (↑f.snd : Int))])] ?_
        refine .ca [13, 15] (G35 96 [false, false, true]) F74 (@spec_74 (ws) (i) (by assumption) (by assumption)) ?_
        rintro r1 s1 ⟨rfl, rfl⟩
        refine ⟨_, rfl, ?_⟩
        refine .sg0 2 [2, 3, 4, 7, 8, 11, 12, 13, 60, 61, 62, 63, 64, 65, 66, 67, 68, 69, 70] (G35 98 [false, false, true]) [(70, .d (.bool !bitsHas ws i))] ?_
        refine .if' (!bitsHas ws i) (G35 99 [false, false, true, true]) (G35 99 [false, false, true, false]) (fun h3 => ?_) (fun h3 => ?_)
        · simp only [bsX] at h3
          refine .sg0 5 [2, 3, 4, 7, 8, 11, 12, 13, 60, 61, 62, 63, 64, 65, 66, 67, 68, 69, 70, 90] (G35 104 [false, false, true, true]) [(62, .d (.int .i64 (IntKind.i64.wrap ((↑i : Int) + 1)))), (90, .d (.int .i64 (IntKind.i64.wrap ((↑i : Int) + 1))))] ?_
          simp (disch := omega) only [bsW]
          refine .kp [2, 3, 4, 7, 8, 11, 60, 61, 62] ?_
          refine .sub (List.range 18) (mk 133 [(2, .ptr 6 0 0), (3, .ptr 7 0 0), (4, .ptr 8 0 0), (7, .ptr 12 0 0), (8, .ptr 14 0 0), (11, .row 17), (60, .row 1), (61, .d (.int .i64 (d.files.length : Nat))), (62, .d (.int .i64 ((i + 1 : Nat) : Int)))]) (SC d dir keep p ws (numE (bitsHas ws) i) fs) none [16] ⟨rfl, by kernel_rfl, by kernel_rfl⟩ (by kernel_rfl) ⟨Nat.le_of_ble_eq_true (by kernel_rfl), by kernel_rfl⟩ (by kernel_rfl) ⟨by kernel_rfl, by kernel_rfl⟩ ⟨rfl, rfl⟩ ?_
          exact .seg 1 [2, 3, 4, 7, 8, 11, 60, 61, 62] (by kernel_rfl) hih
        · simp only [bsX] at h3
          simp_all
      · simp only [bsX] at h1
        omega
    | true =>
      rw [hb] at hih
      rw [← hput hb] at hih
      simp only [if_true] at hih
      clear ih hsn hsn2 hput hfs hnext
      refine .sg0 5 [2, 3, 4, 7, 8, 11, 60, 61, 62, 63] (G35 77 [false, false]) [(63, .d (.bool (decide ((↑i : Int) < (↑d.files.length : Int)))))] ?_
      refine .if' (decide ((↑i : Int) < (↑d.files.length : Int))) (G35 78 [false, false, true]) (G35 78 [false, false, false]) (fun h1 => ?_) (fun h1 => ?_)
      · simp only [bsX] at h1
        refine .sg0 6 [2, 3, 4, 7, 8, 11, 60, 61, 62, 63, 64] (G35 84 [false, false, true]) [(64, .d (.int .i64 (↑i : Int)))] ?_
        refine .op' (G35 85 [false, false, true]) (ixRow_ok (t := 105) (x := (.tmp 60)) (i := (.tmp 62)) (k := IntKind.i64) (n := (↑i : Int)) (l := 1) (sz := 2) (xs := map fileD d.files) (mv := false) (by kernel_rfl) (by kernel_rfl) (by kernel_rfl) (by kernel_rfl) (by kernel_rfl) (by omega) (by simp <;> omega)) ?_
        refine .op' (G35 86 [false, false, true]) (ldRow_ok (t := 114) (x := (.tmp 65)) (l := 1) (i := (↑i : Int).toNat) (s := 0) (sz := 2) (xs := map fileD d.files) (mv := false) (d := fileD f) (v := .d (.agg [D.list 1 (map u8 f.fst), D.int IntKind.i64 (↑f.snd : Int)])) (by kernel_rfl) (by kernel_rfl) (by kernel_rfl) (map_get hf) (by kernel_rfl)) ?_
        refine .sg 9 [2, 3, 4, 7, 8, 11, 12, 13, 60, 61, 62, 63, 64, 65, 66, 67, 68] (G35 95 [false, false, true]) [(12, .d (.int .i64 (↑i : Int))), (13, .ptr 18 0 0), (67, .ptr 13 0 0), (68, .d (.int .i64 (↑i : Int)))] [(18, .cells [.d (.list 1 (map u8 f.fst)), .d (.int .i64 (↑f.snd : Int))])] ?_
        refine .ca [13, 15] (G35 96 [false, false, true]) F74 (@spec_74 (ws) (i) (by assumption) (by assumption)) ?_
        rintro r1 s1 ⟨rfl, rfl⟩
        refine ⟨_, rfl, ?_⟩
        refine .sg0 2 [2, 3, 4, 7, 8, 11, 12, 13, 60, 61, 62, 63, 64, 65, 66, 67, 68, 69, 70] (G35 98 [false, false, true]) [(70, .d (.bool !bitsHas ws i))] ?_
        refine .if' (!bitsHas ws i) (G35 99 [false, false, true, true]) (G35 99 [false, false, true, false]) (fun h3 => ?_) (fun h3 => ?_)
        · simp only [bsX] at h3
          simp_all
        · simp only [bsX] at h3
          refine .sg0 7 [2, 3, 4, 7, 8, 11, 12, 13, 60, 61, 62, 63, 64, 65, 66, 67, 68, 69, 70, 71, 72, 73, 74] (G35 106 [false, false, true, false]) [(71, .d (.agg [D.list 1 (map u8 f.fst), D.int IntKind.i64 (↑f.snd : Int)])), (72, .d (.int .i64 (↑i : Int))), (73, .ptr 7 0 1), (74, .d (.list 1 (map intD keep)))] ?_
          refine .cd (G35 107 [false, false, true, false]) F75 (@spec_75 (f.fst) (f.snd) (i) (keep) (by assumption) (by assumption) (by assumption) (by assumption)) ?_
          refine .sg0 8 [2, 3, 4, 7, 8, 11, 12, 13, 14, 60, 61, 62, 63, 64, 65, 66, 67, 68, 69, 70, 71, 72, 73, 74, 75, 76, 77, 78, 79] (G35 115 [false, false, true, false]) [(14, .d (.int .i64 (↑(leftOf (f.fst, f.snd) i keep) : Int))), (76, .map 11), (77, .d (.int .i64 (↑i : Int))), (78, .row 17), (79, .d (.int .i64 (↑(map fileD fs).length : Int)))] ?_
          simp only [List.length_map]
          refine .op' (G35 116 [false, false, true, false]) (mapUpd_ok (t := 122) (m := (.tmp 76)) (k := (.tmp 77)) (x := (.tmp 79)) (l := 11) (es := numE (bitsHas ws) i) (dk := D.int IntKind.i64 (↑i : Int)) (dx := D.int IntKind.i64 (↑fs.length : Int)) (kv := (Value.int IntKind.i64 ((↑i : Int)))) (kd := (TypeDesc.int IntKind.i64)) (kt := 3) (et := 3) (by kernel_rfl) (by kernel_rfl) (by kernel_rfl) (by kernel_rfl) (by kernel_rfl) (by kernel_rfl) (by kernel_rfl) (by kernel_rfl) (by exact rfl) hko) ?_
          refine .sg0 7 [2, 3, 4, 7, 8, 11, 12, 13, 14, 60, 61, 62, 63, 64, 65, 66, 67, 68, 69, 70, 71, 72, 73, 74, 75, 76, 77, 78, 79, 80, 81, 82, 83, 84] (G35 123 [false, false, true, false]) [(80, .row 17), (81, .ptr 18 0 0), (82, .d (.list 1 (map u8 f.fst))), (83, .d (.int .i64 (↑(leftOf (f.fst, f.snd) i keep) : Int))), (84, .d (.int .i64 (↑(leftOf (f.fst, f.snd) i keep) : Int)))] ?_
          simp only [List.length_map]
          refine .op' (G35 124 [false, false, true, false]) (sl3Data_ok (t := 22) (x := (.tmp 82)) (lo := none) (y := (.tmp 83)) (z := (.tmp 84)) (sz := 1) (xs := map u8 f.fst) (0) (leftOf (f.fst, f.snd) i keep) (by kernel_rfl) (by kernel_rfl) (by kernel_rfl) rfl (bnd_some (k := IntKind.i64) (i := (↑(leftOf (f.fst, f.snd) i keep) : Int)) (by kernel_rfl) (by omega) (by rfl)) (bnd_some (k := IntKind.i64) (i := (↑(leftOf (f.fst, f.snd) i keep) : Int)) (by kernel_rfl) (by omega) (by rfl)) (by omega) (by simp <;> omega)) ?_
          simp only [List.take_length, List.drop_zero, ← List.map_take, ← List.map_drop]
          refine .sg 3 [2, 3, 4, 7, 8, 11, 12, 13, 14, 60, 61, 62, 63, 64, 65, 66, 67, 68, 69, 70, 71, 72, 73, 74, 75, 76, 77, 78, 79, 80, 81, 82, 83, 84, 85, 86, 87, 88] (G35 127 [false, false, true, false]) [(86, .d (.int .i64 (↑(leftOf (f.fst, f.snd) i keep) : Int))), (87, .d (.agg [D.list 1 (map u8 (List.take (leftOf (f.fst, f.snd) i keep) f.fst)), D.int IntKind.i64 (↑(leftOf (f.fst, f.snd) i keep) : Int)])), (88, .row 19)] [(19, .row 2 [D.agg [D.list 1 (map u8 (List.take (leftOf (f.fst, f.snd) i keep) f.fst)), D.int IntKind.i64 (↑(leftOf (f.fst, f.snd) i keep) : Int)]] false)] ?_
          simp only [List.length_map]
          refine .op' (G35 128 [false, false, true, false]) (appRow_ok (s := (.tmp 80)) (x := (.tmp 88)) (t := 105) (t2 := 105) (sz := 2) (by' := 32) (ys := [D.agg [D.list 1 (map u8 (List.take (leftOf (f.fst, f.snd) i keep) f.fst)), D.int IntKind.i64 (↑(leftOf (f.fst, f.snd) i keep) : Int)]]) (l := 17) (xs := map fileD fs) (mv := true) (by kernel_rfl) (by kernel_rfl) (by kernel_rfl) (by kernel_rfl) (by kernel_rfl) (by kernel_rfl) (by simp <;> omega) (by first | (simp [maxLen] <;> omega) | omega)) ?_
          refine .sg0 7 [2, 3, 4, 7, 8, 11, 12, 13, 14, 60, 61, 62, 63, 64, 65, 66, 67, 68, 69, 70, 71, 72, 73, 74, 75, 76, 77, 79, 81, 82, 83, 84, 85, 86, 87, 88, 89, 90] (G35 135 [false, false, true, false]) [(11, .row 17), (62, .d (.int .i64 (IntKind.i64.wrap ((↑i : Int) + 1)))), (90, .d (.int .i64 (IntKind.i64.wrap ((↑i : Int) + 1))))] ?_
          simp only [List.length_map]
          simp (disch := omega) only [bsW]
          rw [hkl, show List.map fileD fs ++ [D.agg [D.list 1 (List.map u8 (List.take (leftOf (f.fst, f.snd) i keep) f.fst)), D.int IntKind.i64 (↑(leftOf (f.fst, f.snd) i keep) : Int)]] = List.map fileD (fs ++ [(f.1.take (leftOf (f.1, f.2) i keep), leftOf (f.1, f.2) i keep)]) by simp [fileD, bsD, i64]]
          refine .kp [2, 3, 4, 7, 8, 11, 60, 61, 62] ?_
          refine .sub (List.range 18) (mk 133 [(2, .ptr 6 0 0), (3, .ptr 7 0 0), (4, .ptr 8 0 0), (7, .ptr 12 0 0), (8, .ptr 14 0 0), (11, .row 17), (60, .row 1), (61, .d (.int .i64 (d.files.length : Nat))), (62, .d (.int .i64 ((i + 1 : Nat) : Int)))]) (SC d dir keep p ws (mapPut (.int .i64 (i : Nat)) (.int .i64 (rank (bitsHas ws) i : Nat)) (numE (bitsHas ws) i)) (fs ++ [(f.1.take (leftOf (f.1, f.2) i keep), leftOf (f.1, f.2) i keep)])) none [16] ⟨rfl, by kernel_rfl, by kernel_rfl⟩ (by kernel_rfl) ⟨Nat.le_of_ble_eq_true (by kernel_rfl), by kernel_rfl⟩ (by kernel_rfl) ⟨by kernel_rfl, by kernel_rfl⟩ ⟨rfl, rfl⟩ ?_
          exact .seg 1 [2, 3, 4, 7, 8, 11, 60, 61, 62] (by kernel_rfl) hih
      · simp only [bsX] at h1
        omega
end Go.Proofs.Ytoelkgbeefoplaa
