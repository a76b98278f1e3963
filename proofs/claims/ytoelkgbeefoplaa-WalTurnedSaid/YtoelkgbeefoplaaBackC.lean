/- WalBack, behind its loop. -/
import Derived.Test.YtoelkgbeefoplaaBackB
namespace Go.Proofs.Ytoelkgbeefoplaa
open Go Go.Br Go.Proofs
theorem rem_ok {P : Program} {tm : List V} {σ : Store} {o : Oper} {x y : Operand} {t ty : TypeId} {k : IntKind} {a b : Int} (ho : o.op = .binOp .rem t x y ty) (hx : ev tm x = .d (.int k a)) (hy : ev tm y = .d (.int k b)) (hb : b ≠ 0) : OpOk P o tm σ (.d (.int k (irem a b))) tm σ :=
  qop_opOk (by simp [ho, qop, hx, hy, binV, intBin, hb, irem])
theorem rest4 (l : List (List UInt8)) (more : List UInt8) (a : Nat) (hl : l.length ≤ 30) (hr : ∀ r ∈ l, r.length ≤ 300) (hm : more.length ≤ 7) (ha : a < 18446744073709551616) (hs : (allOf l).length ≤ 100000) (mv : Bool) :
    AW Try.prog 4 none 0 ((cgo 38 [false] [.code B4])) ((mk 97 [(0, .d (lsD l)), (1, .d (.int .u64 a)), (2, .d (bsD more)), (7, .row 0)])) [.row 1 ((allOf l).map u8) mv] [] fun r _ => r = .ret (.d (.bool true)) := by
  generalize hA : allOf l = A at *
  have hp1 : parsed (A ++ more) = l := by
    rw [← hA]
    exact recs_all l more _ (fun r h => by have := hr r h; omega) (by omega) (by omega)
  refine .freeze 0 (sz := 1) (xs := A.map u8) (mv := mv) rfl ?_
  refine .sub [] ((mk 97 [(0, .d (lsD l)), (1, .d (.int .u64 a)), (2, .d (bsD more)), (7, .d (bsD A))])) [] none [] ⟨rfl, rfl, rfl⟩ rfl ⟨by simp, rfl⟩ rfl ⟨rfl, rfl⟩ ⟨rfl, rfl⟩ ?_
  refine .seg 3 [0, 1, 2, 7] (T' := cgo 41 [false] [.code B4]) (tm' := mk 97 [(0, .d (lsD l)), (1, .d (.int .u64 a)), (2, .d (bsD more)), (7, .d (bsD A))]) (σ' := []) (by kernel_rfl) ?_
  refine .opH (o := (opOf (cgo 41 [false] [.code B4])).getD default) (by kernel_rfl) (by kernel_rfl) (by kernel_rfl) (T' := cgo 42 [false] [.code B4]) (by kernel_rfl) (build0_ok (t := 22) (e := 5) (sz := 1) (sz' := 1) (by kernel_rfl) (by kernel_rfl) (by kernel_rfl)) ?_
  refine .seg 1 [0, 1, 2, 7, 42, 43] (T' := cgo 43 [false] [.code B4]) (tm' := mk 97 [(0, .d (lsD l)), (1, .d (.int .u64 a)), (2, .d (bsD more)), (7, .d (bsD A)), (42, .ex 1 []), (43, .d (bsD A))]) (σ' := []) (by kernel_rfl) ?_
  have tail : AW Try.prog 4 none 0 ((cgo 46 [false] [.code B4])) ((mk 97 [(0, .d (lsD l)), (1, .d (.int .u64 a)), (7, .d (bsD A)), (46, .d (bsD (A ++ more)))])) [] [] fun r _ => r = .ret (.d (.bool true)) := by
    have hg : good l = A.length := by rw [good_all, hA]
    have hp := parse_pure (A ++ more) (by simp; omega)
    rw [hp1] at hp
    have hlives := lives_pure
    refine .semH (o := (opOf (cgo 46 [false] [.code B4])).getD default) (v := .tuple [.d (lsD l), .d (i64 (good l))]) (σ' := []) (by kernel_rfl) (by kernel_rfl) (T' := cgo 47 [false] [.code B4]) (by kernel_rfl) (fun k => sem_data0 (x := .func 17) (args := #[.tmp 46]) (ts := #[22]) (first := []) (cap := []) F17 hp (by kernel_rfl) (by kernel_rfl) (by kernel_rfl) (by kernel_rfl) (by kernel_rfl) (by kernel_rfl) []) ?_
    refine .seg 11 [0, 1, 7, 50, 51, 13] (T' := cgo 58 [false] [.code B4]) (tm' := mk 97 [(0, .d (lsD l)), (1, .d (.int .u64 a)), (7, .d (bsD A)), (50, .d (lsD l)), (51, .d (lsD l)), (13, .d (.int .i64 (good l)))]) (σ' := []) (by kernel_rfl) ?_
    have hsame := same_pure l l (by omega)
    rw [decide_eq_true rfl] at hsame
    refine .semH (o := (opOf (cgo 58 [false] [.code B4])).getD default) (v := .d (.bool true)) (σ' := []) (by kernel_rfl) (by kernel_rfl) (T' := cgo 59 [false] [.code B4]) (by kernel_rfl) (fun k => sem_data0 (x := .func 20) (args := #[.tmp 50, .tmp 51]) (ts := #[26, 26]) (first := []) (cap := []) F20 hsame (by kernel_rfl) (by kernel_rfl) (by kernel_rfl) (by kernel_rfl) (by kernel_rfl) (by kernel_rfl) []) ?_
    refine .seg 8 [0, 1, 7, 59] (T' := cgo 67 [false] [.code B4]) (tm' := mk 97 [(0, .d (lsD l)), (1, .d (.int .u64 a)), (7, .d (bsD A)), (59, .d (.bool (((good l : Nat) : Int) != ((A.map u8).length : Nat))))]) (σ' := []) (by kernel_rfl) ?_
    rw [List.length_map, hg, bne_self_eq_false]
    refine .seg 9 [0, 1, 7, 62] (T' := cgo 76 [false, false] [.code B4]) (tm' := mk 97 [(0, .d (lsD l)), (1, .d (.int .u64 a)), (7, .d (bsD A)), (62, .d (.bool (((A.map u8).length : Int) == 0)))]) (σ' := []) (by kernel_rfl) ?_
    rw [List.length_map]
    by_cases hz : A.length = 0
    · rw [show ((A.length : Int) == 0) = true by simp [hz]]
      refine .seg 3 [] (T' := cgo 79 [false, false, true] [.code B4]) (tm' := mk 97 []) (σ' := []) (by kernel_rfl) ?_
      refine .semH (o := (opOf (cgo 79 [false, false, true] [.code B4])).getD default) (v := .d (.bool true)) (σ' := []) (by kernel_rfl) (by kernel_rfl) (T' := cgo 80 [false, false, true] [.code B4]) (by kernel_rfl) (fun k => sem_data0 (x := .func 21) (args := #[]) (ts := #[]) (first := []) (cap := []) (ds := []) F21 hlives (by kernel_rfl) (by kernel_rfl) (by kernel_rfl) (by kernel_rfl) (by kernel_rfl) (by kernel_rfl) []) ?_
      refine .seg 2 [6] (T' := cgo 82 [false, false, true] [.code B4]) (tm' := mk 97 [(6, .d (.bool (true)))]) (σ' := []) (by kernel_rfl) ?_
      exact .retH F4 (by kernel_rfl) (by kernel_rfl) (rfl)
    · rw [show ((A.length : Int) == 0) = false from beq_eq_false_iff_ne.2 (by omega)]
      refine .seg 8 [0, 7, 64, 67] (T' := cgo 84 [false, false, false] [.code B4]) (tm' := mk 97 [(0, .d (lsD l)), (7, .d (bsD A)), (64, .d (.int .u64 a)), (67, .d (.int .u64 (iconv .u64 ((A.map u8).length : Nat))))]) (σ' := []) (by kernel_rfl) ?_
      have h1 : iconv .u64 ((A.map u8).length : Nat) = (A.length : Int) := by
        rw [List.length_map]
        show IntKind.u64.wrap _ = _
        simp only [IntKind.wrap, IntKind.bits, IntKind.signed, Bool.false_and]
        simp
        omega
      rw [h1]
      refine .opH (o := (opOf (cgo 84 [false, false, false] [.code B4])).getD default) (by kernel_rfl) (by kernel_rfl) (by kernel_rfl) (T' := cgo 85 [false, false, false] [.code B4]) (by kernel_rfl) (rem_ok (t := 33) (ty := 33) (x := .tmp 64) (y := .tmp 67) (k := .u64) (a := (a : Nat)) (b := (A.length : Nat)) (by kernel_rfl) (by kernel_rfl) (by kernel_rfl) (by omega)) ?_
      rw [irem_nat]
      have hkl := Nat.mod_lt a (show 0 < A.length by omega)
      generalize a % A.length = k at hkl
      refine .seg 7 [0, 71, 72] (T' := cgo 92 [false, false, false] [.code B4]) (tm' := mk 97 [(0, .d (lsD l)), (71, .d (bsD A)), (72, .d (.int .i64 (iconv .i64 (k : Nat))))]) (σ' := []) (by kernel_rfl) ?_
      rw [show iconv .i64 ((k : Nat) : Int) = ((k : Nat) : Int) from wrap_i64 (by omega) (by omega)]
      refine .opH (o := (opOf (cgo 92 [false, false, false] [.code B4])).getD default) (by kernel_rfl) (by kernel_rfl) (by kernel_rfl) (T' := cgo 93 [false, false, false] [.code B4]) (by kernel_rfl) (slData_ok (t := 22) (x := .tmp 71) (lo := none) (hi := some (.tmp 72)) (sz := 1) (xs := A.map u8) 0 k (by kernel_rfl) (by kernel_rfl) (by kernel_rfl) rfl ⟨.i64, ((k : Nat) : Int), by kernel_rfl, Int.natCast_nonneg _, Int.toNat_natCast _⟩ (by omega) (by simp; omega)) ?_
      rw [List.drop_zero, ← List.map_take]
      obtain ⟨j, hj, hrec⟩ := recs_take l k ((A.take k).length + 1) (fun r h => by have := hr r h; omega) (by rw [hA]; omega) (by simp; omega)
      rw [hA] at hrec
      have hp2 := parse_pure (A.take k) (by simp; omega)
      rw [show parsed (A.take k) = l.take j from hrec] at hp2
      refine .seg 0 [0, 73] (T' := cgo 93 [false, false, false] [.code B4]) (tm' := mk 97 [(0, .d (lsD l)), (73, .d (bsD (A.take k)))]) (σ' := []) (by kernel_rfl) ?_
      refine .semH (o := (opOf (cgo 93 [false, false, false] [.code B4])).getD default) (v := .tuple [.d (lsD (l.take j)), .d (i64 (good (l.take j)))]) (σ' := []) (by kernel_rfl) (by kernel_rfl) (T' := cgo 94 [false, false, false] [.code B4]) (by kernel_rfl) (fun k => sem_data0 (x := .func 17) (args := #[.tmp 73]) (ts := #[22]) (first := []) (cap := []) F17 hp2 (by kernel_rfl) (by kernel_rfl) (by kernel_rfl) (by kernel_rfl) (by kernel_rfl) (by kernel_rfl) []) ?_
      refine .seg 14 [0, 15, 16, 82] (T' := cgo 108 [false, false, false] [.code B4]) (tm' := mk 97 [(0, .d (lsD l)), (15, .d (lsD (l.take j))), (16, .d (.int .i64 (good (l.take j)))), (82, .d (.bool (decide ((((l.take j).map bsD).length : Int) < ((l.map bsD).length : Nat)))))]) (σ' := []) (by kernel_rfl) ?_
      rw [decide_eq_true (show (((l.take j).map bsD).length : Int) < ((l.map bsD).length : Nat) by simp; omega)]
      refine .seg 2 [15, 16, 82, 83, 84] (T' := cgo 110 [false, false, false] [.code B4]) (tm' := mk 97 [(15, .d (lsD (l.take j))), (16, .d (.int .i64 (good (l.take j)))), (82, .d (.bool (true))), (83, .d (lsD l)), (84, .d (lsD (l.take j)))]) (σ' := []) (by kernel_rfl) ?_
      have hb := begins_pure l (l.take j) (by omega)
      rw [decide_eq_true (show (l.take j).length ≤ l.length ∧ l.take (l.take j).length = l.take j from ⟨by simp; omega, by rw [List.length_take, Nat.min_eq_left (by omega)]⟩)] at hb
      refine .semH (o := (opOf (cgo 110 [false, false, false] [.code B4])).getD default) (v := .d (.bool true)) (σ' := []) (by kernel_rfl) (by kernel_rfl) (T' := cgo 111 [false, false, false] [.code B4]) (by kernel_rfl) (fun k => sem_data0 (x := .func 23) (args := #[.tmp 83, .tmp 84]) (ts := #[26, 26]) (first := []) (cap := []) F23 hb (by kernel_rfl) (by kernel_rfl) (by kernel_rfl) (by kernel_rfl) (by kernel_rfl) (by kernel_rfl) []) ?_
      refine .seg 4 [87, 88, 89] (T' := cgo 115 [false, false, false] [.code B4]) (tm' := mk 97 [(87, .d (.bool (true))), (88, .d (.int .i64 (good (l.take j)))), (89, .d (lsD (l.take j)))]) (σ' := []) (by kernel_rfl) ?_
      have hsp := allOf_split l j
      rw [hA] at hsp
      refine .semH (o := (opOf (cgo 115 [false, false, false] [.code B4])).getD default) (v := .d (bsD (allOf (l.take j)))) (σ' := []) (by kernel_rfl) (by kernel_rfl) (T' := cgo 116 [false, false, false] [.code B4]) (by kernel_rfl) (fun k => sem_data0 (x := .func 24) (args := #[.tmp 89]) (ts := #[26]) (first := []) (cap := []) F24 (all_pure (l.take j) (by simp; omega) (by omega)) (by kernel_rfl) (by kernel_rfl) (by kernel_rfl) (by kernel_rfl) (by kernel_rfl) (by kernel_rfl) []) ?_
      refine .seg 2 [87, 92] (T' := cgo 118 [false, false, false] [.code B4]) (tm' := mk 97 [(87, .d (.bool (true))), (92, .d (.bool (((good (l.take j) : Nat) : Int) == (((allOf (l.take j)).map u8).length : Nat))))]) (σ' := []) (by kernel_rfl) ?_
      rw [List.length_map, good_all, beq_self_eq_true]
      refine .seg 2 [94] (T' := cgo 120 [false, false, false] [.code B4]) (tm' := mk 97 [(94, .d (.bool (true)))]) (σ' := []) (by kernel_rfl) ?_
      refine .semH (o := (opOf (cgo 120 [false, false, false] [.code B4])).getD default) (v := .d (.bool true)) (σ' := []) (by kernel_rfl) (by kernel_rfl) (T' := cgo 121 [false, false, false] [.code B4]) (by kernel_rfl) (fun k => sem_data0 (x := .func 21) (args := #[]) (ts := #[]) (first := []) (cap := []) (ds := []) F21 hlives (by kernel_rfl) (by kernel_rfl) (by kernel_rfl) (by kernel_rfl) (by kernel_rfl) (by kernel_rfl) []) ?_
      refine .seg 3 [6] (T' := cgo 124 [false, false, false] [.code B4]) (tm' := mk 97 [(6, .d (.bool (true)))]) (σ' := []) (by kernel_rfl) ?_
      exact .retH F4 (by kernel_rfl) (by kernel_rfl) (rfl)
  by_cases hA0 : A.length = 0
  · have hAe : A = [] := List.eq_nil_of_length_eq_zero hA0
    subst hAe
    refine .opH (o := (opOf (cgo 43 [false] [.code B4])).getD default) (by kernel_rfl) (by kernel_rfl) (by kernel_rfl) (T' := cgo 44 [false] [.code B4]) (by kernel_rfl) (appNone_ok (s := .tmp 42) (x := .tmp 43) (t := 22) (t2 := 22) (sz := 1) (by' := 1) (xs := []) (by kernel_rfl) (by kernel_rfl) (by kernel_rfl) (by kernel_rfl) (by kernel_rfl)) ?_
    refine .seg 1 [0, 1, 7, 44, 45] (T' := cgo 45 [false] [.code B4]) (tm' := mk 97 [(0, .d (lsD l)), (1, .d (.int .u64 a)), (7, .d (bsD [])), (44, .ex 1 []), (45, .d (bsD more))]) (σ' := []) (by kernel_rfl) ?_
    by_cases hm0 : more.length = 0
    · have hme : more = [] := List.eq_nil_of_length_eq_zero hm0
      subst hme
      refine .opH (o := (opOf (cgo 45 [false] [.code B4])).getD default) (by kernel_rfl) (by kernel_rfl) (by kernel_rfl) (T' := cgo 46 [false] [.code B4]) (by kernel_rfl) (appNone_ok (s := .tmp 44) (x := .tmp 45) (t := 22) (t2 := 22) (sz := 1) (by' := 1) (xs := []) (by kernel_rfl) (by kernel_rfl) (by kernel_rfl) (by kernel_rfl) (by kernel_rfl)) ?_
      refine .seg 0 [0, 1, 7, 46] (T' := cgo 46 [false] [.code B4]) (tm' := mk 97 [(0, .d (lsD l)), (1, .d (.int .u64 a)), (7, .d (bsD [])), (46, .ex 1 [])]) (σ' := []) (by kernel_rfl) ?_
      refine .coerce (List.replicate 97 22) ?_
      refine .keepT [0, 1, 7, 46] (tm' := (mk 97 [(0, .d (lsD l)), (1, .d (.int .u64 a)), (7, .d (bsD [])), (46, .d (bsD ([] ++ [])))])) (by kernel_rfl) ?_
      exact tail
    · refine .opH (o := (opOf (cgo 45 [false] [.code B4])).getD default) (by kernel_rfl) (by kernel_rfl) (by kernel_rfl) (T' := cgo 46 [false] [.code B4]) (by kernel_rfl) (appEx_ok (s := .tmp 44) (x := .tmp 45) (t := 22) (t2 := 22) (sz := 1) (by' := 1) (xs := []) (ys := more.map u8) (by kernel_rfl) (by kernel_rfl) (by kernel_rfl) (by kernel_rfl) (by kernel_rfl) (by simp; omega) (by simp; omega) (by simp [maxLen]; omega)) ?_
      refine .seg 0 [0, 1, 7, 46] (T' := cgo 46 [false] [.code B4]) (tm' := mk 97 [(0, .d (lsD l)), (1, .d (.int .u64 a)), (7, .d (bsD [])), (46, .row 0)]) (σ' := [.row 1 ([] ++ more.map u8) false]) (by kernel_rfl) ?_
      refine .freeze 0 (sz := 1) (xs := [] ++ more.map u8) (mv := false) rfl ?_
      refine .sub [] ((mk 97 [(0, .d (lsD l)), (1, .d (.int .u64 a)), (7, .d (bsD [])), (46, .d (bsD ([] ++ more)))])) [] none [] ⟨rfl, rfl, rfl⟩ rfl ⟨by simp, rfl⟩ rfl ⟨rfl, rfl⟩ ⟨rfl, rfl⟩ ?_
      exact tail
  · refine .opH (o := (opOf (cgo 43 [false] [.code B4])).getD default) (by kernel_rfl) (by kernel_rfl) (by kernel_rfl) (T' := cgo 44 [false] [.code B4]) (by kernel_rfl) (appEx_ok (s := .tmp 42) (x := .tmp 43) (t := 22) (t2 := 22) (sz := 1) (by' := 1) (xs := []) (ys := A.map u8) (by kernel_rfl) (by kernel_rfl) (by kernel_rfl) (by kernel_rfl) (by kernel_rfl) (by simp; omega) (by simp; omega) (by simp [maxLen]; omega)) ?_
    refine .seg 1 [0, 1, 7, 44, 45] (T' := cgo 45 [false] [.code B4]) (tm' := mk 97 [(0, .d (lsD l)), (1, .d (.int .u64 a)), (7, .d (bsD A)), (44, .row 0), (45, .d (bsD more))]) (σ' := [.row 1 ([] ++ A.map u8) false]) (by kernel_rfl) ?_
    rw [List.nil_append]
    refine .opH (o := (opOf (cgo 45 [false] [.code B4])).getD default) (by kernel_rfl) (by kernel_rfl) (by kernel_rfl) (T' := cgo 46 [false] [.code B4]) (by kernel_rfl) (appRow_ok (s := .tmp 44) (x := .tmp 45) (t := 22) (t2 := 22) (l := 0) (sz := 1) (by' := 1) (xs := A.map u8) (ys := more.map u8) (mv := false) (by kernel_rfl) (by kernel_rfl) (by kernel_rfl) (by kernel_rfl) (by kernel_rfl) (by kernel_rfl) (by simp; omega) (by simp [maxLen]; omega)) ?_
    refine .seg 0 [0, 1, 7, 46] (T' := cgo 46 [false] [.code B4]) (tm' := mk 97 [(0, .d (lsD l)), (1, .d (.int .u64 a)), (7, .d (bsD A)), (46, .row 0)]) (σ' := [.row 1 (A.map u8 ++ more.map u8) true]) (by kernel_rfl) ?_
    refine .freeze 0 (sz := 1) (xs := A.map u8 ++ more.map u8) (mv := true) rfl ?_
    rw [← List.map_append]
    refine .sub [] ((mk 97 [(0, .d (lsD l)), (1, .d (.int .u64 a)), (7, .d (bsD A)), (46, .d (bsD (A ++ more)))])) [] none [] ⟨rfl, rfl, rfl⟩ rfl ⟨by simp, rfl⟩ rfl ⟨rfl, rfl⟩ ⟨rfl, rfl⟩ ?_
    exact tail
end Go.Proofs.Ytoelkgbeefoplaa

