/- The same records: a walk of the document's Same. -/
import Derived.Test.YtoelkgbeefoplaaParseA
import Derived.Laws.Strings
namespace Go.Proofs.Ytoelkgbeefoplaa
open Go Go.Br Go.Proofs

def strOf (bs : List UInt8) : ByteArray := ⟨bs.toArray⟩
theorem strOf_eq (a b : List UInt8) : ((strOf a).toList == (strOf b).toList) = decide (a = b) := by
  rw [ByteArray.toList_eq, ByteArray.toList_eq]
  rw [Bool.eq_iff_iff]
  simp [strOf]
theorem bsD_get {a : List (List UInt8)} {i : Nat} (h : i < a.length) : (a.map bsD)[((i : Nat) : Int).toNat]? = some (bsD (a.getD i [])) := by
  simp [h]
theorem bts_data {P : Program} {tm : List V} {σ : Store} {o : Oper} {s t : TypeId} {x : Operand} {bs : List UInt8} (ho : o.op = .convert s t x) (hs : isU8s P s = true) (ht : isStrT P t = true) (hx : ev tm x = .d (bsD bs)) : OpOk P o tm σ (.d (.str (strOf bs))) tm σ :=
  bts_ok ho hs ht (.inl ⟨by rw [hx]; rfl, fun z hz => by rw [hx] at hz; cases hz⟩)

noncomputable def B20 : Code := (Try.f20.body).getD .skip
theorem F20 : Fnc Try.prog 20 Try.f20 B20 := ⟨Try.func20, by kernel_rfl, by kernel_rfl⟩
section
variable {n : Nat} {Q : AE → Store → Prop}
theorem lp20 (a b : List (List UInt8)) (hab : a.length = b.length) (hlen : a.length < 9223372036854775807) (hq : Q (.ret (.d (.bool (decide (a = b))))) []) : ∀ (m i : Nat), i + m = a.length → a.take i = b.take i →
    AW Try.prog 20 none n ((cgo 24 [false] [.code B20])) ((mk 28 [(0, .d (.list 1 (a.map bsD))), (1, .d (.list 1 (b.map bsD))), (12, .d (.int .i64 (a.length))), (13, .d (.int .i64 (i)))])) [] [] Q := by
  intro m
  induction m with
  | zero =>
    intro i hi hp
    obtain rfl : i = a.length := by omega
    have he : a = b := by
      rw [List.take_length, hab, List.take_length] at hp
      exact hp
    refine .seg 5 [14] (T' := cgo 29 [false] [.code B20]) (tm' := mk 28 [(14, .d (.bool (decide ((a.length : Int) < a.length))))]) (σ' := []) (by kernel_rfl) ?_
    refine .ifH (b := decide ((a.length : Int) < a.length)) (by kernel_rfl) (by kernel_rfl) (T1 := cgo 30 [false, true] [.code B20]) (T2 := cgo 30 [false, false] [.code B20]) (by kernel_rfl) (by kernel_rfl) (fun h => absurd h (by simp)) (fun _ => ?_)
    refine .seg 5 [4] (T' := cgo 35 [false, false] [.code B20]) (tm' := mk 28 [(4, .d (.bool (true)))]) (σ' := []) (by kernel_rfl) ?_
    rw [decide_eq_true he] at hq
    exact .retH F20 (by kernel_rfl) (by kernel_rfl) (hq)
  | succ m ih =>
    intro i hi hp
    have h1 : i < a.length := by omega
    have h2 : i < b.length := by omega
    refine .seg 5 [0, 1, 12, 13, 14] (T' := cgo 29 [false] [.code B20]) (tm' := mk 28 [(0, .d (.list 1 (a.map bsD))), (1, .d (.list 1 (b.map bsD))), (12, .d (.int .i64 (a.length))), (13, .d (.int .i64 (i))), (14, .d (.bool (decide ((i : Int) < a.length))))]) (σ' := []) (by kernel_rfl) ?_
    refine .ifH (b := decide ((i : Int) < a.length)) (by kernel_rfl) (by kernel_rfl) (T1 := cgo 30 [false, true] [.code B20]) (T2 := cgo 30 [false, false] [.code B20]) (by kernel_rfl) (by kernel_rfl) (fun _ => ?_) (fun h => absurd h (by simp; omega))
    refine .seg 9 [0, 1, 5, 12, 13] (T' := cgo 39 [false, true] [.code B20]) (tm' := mk 28 [(0, .d (.list 1 (a.map bsD))), (1, .d (.list 1 (b.map bsD))), (5, .d (.int .i64 (i))), (12, .d (.int .i64 (a.length))), (13, .d (.int .i64 (i)))]) (σ' := []) (by kernel_rfl) ?_
    refine .drawH (T' := (cgo 40 [false, true] [.code B20])) (tm' := (mk 28 [(0, .d (.list 1 (a.map bsD))), (1, .d (.list 1 (b.map bsD))), (5, .d (.int .i64 (i))), (12, .d (.int .i64 (a.length))), (13, .d (.int .i64 (i))), (16, .d (.list 1 (a.map bsD))), (17, .d (.int .i64 (i))), (18, .ep 1 (bsD (a.getD i [])) 0), (19, .d (bsD (a.getD i []))), (20, .d (.str (strOf (a.getD i [])))), (21, .d (.list 1 (b.map bsD))), (22, .d (.int .i64 (i))), (23, .ep 1 (bsD (b.getD i [])) 0), (24, .d (bsD (b.getD i []))), (25, .d (.str (strOf (b.getD i [])))), (26, .d (.bool (!((strOf (a.getD i [])).toList == (strOf (b.getD i [])).toList))))])) (σ' := []) (List.replicate 11 0) [0, 1, 2, 3, 4, 5, 6, 7, 8, 9, 10] (by kernel_rfl) (by kernel_rfl) (by kernel_rfl) (by kernel_rfl) (fun k => ?_) ?_
    · refine Run.append (A := [0, 1]) (srun_ok (tm' := (mk 28 [(0, .d (.list 1 (a.map bsD))), (1, .d (.list 1 (b.map bsD))), (5, .d (.int .i64 (i))), (12, .d (.int .i64 (a.length))), (13, .d (.int .i64 (i))), (16, .d (.list 1 (a.map bsD))), (17, .d (.int .i64 (i)))])) (σ' := []) (by kernel_rfl)) ?_
      refine Run.one (StepQ.rule (o := ((drawOf (cgo 39 [false, true] [.code B20]))[2]?).getD default) (v := .ep 1 (bsD (a.getD i [])) 0) [.tmp 16, .tmp 17] (by kernel_rfl) (by kernel_rfl) (by kernel_rfl) (by kernel_rfl) (by kernel_rfl) (fun s tm' hv => ixData_ok (t := 26) (x := .tmp 16) (i := .tmp 17) (sz := 1) (xs := a.map bsD) (k := .i64) (n := i) (by kernel_rfl) (by rw [hv _ (by simp)]; kernel_rfl) ((hv _ (by simp)).trans (by kernel_rfl)) (by kernel_rfl) (by omega) (bsD_get h1))) ?_
      refine Run.append (A := [3]) (srun_ok (tm' := (mk 28 [(0, .d (.list 1 (a.map bsD))), (1, .d (.list 1 (b.map bsD))), (5, .d (.int .i64 (i))), (12, .d (.int .i64 (a.length))), (13, .d (.int .i64 (i))), (16, .d (.list 1 (a.map bsD))), (17, .d (.int .i64 (i))), (18, .ep 1 (bsD (a.getD i [])) 0), (19, .d (bsD (a.getD i [])))])) (σ' := []) (by kernel_rfl)) ?_
      refine Run.one (StepQ.rule (o := ((drawOf (cgo 39 [false, true] [.code B20]))[4]?).getD default) (v := .d (.str (strOf (a.getD i [])))) [.tmp 19] (by kernel_rfl) (by kernel_rfl) (by kernel_rfl) (by kernel_rfl) (by kernel_rfl) (fun s tm' hv => bts_data (s := 22) (t := 9) (x := .tmp 19) (by kernel_rfl) (by kernel_rfl) (by kernel_rfl) ((hv _ (by simp)).trans (by kernel_rfl)))) ?_
      refine Run.append (A := [5, 6]) (srun_ok (tm' := (mk 28 [(0, .d (.list 1 (a.map bsD))), (1, .d (.list 1 (b.map bsD))), (5, .d (.int .i64 (i))), (12, .d (.int .i64 (a.length))), (13, .d (.int .i64 (i))), (16, .d (.list 1 (a.map bsD))), (17, .d (.int .i64 (i))), (18, .ep 1 (bsD (a.getD i [])) 0), (19, .d (bsD (a.getD i []))), (20, .d (.str (strOf (a.getD i [])))), (21, .d (.list 1 (b.map bsD))), (22, .d (.int .i64 (i)))])) (σ' := []) (by kernel_rfl)) ?_
      refine Run.one (StepQ.rule (o := ((drawOf (cgo 39 [false, true] [.code B20]))[7]?).getD default) (v := .ep 1 (bsD (b.getD i [])) 0) [.tmp 21, .tmp 22] (by kernel_rfl) (by kernel_rfl) (by kernel_rfl) (by kernel_rfl) (by kernel_rfl) (fun s tm' hv => ixData_ok (t := 26) (x := .tmp 21) (i := .tmp 22) (sz := 1) (xs := b.map bsD) (k := .i64) (n := i) (by kernel_rfl) (by rw [hv _ (by simp)]; kernel_rfl) ((hv _ (by simp)).trans (by kernel_rfl)) (by kernel_rfl) (by omega) (bsD_get h2))) ?_
      refine Run.append (A := [8]) (srun_ok (tm' := (mk 28 [(0, .d (.list 1 (a.map bsD))), (1, .d (.list 1 (b.map bsD))), (5, .d (.int .i64 (i))), (12, .d (.int .i64 (a.length))), (13, .d (.int .i64 (i))), (16, .d (.list 1 (a.map bsD))), (17, .d (.int .i64 (i))), (18, .ep 1 (bsD (a.getD i [])) 0), (19, .d (bsD (a.getD i []))), (20, .d (.str (strOf (a.getD i [])))), (21, .d (.list 1 (b.map bsD))), (22, .d (.int .i64 (i))), (23, .ep 1 (bsD (b.getD i [])) 0), (24, .d (bsD (b.getD i [])))])) (σ' := []) (by kernel_rfl)) ?_
      refine Run.one (StepQ.rule (o := ((drawOf (cgo 39 [false, true] [.code B20]))[9]?).getD default) (v := .d (.str (strOf (b.getD i [])))) [.tmp 24] (by kernel_rfl) (by kernel_rfl) (by kernel_rfl) (by kernel_rfl) (by kernel_rfl) (fun s tm' hv => bts_data (s := 22) (t := 9) (x := .tmp 24) (by kernel_rfl) (by kernel_rfl) (by kernel_rfl) ((hv _ (by simp)).trans (by kernel_rfl)))) ?_
      exact srun_ok (by kernel_rfl)
    rw [strOf_eq]
    refine .ifH (b := !(decide (a.getD i [] = b.getD i []))) (by kernel_rfl) (by kernel_rfl) (T1 := cgo 41 [false, true, true] [.code B20]) (T2 := cgo 41 [false, true, false] [.code B20]) (by kernel_rfl) (by kernel_rfl) (fun h => ?_) (fun h => ?_)
    · have hne : a ≠ b := by
        intro e; subst e; simp at h
      refine .seg 4 [4] (T' := cgo 45 [false, true, true] [.code B20]) (tm' := mk 28 [(4, .d (.bool (false)))]) (σ' := []) (by kernel_rfl) ?_
      rw [decide_eq_false hne] at hq
      exact .retH F20 (by kernel_rfl) (by kernel_rfl) (hq)
    · have heq : a.getD i [] = b.getD i [] := by simpa using h
      refine .seg 7 [0, 1, 12, 13] (T' := cgo 24 [false] [.code B20]) (tm' := mk 28 [(0, .d (.list 1 (a.map bsD))), (1, .d (.list 1 (b.map bsD))), (12, .d (.int .i64 (a.length))), (13, .d (.int .i64 (iadd .i64 i 1)))]) (σ' := []) (by kernel_rfl) ?_
      rw [iadd_i64 (by omega) (by omega)]
      refine ih (i + 1) (by omega) ?_
      rw [List.take_succ_eq_append_getElem h1, List.take_succ_eq_append_getElem h2, hp]
      simp only [List.getD_eq_getElem?_getD, List.getElem?_eq_getElem h1, List.getElem?_eq_getElem h2, Option.getD_some] at heq
      rw [heq]
end
theorem same_pure (a b : List (List UInt8)) (ha : a.length < 9223372036854775807) : Pure Try.prog 20 [.d (.list 1 (a.map bsD)), .d (.list 1 (b.map bsD))] (.d (.bool (decide (a = b)))) := by
  refine CallsA.start F20 (tm := (mk 28 [(0, .d (.list 1 (a.map bsD))), (1, .d (.list 1 (b.map bsD)))])) (by kernel_rfl) ?_
  refine .seg 13 [0, 1, 10] (T' := cgo 13 [] [.code B20]) (tm' := mk 28 [(0, .d (.list 1 (a.map bsD))), (1, .d (.list 1 (b.map bsD))), (10, .d (.bool (((a.map bsD).length : Int) != ((b.map bsD).length : Int))))]) (σ' := []) (by kernel_rfl) ?_
  rw [List.length_map, List.length_map]
  by_cases hab : a.length = b.length
  · rw [show ((a.length : Int) != (b.length : Int)) = false by simp [hab]]
    refine .seg 11 [0, 1, 12, 13] (T' := cgo 24 [false] [.code B20]) (tm' := mk 28 [(0, .d (.list 1 (a.map bsD))), (1, .d (.list 1 (b.map bsD))), (12, .d (.int .i64 (((a.map bsD).length : Nat)))), (13, .d (.int .i64 (0)))]) (σ' := []) (by kernel_rfl) ?_
    rw [List.length_map]
    refine lp20 a b hab ha ?_ a.length 0 (by omega) rfl
    exact ⟨rfl, rfl⟩
  · have hne : a ≠ b := fun e => hab (by rw [e])
    rw [show ((a.length : Int) != (b.length : Int)) = true by simp; omega, decide_eq_false hne]
    refine .seg 5 [4] (T' := cgo 18 [true] [.code B20]) (tm' := mk 28 [(4, .d (.bool (false)))]) (σ' := []) (by kernel_rfl) ?_
    exact .retH F20 (by kernel_rfl) (by kernel_rfl) (⟨rfl, rfl⟩)
end Go.Proofs.Ytoelkgbeefoplaa

