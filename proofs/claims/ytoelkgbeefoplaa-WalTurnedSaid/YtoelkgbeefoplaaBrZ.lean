/- The base of these proofs, part Z: rules in the words that walks are printed in. -/
import Derived.Test.YtoelkgbeefoplaaBrY
namespace Go.Br
open Go

/-- The slots of a function's results. -/
def resSlotsOf (P : Program) (f : FuncId) : List Nat := match P.funcs[f]? with
  | some fn => fn.results.toList.map fun r => match r with | .tmp t => t | .cell a _ => a
  | none => []

theorem get_some {α : Type} {l : List α} {i : Nat} (h : i < l.length) : ∃ y, l[i]? = some y := ⟨l[i], List.getElem?_eq_getElem h⟩
theorem map_get {α β : Type} {l : List α} {g : α → β} {i : Nat} {y : α} (h : l[i]? = some y) : (l.map g)[i]? = some (g y) := by simp [h]
theorem str_get {s : ByteArray} {i : Nat} (h : i < s.size) : ∃ y, s[i]? = some y := ⟨s[i], by simp [h]⟩

section
variable {P : Program} {f : FuncId} {ro : Option Nat} {n : Nat} {T T' : List Item} {tm tm' : List V} {σ σ' : Store} {df : List Nat} {Q : AE → Store → Prop}
/-- The same place in other words. -/
theorem AW.at (hT : T = T') (h : AW P f ro n T' tm σ df Q) : AW P f ro n T tm σ df Q := by subst hT; exact h
/-- Slots that are not wanted any more. -/
theorem AW.keeps (l : List Nat) (ht : keep l tm = tm') (h : AW P f ro n T tm' σ df Q) : AW P f ro n T tm σ df Q :=
  AW.seg 0 l (T' := T) (tm' := tm') (σ' := σ) (by show some (T, keep l tm, σ) = _; rw [ht]) h
/-- A call with a store. -/
theorem AW.callH {o : Oper} {x : Operand} {args : Array Operand} {ts : Array TypeId} {g : FuncId} {fn : Func} {c : Code} {first cap : List V} (m : List Nat) (cargs : List V) (σc : Store) {Qc : AE → Store → Prop}
    (hF : Fnc P g fn c) (hc : CallsA P g cargs σc Qc) (ho : opOf T = some o) (hw : wantA (opsOf T) o tm = some true) (hT : tlOf T = T') (hop : o.op = .call { callee := .value x, args, argTypes := ts }) (hx : ev tm x = .fn (.func g) first cap)
    (hargs : coArgs P fn.params.toList (first ++ args.toList.map (ev tm) ++ cap) = V.renL (mp m σ.length) cargs) (hbel : (belB σc.length σc && (V.locsL cargs).all fun l => Nat.blt l σc.length) = true) (hwi : within σ m σc)
    (hk : ∀ r σc', Qc r σc' → ∃ v, r = .ret v ∧ AW P f ro n T' (put (V.killL (movedB m σc') tm) o.dst (v.ren (mp m σ.length))) (merge σ m σc') df Q) : AW P f ro n T tm σ df Q := by
  subst hT
  unfold opOf at ho
  split at ho
  · exact .call m cargs σc hF hc ho hw hop hx hargs hbel hwi hk
  · cases ho
theorem bnd_some {o : Operand} {k : IntKind} {i : Int} {l d : Nat} (h : ev tm o = .d (.int k i)) (h0 : 0 ≤ i) (hl : i.toNat = l) : Bnd tm (some o) l d := ⟨k, i, h, h0, hl⟩
end
end Go.Br
namespace Go.Br
open Go
section
variable {P : Program} {f : FuncId} {ro : Option Nat} {n : Nat} {T T' : List Item} {tm tm' : List V} {σ σ' : Store} {df : List Nat} {Q : AE → Store → Prop}
/-- A slice without elements or room, told as a row. -/
theorem AW.virtE (i sz : Nat) (hi : tm[i]? = some (.ex sz [])) (h : AW P f ro n T (tm.set i (.row σ.length)) (σ ++ [.row sz [] false]) df Q) : AW P f ro n T tm σ df Q := by
  intro w I ρ a rb hr hb hn
  have hO := hr.ors
  let σ2 : Store := σ ++ [.row sz [] false]
  let ρ2 : LM := fun x => if x = σ.length then none else ρ x
  have hlen : σ2.length = σ.length + 1 := by simp [σ2]
  have g1 : ∀ x, x < σ.length → σ2[x]? = σ[x]? := fun x hx => List.getElem?_append_left hx
  have g3 : σ2[σ.length]? = some (.row sz [] false) := by
    show (_ ++ _)[σ.length]? = _
    rw [List.getElem?_append_right (by omega)]
    simp
  have g4 : ∀ x, x < σ.length → ρ2 x = ρ x := fun x hx => by show (if _ then _ else _) = _; rw [if_neg (by omega)]
  have hS : ∀ x, x < σ.length → Same ρ σ ρ2 σ2 x := fun x hx => ⟨by omega, fun o' h1 h2 => ⟨g4 x hx, o', by rw [← g1 x hx]; exact h1, h2, rfl⟩⟩
  have hI : ∀ b, I b → I b ∧ w.heap[b]? = w.heap[b]? := fun b hb => ⟨hb, rfl⟩
  have cases3 : ∀ x o, σ2[x]? = some o → x = σ.length ∧ o = .row sz [] false ∨ x < σ.length ∧ σ[x]? = some o := by
    intro x o hx
    have hxl : x < σ2.length := (List.getElem?_eq_some_iff.1 hx).1
    by_cases h1 : x = σ.length
    · subst h1
      rw [g3] at hx; cases hx
      exact .inl ⟨rfl, rfl⟩
    · have h2 : x < σ.length := by omega
      exact .inr ⟨h2, by rw [← g1 x h2]; exact hx⟩
  have hfoot : ∀ b, foot ρ2 σ2 b → foot ρ σ b := by
    rintro b ⟨x, o, L, h1, h2, h3, h4⟩
    rcases cases3 x o h1 with ⟨rfl, rfl⟩ | ⟨hx, h5⟩
    · simp [ρ2] at h3
    · rw [g4 x hx] at h3
      exact ⟨x, o, L, h5, h2, h3, h4⟩
  have hO2 : ORel w I ρ2 σ2 := by
    refine ⟨fun x o hx => ?_, fun x y L L' hv hv' hL hL' hb => ?_, fun b hb => hO.flt b (hfoot b hb), fun b hb => ⟨(hO.imm b hb).1, fun h => (hO.imm b hb).2 (hfoot b h)⟩⟩
    · rcases cases3 x o hx with ⟨rfl, rfl⟩ | ⟨h2, h5⟩
      · simp only [orel]
        exact .inl ⟨by simp [ρ2], trivial⟩
      · by_cases hd : o = .dead
        · subst hd; simp [orel]
        · exact orel_all hI hS (g4 x h2) (fun L hL => rfl) (hO.objs x o h5)
    · obtain ⟨o, h1, h2⟩ := hv
      obtain ⟨o', h1', h2'⟩ := hv'
      rcases cases3 x o h1 with ⟨rfl, rfl⟩ | ⟨hx, h5⟩
      · simp [ρ2] at hL
      · rcases cases3 y o' h1' with ⟨rfl, rfl⟩ | ⟨hy, h7⟩
        · simp [ρ2] at hL'
        · rw [g4 x hx] at hL
          rw [g4 y hy] at hL'
          exact hO.inj x y L L' ⟨o, h5, h2⟩ ⟨o', h7, h2'⟩ hL hL' hb
  have hE : Ext σ.length w I ρ σ w I ρ2 σ2 := by
    refine ⟨Nat.le_refl _, rfl, rfl, rfl, fun _ _ _ => rfl, fun b hb => hb, fun b hb => .inl hb, fun b hb => .inl (hfoot b hb), by omega, fun x hx ⟨o, h1, h2⟩ => ?_, fun x o' hx h1 h2 => ?_, fun x o hx h1 h2 => ?_⟩
    · exact ⟨o, by rw [← g1 x hx]; exact h1, h2⟩
    · exact ⟨g4 x hx, o', by rw [← g1 x hx]; exact h1, h2, rfl⟩
    · exact ⟨o, by rw [g1 x hx]; exact h1, rfl⟩
  have hst := hE.stays
  obtain ⟨y, hy, hyv⟩ := vrL_get? hr.tms hi
  have k8 : vr w I ρ2 σ2 (.row σ.length) y := by
    simp only [vr] at hyv ⊢
    obtain ⟨ad, hyv, _⟩ := hyv
    refine ⟨by rw [hyv]; rfl, by omega, fun sz' xs mv hx => ?_⟩
    rw [g3] at hx; cases hx
    exact .inl ⟨rfl, ad, hyv⟩
  have k9 := vrL_set (vrL_all hI hS hr.tms) i k8
  rw [show a.tmps.toList.set i y = a.tmps.toList from by
    apply List.ext_getElem?
    intro j
    by_cases hj : j = i
    · subst hj
      rw [List.getElem?_set_self (List.getElem?_eq_some_iff.1 hy).1, hy]
    · rw [List.getElem?_set_ne (Ne.symm hj)]] at k9
  exact (h w I ρ2 a rb ⟨k9, hO2, dfr_stay hst hr.dfs⟩ (rbOf_stay hst hb) (by show n ≤ σ2.length; omega)).mono fun e w' hf => hf.trans (hE.less hn)
/-- A region whose order is drawn: every order is looked at. -/
theorem AW.drawAll (c : List Nat) (hm : P.follows .mixedOrders = true) (ht : isDraw T = true) (hE : edgesB (drawOf T) = true) (hT : cgo 1 [] T = T')
    (hrun : ∀ k L, Ord (drawOf T) L → ∃ M, Run (StepQ P f ro n k df Q (drawOf T) c) M (tm, σ) (tm', σ') ∧ ((∀ s', Run (StepQ P f ro n k df Q (drawOf T) c) M (tm, σ) s' → Run (StepQ P f ro n k df Q (drawOf T) c) L (tm, σ) s'))) (h : AW P f ro n T' tm' σ' df Q) : AW P f ro n T tm σ df Q := by
  subst hT
  unfold isDraw at ht
  split at ht
  · refine .order hm hE fun L hL => ?_
    obtain ⟨M, h1, h2⟩ := hrun _ L hL
    exact run_sound (h2 _ h1) (.regionEnd h)
  · cases ht
end
/-- One order for all that put these ahead of those. -/
theorem run_among {P : Program} {f : FuncId} {ro : Option Nat} {n : Nat} {k : List Item} {df : List Nat} {Q : AE → Store → Prop} {ops : Array Oper} {s s' : List V × Store} {L : List Nat} (hL : Ord ops L) (c : List Nat) (X : List (Nat × Nat)) (M : List Nat) (hX : ∀ p ∈ X, ahead L p.1 p.2) (hok : orderB ops c X M = true)
    (hrun : Run (StepQ P f ro n k df Q ops c) M s s') : ∃ M, Run (StepQ P f ro n k df Q ops c) M s s' ∧ (∀ s', Run (StepQ P f ro n k df Q ops c) M s s' → Run (StepQ P f ro n k df Q ops c) L s s') := by
  refine ⟨M, hrun, fun s' hrun => ?_⟩
  unfold orderB at hok
  simp only [Bool.and_eq_true] at hok
  obtain ⟨⟨⟨h1, h2⟩, h3⟩, h4⟩ := hok
  have hmem : ∀ i, i ∈ M ↔ i < ops.size := fun i => ⟨fun h => by simpa using List.all_eq_true.1 h2 i h, fun h => by simpa using List.all_eq_true.1 h3 i (List.mem_range.2 h)⟩
  have hmm : ∀ i, i ∈ L ↔ i ∈ M := fun i => (hL.mem i).trans (hmem i).symm
  refine Run.turn (dep := depB ops c) (depB_symm ops c) (fun i j hd s a b => stepQ_swap i j hd s a b) M L hL.nodup (nodupB_ok h1) hmm (fun i j hi hj hdep hij => ?_) hrun
  by_cases hlt : ahead M i j
  · exact hlt
  · exfalso
    have hne : i ≠ j := fun e => by subst e; exact Nat.lt_irrefl _ hij
    have h5 : ahead M j i := by
      unfold ahead at hlt ⊢
      have h3 : M.idxOf i ≠ M.idxOf j := by
        intro e
        apply hne
        have e1 := List.getElem_idxOf (List.idxOf_lt_length_iff.2 ((hmm i).1 hi))
        have e2 := List.getElem_idxOf (List.idxOf_lt_length_iff.2 ((hmm j).1 hj))
        rw [← e1, ← e2]
        simp only [e]
      omega
    have h6 := pairsAll_ok h4 j i ((hmm j).1 hj) ((hmm i).1 hi) h5
    rw [depB_symm, hdep] at h6
    simp only [Bool.not_true, Bool.false_or] at h6
    have h7 := clos_ok hL hX M (List.replicate ops.size 0) (fun j hj => (hmm j).2 hj) (fun j i h => by
      rw [List.getD_eq_getElem?_getD, List.getElem?_replicate] at h
      split at h <;> simp at h) i j h6
    exact Nat.lt_asymm hij h7
theorem ahead_or' {ops : Array Oper} {L : List Nat} (hL : Ord ops L) (i j : Nat) (h : (Nat.blt i ops.size && Nat.blt j ops.size && !(Nat.beq i j)) = true) : ahead L i j ∨ ahead L j i := by
  simp only [Bool.and_eq_true, Nat.blt_eq, Bool.not_eq_true'] at h
  obtain ⟨⟨h1, h2⟩, h3⟩ := h
  exact ahead_or hL i j h1 h2 fun e => by subst e; simp at h3
end Go.Br
namespace Go.Br
open Go
def sliceElem (P : Program) (t : TypeId) : Nat := match P.underlying t with | some (.slice e) => e | _ => 0
def typeSize (P : Program) (t : TypeId) : Nat := match P.info? t with | some i => i.size | none => 0
theorem rem_ok {P : Program} {tm : List V} {σ : Store} {o : Oper} {x y : Operand} {t ty : TypeId} {k : IntKind} {a b : Int} (ho : o.op = .binOp .rem t x y ty) (hx : ev tm x = .d (.int k a)) (hy : ev tm y = .d (.int k b)) (hb : b ≠ 0) : OpOk P o tm σ (.d (.int k (irem a b))) tm σ :=
  qop_opOk (by simp [ho, qop, hx, hy, binV, intBin, hb, irem])
theorem quo_ok {P : Program} {tm : List V} {σ : Store} {o : Oper} {x y : Operand} {t ty : TypeId} {k : IntKind} {a b : Int} (ho : o.op = .binOp .quo t x y ty) (hx : ev tm x = .d (.int k a)) (hy : ev tm y = .d (.int k b)) (hb : b ≠ 0) : OpOk P o tm σ (.d (.int k (iquo k a b))) tm σ :=
  qop_opOk (by simp [ho, qop, hx, hy, binV, intBin, hb, iquo])
end Go.Br
namespace Go.Br
open Go
/-- A call's arguments, as the callee finds them. -/
def callArgs (P : Program) (g : FuncId) (vs : List V) : List V := match P.funcs[g]? with | some fn => coArgs P fn.params.toList vs | none => vs
end Go.Br
namespace Go.Br
open Go
section
variable {P : Program} {f : FuncId} {ro : Option Nat} {n : Nat} {k : List Item} {df : List Nat} {Q : AE → Store → Prop} {ops : Array Oper}
/-- An operation that looks at the store, by a rule of its own. -/
theorem StepQ.rule1 {c : List Nat} {i : Nat} {o : Oper} {v : V} {tm : List V} {σ : Store} (xs : List Operand) (hi : ops[i]? = some o) (hc : Nat.beq (c.getD i 2) 1 = true) (hw : wantA ops o tm = some true) (hd : Op.isDefer o.op = false) (hx : o.op.operands.toList = xs)
    (h : ∀ tm', (∀ x ∈ xs, ev tm' x = ev tm x) → OpOk P o tm' σ v tm' σ) : StepQ P f ro n k df Q ops c i (tm, σ) (put tm o.dst v, σ) := by
  have hc' : c.getD i 2 = 1 := by simpa using hc
  exact .inl ⟨o, v, hi, rfl, by rw [hc']; exact ⟨rfl, .inr ⟨hw, fun rest tm' hv hw' hn => .op hi hw' hd (h tm' (vals_at hx hv)) hn⟩⟩, by rw [hc']; simp⟩
theorem StepQ.rule2 {c : List Nat} {i : Nat} {o : Oper} {v : V} {tm : List V} {σ σ' : Store} (xs : List Operand) (hi : ops[i]? = some o) (hc : Nat.beq (c.getD i 2) 2 = true) (hw : wantA ops o tm = some true) (hd : Op.isDefer o.op = false) (hx : o.op.operands.toList = xs)
    (h : ∀ tm', (∀ x ∈ xs, ev tm' x = ev tm x) → OpOk P o tm' σ v tm' σ') : StepQ P f ro n k df Q ops c i (tm, σ) (put tm o.dst v, σ') :=
  .any hi (by simpa using hc) hw hd fun tm' hv => h tm' (vals_at hx hv)
theorem StepQ.sem1 {c : List Nat} {i : Nat} {o : Oper} {v : V} {tm : List V} {σ : Store} (hi : ops[i]? = some o) (hc : Nat.beq (c.getD i 2) 1 = true) (hw : wantA ops o tm = some true)
    (h : Sem P f ro n k df Q ops o i (valsOf tm o) σ v σ) : StepQ P f ro n k df Q ops c i (tm, σ) (put tm o.dst v, σ) := by
  have hc' : c.getD i 2 = 1 := by simpa using hc
  exact .inl ⟨o, v, hi, rfl, by rw [hc']; exact ⟨rfl, .inr ⟨hw, h⟩⟩, by rw [hc']; simp⟩
theorem StepQ.all3 {c : List Nat} {i : Nat} {s s' : List V × Store} (hc : Nat.beq (c.getD i 2) 3 = true) (h : ∀ rest, AW P f ro n (.inRegion ops rest :: k) s'.1 s'.2 df Q → AW P f ro n (.inRegion ops (i :: rest) :: k) s.1 s.2 df Q) : StepQ P f ro n k df Q ops c i s s' := .all (by simpa using hc) h
/-- States of a run, told in other words. -/
theorem Run.as {L : List Nat} {c : List Nat} {tm tm' : List V} {σ σ' : Store} {s : List V × Store} (ht : tm = tm') (hs : σ = σ') (h : Run (StepQ P f ro n k df Q ops c) L (tm', σ') s) : Run (StepQ P f ro n k df Q ops c) L (tm, σ) s := by subst ht hs; exact h
end
end Go.Br
namespace Go.Br
open Go
theorem wrap_u64s {n : Int} (h : 0 ≤ n) (h' : n < 18446744073709551616) : IntKind.u64.wrap n = n := by
  simp only [IntKind.wrap, IntKind.bits, IntKind.signed, Bool.false_and]
  simp_all <;> omega
theorem wrap_u32s {n : Int} (h : 0 ≤ n) (h' : n < 4294967296) : IntKind.u32.wrap n = n := by
  simp only [IntKind.wrap, IntKind.bits, IntKind.signed, Bool.false_and]
  simp_all <;> omega
theorem wrap_u8s {n : Int} (h : 0 ≤ n) (h' : n < 256) : IntKind.u8.wrap n = n := by
  simp only [IntKind.wrap, IntKind.bits, IntKind.signed, Bool.false_and]
  simp_all <;> omega
theorem wrap_i32s {n : Int} (h : -2147483648 ≤ n) (h' : n < 2147483648) : IntKind.i32.wrap n = n := by
  simp only [IntKind.wrap, IntKind.bits, IntKind.signed, Bool.true_and]
  split <;> simp_all <;> omega
theorem irem_n (a b : Nat) : irem (a : Int) (b : Int) = ((a % b : Nat) : Int) := (Int.ofNat_tmod a b).symm
theorem iquo_n {k : IntKind} (a b : Nat) : iquo k (a : Int) (b : Int) = k.wrap ((a / b : Nat) : Int) := by show k.wrap ((a : Int).tdiv b) = _; rw [← Int.ofNat_tdiv]
theorem tdiv_nn {a b : Int} (h : 0 ≤ a) : a.tdiv b = a / b := Int.tdiv_eq_ediv_of_nonneg h
theorem tmod_nn {a b : Int} (h : 0 ≤ a) : a.tmod b = a % b := Int.tmod_eq_emod_of_nonneg h
end Go.Br
