/- The base of these proofs, part R: classes of operations, found by running them; the rule for a region whose order is drawn. -/
import Derived.Test.YtoelkgbeefoplaaBrQ
namespace Go.Br
open Go

theorem nilOf_empty {v : V} {b : Bool} (h : nilOf [] v = some b) (σ : Store) : nilOf σ v = some b := by
  unfold nilOf at *
  split at h <;> simp_all [liveB]
theorem nilV_empty {v u : V} (h : nilV [] v = some u) (σ : Store) : nilV σ v = some u := by
  unfold nilV at *
  split at h <;> simp_all [liveB]
theorem ptrBin_empty {P : Program} {op : BinOp} {t : TypeId} {x y v : V} (h : ptrBin P [] op t x y = some v) (σ : Store) : ptrBin P σ op t x y = some v := by
  unfold ptrBin at *
  split at h
  · rename_i hp
    simp only [hp, if_true]
    split at h
    · rename_i b h1 h2; rw [nilOf_empty h1 σ, nilOf_empty h2 σ]; exact h
    · rename_i h1 h2; rw [nilOf_empty h1 σ, nilOf_empty h2 σ]; exact h
    · cases h
  · cases h
theorem loadV_empty {P : Program} {t : TypeId} {v u : V} (h : loadV P [] t v = some u) (σ : Store) : loadV P σ t v = some u := by
  unfold loadV at *
  split at h <;> simp_all
theorem lenV_empty {v : V} {n : Nat} (h : lenV [] v = some n) (σ : Store) : lenV σ v = some n := by
  unfold lenV at *
  split at h <;> simp_all
theorem bltV_empty {P : Program} {b : Builtin} {ts : List TypeId} {vs : List V} {v : V} (h : bltV P [] b ts vs = some v) (σ : Store) : bltV P σ b ts vs = some v := by
  unfold bltV at *
  split at h
  · exact h
  · split at h
    · rename_i hs
      simp only [Option.map_eq_some_iff] at h
      obtain ⟨n, h1, h2⟩ := h
      simp only [hs, if_true, lenV_empty h1 σ, Option.map_some, h2]
    · cases h
  · exact h
  · exact h
  · cases h
theorem qop_empty {P : Program} {tm : List V} {o : Op} {v : V} (h : qop P tm [] o = some v) (σ : Store) : qop P tm σ o = some v := by
  unfold qop at *
  split at h <;> first | exact h | exact nilV_empty h σ | exact loadV_empty h σ | exact bltV_empty h σ | skip
  · split at h
    · exact h
    · exact ptrBin_empty h σ
  · split at h
    · rename_i hn; rw [nilOf_empty hn σ]; simpa using h
    · cases h

section
variable {P : Program} {f : FuncId} {ro : Option Nat} {n : Nat} {k : List Item} {df : List Nat} {Q : AE → Store → Prop} {ops : Array Oper}
theorem sem_mop {o : Oper} {i : Nat} {tm : List V} {σ σ' : Store} {v : V} (hi : ops[i]? = some o) (h : mop P tm σ o = some (v, σ')) : Sem P f ro n k df Q ops o i (valsOf tm o) σ v σ' := by
  intro rest tm' hv hw hn
  have h1 : mop P tm' σ o = some (v, σ') := by rw [mop_congr hv]; exact h
  obtain ⟨h2, h3⟩ := mop_ok h1
  exact .op hi hw h3 h2 hn
theorem EffC.up {c : Nat} {o : Oper} {i : Nat} {tm : List V} {σ : Store} {v : V} (h : ∀ s, Eff P f ro n k df Q ops o i tm s v s) : EffC P f ro n k df Q ops c o i tm σ v σ := by
  unfold EffC
  split
  · exact ⟨rfl, h⟩
  · exact ⟨rfl, h σ⟩
  · exact h σ
theorem mop_of_qop {P : Program} {tm : List V} {σ : Store} {o : Oper} {v : V} (h : qop P tm σ o.op = some v) : mop P tm σ o = some (v, σ) := by
  obtain ⟨dst, op, type, pos, after, guard⟩ := o
  unfold mop
  simp only [] at h ⊢
  split
  · simp [qop] at h
  · simp [qop] at h
  · simp [qop] at h
  · simp [qop] at h
  · simp [qop] at h
  · simp [h]

/-- A run of operations, each within its class. -/
def srun (P : Program) (ops : Array Oper) (c : List Nat) : List Nat → List V → Store → Option (List V × Store)
  | [], tm, σ => some (tm, σ)
  | i :: L, tm, σ => match ops[i]? with
    | none => none
    | some o => match wantA ops o tm with
      | none => none
      | some false => if Nat.beq (c.getD i 2) 3 then none else srun P ops c L (put tm o.dst .undef) σ
      | some true => match c.getD i 2 with
        | 0 => match qop P tm [] o.op with
          | some v => srun P ops c L (put tm o.dst v) σ
          | none => none
        | 1 => match qop P tm σ o.op with
          | some v => srun P ops c L (put tm o.dst v) σ
          | none => none
        | 3 => none
        | _ => match mop P tm σ o with
          | some p => srun P ops c L (put tm o.dst p.1) p.2
          | none => none
theorem srun_ok {c : List Nat} : ∀ {L : List Nat} {tm tm' : List V} {σ σ' : Store}, srun P ops c L tm σ = some (tm', σ') → Run (StepQ P f ro n k df Q ops c) L (tm, σ) (tm', σ')
  | [], tm, tm', σ, σ', h => by simp only [srun, Option.some.injEq, Prod.mk.injEq] at h; obtain ⟨rfl, rfl⟩ := h; rfl
  | i :: L, tm, tm', σ, σ', h => by
    simp only [srun] at h
    split at h
    · cases h
    · rename_i o hi
      split at h
      · cases h
      · rename_i hw
        split at h
        · cases h
        · rename_i hc3
          exact ⟨(put tm o.dst .undef, σ), .inl ⟨o, .undef, hi, rfl, EffC.up fun s => .inl ⟨hw, rfl, rfl⟩, by simpa using hc3⟩, srun_ok h⟩
      · rename_i hw
        split at h
        · rename_i hc
          split at h
          · rename_i v hq
            refine ⟨(put tm o.dst v, σ), .inl ⟨o, v, hi, rfl, EffC.up fun s => .inr ⟨hw, sem_mop hi (mop_of_qop (qop_empty hq s))⟩, by rw [hc]; simp⟩, srun_ok h⟩
          · cases h
        · rename_i hc
          split at h
          · rename_i v hq
            refine ⟨(put tm o.dst v, σ), .inl ⟨o, v, hi, rfl, ?_, by rw [hc]; simp⟩, srun_ok h⟩
            rw [hc]
            exact ⟨rfl, .inr ⟨hw, sem_mop hi (mop_of_qop hq)⟩⟩
          · cases h
        · cases h
        · rename_i hc0 hc1 hc3
          split at h
          · rename_i p hq
            refine ⟨(put tm o.dst p.1, p.2), .inl ⟨o, p.1, hi, rfl, ?_, hc3⟩, srun_ok h⟩
            unfold EffC
            have : Eff P f ro n k df Q ops o i tm σ p.1 p.2 := .inr ⟨hw, sem_mop hi hq⟩
            split
            · exact absurd (by assumption) hc0
            · exact absurd (by assumption) hc1
            · exact this
          · cases h
theorem Run.append {S : Type} {St : Nat → S → S → Prop} : ∀ {A B : List Nat} {s s1 s2 : S}, Run St A s s1 → Run St B s1 s2 → Run St (A ++ B) s s2
  | [], _, _, _, _, h, h' => by cases h; exact h'
  | _ :: _, _, _, _, _, ⟨a, h1, h2⟩, h' => ⟨a, h1, h2.append h'⟩
theorem Run.one {S : Type} {St : Nat → S → S → Prop} {i : Nat} {L : List Nat} {s s1 s2 : S} (h : St i s s1) (h' : Run St L s1 s2) : Run St (i :: L) s s2 := ⟨s1, h, h'⟩
/-- An operation that has nothing to do with the store: by a rule that holds in every store. -/
theorem StepQ.pure {c : List Nat} {i : Nat} {o : Oper} {tm : List V} {σ : Store} {v : V} (hi : ops[i]? = some o) (hc3 : c.getD i 2 ≠ 3) (hw : wantA ops o tm = some true) (hd : Op.isDefer o.op = false)
    (h : ∀ s tm', valsOf tm' o = valsOf tm o → OpOk P o tm' s v tm' s) : StepQ P f ro n k df Q ops c i (tm, σ) (put tm o.dst v, σ) :=
  .inl ⟨o, v, hi, rfl, EffC.up fun s => .inr ⟨hw, fun _ tm' hv hw' hn => .op hi hw' hd (h s tm' hv) hn⟩, hc3⟩
/-- An operation that may do what it likes with the store. -/
theorem StepQ.any {c : List Nat} {i : Nat} {o : Oper} {tm : List V} {σ σ' : Store} {v : V} (hi : ops[i]? = some o) (hc : c.getD i 2 = 2) (hw : wantA ops o tm = some true) (hd : Op.isDefer o.op = false)
    (h : ∀ tm', valsOf tm' o = valsOf tm o → OpOk P o tm' σ v tm' σ') : StepQ P f ro n k df Q ops c i (tm, σ) (put tm o.dst v, σ') :=
  .inl ⟨o, v, hi, rfl, by rw [hc]; exact .inr ⟨hw, fun _ tm' hv hw' hn => .op hi hw' hd (h tm' hv) hn⟩, by rw [hc]; simp⟩
/-- A call with data. -/
theorem StepQ.sem {c : List Nat} {i : Nat} {o : Oper} {tm : List V} {σ : Store} {v : V} (hi : ops[i]? = some o) (hc3 : c.getD i 2 ≠ 3) (hw : wantA ops o tm = some true)
    (h : ∀ s, Sem P f ro n k df Q ops o i (valsOf tm o) s v s) : StepQ P f ro n k df Q ops c i (tm, σ) (put tm o.dst v, σ) :=
  .inl ⟨o, v, hi, rfl, EffC.up fun s => .inr ⟨hw, h s⟩, hc3⟩
/-- An operation that has to do with all others. -/
theorem StepQ.all {c : List Nat} {i : Nat} {s s' : List V × Store} (hc : c.getD i 2 = 3) (h : ∀ rest, AW P f ro n (.inRegion ops rest :: k) s'.1 s'.2 df Q → AW P f ro n (.inRegion ops (i :: rest) :: k) s.1 s.2 df Q) : StepQ P f ro n k df Q ops c i s s' := .inr ⟨hc, h⟩
end

/-! ### Which orders are alike -/
def preds (ops : Array Oper) (X : List (Nat × Nat)) (j : Nat) : List Nat :=
  (match ops[j]? with | some o => o.after.toList.filterMap fun e => if Region.binds .any e then some e.on else none | none => []) ++ X.filterMap fun p => if p.2 = j then some p.1 else none
def clos (ops : Array Oper) (X : List (Nat × Nat)) : List Nat → List Nat → List Nat
  | [], B => B
  | j :: L, B => clos ops X L (B.set j ((preds ops X j).foldl (fun m p => m ||| (2 ^ p ||| B.getD p 0)) 0))
theorem preds_ok {ops : Array Oper} {X : List (Nat × Nat)} {L : List Nat} (hL : Ord ops L) (hX : ∀ p ∈ X, ahead L p.1 p.2) {j p : Nat} (hj : j ∈ L) (hp : p ∈ preds ops X j) : ahead L p j := by
  unfold preds at hp
  rcases List.mem_append.1 hp with h | h
  · cases ho : ops[j]? with
    | none => simp [ho] at h
    | some o =>
      simp only [ho, List.mem_filterMap] at h
      obtain ⟨e, he, h2⟩ := h
      split at h2
      · rename_i hb; cases h2; exact hL.edge j hj o ho e (by simpa using he) hb
      · cases h2
  · simp only [List.mem_filterMap] at h
    obtain ⟨q, hq, h2⟩ := h
    split at h2
    · rename_i hb; cases h2; subst hb; exact hX q hq
    · cases h2
theorem fold_ok {L : List Nat} {B : List Nat} (hB : ∀ j i, (B.getD j 0).testBit i = true → ahead L i j) {j : Nat} : ∀ (ps : List Nat) (m : Nat), (∀ p ∈ ps, ahead L p j) → (∀ i, m.testBit i = true → ahead L i j) →
    ∀ i, (ps.foldl (fun m p => m ||| (2 ^ p ||| B.getD p 0)) m).testBit i = true → ahead L i j
  | [], m, _, hm, i, h => hm i h
  | p :: ps, m, hp, hm, i, h => by
    refine fold_ok hB ps _ (fun q hq => hp q (by simp [hq])) (fun x hx => ?_) i h
    simp only [Nat.testBit_or, Bool.or_eq_true, Nat.testBit_two_pow, decide_eq_true_eq] at hx
    rcases hx with hx | hx | hx
    · exact hm x hx
    · subst hx; exact hp _ (by simp)
    · exact Nat.lt_trans (hB p x hx) (hp p (by simp))
theorem clos_ok {ops : Array Oper} {X : List (Nat × Nat)} {L : List Nat} (hL : Ord ops L) (hX : ∀ p ∈ X, ahead L p.1 p.2) : ∀ (M : List Nat) (B : List Nat), (∀ j ∈ M, j ∈ L) → (∀ j i, (B.getD j 0).testBit i = true → ahead L i j) →
    ∀ j i, ((clos ops X M B).getD j 0).testBit i = true → ahead L i j
  | [], B, _, hB => hB
  | x :: M, B, hM, hB => by
    refine clos_ok hL hX M _ (fun j hj => hM j (by simp [hj])) fun j i h => ?_
    by_cases hjx : j = x
    · subst hjx
      by_cases hlt : j < B.length
      · rw [List.getD_eq_getElem?_getD, List.getElem?_set_self hlt, Option.getD_some] at h
        exact fold_ok hB _ 0 (fun p hp => preds_ok hL hX (hM j (by simp)) hp) (fun i h => by simp at h) i h
      · rw [List.set_eq_of_length_le (by omega)] at h
        exact hB j i h
    · rw [List.getD_eq_getElem?_getD, List.getElem?_set_ne (Ne.symm hjx), ← List.getD_eq_getElem?_getD] at h
      exact hB j i h
def pairsAll (p : Nat → Nat → Bool) : List Nat → Bool
  | [] => true
  | a :: L => (L.all (p a)) && pairsAll p L
theorem pairsAll_ok {p : Nat → Nat → Bool} : ∀ {L : List Nat}, pairsAll p L = true → ∀ a b, a ∈ L → b ∈ L → ahead L a b → p a b = true
  | [], _, _, _, ha, _, _ => by cases ha
  | x :: L, h, a, b, ha, hb, hab => by
    simp only [pairsAll, Bool.and_eq_true] at h
    have hbx : b ≠ x := by
      intro e; subst e
      unfold ahead at hab
      simp at hab
    have hb' : b ∈ L := by rcases List.mem_cons.1 hb with e | e; exact absurd e hbx; exact e
    by_cases hax : a = x
    · subst hax; exact List.all_eq_true.1 h.1 b hb'
    · have ha' : a ∈ L := by rcases List.mem_cons.1 ha with e | e; exact absurd e hax; exact e
      refine pairsAll_ok h.2 a b ha' hb' ?_
      unfold ahead at hab ⊢
      rw [idx_ne hax, idx_ne hbx] at hab
      omega
/-- May the order 'M' stand for all in which 'X' holds? -/
def orderB (ops : Array Oper) (c : List Nat) (X : List (Nat × Nat)) (M : List Nat) : Bool :=
  nodupB M && (M.all fun i => Nat.blt i ops.size) && ((List.range ops.size).all fun i => M.contains i) &&
  (let B := clos ops X M (List.replicate ops.size 0); pairsAll (fun a b => !(depB ops c a b) || (B.getD b 0).testBit a) M)
theorem ahead_or {ops : Array Oper} {L : List Nat} (hL : Ord ops L) (i j : Nat) (hi : i < ops.size) (hj : j < ops.size) (hne : i ≠ j) : ahead L i j ∨ ahead L j i := by
  unfold ahead
  have h1 := (hL.mem i).2 hi
  have h2 := (hL.mem j).2 hj
  have h3 : L.idxOf i ≠ L.idxOf j := by
    intro e
    apply hne
    have e1 := List.getElem_idxOf (List.idxOf_lt_length_iff.2 h1)
    have e2 := List.getElem_idxOf (List.idxOf_lt_length_iff.2 h2)
    rw [← e1, ← e2]
    simp only [e]
  omega
section
variable {P : Program} {f : FuncId} {ro : Option Nat} {n : Nat} {k : List Item} {df : List Nat} {Q : AE → Store → Prop} {ops : Array Oper} {tm : List V} {σ : Store}
theorem AW.among {L : List Nat} (hL : Ord ops L) (c : List Nat) (X : List (Nat × Nat)) (M : List Nat) (hX : ∀ p ∈ X, ahead L p.1 p.2) (hok : orderB ops c X M = true) {s' : List V × Store}
    (hrun : Run (StepQ P f ro n k df Q ops c) M (tm, σ) s') (hn : AW P f ro n (.inRegion ops [] :: k) s'.1 s'.2 df Q) : AW P f ro n (.inRegion ops L :: k) tm σ df Q := by
  unfold orderB at hok
  simp only [Bool.and_eq_true] at hok
  obtain ⟨⟨⟨h1, h2⟩, h3⟩, h4⟩ := hok
  have hM : Ord ops M → True := fun _ => trivial
  have hmem : ∀ i, i ∈ M ↔ i < ops.size := fun i => ⟨fun h => by simpa using List.all_eq_true.1 h2 i h, fun h => by simpa using List.all_eq_true.1 h3 i (List.mem_range.2 h)⟩
  have hmm : ∀ i, i ∈ L ↔ i ∈ M := fun i => (hL.mem i).trans (hmem i).symm
  refine run_sound (Run.turn (dep := depB ops c) (depB_symm ops c) (fun i j hd s a b => stepQ_swap i j hd s a b) M L hL.nodup (nodupB_ok h1) hmm (fun i j hi hj hdep hij => ?_) hrun) hn
  by_cases hlt : ahead M i j
  · exact hlt
  · exfalso
    have hne : i ≠ j := fun e => by subst e; exact Nat.lt_irrefl _ hij
    have h5 : ahead M j i := by
      unfold ahead at hlt ⊢
      have h3 : M.idxOf i ≠ M.idxOf j := by
        intro e
        apply hne
        have e1 := List.getElem_idxOf (List.idxOf_lt_length_iff.2 ((hmm i).1 hi))
        have e2 := List.getElem_idxOf (List.idxOf_lt_length_iff.2 ((hmm j).1 hj))
        rw [← e1, ← e2]
        simp only [e]
      omega
    have h6 := pairsAll_ok h4 j i ((hmm j).1 hj) ((hmm i).1 hi) h5
    rw [depB_symm, hdep] at h6
    simp only [Bool.not_true, Bool.false_or] at h6
    have h7 := clos_ok hL hX M (List.replicate ops.size 0) (fun j hj => (hmm j).2 hj) (fun j i h => by
      rw [List.getD_eq_getElem?_getD, List.getElem?_replicate] at h
      split at h <;> simp at h) i j h6
    exact Nat.lt_asymm hij h7
/-- A REGION WHOSE ORDER IS DRAWN, walked in one order. -/
theorem AW.drawn {id : Nat} (c : List Nat) (M : List Nat) (hm : P.follows .mixedOrders = true) (hok : (edgesB ops && orderB ops c [] M) = true) {s' : List V × Store}
    (hrun : Run (StepQ P f ro n k df Q ops c) M (tm, σ) s') (hn : AW P f ro n k s'.1 s'.2 df Q) : AW P f ro n (.code (.region id ops true) :: k) tm σ df Q := by
  simp only [Bool.and_eq_true] at hok
  exact .order hm hok.1 fun L hL => .among hL c [] M (fun p hp => by cases hp) hok.2 hrun (.regionEnd hn)
end
end Go.Br
