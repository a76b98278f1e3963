/- The base of these proofs, part T: loops over functions: the statement, the calls of yield, the rounds. -/
import Derived.Test.YtoelkgbeefoplaaBrS
import Derived.AtR
import Derived.RangeFuncRecord
import Derived.RangeFuncIn
namespace Go.Br
open Go

section steps
variable {P : Program} {f : FuncId} {rb : Option Nat} {a : Act} {k : List Item} {cs : List Frame} {w w' : World}
theorem st_beginRound {l : Nat} (hr : (Instr.beginRound l).run P w = .ok () w') : step P (lone (frm f (some l) a (.beginRound :: k)) cs w) = .next (lone (frm f (some l) a k) cs w') :=
  stepR_beginRound (b := frm f (some l) a []) rfl hr
theorem st_endRangeFunc {l : Nat} {jump : Option Code} (h : (Instr.endLoop l).run P w = .ok jump w') : step P (lone (frm f rb a (.endRangeFunc l :: k)) cs w) = .next (lone (frm f rb a ((jump.map Item.code).toList ++ k)) cs w') :=
  stepR_endRangeFunc (b := frm f rb a []) h
theorem st_rangeFunc {g : Operand} {ps : Array Tmp} {assign body : Code} {l : Nat} {mark : List Deferred} {w₁ w₁' w₂ : World} {d : Deferred} {h : FuncId} {args : Array Value}
    (he : (Instr.enterLoop f a.tmps ps assign body rb).run P w = .ok (l, mark) w₁)
    (hres : (resolve a.eval (rangeCall g l) 0).run P w₁ = .ok d w₁') (hinv : (invoke d.target d.args).run P w₁' = .ok (.enter h args) w₂) :
    step P (lone (frm f rb a (.code (.rangeFunc g ps assign body) :: k)) cs w) = .next (lone (Frame.enter P h args .normal) (frm f rb { a with defers := mark ++ a.defers } (.inRangeFunc l :: k) :: cs) w₂) :=
  stepR_rangeFunc (b := frm f rb a []) he hres hinv
theorem RunsTo.rangeFunc {g : Operand} {ps : Array Tmp} {assign body : Code} {l : Nat} {mark : List Deferred} {w₁ w₁' w₂ : World} {d : Deferred} {h : FuncId} {args : Array Value} {R : Ending → World → Prop}
    (he : (Instr.enterLoop f a.tmps ps assign body rb).run P w = .ok (l, mark) w₁)
    (hres : (resolve a.eval (rangeCall g l) 0).run P w₁ = .ok d w₁') (hinv : (invoke d.target d.args).run P w₁' = .ok (.enter h args) w₂) {S : World → Prop}
    (hc : Calls P h args w₂ fun e w'' => ∃ v, e = .returned v ∧ S w'')
    (hk : ∀ w'', S w'' → RunsTo P f rb (.endRangeFunc l :: k) { a with defers := mark ++ a.defers } w'' R) : RunsTo P f rb (.code (.rangeFunc g ps assign body) :: k) a w R := by
  intro cs
  obtain ⟨e, w1, fr, hR, hcomes, _, hleave⟩ := hc (frm f rb { a with defers := mark ++ a.defers } (.inRangeFunc l :: k) :: cs)
  obtain ⟨v, rfl, hS⟩ := hR
  obtain ⟨e2, w2, w3, fr2, h1, h2, h3⟩ := hk w1 hS cs
  exact ⟨e2, w2, w3, fr2, h1, .head (st_rangeFunc he hres hinv) (hcomes.trans (.head (step_leave_returned hleave) h2)), h3⟩
end steps

/-- Rows that have moved. -/
def mvB (σ : Store) (l : Nat) : Bool := match σ[l]? with | some (.row _ _ true) => true | _ => false
section
variable {w w' : World} {I I' : Nat → Prop} {ρ ρ' : LM} {σ σ' : Store}
theorem behind {tm : List V} {xs : List Value} (hO : ORel w I ρ σ) (hE : Ext σ.length w I ρ σ w' I' ρ' σ') (h : vrL w I ρ σ tm xs) : vrL w' I' ρ' σ' (V.killL (mvB σ') tm) xs := by
  have hI : ∀ b, I b → I' b ∧ w'.heap[b]? = w.heap[b]? := fun b hb => ⟨hE.immI b hb, hE.old b (hO.imm b hb).1 (hO.imm b hb).2⟩
  have hk := vrL_kill (w := w) (I := I) (ρ := ρ) (σ := σ) (mvB σ') tm xs h
  refine vrL_up hI _ xs (fun l hl => ?_) hk
  have hlt := vrL_locs _ xs hk l hl
  refine ⟨Nat.lt_of_lt_of_le hlt hE.len, fun o' h1 h2 => ?_⟩
  have hst : o'.still = true := by
    have hm := (locsL_kill (mvB σ') tm l hl).2
    unfold mvB at hm
    rw [h1] at hm
    cases o' with
    | dead => exact absurd rfl h2
    | row sz xs mv => cases mv <;> simp_all [O.still]
    | _ => rfl
  obtain ⟨h3, o, h4, h5, h6⟩ := hE.fixed l o' hlt h1 hst
  exact ⟨h3, o, h4, fun e => by subst e; simp [O.still] at h5, h6⟩
end

section
variable {P : Program} {f : FuncId} {ro : Option Nat} {n : Nat} {k : List Item} {df : List Nat} {Q : AE → Store → Prop} {ops : Array Oper} {tm : List V} {σ : Store}

theorem putObj_other {w : World} {r b : Nat} {o : Obj} (h : b ≠ r) : (w.putObj r o).heap[b]? = w.heap[b]? := by
  simp [World.putObj, Ne.symm h]
theorem putObj_self {w : World} {r : Nat} {o : Obj} (h : r < w.heap.size) : (w.putObj r o).heap[r]? = some o := by
  simp [World.putObj, h]

/-- A loop's record, changed. -/
theorem loop_upd {w : World} {I : Nat → Prop} {ρ : LM} {l : Nat} {st st' : LoopState} {pend pend' : Option Code} {fn : FuncId} {tml : List V} {ps : Array Tmp} {as bd : Code} (hO : ORel w I ρ σ) (hl : σ[l]? = some (.loop st pend fn tml ps as bd)) :
    ∃ L r, ρ l = some L ∧ w.heap[L.b]? = some (.loop r) ∧ r.state = st ∧ r.pending = pend ∧ ORel (w.putObj L.b (.loop { r with state := st', pending := pend' })) I ρ (σ.set l (.loop st' pend' fn tml ps as bd)) ∧
      Ext σ.length w I ρ σ (w.putObj L.b (.loop { r with state := st', pending := pend' })) I ρ (σ.set l (.loop st' pend' fn tml ps as bd)) ∧
      (∀ b, I b → I b ∧ (w.putObj L.b (.loop { r with state := st', pending := pend' })).heap[b]? = w.heap[b]?) ∧ ∀ x, x < σ.length → Same ρ σ ρ (σ.set l (.loop st' pend' fn tml ps as bd)) x := by
  have ho := hO.objs l _ hl
  simp only [orel] at ho
  obtain ⟨L, tmps, db, hL, hh, ht⟩ := ho
  have hlt : l < σ.length := (List.getElem?_eq_some_iff.1 hl).1
  have hb : L.b < w.heap.size := (Array.getElem?_eq_some_iff.1 hh).1
  have hS : ∀ x, x < σ.length → Same ρ σ ρ (σ.set l (.loop st' pend' fn tml ps as bd)) x := by
    intro x hx
    refine ⟨by simp; exact hx, fun o' h1 h2 => ?_⟩
    by_cases hxl : x = l
    · subst hxl
      rw [List.getElem?_set_self hlt] at h1
      cases h1
      exact ⟨rfl, _, hl, by simp, rfl⟩
    · rw [List.getElem?_set_ne (Ne.symm hxl)] at h1
      exact ⟨rfl, o', h1, h2, rfl⟩
  have hI : ∀ b, I b → I b ∧ (w.putObj L.b (.loop { state := st', pending := pend', fn := fn, tmps := tmps, params := ps, assign := as, body := bd, defers := db })).heap[b]? = w.heap[b]? := fun b hb => ⟨hb, putObj_other fun e => (hO.imm b hb).2 ⟨l, _, L, hl, by simp, hL, e.symm⟩⟩
  refine ⟨L, _, hL, hh, rfl, rfl, ?_, ?_, hI, hS⟩
  · refine hO.upd hl (by simp) hL rfl (fun b hb => putObj_other hb) (by simp) ?_
    simp only [orel]
    exact ⟨L, tmps, db, hL, putObj_self hb, vrL_all hI hS ht⟩
  · exact Ext.upd hl (by simp) hL (fun _ => rfl) rfl rfl (fun b hb => putObj_other hb) (by simp) rfl rfl rfl

theorem AW.beginRound {l : Nat} {pend : Option Code} {fn : FuncId} {tml : List V} {ps : Array Tmp} {as bd : Code} (hl : σ[l]? = some (.loop .ready pend fn tml ps as bd))
    (h : AW P f (some l) n k tm (σ.set l (.loop .busy pend fn tml ps as bd)) df Q) : AW P f (some l) n (.beginRound :: k) tm σ df Q := by
  intro w I ρ a rb hr hb hn
  obtain ⟨L, r, hL, hh, hs, hp, hO, hE, hI, hS⟩ := loop_upd (st' := .busy) (pend' := pend) hr.ors hl
  have hst := hE.stays
  obtain ⟨L', o, hL', _, _, rfl⟩ := hb
  rw [hL] at hL'; cases hL'
  have hrun : (Instr.beginRound L.b).run P w = .ok () (w.putObj L.b (.loop { r with state := .busy, pending := pend })) := by
    rw [run_beginRound hh hs, ← hp]
  exact .step (fun cs => st_beginRound hrun) ((h _ I ρ a (some L.b) ⟨vrL_all hI hS hr.tms, hO, dfr_stay hst hr.dfs⟩ ⟨L, _, hL, List.getElem?_set_self (List.getElem?_eq_some_iff.1 hl).1, ⟨_, _, _, _, _, _, _, rfl⟩, rfl⟩ (by simp; exact hn)).mono fun e w' hf => hf.trans (hE.less hn))

/-- A round's end. -/
theorem round_end {todo : List Item} {l : Nat} {st : LoopState} {pend : Option Code} {fn : FuncId} {tml : List V} {ps : Array Tmp} {as bd : Code} (jump : Option Code) (hl : σ[l]? = some (.loop st pend fn tml ps as bd))
    (hs : ∀ {a : Act} {lb : Nat} {w w' : World} {c : Frame} {cs : List Frame} {v : Value}, (Instr.endRound lb jump).run P w = .ok v w' → step P (lone (frm f (some lb) a todo) (c :: cs) w) = .next (lone (c.finish v) cs w'))
    (hq : Q (.ret (.d (.bool jump.isNone))) (σ.set l (.loop (if jump.isNone then .ready else .done) jump fn tml ps as bd))) : AW P f (some l) n todo tm σ df Q := by
  intro w I ρ a rb hr hb hn cs
  obtain ⟨L, r, hL, hh, _, _, hO, hE, _, _⟩ := loop_upd (st' := if jump.isNone then .ready else .done) (pend' := jump) hr.ors hl
  obtain ⟨L', o, hL', _, _, rfl⟩ := hb
  rw [hL] at hL'; cases hL'
  refine ⟨.returned (.bool jump.isNone), w, _, frm f (some L.b) a todo, ⟨I, ρ, _, _, hq, ⟨_, rfl, by simp [vr, Dr]⟩, hO, hE.less hn⟩, .refl _ _, fun c cs' => ⟨_, hs (run_endRound jump hh), rfl⟩⟩
theorem AW.roundEnd {l : Nat} {st : LoopState} {pend : Option Code} {fn : FuncId} {tml : List V} {ps : Array Tmp} {as bd : Code} (hl : σ[l]? = some (.loop st pend fn tml ps as bd))
    (hq : Q (.ret (.d (.bool true))) (σ.set l (.loop .ready none fn tml ps as bd))) : AW P f (some l) n [] tm σ df Q :=
  round_end none hl (fun {a lb _ _ _ _ _} h => stepR_round_end (b := frm f (some lb) a []) rfl rfl h) hq
theorem AW.roundRet {l : Nat} {st : LoopState} {pend : Option Code} {fn : FuncId} {tml : List V} {ps : Array Tmp} {as bd : Code} (hl : σ[l]? = some (.loop st pend fn tml ps as bd))
    (hq : Q (.ret (.d (.bool false))) (σ.set l (.loop .done (some .ret) fn tml ps as bd))) : AW P f (some l) n (.code .ret :: k) tm σ df Q :=
  round_end (some .ret) hl (fun {a lb _ _ _ _ _} h => stepR_round_ret (b := frm f (some lb) a []) rfl rfl h) hq
theorem AW.roundExit {l id : Nat} {st : LoopState} {pend : Option Code} {fn : FuncId} {tml : List V} {ps : Array Tmp} {as bd : Code} (hx : exitTo id k = none) (hl : σ[l]? = some (.loop st pend fn tml ps as bd))
    (hq : Q (.ret (.d (.bool false))) (σ.set l (.loop .done (some (.exit id)) fn tml ps as bd))) : AW P f (some l) n (.code (.exit id) :: k) tm σ df Q :=
  round_end (some (.exit id)) hl (fun {a lb _ _ _ _ _} h => stepR_round_exit (b := frm f (some lb) a []) rfl rfl hx h) hq

/-- The slots of a round. -/
def roundTm (tm : List V) : List Tmp → List V → List V
  | p :: ps, v :: vs => roundTm (tm.set p v) ps vs
  | _, _ => tm
theorem roundTm_rel {w : World} {I : Nat → Prop} {ρ : LM} : ∀ {ps : List Tmp} {vs tm : List V} {xs : List Value} {a : Array Value}, vrL w I ρ σ tm a.toList → vrL w I ρ σ vs xs → vs.length = ps.length →
    vrL w I ρ σ (roundTm tm ps vs) ((ps.zip xs).foldl (fun tmps (t, x) => tmps.setIfInBounds t x) a).toList
  | [], vs, tm, xs, a, h, _, _ => by cases vs <;> simpa [roundTm] using h
  | p :: ps, [], tm, xs, a, h, _, hl => by simp at hl
  | p :: ps, v :: vs, tm, xs, a, h, hv, hl => by
    simp only [vrL] at hv
    obtain ⟨x, xs', rfl, h1, h2⟩ := hv
    simp only [roundTm, List.zip_cons_cons, List.foldl_cons]
    refine roundTm_rel ?_ h2 (by simpa using hl)
    rw [Array.toList_setIfInBounds]
    exact vrL_set h p h1

/-- A CALL OF YIELD: a round of its loop. -/
theorem AW.yield {i : Nat} {rest : List Nat} {o : Oper} {x : Operand} {args : Array Operand} {ts : Array TypeId} {l : Nat} {st : LoopState} {pend : Option Code} {fn : FuncId} {tml : List V} {ps : Array Tmp} {as bd : Code} {Qr : AE → Store → Prop}
    (hi : ops[i]? = some o) (hw : wantA ops o tm = some true) (ho : o.op = .call { callee := .value x, args, argTypes := ts }) (hx : ev tm x = .yield l) (hl : σ[l]? = some (.loop st pend fn tml ps as bd)) (hps : args.size = ps.size)
    (hr : AW P fn (some l) σ.length [.code as, .beginRound, .code bd] (roundTm tml ps.toList (args.toList.map (ev tm))) σ [] Qr)
    (hk : ∀ r σ', Qr r σ' → ∃ v, r = .ret v ∧ AW P f ro n (.inRegion ops rest :: k) (put (V.killL (mvB σ') tm) o.dst v) σ' df Q) : AW P f ro n (.inRegion ops (i :: rest) :: k) tm σ df Q := by
  intro w I ρ a rb hrel hb hn
  have hxv := vr_ev hrel.tms x
  rw [hx] at hxv
  simp only [vr] at hxv
  have hobj := hrel.ors.objs l _ hl
  simp only [orel] at hobj
  obtain ⟨L, tmps, db, hL, hh, ht⟩ := hobj
  obtain ⟨L', hL', hxe⟩ := hxv.2.2 ⟨_, hl, by simp⟩
  rw [hL] at hL'; cases hL'
  have hfold : ∀ (A : Array (Tmp × Value)) (z : Array Value), A.foldl (fun tmps (t, x) => tmps.setIfInBounds t x) z = A.toList.foldl (fun tmps (t, x) => tmps.setIfInBounds t x) z := fun A z => by rw [← Array.foldl_toList]
  have hzip : (ps.zip (#[] ++ args.map a.eval)).toList = ps.toList.zip (args.toList.map a.eval) := by simp
  have hexec : (execOp a.eval o).run P w = .ok (.round L.b fn ((ps.toList.zip (args.toList.map a.eval)).foldl (fun tmps (t, x) => tmps.setIfInBounds t x) tmps) as bd) w := by
    have h1 := run_yield (P := P) hh (args := #[] ++ args.map a.eval) (by simp [hps])
    simp only [execOp, ho, resolve, hxe, Deferred.ofValue, Sem.run_bind, Sem.run_pure, Result.andThen_ok, invoke]
    rw [h1, hfold, hzip]
  have hargs : vrL w I ρ σ (args.toList.map (ev tm)) (args.toList.map a.eval) := ev_rel (fun y => vr_ev hrel.tms y) _
  have hround := hr w I ρ ⟨((ps.toList.zip (args.toList.map a.eval)).foldl (fun tmps (t, x) => tmps.setIfInBounds t x) tmps), []⟩ (some L.b) ⟨roundTm_rel ht hargs (by simp [hps]), hrel.ors, rfl⟩ ⟨L, _, hL, hl, ⟨_, _, _, _, _, _, _, rfl⟩, rfl⟩ (Nat.le_refl _)
  refine RunsTo.round hi (wantA_ok hw hrel.tms) (by simp [ho, Op.isDefer]) hexec (S := fun y w'' => ∃ I' ρ' σ' v, Qr (.ret v) σ' ∧ vr w'' I' ρ' σ' v y ∧ ORel w'' I' ρ' σ' ∧ Ext σ.length w I ρ σ w'' I' ρ' σ') (hround.mono ?_) ?_
  · rintro e w'' ⟨I', ρ', σ', r, h1, h2, h3, h4⟩
    obtain ⟨v, rfl, _⟩ := hk r σ' h1
    obtain ⟨y, rfl, h5⟩ := h2
    exact ⟨y, rfl, I', ρ', σ', v, h1, h5, h3, h4⟩
  · rintro y w'' ⟨I', ρ', σ', va, h1, h2, h3, h4⟩
    obtain ⟨v, hv, hnext⟩ := hk _ σ' h1
    cases hv
    have hst := h4.stays
    have := hnext w'' I' ρ' (a.put o.dst y) rb ⟨vrL_put (behind hrel.ors h4 hrel.tms) o.dst h2, h3, by rw [put_defers]; exact dfr_stay hst hrel.dfs⟩ (rbOf_stay hst hb) (Nat.le_trans hn h4.len)
    exact this.mono fun e w3 hfin => hfin.trans (h4.less hn)
end
end Go.Br
