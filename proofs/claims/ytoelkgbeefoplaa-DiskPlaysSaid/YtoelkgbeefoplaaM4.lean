/- Texts of this proof, part 4: BrT, BrU, BrV, BrW, BrX, BrY, BrZ, BrSl. -/
import Derived.AtR
import Derived.Laws.Cover3
import Derived.Laws.IdiomCopy
import Derived.RangeFuncIn
import Derived.RangeFuncRecord
import Derived.Test.YtoelkgbeefoplaaM3
set_option linter.unusedSimpArgs false
set_option linter.unusedVariables false
set_option linter.constructorNameAsVariable false
namespace Go.Br
open Go
section steps
variable {P : Program} {f : FuncId} {rb : Option Nat} {a : Act} {k : List Item} {cs : List Frame} {w w' : World}
theorem st_beginRound {l : Nat} (hr : (Instr.beginRound l).run P w = .ok () w') : step P (lone (frm f (some l) a (.beginRound :: k)) cs w) = .next (lone (frm f (some l) a k) cs w') :=
 stepR_beginRound (b := frm f (some l) a []) rfl hr
theorem st_endRangeFunc {l : Nat} {jump : Option Code} (h : (Instr.endLoop l).run P w = .ok jump w') : step P (lone (frm f rb a (.endRangeFunc l :: k)) cs w) = .next (lone (frm f rb a ((jump.map Item.code).toList ++ k)) cs w') :=
 stepR_endRangeFunc (b := frm f rb a []) h
theorem st_rangeFunc {g : Operand} {ps : Array Tmp} {assign body : Code} {l : Nat} {mark : List Deferred} {w₁ w₁' w₂ : World} {d : Deferred} {h : FuncId} {args : Array Value}
  (he : (Instr.enterLoop f a.tmps ps assign body rb).run P w = .ok (l, mark) w₁)
  (hres : (resolve a.eval (rangeCall g l) 0).run P w₁ = .ok d w₁') (hinv : (invoke d.target d.args).run P w₁' = .ok (.enter h args) w₂) :
  step P (lone (frm f rb a (.code (.rangeFunc g ps assign body) :: k)) cs w) = .next (lone (Frame.enter P h args .normal) (frm f rb { a with defers := mark ++ a.defers } (.inRangeFunc l :: k) :: cs) w₂) :=
 stepR_rangeFunc (b := frm f rb a []) he hres hinv
theorem RunsTo.rangeFunc {g : Operand} {ps : Array Tmp} {assign body : Code} {l : Nat} {mark : List Deferred} {w₁ w₁' w₂ : World} {d : Deferred} {h : FuncId} {args : Array Value} {R : Ending → World → Prop}
  (he : (Instr.enterLoop f a.tmps ps assign body rb).run P w = .ok (l, mark) w₁)
  (hres : (resolve a.eval (rangeCall g l) 0).run P w₁ = .ok d w₁') (hinv : (invoke d.target d.args).run P w₁' = .ok (.enter h args) w₂) {S : World → Prop}
  (hc : Calls P h args w₂ fun e w'' => ∃ v, e = .returned v ∧ S w'')
  (hk : ∀ w'', S w'' → RunsTo P f rb (.endRangeFunc l :: k) { a with defers := mark ++ a.defers } w'' R) : RunsTo P f rb (.code (.rangeFunc g ps assign body) :: k) a w R := by
 intro cs
 obtain ⟨e, w1, fr, hR, hcomes, _, hleave⟩ := hc (frm f rb { a with defers := mark ++ a.defers } (.inRangeFunc l :: k) :: cs)
 obtain ⟨v, rfl, hS⟩ := hR
 obtain ⟨e2, w2, w3, fr2, h1, h2, h3⟩ := hk w1 hS cs
 exact ⟨e2, w2, w3, fr2, h1, .head (st_rangeFunc he hres hinv) (hcomes.trans (.head (step_leave_returned hleave) h2)), h3⟩
end steps
def mvB (σ : Store) (l : Nat) : Bool := match σ[l]? with | some (.row _ _ true) => true | _ => false
section
variable {w w' : World} {I I' : Nat → Prop} {ρ ρ' : LM} {σ σ' : Store}
theorem behind {tm : List V} {xs : List Value} (hO : ORel w I ρ σ) (hE : Ext σ.length w I ρ σ w' I' ρ' σ') (h : vrL w I ρ σ tm xs) : vrL w' I' ρ' σ' (V.killL (mvB σ') tm) xs := by
 have hI : ∀ b, I b → I' b ∧ w'.heap[b]? = w.heap[b]? := fun b hb => ⟨hE.immI b hb, hE.old b (hO.imm b hb).1 (hO.imm b hb).2⟩
 have hk := vrL_kill (w := w) (I := I) (ρ := ρ) (σ := σ) (mvB σ') tm xs h
 refine vrL_up hI _ xs (fun l hl => ?_) hk
 have hlt := vrL_locs _ xs hk l hl
 refine ⟨Nat.lt_of_lt_of_le hlt hE.len, fun o' h1 h2 => ?_⟩
 have hst : o'.still = true := by
  have hm := (locsL_kill (mvB σ') tm l hl).2
  unfold mvB at hm
  rw [h1] at hm
  cases o' with
  | dead => exact absurd rfl h2
  | row sz xs mv => cases mv <;> simp_all [O.still]
  | _ => rfl
 obtain ⟨h3, o, h4, h5, h6⟩ := hE.fixed l o' hlt h1 hst
 exact ⟨h3, o, h4, fun e => by subst e; simp [O.still] at h5, h6⟩
end
section
variable {P : Program} {f : FuncId} {ro : Option Nat} {n : Nat} {k : List Item} {df : List Nat} {Q : AE → Store → Prop} {ops : Array Oper} {tm : List V} {σ : Store}
theorem putObj_other {w : World} {r b : Nat} {o : Obj} (h : b ≠ r) : (w.putObj r o).heap[b]? = w.heap[b]? := by
 simp [World.putObj, Ne.symm h]
theorem putObj_self {w : World} {r : Nat} {o : Obj} (h : r < w.heap.size) : (w.putObj r o).heap[r]? = some o := by
 simp [World.putObj, h]
theorem loop_upd {w : World} {I : Nat → Prop} {ρ : LM} {l : Nat} {st st' : LoopState} {pend pend' : Option Code} {fn : FuncId} {tml : List V} {ps : Array Tmp} {as bd : Code} (hO : ORel w I ρ σ) (hl : σ[l]? = some (.loop st pend fn tml ps as bd)) :
   ∃ L r, ρ l = some L ∧ w.heap[L.b]? = some (.loop r) ∧ r.state = st ∧ r.pending = pend ∧ ORel (w.putObj L.b (.loop { r with state := st', pending := pend' })) I ρ (σ.set l (.loop st' pend' fn tml ps as bd)) ∧
     Ext σ.length w I ρ σ (w.putObj L.b (.loop { r with state := st', pending := pend' })) I ρ (σ.set l (.loop st' pend' fn tml ps as bd)) ∧
     (∀ b, I b → I b ∧ (w.putObj L.b (.loop { r with state := st', pending := pend' })).heap[b]? = w.heap[b]?) ∧ ∀ x, x < σ.length → Same ρ σ ρ (σ.set l (.loop st' pend' fn tml ps as bd)) x := by
 have ho := hO.objs l _ hl
 simp only [orel] at ho
 obtain ⟨L, tmps, db, hL, hh, ht⟩ := ho
 have hlt : l < σ.length := (List.getElem?_eq_some_iff.1 hl).1
 have hb : L.b < w.heap.size := (Array.getElem?_eq_some_iff.1 hh).1
 have hS : ∀ x, x < σ.length → Same ρ σ ρ (σ.set l (.loop st' pend' fn tml ps as bd)) x := by
   intro x hx
   refine ⟨by simp; exact hx, fun o' h1 h2 => ?_⟩
   by_cases hxl : x = l
   · subst hxl
     rw [List.getElem?_set_self hlt] at h1
     cases h1
     exact ⟨rfl, _, hl, by simp, rfl⟩
   · rw [List.getElem?_set_ne (Ne.symm hxl)] at h1
     exact ⟨rfl, o', h1, h2, rfl⟩
 have hI : ∀ b, I b → I b ∧ (w.putObj L.b (.loop { state := st', pending := pend', fn := fn, tmps := tmps, params := ps, assign := as, body := bd, defers := db })).heap[b]? = w.heap[b]? := fun b hb => ⟨hb, putObj_other fun e => (hO.imm b hb).2 ⟨l, _, L, hl, by simp, hL, e.symm⟩⟩
 refine ⟨L, _, hL, hh, rfl, rfl, ?_, ?_, hI, hS⟩
 · refine hO.upd hl (by simp) hL rfl (fun b hb => putObj_other hb) (by simp) ?_
   simp only [orel]
   exact ⟨L, tmps, db, hL, putObj_self hb, vrL_all hI hS ht⟩
 · exact Ext.upd hl (by simp) hL (fun _ => rfl) rfl rfl (fun b hb => putObj_other hb) (by simp) rfl rfl rfl
theorem AW.beginRound {l : Nat} {pend : Option Code} {fn : FuncId} {tml : List V} {ps : Array Tmp} {as bd : Code} (hl : σ[l]? = some (.loop .ready pend fn tml ps as bd))
  (h : AW P f (some l) n k tm (σ.set l (.loop .busy pend fn tml ps as bd)) df Q) : AW P f (some l) n (.beginRound :: k) tm σ df Q := by
 intro w I ρ a rb hr hb hn
 obtain ⟨L, r, hL, hh, hs, hp, hO, hE, hI, hS⟩ := loop_upd (st' := .busy) (pend' := pend) hr.ors hl
 have hst := hE.stays
 obtain ⟨L', o, hL', _, _, rfl⟩ := hb
 rw [hL] at hL'; cases hL'
 have hrun : (Instr.beginRound L.b).run P w = .ok () (w.putObj L.b (.loop { r with state := .busy, pending := pend })) := by
  rw [run_beginRound hh hs, ← hp]
 exact .step (fun cs => st_beginRound hrun) ((h _ I ρ a (some L.b) ⟨vrL_all hI hS hr.tms, hO, dfr_stay hst hr.dfs⟩ ⟨L, _, hL, List.getElem?_set_self (List.getElem?_eq_some_iff.1 hl).1, ⟨_, _, _, _, _, _, _, rfl⟩, rfl⟩ (by simp; exact hn)).mono fun e w' hf => hf.trans (hE.less hn))
theorem round_end {todo : List Item} {l : Nat} {st : LoopState} {pend : Option Code} {fn : FuncId} {tml : List V} {ps : Array Tmp} {as bd : Code} (jump : Option Code) (hl : σ[l]? = some (.loop st pend fn tml ps as bd))
  (hs : ∀ {a : Act} {lb : Nat} {w w' : World} {c : Frame} {cs : List Frame} {v : Value}, (Instr.endRound lb jump).run P w = .ok v w' → step P (lone (frm f (some lb) a todo) (c :: cs) w) = .next (lone (c.finish v) cs w'))
  (hq : Q (.ret (.d (.bool jump.isNone))) (σ.set l (.loop (if jump.isNone then .ready else .done) jump fn tml ps as bd))) : AW P f (some l) n todo tm σ df Q := by
 intro w I ρ a rb hr hb hn cs
 obtain ⟨L, r, hL, hh, _, _, hO, hE, _, _⟩ := loop_upd (st' := if jump.isNone then .ready else .done) (pend' := jump) hr.ors hl
 obtain ⟨L', o, hL', _, _, rfl⟩ := hb
 rw [hL] at hL'; cases hL'
 refine ⟨.returned (.bool jump.isNone), w, _, frm f (some L.b) a todo, ⟨I, ρ, _, _, hq, ⟨_, rfl, by simp [vr, Dr]⟩, hO, hE.less hn⟩, .refl _ _, fun c cs' => ⟨_, hs (run_endRound jump hh), rfl⟩⟩
theorem AW.roundEnd {l : Nat} {st : LoopState} {pend : Option Code} {fn : FuncId} {tml : List V} {ps : Array Tmp} {as bd : Code} (hl : σ[l]? = some (.loop st pend fn tml ps as bd))
  (hq : Q (.ret (.d (.bool true))) (σ.set l (.loop .ready none fn tml ps as bd))) : AW P f (some l) n [] tm σ df Q :=
 round_end none hl (fun {a lb _ _ _ _ _} h => stepR_round_end (b := frm f (some lb) a []) rfl rfl h) hq
def roundTm (tm : List V) : List Tmp → List V → List V
  | p :: ps, v :: vs => roundTm (tm.set p v) ps vs
  | _, _ => tm
theorem roundTm_rel {w : World} {I : Nat → Prop} {ρ : LM} : ∀ {ps : List Tmp} {vs tm : List V} {xs : List Value} {a : Array Value}, vrL w I ρ σ tm a.toList → vrL w I ρ σ vs xs → vs.length = ps.length →
   vrL w I ρ σ (roundTm tm ps vs) ((ps.zip xs).foldl (fun tmps (t, x) => tmps.setIfInBounds t x) a).toList
 | [], vs, tm, xs, a, h, _, _ => by cases vs <;> simpa [roundTm] using h
 | p :: ps, [], tm, xs, a, h, _, hl => by simp at hl
 | p :: ps, v :: vs, tm, xs, a, h, hv, hl => by
   simp only [vrL] at hv
   obtain ⟨x, xs', rfl, h1, h2⟩ := hv
   simp only [roundTm, List.zip_cons_cons, List.foldl_cons]
   refine roundTm_rel ?_ h2 (by simpa using hl)
   rw [Array.toList_setIfInBounds]
   exact vrL_set h p h1
theorem AW.yield {i : Nat} {rest : List Nat} {o : Oper} {x : Operand} {args : Array Operand} {ts : Array TypeId} {l : Nat} {st : LoopState} {pend : Option Code} {fn : FuncId} {tml : List V} {ps : Array Tmp} {as bd : Code} {Qr : AE → Store → Prop}
   (hi : ops[i]? = some o) (hw : wantA ops o tm = some true) (ho : o.op = .call { callee := .value x, args, argTypes := ts }) (hx : ev tm x = .yield l) (hl : σ[l]? = some (.loop st pend fn tml ps as bd)) (hps : args.size = ps.size)
   (hr : AW P fn (some l) σ.length [.code as, .beginRound, .code bd] (roundTm tml ps.toList (args.toList.map (ev tm))) σ [] Qr)
   (hk : ∀ r σ', Qr r σ' → ∃ v, r = .ret v ∧ AW P f ro n (.inRegion ops rest :: k) (put (V.killL (mvB σ') tm) o.dst v) σ' df Q) : AW P f ro n (.inRegion ops (i :: rest) :: k) tm σ df Q := by
 intro w I ρ a rb hrel hb hn
 have hxv := vr_ev hrel.tms x
 rw [hx] at hxv
 simp only [vr] at hxv
 have hobj := hrel.ors.objs l _ hl
 simp only [orel] at hobj
 obtain ⟨L, tmps, db, hL, hh, ht⟩ := hobj
 obtain ⟨L', hL', hxe⟩ := hxv.2.2 ⟨_, hl, by simp⟩
 rw [hL] at hL'; cases hL'
 have hfold : ∀ (A : Array (Tmp × Value)) (z : Array Value), A.foldl (fun tmps (t, x) => tmps.setIfInBounds t x) z = A.toList.foldl (fun tmps (t, x) => tmps.setIfInBounds t x) z := fun A z => by rw [← Array.foldl_toList]
 have hzip : (ps.zip (#[] ++ args.map a.eval)).toList = ps.toList.zip (args.toList.map a.eval) := by simp
 have hexec : (execOp a.eval o).run P w = .ok (.round L.b fn ((ps.toList.zip (args.toList.map a.eval)).foldl (fun tmps (t, x) => tmps.setIfInBounds t x) tmps) as bd) w := by
   have h1 := run_yield (P := P) hh (args := #[] ++ args.map a.eval) (by simp [hps])
   simp only [execOp, ho, resolve, hxe, Deferred.ofValue, Sem.run_bind, Sem.run_pure, Result.andThen_ok, invoke]
   rw [h1, hfold, hzip]
 have hargs : vrL w I ρ σ (args.toList.map (ev tm)) (args.toList.map a.eval) := ev_rel (fun y => vr_ev hrel.tms y) _
 have hround := hr w I ρ ⟨((ps.toList.zip (args.toList.map a.eval)).foldl (fun tmps (t, x) => tmps.setIfInBounds t x) tmps), []⟩ (some L.b) ⟨roundTm_rel ht hargs (by simp [hps]), hrel.ors, rfl⟩ ⟨L, _, hL, hl, ⟨_, _, _, _, _, _, _, rfl⟩, rfl⟩ (Nat.le_refl _)
 refine RunsTo.round hi (wantA_ok hw hrel.tms) (by simp [ho, Op.isDefer]) hexec (S := fun y w'' => ∃ I' ρ' σ' v, Qr (.ret v) σ' ∧ vr w'' I' ρ' σ' v y ∧ ORel w'' I' ρ' σ' ∧ Ext σ.length w I ρ σ w'' I' ρ' σ') (hround.mono ?_) ?_
 · rintro e w'' ⟨I', ρ', σ', r, h1, h2, h3, h4⟩
   obtain ⟨v, rfl, _⟩ := hk r σ' h1
   obtain ⟨y, rfl, h5⟩ := h2
   exact ⟨y, rfl, I', ρ', σ', v, h1, h5, h3, h4⟩
 · rintro y w'' ⟨I', ρ', σ', va, h1, h2, h3, h4⟩
   obtain ⟨v, hv, hnext⟩ := hk _ σ' h1
   cases hv
   have hst := h4.stays
   have := hnext w'' I' ρ' (a.put o.dst y) rb ⟨vrL_put (behind hrel.ors h4 hrel.tms) o.dst h2, h3, by rw [put_defers]; exact dfr_stay hst hrel.dfs⟩ (rbOf_stay hst hb) (Nat.le_trans hn h4.len)
   exact this.mono fun e w3 hfin => hfin.trans (h4.less hn)
end
end Go.Br
namespace Go.Br
open Go
theorem run_range {P : Program} {w : World} {a : Act} {g : Operand} {l : Nat} {h : FuncId} {fn : Func} {c : Code} {fs cs : List Value} (hx : a.eval g = .func (.func h) fs.toArray cs.toArray) (hF : Fnc P h fn c) :
   ∃ d, (resolve a.eval (rangeCall g l) 0).run P w = .ok d w ∧ (invoke d.target d.args).run P w = .ok (.enter h (fs ++ [Value.func (.yield l) #[] #[]] ++ cs).toArray) w := by
 refine ⟨{ target := .fn (.func h) cs.toArray, args := fs.toArray ++ #[.func (.yield l) #[] #[]] }, ?_, ?_⟩
 · simp only [resolve, hx, Deferred.ofValue, Sem.run_pure]
   congr 1
   simp [Act.eval]
 · simp only [invoke, callFunc, Sem.run_bind, run_program, Result.andThen_ok, hF.get]
   rw [if_neg (by simp [hF.name])]
   simp only [hF.body, Option.isNone_some, Bool.false_eq_true, if_false, Sem.run_pure]
   congr 2
   apply Array.ext'
   simp
section
variable {P : Program} {f : FuncId} {n : Nat} {k : List Item} {df : List Nat} {Q : AE → Store → Prop} {tm : List V} {σ : Store}
theorem AW.endRange {ro : Option Nat} {l : Nat} {st : LoopState} {pend : Option Code} {fn : FuncId} {tml : List V} {ps : Array Tmp} {as bd : Code} (hl : σ[l]? = some (.loop st pend fn tml ps as bd)) (hs : st ≠ .busy)
  (h : AW P f ro n ((pend.map Item.code).toList ++ k) tm (σ.set l (.loop .exhausted pend fn tml ps as bd)) df Q) : ∀ w I ρ a rb, Rel w I ρ σ tm df a → rbOf ρ σ ro rb → n ≤ σ.length → ∀ L, ρ l = some L → RunsTo P f rb (.endRangeFunc L.b :: k) a w (Fin n w I ρ σ Q) := by
 intro w I ρ a rb hr hb hn L' hL'
 obtain ⟨L, r, hL, hh, hs', hp, hO, hE, hI, hS⟩ := loop_upd (st' := .exhausted) (pend' := pend) hr.ors hl
 have hLL : L' = L := by rw [hL] at hL'; exact (Option.some.inj hL').symm
 rw [hLL]
 have hst := hE.stays
 have hrun : (Instr.endLoop L.b).run P w = .ok pend (w.putObj L.b (.loop { r with state := .exhausted, pending := pend })) := by
  rw [run_endLoop hh (by rw [hs']; exact hs), ← hp]
 exact .step (fun cs => st_endRangeFunc hrun) ((h _ I ρ a rb ⟨vrL_all hI hS hr.tms, hO, dfr_stay hst hr.dfs⟩ (rbOf_stay hst hb) (by simp; exact hn)).mono fun e w' hf => hf.trans (hE.less hn))
theorem AW.rangeFunc {g : Operand} {ps : Array Tmp} {as bd : Code} {h : FuncId} {fn : Func} {c : Code} {first cap : List V} (m : List Nat) (cargs : List V) (σc : Store) {Qc : AE → Store → Prop}
   (hF : Fnc P h fn c) (hc : CallsA P h cargs σc Qc) (hx : ev tm g = .fn (.func h) first cap)
   (hargs : coArgs P fn.params.toList (first ++ [.yield (σ.length + 1)] ++ cap) = V.renL (mp m (σ.length + 2)) cargs) (hbel : (belB σc.length σc && (V.locsL cargs).all fun l => Nat.blt l σc.length) = true)
   (hwi : within (σ ++ [.defd, .loop .ready none f tm ps as bd]) m σc)
   (hk : ∀ r σc', Qc r σc' → ∃ v st pend tml ps' as' bd' fn', r = .ret v ∧ st ≠ .busy ∧ (merge (σ ++ [.defd, .loop .ready none f tm ps as bd]) m σc')[σ.length + 1]? = some (.loop st pend fn' tml ps' as' bd') ∧
     AW P f none n ((pend.map Item.code).toList ++ k) (V.killL (movedB m σc') tm) ((merge (σ ++ [.defd, .loop .ready none f tm ps as bd]) m σc').set (σ.length + 1) (.loop .exhausted pend fn' tml ps' as' bd')) (σ.length :: df) Q) :
   AW P f none n (.code (.rangeFunc g ps as bd) :: k) tm σ df Q := by
 intro w I ρ a rb hr hb hn
 cases hb
 simp only [Bool.and_eq_true] at hbel
 -- the two blocks
 let L1 : Loc := ⟨w.heap.size, 0, 0, 0⟩
 let w1 := w.alloc (.deferred (some []))
 let ρ1 : LM := fun x => if x = σ.length then some L1 else ρ x
 have hO1 : ORel w1 I ρ1 (σ ++ [.defd]) := hr.ors.new L1 .defd rfl (fun b hb => heap_alloc_old _ _ _ hb) (by simp [w1]) (by
   simp only [orel]
   exact ⟨L1, by simp, heap_alloc_new _ _⟩)
 have hE1 : Ext σ.length w I ρ σ w1 I ρ1 (σ ++ [.defd]) := Ext.new L1 .defd rfl (fun b hb => heap_alloc_old _ _ _ hb) (by simp [w1]) rfl rfl rfl
 have hI1 : ∀ b, I b → I b ∧ w1.heap[b]? = w.heap[b]? := fun b hb => ⟨hb, heap_alloc_old _ _ _ (hr.ors.imm b hb).1⟩
 have ht1 : vrL w1 I ρ1 (σ ++ [.defd]) tm a.tmps.toList := vrL_all hI1 (same_new L1 _) hr.tms
 let L2 : Loc := ⟨w1.heap.size, 0, 0, 0⟩
 let R : Loop := { state := .ready, pending := none, fn := f, tmps := a.tmps, params := ps, assign := as, body := bd, defers := w.heap.size }
 let w2 := w1.alloc (.loop R)
 let ρ2 : LM := fun x => if x = (σ ++ [O.defd]).length then some L2 else ρ1 x
 have hI2 : ∀ b, I b → I b ∧ w2.heap[b]? = w1.heap[b]? := fun b hb => ⟨hb, heap_alloc_old _ _ _ (hO1.imm b hb).1⟩
 have ht2 : vrL w2 I ρ2 ((σ ++ [.defd]) ++ [.loop .ready none f tm ps as bd]) tm a.tmps.toList := vrL_all hI2 (same_new L2 _) ht1
 have hO2 : ORel w2 I ρ2 ((σ ++ [.defd]) ++ [.loop .ready none f tm ps as bd]) := hO1.new L2 _ rfl (fun b hb => heap_alloc_old _ _ _ hb) (by simp [w2]) (by
   simp only [orel]
   exact ⟨L2, a.tmps, w.heap.size, by simp, heap_alloc_new _ _, ht2⟩)
 have hE2 : Ext (σ ++ [O.defd]).length w1 I ρ1 (σ ++ [.defd]) w2 I ρ2 ((σ ++ [.defd]) ++ [.loop .ready none f tm ps as bd]) := Ext.new L2 _ rfl (fun b hb => heap_alloc_old _ _ _ hb) (by simp [w2]) rfl rfl rfl
 have hE12 := hE1.trans (hE2.less (by simp))
 have hassoc : (σ ++ [O.defd]) ++ [O.loop .ready none f tm ps as bd] = σ ++ [.defd, .loop .ready none f tm ps as bd] := by simp
 rw [hassoc] at ht2 hO2 hE12
 have hlen : (σ ++ [O.defd, .loop .ready none f tm ps as bd]).length = σ.length + 2 := by simp
 have hdefd : dfr ρ2 (σ ++ [.defd, .loop .ready none f tm ps as bd]) (σ.length :: df) ([{ target := .collected w.heap.size, args := #[] }] ++ a.defers) := by
   refine ⟨L1, a.defers, by simp [ρ2, ρ1], by simp, rfl, dfr_stay hE12.stays hr.dfs⟩
 have hl2 : (σ ++ [O.defd, .loop .ready none f tm ps as bd])[σ.length + 1]? = some (.loop .ready none f tm ps as bd) := by
   rw [List.getElem?_append_right (by omega)]; simp
 -- the call
 rw [← hlen] at hargs
 have hE := emb_enter (ρ := ρ2) hwi
 have hOc := orel_enter hO2 hwi hbel.1
 have hxv := vr_ev hr.tms g
 rw [hx] at hxv
 simp only [vr] at hxv
 obtain ⟨fs, cs, hxe, hfs, hcs⟩ := hxv
 have hS12 : ∀ x, x < σ.length → Same ρ σ ρ2 (σ ++ [.defd, .loop .ready none f tm ps as bd]) x := by
   intro x hx
   refine ⟨by simp; omega, fun o' h1 h2 => ⟨?_, o', ?_, h2, rfl⟩⟩
   · show (if x = (σ ++ [O.defd]).length then _ else if x = σ.length then _ else ρ x) = ρ x
     rw [if_neg (by simp; omega), if_neg (by omega)]
   · rwa [List.getElem?_append_left hx] at h1
 have hI12 : ∀ b, I b → I b ∧ w2.heap[b]? = w.heap[b]? := fun b hb => ⟨hb, (hI2 b hb).2.trans (hI1 b hb).2⟩
 have hyv : vr w2 I ρ2 (σ ++ [.defd, .loop .ready none f tm ps as bd]) (.yield (σ.length + 1)) (.func (.yield w1.heap.size) #[] #[]) := by
   simp only [vr]
   exact ⟨rfl, by simp, fun _ => ⟨L2, by simp [ρ2], rfl⟩⟩
 have hev : vrL w2 I ρ2 (σ ++ [.defd, .loop .ready none f tm ps as bd]) (first ++ [.yield (σ.length + 1)] ++ cap) (fs ++ [.func (.yield w1.heap.size) #[] #[]] ++ cs) :=
   vrL_append (vrL_append (vrL_all hI12 hS12 hfs) (by simp only [vrL]; exact ⟨_, [], rfl, hyv, rfl⟩)) (vrL_all hI12 hS12 hcs)
 have hev2 := coArgs_rel (P := P) (ts := fn.params.toList) hev
 rw [hargs] at hev2
 have hca : ∀ l ∈ V.locsL cargs, l < σc.length := fun l hl => by
   have := (List.all_eq_true.1 hbel.2) l hl
   simpa [Nat.blt_eq] using this
 have hcr := (vrL_ren hE cargs _ hca).1 hev2
 have hcalls := hc w2 I (rhoC m ρ2) _ hcr hOc
 have hent : (Instr.enterLoop f a.tmps ps as bd none).run P w = .ok (w1.heap.size, [{ target := .collected w.heap.size, args := #[] }]) w2 := by
   rw [run_enterLoop_outer]
   simp [w2, w1, R]
 obtain ⟨d, hd1, hd2⟩ := run_range (P := P) (w := w2) (l := w1.heap.size) hxe hF
 refine RunsTo.rangeFunc hent hd1 hd2 (S := fun w'' => ∃ I' ρc' σc' va, Qc (.ret va) σc' ∧ ORel w'' I' ρc' σc' ∧ Ext σc.length w2 I (rhoC m ρ2) σc w'' I' ρc' σc') (hcalls.mono ?_) ?_
 · rintro e w'' ⟨I', ρc', σc', r, h1, h2, h3, h4⟩
   obtain ⟨v, _, _, _, _, _, _, _, rfl, _⟩ := hk r σc' h1
   obtain ⟨y, rfl, h5⟩ := h2
   exact ⟨y, rfl, I', ρc', σc', v, h1, h3, h4⟩
 · rintro w'' ⟨I', ρc', σc', va, h1, h3, h4⟩
   obtain ⟨v, st, pend, tml, ps', as', bd', fn', _, hst, hlp, hnext⟩ := hk _ σc' h1
   obtain ⟨g1, g2, g3, g4⟩ := leave hO2 hwi h4 h3
   have hstay := g3.stays
   have hrel : Rel w'' I' (rhoB m (σ ++ [O.defd, .loop .ready none f tm ps as bd]).length ρ2 ρc') (merge (σ ++ [.defd, .loop .ready none f tm ps as bd]) m σc') (V.killL (movedB m σc') tm) (σ.length :: df) { a with defers := [{ target := .collected w.heap.size, args := #[] }] ++ a.defers } :=
     ⟨g4 tm _ ht2, g2, dfr_stay hstay hdefd⟩
   have hL2 : (rhoB m (σ ++ [O.defd, .loop .ready none f tm ps as bd]).length ρ2 ρc') (σ.length + 1) = some L2 := by
     have := (hstay (σ.length + 1) _ hl2 (by simp [O.ld])).1
     rw [this]
     simp [ρ2]
   have hn2 : n ≤ (merge (σ ++ [.defd, .loop .ready none f tm ps as bd]) m σc').length := Nat.le_trans hn (Nat.le_trans (by simp) g3.len)
   have := AW.endRange (ro := none) hlp hst hnext w'' I' _ _ none hrel rfl hn2 L2 hL2
   exact this.mono fun e w3 hfin => (hfin.trans (g3.less (by simp; omega))).trans (hE12.less hn)
end
end Go.Br
namespace Go.Br
open Go
def cgo : Nat → List Bool → List Item → List Item
  | 0, _, t => t
  | n + 1, ch, t => match t with
    | .code .skip :: k => cgo n ch k
    | .code (.label _) :: k => cgo n ch k
    | .inBlock _ :: k => cgo n ch k
    | .inScope _ :: k => cgo n ch k
    | .code (.seq a b) :: k => cgo n ch (.code a :: .code b :: k)
    | .code (.block id c) :: k => cgo n ch (.code c :: .inBlock id :: k)
    | .code (.scope c) :: k => cgo n ch (.code c :: .inScope c :: k)
    | .code (.loop c) :: k => cgo n ch (.code c :: .inLoop c :: k)
    | .inLoop c :: k => cgo n ch (.code c :: .inLoop c :: k)
    | .code (.exit id) :: k => match exitTo id k with | some k' => cgo n ch k' | none => t
    | .code (.goto l) :: k => match gotoIn l k with | some k' => cgo n ch k' | none => t
    | .code (.cond _ x y) :: k => match ch with | true :: ch => cgo n ch (.code x :: k) | false :: ch => cgo n ch (.code y :: k) | [] => t
    | .code (.region _ ops false) :: k => cgo n ch (.inRegion ops (List.range ops.size) :: k)
    | .code (.region _ _ true) :: k => cgo n ch k
    | .code (.rangeFunc ..) :: k => cgo n ch k
    | .inRegion _ [] :: k => cgo n ch k
    | .inRegion ops (_ :: r) :: k => cgo n ch (.inRegion ops r :: k)
    | .beginRound :: k => cgo n ch k
    | _ => t
def mk (n : Nat) (l : List (Nat × V)) : List V := l.foldl (fun t p => t.set p.1 p.2) (List.replicate n .undef)
def keep (l : List Nat) (tm : List V) : List V := tm.mapIdx fun i v => if l.any (Nat.beq i) then v else .undef
def opsOf (T : List Item) : Array Oper := match T with | .inRegion ops _ :: _ => ops | _ => #[]
def ixOf (T : List Item) : Nat := match T with | .inRegion _ (i :: _) :: _ => i | _ => 0
def opOf (T : List Item) : Option Oper := match T with | .inRegion ops (i :: _) :: _ => ops[i]? | _ => none
def tlOf (T : List Item) : List Item := match T with | .inRegion ops (_ :: r) :: k => .inRegion ops r :: k | _ => []
section
variable {P : Program} {f : FuncId} {ro : Option Nat} {n : Nat} {T T' : List Item} {tm tm' : List V} {σ σ' : Store} {df : List Nat} {Q : AE → Store → Prop}
theorem keep_rel {w : World} {I : Nat → Prop} {ρ : LM} {l : List Nat} {xs : List Value} (h : vrL w I ρ σ tm xs) : vrL w I ρ σ (keep l tm) xs := by
 have key : ∀ (p : Nat → Bool) (tm : List V) (xs : List Value), vrL w I ρ σ tm xs → vrL w I ρ σ (tm.mapIdx fun i v => if p i then v else .undef) xs := by
  intro p tm
  induction tm generalizing p with
  | nil => intro xs h; simpa [vrL] using h
  | cons v vs ih =>
    intro xs h
    simp only [vrL] at h
    obtain ⟨x, xs', rfl, h1, h2⟩ := h
    simp only [List.mapIdx_cons, vrL]
    refine ⟨x, xs', rfl, ?_, ih (fun i => p (i + 1)) xs' h2⟩
    split
    · exact h1
    · simp [vr]
 exact key (fun i => l.any (Nat.beq i)) tm xs h
theorem AW.seg (m : Nat) (l : List Nat) (hs : (msteps P m T tm σ).map (fun s => (s.1, keep l s.2.1, s.2.2)) = some (T', tm', σ')) (h : AW P f ro n T' tm' σ' df Q) : AW P f ro n T tm σ df Q := by
 simp only [Option.map_eq_some_iff, Prod.mk.injEq] at hs
 obtain ⟨⟨t1, t2, t3⟩, h1, rfl, rfl, rfl⟩ := hs
 exact AW.steps m h1 (AW.less (fun _ _ _ _ hr => keep_rel hr) h)
theorem AW.opH {o : Oper} {v : V} (ho : opOf T = some o) (hw : wantA (opsOf T) o tm = some true) (hd : Op.isDefer o.op = false) (hT : tlOf T = T') (hok : OpOk P o tm σ v tm' σ') (h : AW P f ro n T' (put tm' o.dst v) σ' df Q) : AW P f ro n T tm σ df Q := by
 subst hT
 unfold opOf at ho
 split at ho
 · rename_i ops i r k
   exact .op ho hw hd hok h
 · cases ho
theorem AW.semH {o : Oper} {v : V} (ho : opOf T = some o) (hw : wantA (opsOf T) o tm = some true) (hT : tlOf T = T') (hs : ∀ k, Sem P f ro n k df Q (opsOf T) o (ixOf T) (valsOf tm o) σ v σ') (h : AW P f ro n T' (put tm o.dst v) σ' df Q) : AW P f ro n T tm σ df Q := by
 subst hT
 unfold opOf at ho
 split at ho
 · rename_i ops i r k
   exact .sem (hs k) hw h
 · cases ho
def condOf (T : List Item) : Operand := match T with | .code (.cond c _ _) :: _ => c | _ => .global 0
def isCond (T : List Item) : Bool := match T with | .code (.cond _ _ _) :: _ => true | _ => false
theorem AW.ifH {T1 T2 : List Item} {b : Bool} (ht : isCond T = true) (hc : ev tm (condOf T) = .d (.bool b)) (hT1 : cgo 1 [true] T = T1) (hT2 : cgo 1 [false] T = T2) (h1 : b = true → AW P f ro n T1 tm σ df Q) (h2 : b = false → AW P f ro n T2 tm σ df Q) : AW P f ro n T tm σ df Q := by
 subst hT1 hT2
 unfold isCond at ht
 split at ht
 · exact .cond hc h1 h2
 · cases ht
theorem AW.as (ht : tm = tm') (hs : σ = σ') (h : AW P f ro n T tm' σ' df Q) : AW P f ro n T tm σ df Q := by subst ht hs; exact h
def isDraw (T : List Item) : Bool := match T with | .code (.region _ _ true) :: _ => true | _ => false
def drawOf (T : List Item) : Array Oper := match T with | .code (.region _ ops true) :: _ => ops | _ => #[]
end
end Go.Br
namespace Go.Br
open Go
def iadd (k : IntKind) (a b : Int) : Int := k.wrap (a + b)
def isub (k : IntKind) (a b : Int) : Int := k.wrap (a - b)
def iquo (k : IntKind) (a b : Int) : Int := k.wrap (a.tdiv b)
def irem (a b : Int) : Int := a.tmod b
def iand (k : IntKind) (a b : Int) : Int := k.wrap (BitVec.ofInt k.bits a &&& BitVec.ofInt k.bits b).toNat
def ior (k : IntKind) (a b : Int) : Int := k.wrap (BitVec.ofInt k.bits a ||| BitVec.ofInt k.bits b).toNat
def ishl (k : IntKind) (a b : Int) : Int := k.wrap (a * 2 ^ min b.toNat k.bits)
def ishr (k : IntKind) (a b : Int) : Int := a.fdiv (2 ^ min b.toNat k.bits)
theorem wrap_i64 {n : Int} (h : -9223372036854775808 ≤ n) (h' : n < 9223372036854775808) : IntKind.i64.wrap n = n := by
 simp only [IntKind.wrap, IntKind.bits, IntKind.signed, Bool.true_and]
 split <;> simp_all <;> omega
theorem iadd_i64 {a b : Int} (h : -9223372036854775808 ≤ a + b) (h' : a + b < 9223372036854775808) : iadd .i64 a b = a + b := wrap_i64 h h'
theorem isub_i64 {a b : Int} (h : -9223372036854775808 ≤ a - b) (h' : a - b < 9223372036854775808) : isub .i64 a b = a - b := wrap_i64 h h'
section
variable (x y : BitVec 32)
end
def isRet (T : List Item) : Bool := match T with | .code .ret :: _ => true | [] => true | _ => false
theorem AW.retH {P : Program} {f : FuncId} {n : Nat} {T : List Item} {tm : List V} {σ : Store} {Q : AE → Store → Prop} {fn : Func} {c : Code} {v : V} (hF : Fnc P f fn c) (hT : isRet T = true) (hres : resA P fn tm σ = some v) (hq : Q (.ret v) σ) : AW P f none n T tm σ [] Q := by
 unfold isRet at hT
 split at hT
 · exact .ret hF ⟨rfl, rfl⟩ hres hq
 · exact .fin hF ⟨rfl, rfl⟩ hres hq
 · cases hT
theorem CallsA.start {P : Program} {g : FuncId} {fn : Func} {c : Code} {args : List V} {σ : Store} {Q : AE → Store → Prop} (hF : Fnc P g fn c) {tm : List V} (ht : args ++ List.replicate (fn.ntmps - args.length) .undef = tm) (h : AW P g none σ.length (cgo 0 [] [.code c]) tm σ [] Q) : CallsA P g args σ Q :=
 CallsA.of hF.get hF.body (by rw [ht]; exact h)
def Pure (P : Program) (g : FuncId) (args : List V) (v : V) : Prop := CallsA P g args [] fun r σ' => r = .ret v ∧ σ' = []
end Go.Br
namespace Go.Br
open Go
section
variable {P : Program} {f : FuncId} {ro : Option Nat} {n : Nat} {k : List Item} {T T' : List Item} {tm tm' : List V} {σ σ' : Store} {df : List Nat} {Q : AE → Store → Prop} {ops : Array Oper}
def OpAny (P : Program) (o : Oper) (tm : List V) (σ : Store) (W : V → Prop) : Prop :=
  ∀ (w : World) (I : Nat → Prop) (ρ : LM) (a : Act), vrL w I ρ σ tm a.tmps.toList → ORel w I ρ σ → ∃ x v, (execOp a.eval o).run P w = .ok (.value x) w ∧ vr w I ρ σ v x ∧ W v
theorem AW.opAny {i : Nat} {rest : List Nat} {o : Oper} {W : V → Prop} (hi : ops[i]? = some o) (hw : wantA ops o tm = some true) (hd : Op.isDefer o.op = false) (hok : OpAny P o tm σ W)
  (h : ∀ v, W v → AW P f ro n (.inRegion ops rest :: k) (put tm o.dst v) σ df Q) : AW P f ro n (.inRegion ops (i :: rest) :: k) tm σ df Q := by
 intro w I ρ a rb hr hb hn
 obtain ⟨x, v, h1, h2, h3⟩ := hok w I ρ a hr.tms hr.ors
 exact .step (fun cs => st_op_value hi (wantA_ok hw hr.tms) hd h1) (h v h3 w I ρ (a.put o.dst x) rb ⟨vrL_put hr.tms o.dst h2, hr.ors, by rw [put_defers]; exact hr.dfs⟩ hb hn)
theorem AW.anyH {o : Oper} {W : V → Prop} (ho : opOf T = some o) (hw : wantA (opsOf T) o tm = some true) (hd : Op.isDefer o.op = false) (hT : tlOf T = T') (hok : OpAny P o tm σ W)
   (h : ∀ v, W v → AW P f ro n T' (put tm o.dst v) σ df Q) : AW P f ro n T tm σ df Q := by
 subst hT
 unfold opOf at ho
 split at ho
 · rename_i ops i r k
   exact .opAny ho hw hd hok h
 · cases ho
theorem run_eql_slice_nil' {w : World} {t e : TypeId} (a : Option Addr) (l c : Nat) (h : P.underlying t = some (.slice e)) : (binOp .eql t (.slice a l c) (.slice none 0 0)).run P w = .ok (.bool a.isNone) w := by
 simp only [binOp]
 simp [run_equal_slice_nil w t e a l c h]
theorem nilEq_ok {o : Oper} {x y : Operand} {t ty : TypeId} {sz : Nat} {xs : List D} {neg : Bool} (ho : o.op = .binOp (if neg then .neq else .eql) t x y ty) (ht : isSliceT P t = true) (hx : listOf (ev tm x) = some (sz, xs)) (hy : ev tm y = .nils) :
   OpAny P o tm σ fun v => ∃ b : Bool, v = .d (.bool (b != neg)) ∧ (b = true → xs = []) := by
 intro w I ρ a hr hO
 obtain ⟨e, hu⟩ := isSliceT_und ht
 have hxr := listOf_rel hx (vr_ev hr x)
 have hyr := vr_ev hr y
 rw [hy] at hyr
 simp only [vr] at hyr
 simp only [Dr] at hxr
 obtain ⟨ad, cap, hxe, h1, h2, h3⟩ := hxr
 refine ⟨.bool (ad.isNone != neg), .d (.bool (ad.isNone != neg)), ?_, by simp [vr, Dr], ad.isNone, rfl, fun hb => ?_⟩
 · have hg : (eqGuard (if neg then .neq else .eql) t x y (a.eval x) (a.eval y)).run P w = .ok () w := by
     rw [hxe, hyr]
     unfold eqGuard
     cases neg <;> simp
   cases neg
   · have := run_eql_slice_nil' (P := P) (w := w) ad xs.length cap hu
     simp only [Bool.false_eq_true, if_false] at ho hg
     rw [hxe, hyr] at hg
     simp only [execOp, ho, hxe, hyr, Sem.run_bind, hg, Result.andThen_ok, this, Sem.run_pure]
     simp
   · have := run_neq_slice_nil (P := P) w t e ad xs.length cap hu
     simp only [if_true] at ho hg
     rw [hxe, hyr] at hg
     simp only [execOp, ho, hxe, hyr, Sem.run_bind, hg, Result.andThen_ok, this, Sem.run_pure]
     simp
 · rcases h3 with h3 | ⟨b, o', rfl, _⟩
   · exact h3
   · simp at hb
theorem appNone_ok {o : Oper} {s x : Operand} {t t2 : TypeId} {sz by' : Nat} {xs : List D} (ho : o.op = .call { callee := .builtin .append, args := #[s, x], argTypes := #[t, t2] }) (hs : ev tm s = .ex sz xs) (hx : cont σ (ev tm x) = some (sz, []))
  (hw : elemW P t = some (sz, by')) (h2 : notIntT P t2 = true) : OpOk P o tm σ (.ex sz xs) tm σ := by
 intro w I ρ a hr hO
 obtain ⟨e, i, z, hu, hi, hz, rfl, rfl, hzs⟩ := elemW_und hw
 have hsr := vr_ev hr s
 rw [hs] at hsr
 have hsr0 := hsr
 simp only [vr] at hsr
 obtain ⟨ad, hsv, _⟩ := hsr
 obtain ⟨news, hN, hlen, hfc⟩ := cont_rel (P := P) hx (vr_ev hr x) hO
 have hnews : news = [] := by
  simp only [DrN] at hN
  exact hN
 subst hnews
 have hst : ∀ ad : Option Addr, match ad with | some a => (storeCells (a.add (xs.length * i.size)) []).run P w = .ok () w | none => w = w := by
  intro ad
  cases ad with
  | none => rfl
  | some a => simp [storeCells]
 have hrun := exec_append (a := a) ho (run_app_room (w := w) (w' := w) (ty := o.type) hu hi h2 (base := ad) (sLen := xs.length) (sCap := xs.length) (hlen w) (hfc w rfl) (by simp) (hst ad) |> fun h => by rw [hsv]; exact h)
 refine ⟨_, .slice ad xs.length xs.length, w, I, ρ, by simpa using hrun, .inl rfl, ?_, hr, hO, Ext.refl _ _ _ _⟩
 rw [hsv] at hsr0
 exact hsr0
theorem vals_at {o : Oper} {xs : List Operand} (hx : o.op.operands.toList = xs) (h : valsOf tm' o = valsOf tm o) : ∀ x ∈ xs, ev tm' x = ev tm x := by
 unfold valsOf at h
 rw [hx] at h
 exact List.map_inj_left.1 h
theorem StepQ.data {c : List Nat} {i : Nat} {o : Oper} {v : V} (hi : ops[i]? = some o) (hc3 : Nat.beq (c.getD i 2) 3 = false) (hw : wantA ops o tm = some true)
 (h : ∀ s, Sem P f ro n k df Q ops o i (valsOf tm o) s v s) : StepQ P f ro n k df Q ops c i (tm, σ) (put tm o.dst v, σ) := .sem hi (fun e => by rw [e] at hc3; exact absurd hc3 (by decide)) hw h
theorem sem_data0 {i : Nat} {o : Oper} {x : Operand} {args : Array Operand} {ts : Array TypeId} {g : FuncId} {fn : Func} {c : Code} {first cap ds : List V} {v : V}
  (hF : Fnc P g fn c) (hc : CallsA P g ds [] fun r σ' => r = .ret v ∧ σ' = []) (hi : ops[i]? = some o) (ho : o.op = .call { callee := .value x, args, argTypes := ts }) (hx : ev tm x = .fn (.func g) first cap)
  (hargs : coArgs P fn.params.toList (first ++ args.toList.map (ev tm) ++ cap) = ds) (hl : (V.locsL ds).isEmpty = true) (hv : v.locs.isEmpty = true) (σ : Store) :
  Sem P f ro n k df Q ops o i (valsOf tm o) σ v σ := by
 have h := sem_data (P := P) (f := f) (ro := ro) (n := n) (k := k) (df := df) (Q := Q) hF hc hi ho hx hargs hl σ
 rw [V.ren_none v (by simpa using hv)] at h
 simpa using h
theorem build0_ok {o : Oper} {t e : TypeId} {sz sz' : Nat} (ho : o.op = .buildSlice t 0 #[]) (hu : P.underlying t = some (.slice e)) (hi : (P.info? e).map (·.size) = some sz') : OpOk P o tm σ (.ex sz []) tm σ := by
 intro w I ρ a hr hO
 have hrun : (execOp a.eval o).run P w = .ok (.value (.slice (some ⟨w.heap.size, 0, none⟩) 0 0)) (w.alloc (.cells #[] e)) := by
   simp only [Option.map_eq_some_iff] at hi
   obtain ⟨ie, hi, _⟩ := hi
   simp [execOp, ho, Instr.buildSlice, run_underlying hu, sizeOf, typeInfo, hi, Instr.fill, newRow]
   have h0 : ∀ g : Nat → Value, Array.map g (Array.range 0) = #[] := fun g => by apply Array.eq_empty_of_size_eq_zero; simp
   rw [h0]
 have hI : ∀ b, I b → I b ∧ (w.alloc (.cells #[] e)).heap[b]? = w.heap[b]? := fun b hb => ⟨hb, heap_alloc_old _ _ _ (hO.imm b hb).1⟩
 have hS : ∀ l, l < σ.length → Same ρ σ ρ σ l := fun l hl => ⟨hl, fun o' h1 h2 => ⟨rfl, o', h1, h2, rfl⟩⟩
 have hx := Ext.refl w I ρ σ
 refine ⟨_, _, _, I, ρ, hrun, .inl rfl, ?_, vrL_all hI hS hr, ⟨fun l o hl => ?_, hO.inj, fun b hb => ?_, fun b hb => ?_⟩, ⟨by simp, rfl, rfl, rfl, fun b hb _ => heap_alloc_old _ _ _ hb, hx.immI, hx.immN, hx.footN, Nat.le_refl _, hx.alive, hx.fixed, hx.stay⟩⟩
 · simp only [vr, Dr, List.length_nil]
   exact ⟨_, rfl, _, 0, rfl, by omega, by simp [maxLen], .inl trivial⟩
 · by_cases hd : o = .dead
   · subst hd; simp [orel]
   · exact orel_all hI hS rfl (fun L hL => heap_alloc_old _ _ _ (hO.flt _ ⟨l, o, L, hl, hd, hL, rfl⟩)) (hO.objs l o hl)
 · have := hO.flt b hb; simp; omega
 · have := (hO.imm b hb).1
   exact ⟨by simp; omega, (hO.imm b hb).2⟩
theorem AW.virtX (l i sz : Nat) {cs : List V} (hl : σ[l]? = some (.cells cs)) (hi : cs[i]? = some (.ex sz [])) (h : AW P f ro n T tm (σ.set l (.cells (cs.set i (.row σ.length))) ++ [.row sz [] false]) df Q) : AW P f ro n T tm σ df Q := by
  intro w I ρ a rb hr hb hn
  have hO := hr.ors
  have hlt : l < σ.length := (List.getElem?_eq_some_iff.1 hl).1
  let σ2 : Store := σ.set l (.cells (cs.set i (.row σ.length))) ++ [.row sz [] false]
  let ρ2 : LM := fun x => if x = σ.length then none else ρ x
  have hlen : σ2.length = σ.length + 1 := by simp [σ2]
  have g1 : ∀ x, x < σ.length → x ≠ l → σ2[x]? = σ[x]? := fun x hx hxl => by
    show (_ ++ _)[x]? = _
    rw [List.getElem?_append_left (by simp; exact hx), List.getElem?_set_ne (Ne.symm hxl)]
  have g2 : σ2[l]? = some (.cells (cs.set i (.row σ.length))) := by
    show (_ ++ _)[l]? = _
    rw [List.getElem?_append_left (by simp; exact hlt), List.getElem?_set_self hlt]
  have g3 : σ2[σ.length]? = some (.row sz [] false) := by
    show (_ ++ _)[σ.length]? = _
    rw [List.getElem?_append_right (by simp)]
    simp
  have g4 : ∀ x, x < σ.length → ρ2 x = ρ x := fun x hx => by show (if _ then _ else _) = _; rw [if_neg (by omega)]
  have hS : ∀ x, x < σ.length → Same ρ σ ρ2 σ2 x := by
    intro x hx
    refine ⟨by omega, fun o' h1 h2 => ⟨g4 x hx, ?_⟩⟩
    by_cases hxl : x = l
    · subst hxl
      rw [g2] at h1; cases h1
      exact ⟨_, hl, by simp, rfl⟩
    · rw [g1 x hx hxl] at h1
      exact ⟨o', h1, h2, rfl⟩
  have hI : ∀ b, I b → I b ∧ w.heap[b]? = w.heap[b]? := fun b hb => ⟨hb, rfl⟩
  have cases3 : ∀ x o, σ2[x]? = some o → x = σ.length ∧ o = .row sz [] false ∨ x < σ.length ∧ ∃ o1, σ[x]? = some o1 ∧ (o = .dead ↔ o1 = .dead) ∧ o1.alike o ∧ o1.still = o.still ∧ o1.ld = o.ld := by
    intro x o hx
    have hxl : x < σ2.length := (List.getElem?_eq_some_iff.1 hx).1
    by_cases h1 : x = σ.length
    · subst h1
      rw [g3] at hx; cases hx
      exact .inl ⟨rfl, rfl⟩
    · have h2 : x < σ.length := by omega
      refine .inr ⟨h2, ?_⟩
      by_cases h3 : x = l
      · subst h3
        rw [g2] at hx; cases hx
        exact ⟨_, hl, by simp, rfl, rfl, rfl⟩
      · rw [g1 x h2 h3] at hx
        exact ⟨o, hx, Iff.rfl, rfl, rfl, rfl⟩
  have hfoot : ∀ b, foot ρ2 σ2 b → foot ρ σ b := by
    rintro b ⟨x, o, L, h1, h2, h3, h4⟩
    rcases cases3 x o h1 with ⟨rfl, rfl⟩ | ⟨hx, o1, h5, h6, _⟩
    · simp [ρ2] at h3
    · rw [g4 x hx] at h3
      exact ⟨x, o1, L, h5, fun e => h2 (h6.2 e), h3, h4⟩
  have hO2 : ORel w I ρ2 σ2 := by
    refine ⟨fun x o hx => ?_, fun x y L L' hv hv' hL hL' hb => ?_, fun b hb => hO.flt b (hfoot b hb), fun b hb => ⟨(hO.imm b hb).1, fun h => (hO.imm b hb).2 (hfoot b h)⟩⟩
    · by_cases h1 : x = σ.length
      · subst h1
        rw [g3] at hx; cases hx
        simp only [orel]
        exact .inl ⟨by simp [ρ2], trivial⟩
      · have hxl : x < σ2.length := (List.getElem?_eq_some_iff.1 hx).1
        have h2 : x < σ.length := by omega
        by_cases h3 : x = l
        · subst h3
          rw [g2] at hx; cases hx
          have ho := hO.objs x _ hl
          simp only [orel] at ho ⊢
          obtain ⟨L, C, T, fz, k1, k2, k3, k4, k5, k6⟩ := ho
          refine ⟨L, C, T, fz, (g4 x h2).trans k1, k2, k3, k4, ?_, k6⟩
          have k7 := vrL_all hI hS k5
          obtain ⟨y, hy, hyv⟩ := vrL_get? k5 hi
          have k8 : vr w I ρ2 σ2 (.row σ.length) y := by
            simp only [vr] at hyv ⊢
            refine ⟨k6 y (List.mem_of_getElem? hy), by omega, fun sz' xs mv hx => ?_⟩
            rw [g3] at hx; cases hx
            obtain ⟨ad, hyv, _⟩ := hyv
            exact .inl ⟨rfl, ad, hyv⟩
          have k9 := vrL_set k7 i k8
          rwa [show C.toList.set i y = C.toList from by
            apply List.ext_getElem?
            intro j
            by_cases hj : j = i
            · subst hj
              rw [List.getElem?_set_self (List.getElem?_eq_some_iff.1 hy).1, hy]
            · rw [List.getElem?_set_ne (Ne.symm hj)]] at k9
        · rw [g1 x h2 h3] at hx
          by_cases hd : o = .dead
          · subst hd; simp [orel]
          · exact orel_all hI hS (g4 x h2) (fun L hL => rfl) (hO.objs x o hx)
    · obtain ⟨o, h1, h2⟩ := hv
      obtain ⟨o', h1', h2'⟩ := hv'
      rcases cases3 x o h1 with ⟨rfl, rfl⟩ | ⟨hx, o1, h5, h6, _⟩
      · simp [ρ2] at hL
      · rcases cases3 y o' h1' with ⟨rfl, rfl⟩ | ⟨hy, o2, h7, h8, _⟩
        · simp [ρ2] at hL'
        · rw [g4 x hx] at hL
          rw [g4 y hy] at hL'
          exact hO.inj x y L L' ⟨o1, h5, fun e => h2 (h6.2 e)⟩ ⟨o2, h7, fun e => h2' (h8.2 e)⟩ hL hL' hb
  have hE : Ext σ.length w I ρ σ w I ρ2 σ2 := by
    refine ⟨Nat.le_refl _, rfl, rfl, rfl, fun _ _ _ => rfl, fun b hb => hb, fun b hb => .inl hb, fun b hb => .inl (hfoot b hb), by omega, fun x hx ⟨o, h1, h2⟩ => ?_, fun x o' hx h1 h2 => ?_, fun x o hx h1 h2 => ?_⟩
    · rcases cases3 x o h1 with ⟨rfl, rfl⟩ | ⟨hx, o1, h5, h6, _⟩
      · omega
      · exact ⟨o1, h5, fun e => h2 (h6.2 e)⟩
    · rcases cases3 x o' h1 with ⟨rfl, rfl⟩ | ⟨hx, o1, h5, h6, h7, h8, _⟩
      · omega
      · exact ⟨g4 x hx, o1, h5, by rw [h8]; exact h2, h7⟩
    · by_cases hxl : x = l
      · subst hxl
        rw [hl] at h1; cases h1
        exact ⟨_, g2, rfl⟩
      · exact ⟨o, by rw [g1 x hx hxl]; exact h1, rfl⟩
  have hst := hE.stays
  exact (h w I ρ2 a rb ⟨vrL_all hI hS hr.tms, hO2, dfr_stay hst hr.dfs⟩ (rbOf_stay hst hb) (by show n ≤ σ2.length; omega)).mono fun e w' hf => hf.trans (hE.less hn)
end
end Go.Br
namespace Go.Br
open Go
section
variable {P : Program} {f : FuncId} {ro : Option Nat} {n : Nat} {k : List Item} {T T' : List Item} {tm tm' : List V} {σ σ' : Store} {df : List Nat} {Q : AE → Store → Prop} {ops : Array Oper}
def isBegin (T : List Item) : Bool := match T with | .beginRound :: _ => true | _ => false
theorem AW.beginH {l : Nat} {pend : Option Code} {fn : FuncId} {tml : List V} {ps : Array Tmp} {as bd : Code} (hb : isBegin T = true) (hT : cgo 1 [] T = T') (hl : σ[l]? = some (.loop .ready pend fn tml ps as bd))
   (h : AW P f (some l) n T' tm (σ.set l (.loop .busy pend fn tml ps as bd)) df Q) : AW P f (some l) n T tm σ df Q := by
 subst hT
 unfold isBegin at hb
 split at hb
 · exact .beginRound hl h
 · cases hb
theorem AW.roundEndH {l : Nat} {st : LoopState} {pend : Option Code} {fn : FuncId} {tml : List V} {ps : Array Tmp} {as bd : Code} (hT : T = []) (hl : σ[l]? = some (.loop st pend fn tml ps as bd))
  (hq : Q (.ret (.d (.bool true))) (σ.set l (.loop .ready none fn tml ps as bd))) : AW P f (some l) n T tm σ df Q := by
 subst hT; exact .roundEnd hl hq
def rfG (T : List Item) : Operand := match T with | .code (.rangeFunc g _ _ _) :: _ => g | _ => .global 0
def rfPs (T : List Item) : Array Tmp := match T with | .code (.rangeFunc _ ps _ _) :: _ => ps | _ => #[]
def rfAs (T : List Item) : Code := match T with | .code (.rangeFunc _ _ as _) :: _ => as | _ => .skip
def rfBd (T : List Item) : Code := match T with | .code (.rangeFunc _ _ _ bd) :: _ => bd | _ => .skip
def isRange (T : List Item) : Bool := match T with | .code (.rangeFunc ..) :: _ => true | _ => false
def lp (T : List Item) (f : FuncId) (tm : List V) (st : LoopState) : O := .loop st none f tm (rfPs T) (rfAs T) (rfBd T)
theorem AW.rangeH {h : FuncId} {fn : Func} {c : Code} {first cap : List V} (m : List Nat) (cargs : List V) (σc : Store) {Qc : AE → Store → Prop}
   (hF : Fnc P h fn c) (ht : isRange T = true) (hT : cgo 1 [] T = T') (hx : ev tm (rfG T) = .fn (.func h) first cap) (hc : CallsA P h cargs σc Qc)
   (hargs : coArgs P fn.params.toList (first ++ [.yield (σ.length + 1)] ++ cap) = V.renL (mp m (σ.length + 2)) cargs) (hbel : (belB σc.length σc && (V.locsL cargs).all fun l => Nat.blt l σc.length) = true)
   (hwi : within (σ ++ [.defd, lp T f tm .ready]) m σc)
   (hk : ∀ r σc', Qc r σc' → ∃ v st tml ps' as' bd' fn', r = .ret v ∧ st ≠ .busy ∧ (merge (σ ++ [.defd, lp T f tm .ready]) m σc')[σ.length + 1]? = some (.loop st none fn' tml ps' as' bd') ∧
    AW P f none n T' (V.killL (movedB m σc') tm) ((merge (σ ++ [.defd, lp T f tm .ready]) m σc').set (σ.length + 1) (.loop .exhausted none fn' tml ps' as' bd')) (σ.length :: df) Q) :
   AW P f none n T tm σ df Q := by
 subst hT
 unfold isRange at ht
 split at ht
 · refine AW.rangeFunc m cargs σc hF hc hx hargs hbel hwi fun r σc' hq => ?_
   obtain ⟨v, st, tml, ps', as', bd', fn', h1, h2, h3, h4⟩ := hk r σc' hq
   exact ⟨v, st, none, tml, ps', as', bd', fn', h1, h2, h3, h4⟩
 · cases ht
theorem AW.yieldH {o : Oper} {x : Operand} {args : Array Operand} {ts : Array TypeId} {l : Nat} {st : LoopState} {pend : Option Code} {fn : FuncId} {tml : List V} {ps : Array Tmp} {as bd : Code} {Qr : AE → Store → Prop} {R : List Item}
   (hi : opOf T = some o) (hw : wantA (opsOf T) o tm = some true) (ho : o.op = .call { callee := .value x, args, argTypes := ts }) (hT : tlOf T = T') (hx : ev tm x = .yield l) (hl : σ[l]? = some (.loop st pend fn tml ps as bd)) (hps : args.size = ps.size)
   (hR : [.code as, .beginRound, .code bd] = R) (hr : AW P fn (some l) σ.length R (roundTm tml ps.toList (args.toList.map (ev tm))) σ [] Qr)
   (hk : ∀ r σ', Qr r σ' → ∃ v, r = .ret v ∧ AW P f ro n T' (put (V.killL (mvB σ') tm) o.dst v) σ' df Q) : AW P f ro n T tm σ df Q := by
 subst hT hR
 unfold opOf at hi
 split at hi
 · rename_i ops i r k
   exact .yield hi hw ho hx hl hps hr hk
 · cases hi
theorem AW.retD {fn : Func} {c : Code} {v : V} (hF : Fnc P f fn c) (hT : isRet T = true) (hd : nodupB df = true ∧ (df.all fun l => Nat.ble n l) = true) (hs : df.foldl (fun s l => s.set l .dead) σ = σ') (hres : resA P fn tm σ' = some v) (hq : Q (.ret v) σ') : AW P f none n T tm σ df Q := by
 subst hs
 unfold isRet at hT
 split at hT
 · exact .ret hF hd hres hq
 · exact .fin hF hd hres hq
 · cases hT
theorem AW.beginL {T0 : List Item} {l : Nat} {fn : FuncId} {tml : List V} (hb : isBegin T = true) (hT : cgo 1 [] T = T') (hl : σ[l]? = some (lp T0 fn tml .ready)) (hs : σ.set l (lp T0 fn tml .busy) = σ')
  (h : AW P f (some l) n T' tm σ' df Q) : AW P f (some l) n T tm σ df Q := by
 subst hs; exact .beginH hb hT hl h
theorem AW.roundEndL {T0 : List Item} {l : Nat} {fn : FuncId} {tml : List V} {st : LoopState} (hT : T = []) (hl : σ[l]? = some (lp T0 fn tml st)) (hs : σ.set l (lp T0 fn tml .ready) = σ')
  (hq : Q (.ret (.d (.bool true))) σ') : AW P f (some l) n T tm σ df Q := by
 subst hs; exact .roundEndH hT hl hq
theorem AW.yieldL {T0 : List Item} {o : Oper} {x : Operand} {args : Array Operand} {ts : Array TypeId} {l : Nat} {st : LoopState} {fn : FuncId} {tml tmr : List V} {Qr : AE → Store → Prop} {R : List Item}
  (hi : opOf T = some o) (hw : wantA (opsOf T) o tm = some true) (ho : o.op = .call { callee := .value x, args, argTypes := ts }) (hT : tlOf T = T') (hx : ev tm x = .yield l) (hl : σ[l]? = some (lp T0 fn tml st)) (hps : args.size = (rfPs T0).size)
  (hR : [.code (rfAs T0), .beginRound, .code (rfBd T0)] = R) (htm : roundTm tml (rfPs T0).toList (args.toList.map (ev tm)) = tmr) {N : Nat} (hN : σ.length = N) (hr : AW P fn (some l) N R tmr σ [] Qr)
  (hk : ∀ r σ', Qr r σ' → ∃ v, r = .ret v ∧ AW P f ro n T' (put (V.killL (mvB σ') tm) o.dst v) σ' df Q) : AW P f ro n T tm σ df Q := by
 subst htm hN
 exact .yieldH hi hw ho hT hx hl hps hR hr hk
theorem CallsA.pure {g : FuncId} {args : List V} {v : V} (h : CallsA P g args [] fun r _ => r = .ret v) (hl : v.locs = []) : Pure P g args v := by
 intro w I ρ xs hx hO
 refine (h w I ρ xs hx hO).mono ?_
 rintro e w' ⟨I', ρ', σ', r, rfl, ⟨x, he, hv⟩, hO', hE⟩
 refine ⟨I', ρ', [], _, ⟨rfl, rfl⟩, ⟨x, he, vr_up (fun b hb => ⟨hb, rfl⟩) v x (fun l hl' => by rw [hl] at hl'; cases hl') hv⟩, ⟨fun l o h => by simp at h, fun l l' L L' h => by obtain ⟨o, h, _⟩ := h; simp at h, fun b h => by obtain ⟨l, o, L, h, _⟩ := h; simp at h, fun b hb => ⟨(hO'.imm b hb).1, fun h => by obtain ⟨l, o, L, h, _⟩ := h; simp at h⟩⟩, ?_⟩
 exact ⟨hE.size, hE.os, hE.tape, hE.output, hE.old, hE.immI, hE.immN, fun b h => by obtain ⟨l, o, L, h, _⟩ := h; simp at h, Nat.le_refl _, fun l hl => by simp at hl, fun l o' hl => by simp at hl, fun l o hl => by simp at hl⟩
theorem AW.virtT (i sz : Nat) (hi : tm[i]? = some .nils) (h : AW P f ro n T (tm.set i (.row σ.length)) (σ ++ [.row sz [] false]) df Q) : AW P f ro n T tm σ df Q := by
  intro w I ρ a rb hr hb hn
  have hO := hr.ors
  let σ2 : Store := σ ++ [.row sz [] false]
  let ρ2 : LM := fun x => if x = σ.length then none else ρ x
  have hlen : σ2.length = σ.length + 1 := by simp [σ2]
  have g1 : ∀ x, x < σ.length → σ2[x]? = σ[x]? := fun x hx => List.getElem?_append_left hx
  have g3 : σ2[σ.length]? = some (.row sz [] false) := by
    show (_ ++ _)[σ.length]? = _
    rw [List.getElem?_append_right (by omega)]
    simp
  have g4 : ∀ x, x < σ.length → ρ2 x = ρ x := fun x hx => by show (if _ then _ else _) = _; rw [if_neg (by omega)]
  have hS : ∀ x, x < σ.length → Same ρ σ ρ2 σ2 x := fun x hx => ⟨by omega, fun o' h1 h2 => ⟨g4 x hx, o', by rw [← g1 x hx]; exact h1, h2, rfl⟩⟩
  have hI : ∀ b, I b → I b ∧ w.heap[b]? = w.heap[b]? := fun b hb => ⟨hb, rfl⟩
  have cases3 : ∀ x o, σ2[x]? = some o → x = σ.length ∧ o = .row sz [] false ∨ x < σ.length ∧ σ[x]? = some o := by
    intro x o hx
    have hxl : x < σ2.length := (List.getElem?_eq_some_iff.1 hx).1
    by_cases h1 : x = σ.length
    · subst h1
      rw [g3] at hx; cases hx
      exact .inl ⟨rfl, rfl⟩
    · have h2 : x < σ.length := by omega
      exact .inr ⟨h2, by rw [← g1 x h2]; exact hx⟩
  have hfoot : ∀ b, foot ρ2 σ2 b → foot ρ σ b := by
    rintro b ⟨x, o, L, h1, h2, h3, h4⟩
    rcases cases3 x o h1 with ⟨rfl, rfl⟩ | ⟨hx, h5⟩
    · simp [ρ2] at h3
    · rw [g4 x hx] at h3
      exact ⟨x, o, L, h5, h2, h3, h4⟩
  have hO2 : ORel w I ρ2 σ2 := by
    refine ⟨fun x o hx => ?_, fun x y L L' hv hv' hL hL' hb => ?_, fun b hb => hO.flt b (hfoot b hb), fun b hb => ⟨(hO.imm b hb).1, fun h => (hO.imm b hb).2 (hfoot b h)⟩⟩
    · rcases cases3 x o hx with ⟨rfl, rfl⟩ | ⟨h2, h5⟩
      · simp only [orel]
        exact .inl ⟨by simp [ρ2], trivial⟩
      · by_cases hd : o = .dead
        · subst hd; simp [orel]
        · exact orel_all hI hS (g4 x h2) (fun L hL => rfl) (hO.objs x o h5)
    · obtain ⟨o, h1, h2⟩ := hv
      obtain ⟨o', h1', h2'⟩ := hv'
      rcases cases3 x o h1 with ⟨rfl, rfl⟩ | ⟨hx, h5⟩
      · simp [ρ2] at hL
      · rcases cases3 y o' h1' with ⟨rfl, rfl⟩ | ⟨hy, h7⟩
        · simp [ρ2] at hL'
        · rw [g4 x hx] at hL
          rw [g4 y hy] at hL'
          exact hO.inj x y L L' ⟨o, h5, h2⟩ ⟨o', h7, h2'⟩ hL hL' hb
  have hE : Ext σ.length w I ρ σ w I ρ2 σ2 := by
    refine ⟨Nat.le_refl _, rfl, rfl, rfl, fun _ _ _ => rfl, fun b hb => hb, fun b hb => .inl hb, fun b hb => .inl (hfoot b hb), by omega, fun x hx ⟨o, h1, h2⟩ => ?_, fun x o' hx h1 h2 => ?_, fun x o hx h1 h2 => ?_⟩
    · exact ⟨o, by rw [← g1 x hx]; exact h1, h2⟩
    · exact ⟨g4 x hx, o', by rw [← g1 x hx]; exact h1, h2, rfl⟩
    · exact ⟨o, by rw [g1 x hx]; exact h1, rfl⟩
  have hst := hE.stays
  obtain ⟨y, hy, hyv⟩ := vrL_get? hr.tms hi
  have k8 : vr w I ρ2 σ2 (.row σ.length) y := by
    simp only [vr] at hyv ⊢
    subst hyv
    refine ⟨rfl, by omega, fun sz' xs mv hx => ?_⟩
    rw [g3] at hx; cases hx
    exact .inl ⟨rfl, none, rfl⟩
  have k9 := vrL_set (vrL_all hI hS hr.tms) i k8
  rw [show a.tmps.toList.set i y = a.tmps.toList from by
    apply List.ext_getElem?
    intro j
    by_cases hj : j = i
    · subst hj
      rw [List.getElem?_set_self (List.getElem?_eq_some_iff.1 hy).1, hy]
    · rw [List.getElem?_set_ne (Ne.symm hj)]] at k9
  exact (h w I ρ2 a rb ⟨k9, hO2, dfr_stay hst hr.dfs⟩ (rbOf_stay hst hb) (by show n ≤ σ2.length; omega)).mono fun e w' hf => hf.trans (hE.less hn)
theorem freeze_self {w : World} {g : Nat} {C : Array Value} {T : TypeId} {fz : Nat × Nat} (h : w.heap[g]? = some (.cells C T fz)) (m k : Nat) (hk : k ≠ 0) :
  (w.freeze ⟨g, m, none⟩ k).heap[g]? = some (.cells C T (if fz.1 == fz.2 then (m, m + k) else (min fz.1 m, max fz.2 (m + k)))) := by
 obtain ⟨lo, hi⟩ := fz
 have hlt : g < w.heap.size := (Array.getElem?_eq_some_iff.1 h).1
 simp only [World.freeze, hk, if_false]
 rw [Array.getElem?_modify, if_pos rfl, h]
 rfl
theorem freeze_other {w : World} {g b : Nat} (h : b ≠ g) (m k : Nat) : (w.freeze ⟨g, m, none⟩ k).heap[b]? = w.heap[b]? := by
 unfold World.freeze
 split
 · rfl
 · simp only []
   rw [Array.getElem?_modify, if_neg (Ne.symm h)]
theorem freeze_size {w : World} {a : Addr} {k : Nat} : (w.freeze a k).heap.size = w.heap.size := by
 unfold World.freeze; split <;> simp
theorem freeze_rest {w : World} {a : Addr} {k : Nat} : (w.freeze a k).os = w.os ∧ (w.freeze a k).tape = w.tape ∧ (w.freeze a k).output = w.output := by
 unfold World.freeze; split <;> exact ⟨rfl, rfl, rfl⟩
section cell
variable {w w' : World} {I : Nat → Prop} {ρ : LM} {σ : Store}
mutual
theorem Dr_cell (h : ∀ b, I b → ∀ o, w'.cell? ⟨b, o, none⟩ = w.cell? ⟨b, o, none⟩) : ∀ d v, Dr w I d v → Dr w' I d v
 | .int _ _, _, hd => by simpa [Dr] using hd
 | .bool _, _, hd => by simpa [Dr] using hd
 | .str _, _, hd => by simpa [Dr] using hd
 | .raw _, _, hd => by simpa [Dr] using hd
 | .agg cs, v, hd => by
   simp only [Dr] at hd ⊢
   obtain ⟨vs, hv, hl⟩ := hd
   exact ⟨vs, hv, DrL_cell h cs vs hl⟩
 | .list sz xs, v, hd => by
   simp only [Dr] at hd ⊢
   obtain ⟨a, cap, hv, h1, h2, h3⟩ := hd
   refine ⟨a, cap, hv, h1, h2, h3.imp id ?_⟩
   rintro ⟨b, o, ha, hI, hE⟩
   exact ⟨b, o, ha, hI, DrE_cell h sz b (h b hI) o xs hE⟩
theorem DrL_cell (h : ∀ b, I b → ∀ o, w'.cell? ⟨b, o, none⟩ = w.cell? ⟨b, o, none⟩) : ∀ ds vs, DrL w I ds vs → DrL w' I ds vs
 | [], vs, hd => by simpa [DrL] using hd
 | d :: ds, vs, hd => by
   simp only [DrL] at hd ⊢
   obtain ⟨v, vs', hv, h1, h2, h3⟩ := hd
   exact ⟨v, vs', hv, h1, Dr_cell h d v h2, DrL_cell h ds vs' h3⟩
theorem DrE_cell (h : ∀ b, I b → ∀ o, w'.cell? ⟨b, o, none⟩ = w.cell? ⟨b, o, none⟩) (sz b : Nat) (hb : ∀ o, w'.cell? ⟨b, o, none⟩ = w.cell? ⟨b, o, none⟩) : ∀ o ds, DrE w I sz b o ds → DrE w' I sz b o ds
 | _, [], _ => by simp [DrE]
 | o, d :: ds, hd => by
   simp only [DrE] at hd ⊢
   obtain ⟨⟨v, h1, h2, h3⟩, h4⟩ := hd
   exact ⟨⟨v, Dr_cell h d v h1, h2, fun j hj => by rw [hb]; exact h3 j hj⟩, DrE_cell h sz b hb (o + sz) ds h4⟩
end
mutual
theorem vr_cell (h : ∀ b, I b → ∀ o, w'.cell? ⟨b, o, none⟩ = w.cell? ⟨b, o, none⟩) : ∀ (v : V) (x : Value), vr w I ρ σ v x → vr w' I ρ σ v x
 | .d d, x, hv => by simp only [vr] at *; exact Dr_cell h d x hv
 | .undef, x, _ => by simp [vr]
 | .nils, x, hv => by simpa [vr] using hv
 | .ex sz xs, x, hv => by
   simp only [vr] at *
   obtain ⟨a, h1, h2⟩ := hv
   exact ⟨a, h1, Dr_cell h _ _ h2⟩
 | .ep sz y s, x, hv => by
   simp only [vr] at *
   obtain ⟨b, o, h1, h2, u, h3, h4, h5⟩ := hv
   exact ⟨b, o, h1, h2, u, Dr_cell h _ _ h3, h4, fun j hj => by rw [h b h2]; exact h5 j hj⟩
 | .ptr _ _ _, x, hv => by simpa [vr] using hv
 | .row _, x, hv => by simpa [vr] using hv
 | .sl _ _ _ _, x, hv => by simpa [vr] using hv
 | .yield _, x, hv => by simpa [vr] using hv
 | .map _, x, hv => by simpa [vr] using hv
 | .fn f a b, x, hv => by
   simp only [vr] at *
   obtain ⟨fs, cs, e, h1, h2⟩ := hv
   exact ⟨fs, cs, e, vrL_cell h a fs h1, vrL_cell h b cs h2⟩
 | .tuple vs, x, hv => by
   simp only [vr] at *
   obtain ⟨xs, e, h1⟩ := hv
   exact ⟨xs, e, vrL_cell h vs xs h1⟩
 | .agg vs, x, hv => by
   simp only [vr] at *
   obtain ⟨xs, e, h1, h2⟩ := hv
   exact ⟨xs, e, vrL_cell h vs xs h1, h2⟩
theorem vrL_cell (h : ∀ b, I b → ∀ o, w'.cell? ⟨b, o, none⟩ = w.cell? ⟨b, o, none⟩) : ∀ (vs : List V) (xs : List Value), vrL w I ρ σ vs xs → vrL w' I ρ σ vs xs
 | [], xs, hv => by simpa [vrL] using hv
 | v :: vs, xs, hv => by
   simp only [vrL] at *
   obtain ⟨x, xs', e, h1, h2⟩ := hv
   exact ⟨x, xs', e, vr_cell h v x h1, vrL_cell h vs xs' h2⟩
end
theorem orel_cell (h : ∀ b, I b → ∀ o, w'.cell? ⟨b, o, none⟩ = w.cell? ⟨b, o, none⟩) {l : Nat} {o : O} (hh : ∀ L, ρ l = some L → w'.heap[L.b]? = w.heap[L.b]?) (ho : orel w I ρ σ l o) : orel w' I ρ σ l o := by
 cases o with
 | dead => simp [orel]
 | cells cs =>
   simp only [orel] at *
   obtain ⟨L, C, T, fz, h1, h2, h3, h4, h5, h6⟩ := ho
   exact ⟨L, C, T, fz, h1, h2, by rw [hh L h1]; exact h3, h4, vrL_cell h _ _ h5, h6⟩
 | row sz xs mv =>
   simp only [orel] at *
   rcases ho with ho | ⟨L, C, T, fz, h1, h2, h3, h4, h5, h6, h7, h8⟩
   · exact .inl ho
   · refine .inr ⟨L, C, T, fz, h1, h2, by rw [hh L h1]; exact h3, h4, h5, h6, h7, ?_⟩
     exact DrE_cell h sz L.b (fun o => by simp only [World.cell?, hh L h1]) _ _ h8
 | map es =>
   simp only [orel] at *
   obtain ⟨L, E, n, h1, h2, h3, h4, h5, h6⟩ := ho
   refine ⟨L, E, n, h1, h2, by rw [hh L h1]; exact h3, h4, fun j e hj => ?_, h6⟩
   obtain ⟨g1, x, g2, g3, g4⟩ := h5 j e hj
   exact ⟨g1, x, g2, g3, Dr_cell h _ _ g4⟩
 | loop st pend fn tm params assign body =>
   simp only [orel] at *
   obtain ⟨L, tmps, db, h1, h2, h3⟩ := ho
   exact ⟨L, tmps, db, h1, by rw [hh L h1]; exact h2, vrL_cell h _ _ h3⟩
 | defd =>
   simp only [orel] at *
   obtain ⟨L, h1, h2⟩ := ho
   exact ⟨L, h1, by rw [hh L h1]; exact h2⟩
end cell
theorem AW.conv {i : Nat} {rest : List Nat} {ops : Array Oper} {o : Oper} {t e : TypeId} {x : Operand} {l sz : Nat} {xs : List D} {mv : Bool} {k : List Item} (hi : ops[i]? = some o) (hw : wantA ops o tm = some true) (ho : o.op = .convert t t x) (hu : P.underlying t = some (.slice e)) (he : P.underlying e = some (.int .u8)) (hx : ev tm x = .row l) (hl : σ[l]? = some (.row sz xs mv)) (h0 : 0 < xs.length)
   (h : AW P f ro n (.inRegion ops rest :: k) (put (V.frzL l sz xs tm) o.dst (.d (.list sz xs))) ((σ.map (O.frz l sz xs)).set l .dead) df Q) : AW P f ro n (.inRegion ops (i :: rest) :: k) tm σ df Q := by
 intro w I ρ a rb hr hb hn
 have hO := hr.ors
 have hxr := vr_ev hr.tms x
 rw [hx] at hxr
 have hxr0 := hxr
 simp only [vr] at hxr
 have hrv := hxr.2.2 _ _ _ hl
 have hob := hO.objs l _ hl
 simp only [orel] at hob
 rcases hob with ⟨_, hnil⟩ | ⟨L, C, T, fz, hL, hsz, hh, hth, hC, hle, hcap, hE⟩
 · rw [hnil] at h0; simp at h0
 rcases hrv with ⟨hz, _⟩ | ⟨L', hL', hoff, hv⟩
 · omega
 rw [hL] at hL'; cases hL'
 have hlt : l < σ.length := (List.getElem?_eq_some_iff.1 hl).1
 let w' := w.freeze ⟨L.b, C.size, none⟩ 1
 have hrun : (execOp a.eval o).run P w = .ok (.value (a.eval x)) w' := by
   have hm : (markStringish ⟨L.b, L.o + 0 * L.sz, none⟩).run P w = .ok () w' := by
     simp only [markStringish, shape, Sem.run_bind, Sem.run, World.shape?, hh, Result.andThen]
     rfl
   simp only [execOp, ho, convert, Sem.run_bind, run_underlying hu, Result.andThen_ok, hv, beq_self_eq_true, run_underlying he, hm, Sem.run_pure]
 -- first it is laid to rest
 obtain ⟨htm, hO2, hX, hfx⟩ := freeze_core (w := w) hO hl hr.tms
 have hxd : Dr w (Iadd I ρ l) (.list sz xs) (a.eval x) := by
   have := vr_frz hO hl _ _ hxr0
   simp only [V.frz, Nat.beq_refl, if_true, vr] at this
   exact this
 -- then it is marked
 have hc : ∀ b o, w'.cell? ⟨b, o, none⟩ = w.cell? ⟨b, o, none⟩ := by
   intro b o
   by_cases hb : b = L.b
   · subst hb
     simp only [World.cell?, hh, w', freeze_self hh C.size 1 (by omega)]
   · simp only [World.cell?, w', freeze_other hb]
 have hc' : ∀ b, Iadd I ρ l b → ∀ o, w'.cell? ⟨b, o, none⟩ = w.cell? ⟨b, o, none⟩ := fun b _ o => hc b o
 have hfoot : ∀ b, foot ρ ((σ.map (O.frz l sz xs)).set l .dead) b → b ≠ L.b := fun b hb e => (hO2.imm b (.inr ⟨L, hL, e.symm⟩)).2 hb
 have hO3 : ORel w' (Iadd I ρ l) ρ ((σ.map (O.frz l sz xs)).set l .dead) := by
   refine ⟨fun y o1 h1 => ?_, hO2.inj, fun b hb => ?_, fun b hb => ?_⟩
   · by_cases hd : o1 = .dead
     · subst hd; simp [orel]
     · exact orel_cell hc' (fun X hX => freeze_other (hfoot _ ⟨y, o1, X, h1, hd, hX, rfl⟩) _ _) (hO2.objs y o1 h1)
   · have := hO2.flt b hb; rw [show w'.heap.size = w.heap.size from freeze_size]; exact this
   · have := hO2.imm b hb; rw [show w'.heap.size = w.heap.size from freeze_size]; exact this
 have hX3 : Ext σ.length w I ρ σ w' (Iadd I ρ l) ρ ((σ.map (O.frz l sz xs)).set l .dead) := by
   refine ⟨by rw [show w'.heap.size = w.heap.size from freeze_size]; exact Nat.le_refl _, freeze_rest.1, freeze_rest.2.1, freeze_rest.2.2, fun b hb hf => freeze_other (fun e => hf ⟨l, _, L, hl, by simp, hL, e.symm⟩) _ _, hX.immI, hX.immN, hX.footN, hX.len, hX.alive, hX.fixed, hX.stay⟩
 have hst := hX3.stays
 have := h w' (Iadd I ρ l) ρ (a.put o.dst (a.eval x)) rb ⟨vrL_put (vrL_cell hc' _ _ htm) o.dst (by simp only [vr]; exact Dr_cell hc' _ _ hxd), hO3, by rw [put_defers]; exact dfr_stay hst hr.dfs⟩ (rbOf_stay hst hb) (by simpa using hn)
 refine .step (fun cs => st_op_value hi (wantA_ok hw hr.tms) (by simp [ho, Op.isDefer]) hrun) (this.mono fun e w' hf => hf.trans (hX3.less hn))
end
end Go.Br
namespace Go.Br
open Go
theorem get_some {α : Type} {l : List α} {i : Nat} (h : i < l.length) : ∃ y, l[i]? = some y := ⟨l[i], List.getElem?_eq_getElem h⟩
theorem map_get {α β : Type} {l : List α} {g : α → β} {i : Nat} {y : α} (h : l[i]? = some y) : (l.map g)[i]? = some (g y) := by simp [h]
theorem str_get {s : ByteArray} {i : Nat} (h : i < s.size) : ∃ y, s[i]? = some y := ⟨s[i], by simp [h]⟩
section
variable {P : Program} {f : FuncId} {ro : Option Nat} {n : Nat} {T T' : List Item} {tm tm' : List V} {σ σ' : Store} {df : List Nat} {Q : AE → Store → Prop}
theorem AW.at (hT : T = T') (h : AW P f ro n T' tm σ df Q) : AW P f ro n T tm σ df Q := by subst hT; exact h
theorem AW.keeps (l : List Nat) (ht : keep l tm = tm') (h : AW P f ro n T tm' σ df Q) : AW P f ro n T tm σ df Q :=
 AW.seg 0 l (T' := T) (tm' := tm') (σ' := σ) (by show some (T, keep l tm, σ) = _; rw [ht]) h
theorem AW.callH {o : Oper} {x : Operand} {args : Array Operand} {ts : Array TypeId} {g : FuncId} {fn : Func} {c : Code} {first cap : List V} (m : List Nat) (cargs : List V) (σc : Store) {Qc : AE → Store → Prop}
   (hF : Fnc P g fn c) (hc : CallsA P g cargs σc Qc) (ho : opOf T = some o) (hw : wantA (opsOf T) o tm = some true) (hT : tlOf T = T') (hop : o.op = .call { callee := .value x, args, argTypes := ts }) (hx : ev tm x = .fn (.func g) first cap)
   (hargs : coArgs P fn.params.toList (first ++ args.toList.map (ev tm) ++ cap) = V.renL (mp m σ.length) cargs) (hbel : (belB σc.length σc && (V.locsL cargs).all fun l => Nat.blt l σc.length) = true) (hwi : within σ m σc)
   (hk : ∀ r σc', Qc r σc' → ∃ v, r = .ret v ∧ AW P f ro n T' (put (V.killL (movedB m σc') tm) o.dst (v.ren (mp m σ.length))) (merge σ m σc') df Q) : AW P f ro n T tm σ df Q := by
 subst hT
 unfold opOf at ho
 split at ho
 · exact .call m cargs σc hF hc ho hw hop hx hargs hbel hwi hk
 · cases ho
theorem bnd_some {o : Operand} {k : IntKind} {i : Int} {l d : Nat} (h : ev tm o = .d (.int k i)) (h0 : 0 ≤ i) (hl : i.toNat = l) : Bnd tm (some o) l d := ⟨k, i, h, h0, hl⟩
end
end Go.Br
namespace Go.Br
open Go
section
variable {P : Program} {f : FuncId} {ro : Option Nat} {n : Nat} {T T' : List Item} {tm tm' : List V} {σ σ' : Store} {df : List Nat} {Q : AE → Store → Prop}
theorem AW.virtE (i sz : Nat) (hi : tm[i]? = some (.ex sz [])) (h : AW P f ro n T (tm.set i (.row σ.length)) (σ ++ [.row sz [] false]) df Q) : AW P f ro n T tm σ df Q := by
  intro w I ρ a rb hr hb hn
  have hO := hr.ors
  let σ2 : Store := σ ++ [.row sz [] false]
  let ρ2 : LM := fun x => if x = σ.length then none else ρ x
  have hlen : σ2.length = σ.length + 1 := by simp [σ2]
  have g1 : ∀ x, x < σ.length → σ2[x]? = σ[x]? := fun x hx => List.getElem?_append_left hx
  have g3 : σ2[σ.length]? = some (.row sz [] false) := by
    show (_ ++ _)[σ.length]? = _
    rw [List.getElem?_append_right (by omega)]
    simp
  have g4 : ∀ x, x < σ.length → ρ2 x = ρ x := fun x hx => by show (if _ then _ else _) = _; rw [if_neg (by omega)]
  have hS : ∀ x, x < σ.length → Same ρ σ ρ2 σ2 x := fun x hx => ⟨by omega, fun o' h1 h2 => ⟨g4 x hx, o', by rw [← g1 x hx]; exact h1, h2, rfl⟩⟩
  have hI : ∀ b, I b → I b ∧ w.heap[b]? = w.heap[b]? := fun b hb => ⟨hb, rfl⟩
  have cases3 : ∀ x o, σ2[x]? = some o → x = σ.length ∧ o = .row sz [] false ∨ x < σ.length ∧ σ[x]? = some o := by
    intro x o hx
    have hxl : x < σ2.length := (List.getElem?_eq_some_iff.1 hx).1
    by_cases h1 : x = σ.length
    · subst h1
      rw [g3] at hx; cases hx
      exact .inl ⟨rfl, rfl⟩
    · have h2 : x < σ.length := by omega
      exact .inr ⟨h2, by rw [← g1 x h2]; exact hx⟩
  have hfoot : ∀ b, foot ρ2 σ2 b → foot ρ σ b := by
    rintro b ⟨x, o, L, h1, h2, h3, h4⟩
    rcases cases3 x o h1 with ⟨rfl, rfl⟩ | ⟨hx, h5⟩
    · simp [ρ2] at h3
    · rw [g4 x hx] at h3
      exact ⟨x, o, L, h5, h2, h3, h4⟩
  have hO2 : ORel w I ρ2 σ2 := by
    refine ⟨fun x o hx => ?_, fun x y L L' hv hv' hL hL' hb => ?_, fun b hb => hO.flt b (hfoot b hb), fun b hb => ⟨(hO.imm b hb).1, fun h => (hO.imm b hb).2 (hfoot b h)⟩⟩
    · rcases cases3 x o hx with ⟨rfl, rfl⟩ | ⟨h2, h5⟩
      · simp only [orel]
        exact .inl ⟨by simp [ρ2], trivial⟩
      · by_cases hd : o = .dead
        · subst hd; simp [orel]
        · exact orel_all hI hS (g4 x h2) (fun L hL => rfl) (hO.objs x o h5)
    · obtain ⟨o, h1, h2⟩ := hv
      obtain ⟨o', h1', h2'⟩ := hv'
      rcases cases3 x o h1 with ⟨rfl, rfl⟩ | ⟨hx, h5⟩
      · simp [ρ2] at hL
      · rcases cases3 y o' h1' with ⟨rfl, rfl⟩ | ⟨hy, h7⟩
        · simp [ρ2] at hL'
        · rw [g4 x hx] at hL
          rw [g4 y hy] at hL'
          exact hO.inj x y L L' ⟨o, h5, h2⟩ ⟨o', h7, h2'⟩ hL hL' hb
  have hE : Ext σ.length w I ρ σ w I ρ2 σ2 := by
    refine ⟨Nat.le_refl _, rfl, rfl, rfl, fun _ _ _ => rfl, fun b hb => hb, fun b hb => .inl hb, fun b hb => .inl (hfoot b hb), by omega, fun x hx ⟨o, h1, h2⟩ => ?_, fun x o' hx h1 h2 => ?_, fun x o hx h1 h2 => ?_⟩
    · exact ⟨o, by rw [← g1 x hx]; exact h1, h2⟩
    · exact ⟨g4 x hx, o', by rw [← g1 x hx]; exact h1, h2, rfl⟩
    · exact ⟨o, by rw [g1 x hx]; exact h1, rfl⟩
  have hst := hE.stays
  obtain ⟨y, hy, hyv⟩ := vrL_get? hr.tms hi
  have k8 : vr w I ρ2 σ2 (.row σ.length) y := by
    simp only [vr] at hyv ⊢
    obtain ⟨ad, hyv, _⟩ := hyv
    refine ⟨by rw [hyv]; rfl, by omega, fun sz' xs mv hx => ?_⟩
    rw [g3] at hx; cases hx
    exact .inl ⟨rfl, ad, hyv⟩
  have k9 := vrL_set (vrL_all hI hS hr.tms) i k8
  rw [show a.tmps.toList.set i y = a.tmps.toList from by
    apply List.ext_getElem?
    intro j
    by_cases hj : j = i
    · subst hj
      rw [List.getElem?_set_self (List.getElem?_eq_some_iff.1 hy).1, hy]
    · rw [List.getElem?_set_ne (Ne.symm hj)]] at k9
  exact (h w I ρ2 a rb ⟨k9, hO2, dfr_stay hst hr.dfs⟩ (rbOf_stay hst hb) (by show n ≤ σ2.length; omega)).mono fun e w' hf => hf.trans (hE.less hn)
end
theorem ahead_or' {ops : Array Oper} {L : List Nat} (hL : Ord ops L) (i j : Nat) (h : (Nat.blt i ops.size && Nat.blt j ops.size && !(Nat.beq i j)) = true) : ahead L i j ∨ ahead L j i := by
 simp only [Bool.and_eq_true, Nat.blt_eq, Bool.not_eq_true'] at h
 obtain ⟨⟨h1, h2⟩, h3⟩ := h
 exact ahead_or hL i j h1 h2 fun e => by subst e; simp at h3
end Go.Br
namespace Go.Br
open Go
def sliceElem (P : Program) (t : TypeId) : Nat := match P.underlying t with | some (.slice e) => e | _ => 0
def typeSize (P : Program) (t : TypeId) : Nat := match P.info? t with | some i => i.size | none => 0
theorem rem_ok {P : Program} {tm : List V} {σ : Store} {o : Oper} {x y : Operand} {t ty : TypeId} {k : IntKind} {a b : Int} (ho : o.op = .binOp .rem t x y ty) (hx : ev tm x = .d (.int k a)) (hy : ev tm y = .d (.int k b)) (hb : b ≠ 0) : OpOk P o tm σ (.d (.int k (irem a b))) tm σ :=
 qop_opOk (by simp [ho, qop, hx, hy, binV, intBin, hb, irem])
end Go.Br
namespace Go.Br
open Go
end Go.Br
namespace Go.Br
open Go
section
variable {P : Program} {f : FuncId} {ro : Option Nat} {n : Nat} {k : List Item} {df : List Nat} {Q : AE → Store → Prop} {ops : Array Oper}
theorem Run.as {L : List Nat} {c : List Nat} {tm tm' : List V} {σ σ' : Store} {s : List V × Store} (ht : tm = tm') (hs : σ = σ') (h : Run (StepQ P f ro n k df Q ops c) L (tm', σ') s) : Run (StepQ P f ro n k df Q ops c) L (tm, σ) s := by subst ht hs; exact h
end
end Go.Br
namespace Go.Br
open Go
theorem wrap_u64s {n : Int} (h : 0 ≤ n) (h' : n < 18446744073709551616) : IntKind.u64.wrap n = n := by
 simp only [IntKind.wrap, IntKind.bits, IntKind.signed, Bool.false_and]
 simp_all <;> omega
theorem wrap_u32s {n : Int} (h : 0 ≤ n) (h' : n < 4294967296) : IntKind.u32.wrap n = n := by
 simp only [IntKind.wrap, IntKind.bits, IntKind.signed, Bool.false_and]
 simp_all <;> omega
theorem wrap_u8s {n : Int} (h : 0 ≤ n) (h' : n < 256) : IntKind.u8.wrap n = n := by
 simp only [IntKind.wrap, IntKind.bits, IntKind.signed, Bool.false_and]
 simp_all <;> omega
theorem wrap_i32s {n : Int} (h : -2147483648 ≤ n) (h' : n < 2147483648) : IntKind.i32.wrap n = n := by
 simp only [IntKind.wrap, IntKind.bits, IntKind.signed, Bool.true_and]
 split <;> simp_all <;> omega
theorem irem_n (a b : Nat) : irem (a : Int) (b : Int) = ((a % b : Nat) : Int) := (Int.ofNat_tmod a b).symm
theorem iquo_n {k : IntKind} (a b : Nat) : iquo k (a : Int) (b : Int) = k.wrap ((a / b : Nat) : Int) := by show k.wrap ((a : Int).tdiv b) = _; rw [← Int.ofNat_tdiv]
theorem tdiv_nn {a b : Int} (h : 0 ≤ a) : a.tdiv b = a / b := Int.tdiv_eq_ediv_of_nonneg h
theorem tmod_nn {a b : Int} (h : 0 ≤ a) : a.tmod b = a % b := Int.tmod_eq_emod_of_nonneg h
theorem bsW : (∀ {n : Int}, -9223372036854775808 ≤ n → n < 9223372036854775808 → IntKind.i64.wrap n = n) ∧ (∀ {n : Int}, 0 ≤ n → n < 18446744073709551616 → IntKind.u64.wrap n = n) ∧ (∀ {n : Int}, 0 ≤ n → n < 4294967296 → IntKind.u32.wrap n = n) ∧ (∀ {n : Int}, 0 ≤ n → n < 256 → IntKind.u8.wrap n = n) ∧ (∀ {n : Int}, -2147483648 ≤ n → n < 2147483648 → IntKind.i32.wrap n = n) ∧
  (∀ {a b : Int}, -9223372036854775808 ≤ a + b → a + b < 9223372036854775808 → iadd .i64 a b = a + b) ∧ (∀ {a b : Int}, -9223372036854775808 ≤ a - b → a - b < 9223372036854775808 → isub .i64 a b = a - b) ∧ (∀ a b : Nat, irem (a : Int) (b : Int) = ((a % b : Nat) : Int)) ∧ (∀ {k : IntKind} (a b : Nat), iquo k (a : Int) (b : Int) = k.wrap ((a / b : Nat) : Int)) ∧ (∀ {a b : Int}, 0 ≤ a → a.tdiv b = a / b) ∧ (∀ {a b : Int}, 0 ≤ a → a.tmod b = a % b) :=
 ⟨wrap_i64, wrap_u64s, wrap_u32s, wrap_u8s, wrap_i32s, iadd_i64, isub_i64, irem_n, iquo_n, tdiv_nn, tmod_nn⟩
end Go.Br
namespace Go.Br
open Go
section
variable {w w' : World} {I I' : Nat → Prop} {ρ ρ' : LM} {σ σ' : Store} {P : Program}
end
end Go.Br
namespace Go.Br
open Go
section
variable {w w' : World} {I I' : Nat → Prop} {ρ ρ' : LM} {σ σ' : Store} {P : Program}
theorem row_moved {n l sz : Nat} {xs xs' : List D} {mv : Bool} (hO : ORel w I ρ σ) (hl : σ[l]? = some (.row sz xs mv)) (L' : Loc) {C' : Array Value} {T' : TypeId} {fz' : Nat × Nat} (hsz : L'.sz = sz) (hh : w'.heap[L'.b]? = some (.cells C' T' fz')) (hth : thawR fz' C')
  (hC : C'.size = L'.o + L'.cap * sz) (hle : xs'.length ≤ L'.cap) (hcap : L'.cap ≤ maxLen) (hE : DrE w' I sz L'.b L'.o xs') (hheap : ∀ b, b < w.heap.size → (∀ L, ρ l = some L → L.b ≠ b) → w'.heap[b]? = w.heap[b]?) (hsize : w.heap.size ≤ w'.heap.size)
  (hnew : w.heap.size ≤ L'.b ∨ ∃ L, ρ l = some L ∧ L.b = L'.b) (hos : w'.os = w.os) (htape : w'.tape = w.tape) (hout : w'.output = w.output) (hn : n ≤ σ.length) :
  Fin n w I ρ σ (fun r σ' => r = .ret (.row l) ∧ σ' = (σ.map (O.kill (Nat.beq l))).set l (.row sz xs' true)) (.returned (.slice (some ⟨L'.b, L'.o, none⟩) xs'.length L'.cap)) w' := by
 have hlt : l < σ.length := (List.getElem?_eq_some_iff.1 hl).1
 let ρ' : LM := fun x => if x = l then some L' else ρ x
 have hρ : ∀ x, x ≠ l → ρ' x = ρ x := fun x hx => by simp [ρ', hx]
 have hρl : ρ' l = some L' := by simp [ρ']
 have hor : orel w' I ρ' ((σ.map (O.kill (Nat.beq l))).set l (.row sz xs' true)) l (.row sz xs' true) := by
  simp only [orel]
  exact .inr ⟨L', C', T', fz', hρl, hsz, hh, hth, hC, hle, hcap, hE⟩
 obtain ⟨g1, g2⟩ := hO.move hl (by simp) hρ hheap hsize hor (fun K hK => by
  rw [hρl] at hK; cases hK
  refine ⟨(Array.getElem?_eq_some_iff.1 hh).1, hnew⟩)
 have hx := Ext.move (I := I) hl (by simp) rfl (o' := .row sz xs' true) rfl hρ hheap hsize (fun K hK => by
  rw [hρl] at hK; cases hK
  exact ⟨(Array.getElem?_eq_some_iff.1 hh).1, hnew⟩) hos htape hout
 refine ⟨I, ρ', _, .ret (.row l), ⟨rfl, rfl⟩, ⟨_, rfl, ?_⟩, g1, hx.less hn⟩
 simp only [vr]
 refine ⟨rfl, by simpa using hlt, fun sz' xs'' mv' hx' => ?_⟩
 rw [List.getElem?_set_self (by simpa using hlt)] at hx'
 cases hx'
 exact .inr ⟨L', hρl, by omega, by simp⟩
theorem setCells_setRow {b : Nat} {T : TypeId} {fz : Nat × Nat} : ∀ (vs : List Value) (o : Nat) (C : Array Value) (w : World), w.heap[b]? = some (.cells C T fz) → o + vs.length ≤ C.size →
   w.setCells b o vs = w.setRow b (C.toList.take o ++ vs ++ C.toList.drop (o + vs.length)).toArray
 | [], o, C, w, h, _ => by
   simp only [World.setCells, List.append_nil, List.length_nil, Nat.add_zero, List.take_append_drop, Array.toArray_toList]
   rw [setRow_self w b C T fz h]
 | v :: vs, o, C, w, h, hl => by
   have hi : o < C.size := by simp at hl; omega
   have e1 : w.setCell ⟨b, o, none⟩ v = w.setRow b (C.setIfInBounds o v) := setCell_eq_setRow w b o C T fz v h
   have ih := setCells_setRow vs (o + 1) (C.setIfInBounds o v) (w.setRow b (C.setIfInBounds o v)) (setRow_heap w b C _ T _ h) (by simp at hl ⊢; omega)
   rw [World.setCells, e1, ih, setRow_setRow]
   congr 2
   have e := list_seg_step C.toList o v vs (by simp at hl ⊢; omega)
   simpa [Array.toList_setIfInBounds, Nat.add_assoc] using e
end
end Go.Br
namespace Go.Br
open Go
section
variable {P : Program} {σ : Store}
end
end Go.Br
