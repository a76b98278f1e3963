/- The base of these proofs, part B: frames, steps, what it is that a frame comes to its end; the judgement AW on abstract states and its rules on control. -/
import Derived.Test.YtoelkgbeefoplaaBrA
namespace Go.Br
open Go

def frm (f : FuncId) (rb : Option Nat) (a : Act) (todo : List Item) : Frame :=
  { fn := f, tmps := a.tmps, todo, defers := a.defers, mode := .run, kind := .normal, roundOf := rb }

section steps
variable {P : Program} {f : FuncId} {rb : Option Nat} {a : Act} {k : List Item} {cs : List Frame} {w : World}
theorem st_skip : step P (lone (frm f rb a (.code .skip :: k)) cs w) = .next (lone (frm f rb a k) cs w) :=
  step_lone_go (by simp [stepG, stepG.exec, frm])
theorem st_label {l : Nat} : step P (lone (frm f rb a (.code (.label l) :: k)) cs w) = .next (lone (frm f rb a k) cs w) :=
  step_lone_go (by simp [stepG, stepG.exec, frm])
theorem st_inBlock {id : Nat} : step P (lone (frm f rb a (.inBlock id :: k)) cs w) = .next (lone (frm f rb a k) cs w) :=
  step_lone_go (by simp [stepG, stepG.exec, frm])
theorem st_inScope {c : Code} : step P (lone (frm f rb a (.inScope c :: k)) cs w) = .next (lone (frm f rb a k) cs w) :=
  step_lone_go (by simp [stepG, stepG.exec, frm])
theorem st_seq {x y : Code} : step P (lone (frm f rb a (.code (.seq x y) :: k)) cs w) = .next (lone (frm f rb a (.code x :: .code y :: k)) cs w) :=
  step_lone_go (by simp [stepG, stepG.exec, frm])
theorem Frm.eval (todo : List Item) : (frm f rb a todo).eval = a.eval := by
  funext x; cases x <;> rfl
theorem st_cond {c : Operand} {x y : Code} {t : Bool} (h : a.eval c = .bool t) :
    step P (lone (frm f rb a (.code (.cond c x y) :: k)) cs w) = .next (lone (frm f rb a (.code (if t then x else y) :: k)) cs w) :=
  step_lone_go (by
    have := congrFun (Frm.eval (f := f) (rb := rb) (a := a) (.code (.cond c x y) :: k)) c
    simp only [frm] at this
    simp [stepG, stepG.exec, frm, this, h])
theorem st_block {id : Nat} {c : Code} : step P (lone (frm f rb a (.code (.block id c) :: k)) cs w) = .next (lone (frm f rb a (.code c :: .inBlock id :: k)) cs w) :=
  step_lone_go (by simp [stepG, stepG.exec, frm])
theorem st_scope {c : Code} : step P (lone (frm f rb a (.code (.scope c) :: k)) cs w) = .next (lone (frm f rb a (.code c :: .inScope c :: k)) cs w) :=
  step_lone_go (by simp [stepG, stepG.exec, frm])
theorem st_loop {c : Code} : step P (lone (frm f rb a (.code (.loop c) :: k)) cs w) = .next (lone (frm f rb a (.code c :: .inLoop c :: k)) cs w) :=
  step_lone_go (by simp [stepG, stepG.exec, frm])
theorem st_inLoop {c : Code} : step P (lone (frm f rb a (.inLoop c :: k)) cs w) = .next (lone (frm f rb a (.code c :: .inLoop c :: k)) cs w) :=
  step_lone_go (by simp [stepG, stepG.exec, frm])
theorem st_exit {id : Nat} {k' : List Item} (h : exitTo id k = some k') : step P (lone (frm f rb a (.code (.exit id) :: k)) cs w) = .next (lone (frm f rb a k') cs w) :=
  step_lone_go (by simp [stepG, stepG.exec, frm, h])
theorem st_goto {l : Nat} {k' : List Item} (h : gotoIn l k = some k') : step P (lone (frm f rb a (.code (.goto l) :: k)) cs w) = .next (lone (frm f rb a k') cs w) :=
  step_lone_go (by simp [stepG, stepG.exec, frm, h])
theorem st_ret : step P (lone (frm f none a (.code .ret :: k)) cs w) = .next (lone { frm f none a (.code .ret :: k) with mode := .returning } cs w) :=
  step_lone_go (by simp [stepG, stepG.exec, frm])
theorem st_end : step P (lone (frm f none a []) cs w) = .next (lone { frm f none a [] with mode := .returning } cs w) :=
  step_lone_go (by simp [stepG, stepG.exec, frm])
theorem st_region {id : Nat} {ops : Array Oper} :
    step P (lone (frm f rb a (.code (.region id ops false) :: k)) cs w) = .next (lone (frm f rb a (.inRegion ops (List.range ops.size) :: k)) cs w) :=
  step_lone_go (by simp [stepG, stepG.exec, frm])
theorem st_region_draw {id : Nat} {ops : Array Oper} :
    step P (lone (frm f rb a (.code (.region id ops true) :: k)) cs w) =
      .next (lone (frm f rb a (.inRegion ops (Region.schedule (P.follows .mixedOrders) ops (w.tape w.drawn (.order f id))) :: k)) cs w.drew) :=
  step_lone_go (by simp [stepG, stepG.exec, frm, choose, Sem.run, Question.forced, Question.cut])
theorem st_region_end {ops : Array Oper} : step P (lone (frm f rb a (.inRegion ops [] :: k)) cs w) = .next (lone (frm f rb a k) cs w) :=
  step_lone_go (by simp [stepG, stepG.exec, frm])
theorem Frm.finish (ops : Array Oper) (i : Nat) (rest : List Nat) (v : Value) :
    (frm f rb a (.inRegion ops (i :: rest) :: k)).finish v = frm f rb (a.put ((ops[i]?).bind (·.dst)) v) (.inRegion ops rest :: k) := by
  cases h : (ops[i]?).bind (·.dst) <;> simp [Frame.finish, frm, Act.put, h]
theorem st_op_skip {ops : Array Oper} {i : Nat} {rest : List Nat} (h : ((ops[i]?).map (Region.wanted · (yielded ops a.tmps))).getD false = false) :
    step P (lone (frm f rb a (.inRegion ops (i :: rest) :: k)) cs w) = .next (lone (frm f rb (a.put ((ops[i]?).bind (·.dst)) undef) (.inRegion ops rest :: k)) cs w) := by
  rw [← Frm.finish]
  exact step_lone_go (by
    have h' := h
    simp only [frm] at *
    simp [stepG, stepG.exec, h'])

def Op.isDefer : Op → Bool
  | .defer _ => true
  | _ => false

theorem stepG_oper {ops : Array Oper} {i : Nat} {rest : List Nat} {o : Oper} (ho : ops[i]? = some o) (hw : Region.wanted o (yielded ops a.tmps) = true) (hd : Op.isDefer o.op = false) :
    stepG P true { frame := frm f rb a (.inRegion ops (i :: rest) :: k), callers := cs, status := .running, dying := none } w =
      stepG.apply P true (frm f rb a (.inRegion ops (i :: rest) :: k)) cs none (execOp a.eval o) w := by
  have he := Frm.eval (f := f) (rb := rb) (a := a) (.inRegion ops (i :: rest) :: k)
  simp only [frm] at he
  cases rb with
  | none => simp [stepG, stepG.exec, stepG.oper, Frame.oper?, frm, ho, hw, he]
  | some l => cases hop : o.op <;> simp_all [stepG, stepG.exec, stepG.oper, Frame.oper?, frm, Op.isDefer]

theorem st_op_value {ops : Array Oper} {i : Nat} {rest : List Nat} {o : Oper} (ho : ops[i]? = some o) (hw : Region.wanted o (yielded ops a.tmps) = true) (hd : Op.isDefer o.op = false) {v : Value} {w' : World}
    (hr : (execOp a.eval o).run P w = .ok (.value v) w') :
    step P (lone (frm f rb a (.inRegion ops (i :: rest) :: k)) cs w) = .next (lone (frm f rb (a.put o.dst v) (.inRegion ops rest :: k)) cs w') := by
  refine step_lone_go ?_
  have hfin := Frm.finish (f := f) (rb := rb) (a := a) (k := k) ops i rest v
  rw [ho] at hfin
  rw [stepG_oper ho hw hd]
  simp only [Option.bind_some] at hfin
  rw [← hfin]
  simp [stepG.apply, hr]
theorem st_op_unit {ops : Array Oper} {i : Nat} {rest : List Nat} {o : Oper} (ho : ops[i]? = some o) (hw : Region.wanted o (yielded ops a.tmps) = true) (hd : Op.isDefer o.op = false) {w' : World}
    (hr : (execOp a.eval o).run P w = .ok .skip w') :
    step P (lone (frm f rb a (.inRegion ops (i :: rest) :: k)) cs w) = .next (lone (frm f rb (a.put o.dst undef) (.inRegion ops rest :: k)) cs w') := by
  refine step_lone_go ?_
  have hfin := Frm.finish (f := f) (rb := rb) (a := a) (k := k) ops i rest undef
  rw [ho] at hfin
  rw [stepG_oper ho hw hd]
  simp only [Option.bind_some] at hfin
  rw [← hfin]
  simp [stepG.apply, hr]
theorem st_op_enter {ops : Array Oper} {i : Nat} {rest : List Nat} {o : Oper} (ho : ops[i]? = some o) (hw : Region.wanted o (yielded ops a.tmps) = true) (hd : Op.isDefer o.op = false) {g : FuncId} {args : Array Value} {w' : World}
    (hr : (execOp a.eval o).run P w = .ok (.enter g args) w') :
    step P (lone (frm f rb a (.inRegion ops (i :: rest) :: k)) cs w) = .next (lone (Frame.enter P g args .normal) (frm f rb a (.inRegion ops (i :: rest) :: k) :: cs) w') := by
  refine step_lone_go ?_
  rw [stepG_oper ho hw hd]
  simp [stepG.apply, hr, frm]
theorem st_op_round {ops : Array Oper} {i : Nat} {rest : List Nat} {o : Oper} (ho : ops[i]? = some o) (hw : Region.wanted o (yielded ops a.tmps) = true) (hd : Op.isDefer o.op = false) {l g : Nat} {tmps : Array Value} {asg body : Code} {w' : World}
    (hr : (execOp a.eval o).run P w = .ok (.round l g tmps asg body) w') :
    step P (lone (frm f rb a (.inRegion ops (i :: rest) :: k)) cs w) = .next (lone (frm g (some l) ⟨tmps, []⟩ [.code asg, .beginRound, .code body]) (frm f rb a (.inRegion ops (i :: rest) :: k) :: cs) w') := by
  refine step_lone_go ?_
  rw [stepG_oper ho hw hd]
  simp [stepG.apply, hr, frm, Frame.round]
end steps

/-- The frame's last machine: one step more, and its caller goes on. -/
def Lv (P : Program) (rb : Option Nat) (f : FuncId) (fr : Frame) (w : World) (e : Ending) (w' : World) : Prop :=
  match rb with
  | none => w' = w ∧ fr.fn = f ∧ fr.leaving P w e ∧ e ≠ .outgrown
  | some _ => ∀ c cs, ∃ c', step P (lone fr (c :: cs) w) = .next (lone c' cs w') ∧ (match e with | .returned v => c' = c.finish v | .panicked ch => c' = c.raise ch | .outgrown => False)

def RunsTo (P : Program) (f : FuncId) (rb : Option Nat) (todo : List Item) (a : Act) (w : World) (R : Ending → World → Prop) : Prop :=
  ∀ cs, ∃ e w1 w' fr, R e w' ∧ Steps P (lone (frm f rb a todo) cs w) (lone fr cs w1) ∧ Lv P rb f fr w1 e w'

section runs
variable {P : Program} {f : FuncId} {rb : Option Nat} {a a' : Act} {k k' : List Item} {w w' : World} {R R' : Ending → World → Prop}
theorem RunsTo.step (h : ∀ cs, step P (lone (frm f rb a k) cs w) = .next (lone (frm f rb a' k') cs w')) (hr : RunsTo P f rb k' a' w' R) : RunsTo P f rb k a w R := by
  intro cs
  obtain ⟨e, w1, w2, fr, h1, h2, h3⟩ := hr cs
  exact ⟨e, w1, w2, fr, h1, .head (h cs) h2, h3⟩
theorem RunsTo.mono (hr : RunsTo P f rb k a w R) (h : ∀ e w', R e w' → R' e w') : RunsTo P f rb k a w R' := by
  intro cs
  obtain ⟨e, w1, w2, fr, h1, h2, h3⟩ := hr cs
  exact ⟨e, w1, w2, fr, h _ _ h1, h2, h3⟩
/-- A call in a region: the callee's contract, then what follows. -/
theorem RunsTo.call {ops : Array Oper} {i : Nat} {rest : List Nat} {o : Oper} (ho : ops[i]? = some o) (hw : Region.wanted o (yielded ops a.tmps) = true) (hd : Op.isDefer o.op = false) {g : FuncId} {args : Array Value}
    (hr : (execOp a.eval o).run P w = .ok (.enter g args) w') {S : Value → World → Prop}
    (hc : Calls P g args w' fun e w'' => ∃ v, e = .returned v ∧ S v w'')
    (hk : ∀ v w'', S v w'' → RunsTo P f rb (.inRegion ops rest :: k) (a.put o.dst v) w'' R) : RunsTo P f rb (.inRegion ops (i :: rest) :: k) a w R := by
  intro cs
  obtain ⟨e, w1, fr, hR, hcomes, _, hleave⟩ := hc (frm f rb a (.inRegion ops (i :: rest) :: k) :: cs)
  obtain ⟨v, rfl, hS⟩ := hR
  obtain ⟨e2, w2, w3, fr2, h1, h2, h3⟩ := hk v w1 hS cs
  refine ⟨e2, w2, w3, fr2, h1, .head (st_op_enter ho hw hd hr) (hcomes.trans (.head ?_ h2)), h3⟩
  have hfin := Frm.finish (f := f) (rb := rb) (a := a) (k := k) ops i rest v
  rw [ho] at hfin
  simp only [Option.bind_some] at hfin
  rw [← hfin]
  exact step_leave_returned hleave
/-- A round of a loop over a function, called in a region. -/
theorem RunsTo.round {ops : Array Oper} {i : Nat} {rest : List Nat} {o : Oper} (ho : ops[i]? = some o) (hw : Region.wanted o (yielded ops a.tmps) = true) (hd : Op.isDefer o.op = false) {l g : Nat} {tmps : Array Value} {asg body : Code}
    (hr : (execOp a.eval o).run P w = .ok (.round l g tmps asg body) w') {S : Value → World → Prop}
    (hc : RunsTo P g (some l) [.code asg, .beginRound, .code body] ⟨tmps, []⟩ w' fun e w'' => ∃ v, e = .returned v ∧ S v w'')
    (hk : ∀ v w'', S v w'' → RunsTo P f rb (.inRegion ops rest :: k) (a.put o.dst v) w'' R) : RunsTo P f rb (.inRegion ops (i :: rest) :: k) a w R := by
  intro cs
  obtain ⟨e, w1, w2, fr, hR, hst, hlv⟩ := hc (frm f rb a (.inRegion ops (i :: rest) :: k) :: cs)
  obtain ⟨v, rfl, hS⟩ := hR
  obtain ⟨e2, w3, w4, fr2, h1, h2, h3⟩ := hk v w2 hS cs
  obtain ⟨c', hc1, rfl⟩ := hlv (frm f rb a (.inRegion ops (i :: rest) :: k)) cs
  have hfin := Frm.finish (f := f) (rb := rb) (a := a) (k := k) ops i rest v
  rw [ho] at hfin
  simp only [Option.bind_some] at hfin
  rw [hfin] at hc1
  exact ⟨e2, w3, w4, fr2, h1, .head (st_op_round ho hw hd hr) (hst.trans (.head hc1 h2)), h3⟩
end runs

theorem calls_of_runs {P : Program} {g : FuncId} {fn : Func} {c : Code} {args : Array Value} {w : World} {R : Ending → World → Prop} (hf : P.funcs[g]? = some fn) (hb : fn.body = some c)
    (h : RunsTo P g none [.code c] ⟨args ++ Array.replicate (fn.ntmps - args.size) undef, []⟩ w R) : Calls P g args w R := by
  intro cs
  obtain ⟨e, w1, w2, fr, h1, h2, h3⟩ := h cs
  obtain ⟨rfl, h4, h5, h6⟩ := h3
  refine ⟨e, _, fr, h1, ?_, h4, h5⟩
  have henter : Frame.enter P g args .normal = frm g none ⟨args ++ Array.replicate (fn.ntmps - args.size) undef, []⟩ [.code c] := by
    simp [Frame.enter, frm, hf, hb]
  rw [henter]
  cases e with
  | returned v => exact h2
  | panicked ch => exact h2
  | outgrown => exact absurd rfl h6

/-- How an abstract run ends. -/
inductive AE where
  | ret (v : V)
  | pan (v : V)

def erel (w : World) (I : Nat → Prop) (ρ : LM) (σ : Store) : AE → Ending → Prop
  | .ret v, e => ∃ x, e = .returned x ∧ vr w I ρ σ v x
  | .pan v, e => ∃ x, e = .panicked [{ v := x, recovered := false }] ∧ vr w I ρ σ v x

/-- What is asked of a run's end. -/
def Fin (n : Nat) (w : World) (I : Nat → Prop) (ρ : LM) (σ : Store) (Q : AE → Store → Prop) (e : Ending) (w' : World) : Prop :=
  ∃ I' ρ' σ' r, Q r σ' ∧ erel w' I' ρ' σ' r e ∧ ORel w' I' ρ' σ' ∧ Ext n w I ρ σ w' I' ρ' σ'

theorem Fin.trans {n : Nat} {w w1 w' : World} {I I1 : Nat → Prop} {ρ ρ1 : LM} {σ σ1 : Store} {Q : AE → Store → Prop} {e : Ending} (hx : Ext n w I ρ σ w1 I1 ρ1 σ1) (h : Fin n w1 I1 ρ1 σ1 Q e w') : Fin n w I ρ σ Q e w' := by
  obtain ⟨I', ρ', σ', r, h1, h2, h3, h4⟩ := h
  exact ⟨I', ρ', σ', r, h1, h2, h3, hx.trans h4⟩

/-- Deferred calls: so far those that loops over functions lay. -/
def dfr (ρ : LM) (σ : Store) : List Nat → List Deferred → Prop
  | [], ds => ds = []
  | l :: ls, ds => ∃ L ds', ρ l = some L ∧ σ[l]? = some .defd ∧ ds = { target := .collected L.b, args := #[] } :: ds' ∧ dfr ρ σ ls ds'

/-- The loop whose round the frame is. -/
def rbOf (ρ : LM) (σ : Store) : Option Nat → Option Nat → Prop
  | none, rb => rb = none
  | some l, rb => ∃ L o, ρ l = some L ∧ σ[l]? = some o ∧ (∃ a b c d e f g, o = .loop a b c d e f g) ∧ rb = some L.b

/-- What a frame's slots and a store are, as they lie in a world. -/
structure Rel (w : World) (I : Nat → Prop) (ρ : LM) (σ : Store) (tm : List V) (df : List Nat) (a : Act) : Prop where
  tms : vrL w I ρ σ tm a.tmps.toList
  ors : ORel w I ρ σ
  dfs : dfr ρ σ df a.defers

/-- FROM HERE ON ALL GOES WELL: whatever world the state is read in, the frame comes to an end of which Q holds. 'n': so many locations are the caller's. -/
def AW (P : Program) (f : FuncId) (ro : Option Nat) (n : Nat) (todo : List Item) (tm : List V) (σ : Store) (df : List Nat) (Q : AE → Store → Prop) : Prop :=
  ∀ w I ρ a rb, Rel w I ρ σ tm df a → rbOf ρ σ ro rb → n ≤ σ.length → RunsTo P f rb todo a w (Fin n w I ρ σ Q)

section control
variable {P : Program} {f : FuncId} {ro : Option Nat} {n : Nat} {k : List Item} {tm : List V} {σ : Store} {df : List Nat} {Q : AE → Store → Prop}
theorem AW.same {k' : List Item} (hs : ∀ rb a cs w, step P (lone (frm f rb a k') cs w) = .next (lone (frm f rb a k) cs w)) (h : AW P f ro n k tm σ df Q) : AW P f ro n k' tm σ df Q :=
  fun w I ρ a rb hr hb hn => .step (hs rb a · w) (h w I ρ a rb hr hb hn)
theorem AW.skip (h : AW P f ro n k tm σ df Q) : AW P f ro n (.code .skip :: k) tm σ df Q := h.same fun _ _ _ _ => st_skip
theorem AW.label {l : Nat} (h : AW P f ro n k tm σ df Q) : AW P f ro n (.code (.label l) :: k) tm σ df Q := h.same fun _ _ _ _ => st_label
theorem AW.inBlock {id : Nat} (h : AW P f ro n k tm σ df Q) : AW P f ro n (.inBlock id :: k) tm σ df Q := h.same fun _ _ _ _ => st_inBlock
theorem AW.inScope {c : Code} (h : AW P f ro n k tm σ df Q) : AW P f ro n (.inScope c :: k) tm σ df Q := h.same fun _ _ _ _ => st_inScope
theorem AW.seq {x y : Code} (h : AW P f ro n (.code x :: .code y :: k) tm σ df Q) : AW P f ro n (.code (.seq x y) :: k) tm σ df Q := h.same fun _ _ _ _ => st_seq
theorem AW.block {id : Nat} {c : Code} (h : AW P f ro n (.code c :: .inBlock id :: k) tm σ df Q) : AW P f ro n (.code (.block id c) :: k) tm σ df Q := h.same fun _ _ _ _ => st_block
theorem AW.scope {c : Code} (h : AW P f ro n (.code c :: .inScope c :: k) tm σ df Q) : AW P f ro n (.code (.scope c) :: k) tm σ df Q := h.same fun _ _ _ _ => st_scope
theorem AW.loop {c : Code} (h : AW P f ro n (.code c :: .inLoop c :: k) tm σ df Q) : AW P f ro n (.code (.loop c) :: k) tm σ df Q := h.same fun _ _ _ _ => st_loop
theorem AW.inLoop {c : Code} (h : AW P f ro n (.code c :: .inLoop c :: k) tm σ df Q) : AW P f ro n (.inLoop c :: k) tm σ df Q := h.same fun _ _ _ _ => st_inLoop
theorem AW.exit {id : Nat} {k' : List Item} (he : exitTo id k = some k') (h : AW P f ro n k' tm σ df Q) : AW P f ro n (.code (.exit id) :: k) tm σ df Q := h.same fun _ _ _ _ => st_exit he
theorem AW.goto {l : Nat} {k' : List Item} (he : gotoIn l k = some k') (h : AW P f ro n k' tm σ df Q) : AW P f ro n (.code (.goto l) :: k) tm σ df Q := h.same fun _ _ _ _ => st_goto he
theorem AW.region {id : Nat} {ops : Array Oper} (h : AW P f ro n (.inRegion ops (List.range ops.size) :: k) tm σ df Q) : AW P f ro n (.code (.region id ops false) :: k) tm σ df Q := h.same fun _ _ _ _ => st_region
theorem AW.regionEnd {ops : Array Oper} (h : AW P f ro n k tm σ df Q) : AW P f ro n (.inRegion ops [] :: k) tm σ df Q := h.same fun _ _ _ _ => st_region_end
theorem AW.mono {Q' : AE → Store → Prop} (h : AW P f ro n k tm σ df Q) (hq : ∀ r σ', Q r σ' → Q' r σ') : AW P f ro n k tm σ df Q' :=
  fun w I ρ a rb hr hb hn => (h w I ρ a rb hr hb hn).mono fun _ _ ⟨I', ρ', σ', r, h1, h2⟩ => ⟨I', ρ', σ', r, hq _ _ h1, h2⟩
end control

/-- An operand's abstract value. -/
def cst : Value → V
  | .int k n => .d (.int k n)
  | .bool b => .d (.bool b)
  | .string s => .d (.str s)
  | .slice none 0 0 => .nils
  | .pointer none => .d (.raw (.pointer none))
  | .nilIface => .d (.raw .nilIface)
  | .nilFunc => .d (.raw .nilFunc)
  | .map none => .d (.raw (.map none))
  | _ => .undef
def ev (tm : List V) : Operand → V
  | .tmp t => tm.getD t .undef
  | .const v => cst v
  | .global _ => .undef
  | .func f => .fn (.func f) [] []

section evs
variable {w : World} {I : Nat → Prop} {ρ : LM} {σ : Store}
theorem vrL_get : ∀ {tm : List V} {xs : List Value}, vrL w I ρ σ tm xs → ∀ i (d : Value), vr w I ρ σ (tm.getD i .undef) (xs.getD i d)
  | [], xs, h, i, d => by simp [vr]
  | v :: tm, xs, h, i, d => by
    simp only [vrL] at h
    obtain ⟨x, xs', rfl, h1, h2⟩ := h
    cases i with
    | zero => simpa using h1
    | succ i => simpa using vrL_get h2 i d
theorem vrL_len : ∀ {tm : List V} {xs : List Value}, vrL w I ρ σ tm xs → xs.length = tm.length
  | [], xs, h => by simp only [vrL] at h; simp [h]
  | v :: tm, xs, h => by
    simp only [vrL] at h
    obtain ⟨x, xs', rfl, h1, h2⟩ := h
    simp [vrL_len h2]
theorem vrL_set : ∀ {tm : List V} {xs : List Value}, vrL w I ρ σ tm xs → ∀ i {v : V} {x : Value}, vr w I ρ σ v x → vrL w I ρ σ (tm.set i v) (xs.set i x)
  | [], xs, h, i, v, x, _ => by simp only [vrL] at h; subst h; simp [vrL]
  | u :: tm, xs, h, i, v, x, hv => by
    simp only [vrL] at h
    obtain ⟨y, xs', rfl, h1, h2⟩ := h
    cases i with
    | zero => simp only [List.set_cons_zero, vrL]; exact ⟨x, xs', rfl, hv, h2⟩
    | succ i => simp only [List.set_cons_succ, vrL]; exact ⟨y, _, rfl, h1, vrL_set h2 i hv⟩
theorem vrL_append : ∀ {t1 t2 : List V} {x1 x2 : List Value}, vrL w I ρ σ t1 x1 → vrL w I ρ σ t2 x2 → vrL w I ρ σ (t1 ++ t2) (x1 ++ x2)
  | [], t2, x1, x2, h1, h2 => by simp only [vrL] at h1; subst h1; simpa using h2
  | u :: t1, t2, x1, x2, h1, h2 => by
    simp only [vrL] at h1
    obtain ⟨y, xs', rfl, h3, h4⟩ := h1
    simp only [List.cons_append, vrL]
    exact ⟨y, xs' ++ x2, rfl, h3, vrL_append h4 h2⟩
theorem vrL_undef (m : Nat) (x : Value) : vrL w I ρ σ (List.replicate m .undef) (List.replicate m x) := by
  induction m with
  | zero => simp [vrL]
  | succ m ih => simp only [List.replicate_succ, vrL]; exact ⟨x, _, rfl, by simp [vr], ih⟩
theorem vr_cst (v : Value) : vr w I ρ σ (cst v) v := by
  unfold cst
  split <;> simp [vr, Dr, one, Value.oneCell']
theorem vr_ev {tm : List V} {a : Act} (h : vrL w I ρ σ tm a.tmps.toList) (x : Operand) : vr w I ρ σ (ev tm x) (a.eval x) := by
  cases x with
  | tmp t =>
    have := vrL_get h t undef
    simpa [ev, Act.eval] using this
  | const v => exact vr_cst v
  | global g => simp [ev, vr]
  | func g => simp [ev, vr, Act.eval, vrL]
end evs

/-- A slot is written. -/
def put (tm : List V) (d : Option Tmp) (v : V) : List V := match d with | some t => tm.set t v | none => tm
theorem vrL_put {w : World} {I : Nat → Prop} {ρ : LM} {σ : Store} {tm : List V} {a : Act} (h : vrL w I ρ σ tm a.tmps.toList) (d : Option Tmp) {v : V} {x : Value} (hv : vr w I ρ σ v x) :
    vrL w I ρ σ (put tm d v) (a.put d x).tmps.toList := by
  cases d with
  | none => simpa [put, Act.put] using h
  | some t => simpa [put, Act.put] using vrL_set h t hv
theorem put_defers (a : Act) (d : Option Tmp) (x : Value) : (a.put d x).defers = a.defers := by cases d <;> rfl

section conds
variable {P : Program} {f : FuncId} {ro : Option Nat} {n : Nat} {k : List Item} {tm : List V} {σ : Store} {df : List Nat} {Q : AE → Store → Prop}
theorem AW.cond {c : Operand} {x y : Code} {b : Bool} (hc : ev tm c = .d (.bool b)) (h1 : b = true → AW P f ro n (.code x :: k) tm σ df Q) (h2 : b = false → AW P f ro n (.code y :: k) tm σ df Q) :
    AW P f ro n (.code (.cond c x y) :: k) tm σ df Q := by
  intro w I ρ a rb hr hb hn
  have hv := vr_ev hr.tms c
  rw [hc] at hv
  simp only [vr, Dr] at hv
  refine .step (fun cs => st_cond hv) ?_
  cases b with
  | true => exact h1 rfl w I ρ a rb hr hb hn
  | false => exact h2 rfl w I ρ a rb hr hb hn
end conds
end Go.Br
