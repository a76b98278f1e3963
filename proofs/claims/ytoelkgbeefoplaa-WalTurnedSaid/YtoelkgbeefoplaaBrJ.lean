/- The base of these proofs, part J: calls, the end of a function, states told with less. -/
import Derived.Test.YtoelkgbeefoplaaBrI
namespace Go.Br
open Go

def coArgs (P : Program) : List TypeId → List V → List V
  | t :: ts, v :: vs => co P t v :: coArgs P ts vs
  | _, vs => vs
section
variable {P : Program} {w w' : World} {I I' : Nat → Prop} {ρ ρ' : LM} {σ σ' : Store}
theorem coArgs_rel : ∀ {ts : List TypeId} {vs : List V} {xs : List Value}, vrL w I ρ σ vs xs → vrL w I ρ σ (coArgs P ts vs) xs
  | [], vs, xs, h => by simpa [coArgs] using h
  | t :: ts, [], xs, h => by simpa [coArgs] using h
  | t :: ts, v :: vs, xs, h => by
    simp only [vrL, coArgs] at h ⊢
    obtain ⟨x, xs', rfl, h1, h2⟩ := h
    exact ⟨x, xs', rfl, co_rel h1, coArgs_rel h2⟩

/-- What is asked of a function that is called. -/
structure Fnc (P : Program) (g : FuncId) (fn : Func) (c : Code) : Prop where
  get : P.funcs[g]? = some fn
  body : fn.body = some c
  name : (fn.name == "runtime.NumGoroutine") = false

theorem exec_call {o : Oper} {a : Act} {x : Operand} {args : Array Operand} {ts : Array TypeId} {g : FuncId} {fn : Func} {c : Code} {fs cs : List Value} (ho : o.op = .call { callee := .value x, args, argTypes := ts })
    (hx : a.eval x = .func (.func g) fs.toArray cs.toArray) (hF : Fnc P g fn c) (w : World) :
    (execOp a.eval o).run P w = .ok (.enter g (fs ++ args.toList.map a.eval ++ cs).toArray) w := by
  have hargs : fs.toArray ++ args.map a.eval ++ cs.toArray = (fs ++ args.toList.map a.eval ++ cs).toArray := by
    apply Array.ext'; simp
  have hname := hF.name
  simp only [execOp, ho, resolve, hx, Deferred.ofValue, Sem.run_bind, Sem.run_pure, Result.andThen_ok, invoke, callFunc, run_program, hF.get]
  rw [if_neg (by simp [hname])]
  simp only [hF.body, Option.isNone_some, Bool.false_eq_true, if_false, Sem.run_pure, hargs]
end

section rules
variable {P : Program} {f : FuncId} {ro : Option Nat} {n : Nat} {k : List Item} {tm tm' : List V} {σ σ' : Store} {df : List Nat} {Q : AE → Store → Prop}
theorem AW.call {ops : Array Oper} {i : Nat} {rest : List Nat} {o : Oper} {x : Operand} {args : Array Operand} {ts : Array TypeId} {g : FuncId} {fn : Func} {c : Code} {first cap : List V} (m : List Nat) (cargs : List V) (σc : Store) {Qc : AE → Store → Prop}
    (hF : Fnc P g fn c) (hc : CallsA P g cargs σc Qc) (hi : ops[i]? = some o) (hw : wantA ops o tm = some true) (ho : o.op = .call { callee := .value x, args, argTypes := ts }) (hx : ev tm x = .fn (.func g) first cap)
    (hargs : coArgs P fn.params.toList (first ++ args.toList.map (ev tm) ++ cap) = V.renL (mp m σ.length) cargs) (hbel : (belB σc.length σc && (V.locsL cargs).all fun l => Nat.blt l σc.length) = true) (hwi : within σ m σc)
    (hk : ∀ r σc', Qc r σc' → ∃ v, r = .ret v ∧ AW P f ro n (.inRegion ops rest :: k) (put (V.killL (movedB m σc') tm) o.dst (v.ren (mp m σ.length))) (merge σ m σc') df Q) :
    AW P f ro n (.inRegion ops (i :: rest) :: k) tm σ df Q := by
  intro w I ρ a rb hr hb hn
  simp only [Bool.and_eq_true] at hbel
  have hE := emb_enter (ρ := ρ) hwi
  have hOc := orel_enter hr.ors hwi hbel.1
  have hxv := vr_ev hr.tms x
  rw [hx] at hxv
  simp only [vr] at hxv
  obtain ⟨fs, cs, hxe, hfs, hcs⟩ := hxv
  have hev : vrL w I ρ σ (first ++ args.toList.map (ev tm) ++ cap) (fs ++ args.toList.map a.eval ++ cs) := vrL_append (vrL_append hfs (ev_rel (fun y => vr_ev hr.tms y) _)) hcs
  have hev2 := coArgs_rel (P := P) (ts := fn.params.toList) hev
  rw [hargs] at hev2
  have hca : ∀ l ∈ V.locsL cargs, l < σc.length := fun l hl => by
    have := (List.all_eq_true.1 hbel.2) l hl
    simpa [Nat.blt_eq] using this
  have hcr := (vrL_ren hE cargs _ hca).1 hev2
  have hcalls := hc w I (rhoC m ρ) _ hcr hOc
  refine RunsTo.call hi (wantA_ok hw hr.tms) (by simp [ho, Op.isDefer]) (exec_call ho hxe hF w) (S := fun v w'' => ∃ I' ρc' σc' va, Qc (.ret va) σc' ∧ vr w'' I' ρc' σc' va v ∧ ORel w'' I' ρc' σc' ∧ Ext σc.length w I (rhoC m ρ) σc w'' I' ρc' σc') (hcalls.mono ?_) ?_
  · rintro e w'' ⟨I', ρc', σc', r, h1, h2, h3, h4⟩
    obtain ⟨v, rfl, _⟩ := hk r σc' h1
    obtain ⟨y, rfl, h5⟩ := h2
    exact ⟨y, rfl, I', ρc', σc', v, h1, h5, h3, h4⟩
  · rintro y w'' ⟨I', ρc', σc', va, h1, h2, h3, h4⟩
    obtain ⟨v, hv, hnext⟩ := hk _ σc' h1
    cases hv
    obtain ⟨g1, g2, g3, g4⟩ := leave hr.ors hwi h4 h3
    have hval := (vr_ren g1 va y (vr_locs va y h2)).2 h2
    have hst := g3.stays
    have := hnext w'' I' _ (a.put o.dst y) rb ⟨vrL_put (g4 tm _ hr.tms) o.dst hval, g2, by rw [put_defers]; exact dfr_stay hst hr.dfs⟩ (rbOf_stay hst hb) (Nat.le_trans hn g3.len)
    exact this.mono fun e w3 hfin => hfin.trans (g3.less hn)

def resF (tmps : Array Value) : ResultVar → Sem Value
  | .tmp t => pure (tmps.getD t Go.undef)
  | .cell a t => do loadVar t (← asAddr (tmps.getD a Go.undef))
/-- A result. -/
def resV (P : Program) (tm : List V) (σ : Store) : ResultVar → Option V
  | .tmp t => some (tm.getD t .undef)
  | .cell p t => if nilOf σ (tm.getD p .undef) = some false then loadV P σ t (tm.getD p .undef) else none
def resL (P : Program) (tm : List V) (σ : Store) : List ResultVar → Option (List V)
  | [] => some []
  | r :: rs => match resV P tm σ r with
    | some v => (resL P tm σ rs).map (v :: ·)
    | none => none
def resA (P : Program) (fn : Func) (tm : List V) (σ : Store) : Option V :=
  match resL P tm σ fn.results.toList with
  | some [v] => some v
  | some vs => some (.tuple vs)
  | none => none
theorem loadVar_ok {w : World} {I : Nat → Prop} {ρ : LM} {t : TypeId} {vx v : V} {a : Addr} (h : loadV P σ t vx = some v) (hx : vr w I ρ σ vx (.pointer (some a))) (hO : ORel w I ρ σ) : ∃ z, (loadVar t a).run P w = .ok z w ∧ vr w I ρ σ v z := by
  obtain ⟨z, h1, h2⟩ := loadV_ok (P := P) (o := { (default : Oper) with op := .load t (.tmp 0) }) (e := fun _ => .pointer (some a)) rfl h hx hO
  refine ⟨z, ?_, h2⟩
  simp only [execOp, Instr.loadAt, Instr.sureAddr, Sem.run_bind, Sem.run_pure, Result.andThen_ok] at h1
  cases hq : (loadVar t a).run P w with
  | ok y w2 => rw [hq] at h1; simp at h1; obtain ⟨rfl, rfl⟩ := h1; rfl
  | halt h w2 => rw [hq] at h1; simp at h1
theorem resV_ok {w : World} {I : Nat → Prop} {ρ : LM} {tmps : Array Value} (hr : vrL w I ρ σ tm tmps.toList) (hO : ORel w I ρ σ) {r : ResultVar} {v : V} (h : resV P tm σ r = some v) :
    ∃ z, (resF tmps r).run P w = .ok z w ∧ vr w I ρ σ v z := by
  cases r with
  | tmp t =>
    simp only [resV, Option.some.injEq] at h
    subst h
    have := vrL_get hr t Go.undef
    exact ⟨_, rfl, by simpa using this⟩
  | cell p t =>
    simp only [resV, Option.ite_none_right_eq_some] at h
    obtain ⟨hn, h⟩ := h
    have hp : vr w I ρ σ (tm.getD p .undef) (tmps.getD p Go.undef) := by simpa using vrL_get hr p Go.undef
    rcases nilOf_rel hn hp with ⟨hc, _⟩ | ⟨_, a, ha⟩
    · cases hc
    · rw [ha] at hp
      obtain ⟨z, h1, h2⟩ := loadVar_ok h hp hO
      exact ⟨z, by simp only [resF, ha, asAddr, Sem.run_bind, Sem.run_pure, Result.andThen_ok, h1], h2⟩
theorem resL_ok {w : World} {I : Nat → Prop} {ρ : LM} {tmps : Array Value} (hr : vrL w I ρ σ tm tmps.toList) (hO : ORel w I ρ σ) : ∀ {rs : List ResultVar} {vs : List V}, resL P tm σ rs = some vs →
    ∃ zs, (rs.mapM (resF tmps)).run P w = .ok zs w ∧ vrL w I ρ σ vs zs
  | [], vs, h => by simp only [resL, Option.some.injEq] at h; subst h; exact ⟨[], by simp, by simp [vrL]⟩
  | r :: rs, vs, h => by
    simp only [resL] at h
    split at h
    · rename_i v hv
      simp only [Option.map_eq_some_iff] at h
      obtain ⟨vs', h1, rfl⟩ := h
      obtain ⟨z, h2, h3⟩ := resV_ok hr hO hv
      obtain ⟨zs, h4, h5⟩ := resL_ok hr hO h1
      refine ⟨z :: zs, ?_, ?_⟩
      · rw [List.mapM_cons, Sem.run_bind, h2]
        simp only [Result.andThen_ok, Sem.run_bind, h4, Sem.run_pure]
      · simp only [vrL]; exact ⟨z, zs, rfl, h3, h5⟩
    · cases h
theorem resA_ok {w : World} {I : Nat → Prop} {ρ : LM} {tmps : Array Value} {fn : Func} {v : V} (hr : vrL w I ρ σ tm tmps.toList) (hO : ORel w I ρ σ) (h : resA P fn tm σ = some v) :
    ∃ z, (results fn tmps).run P w = .ok z w ∧ vr w I ρ σ v z := by
  unfold resA at h
  have key : ∀ vs, resL P tm σ fn.results.toList = some vs → ∃ zs : List Value, (results fn tmps).run P w = .ok (if h : zs.toArray.size = 1 then zs.toArray[0] else .tuple zs.toArray) w ∧ vrL w I ρ σ vs zs := by
    intro vs hvs
    obtain ⟨zs, h1, h2⟩ := resL_ok hr hO hvs
    refine ⟨zs, ?_, h2⟩
    unfold results
    rw [Sem.run_bind, Array.mapM_eq_mapM_toList, Sem.run_map]
    have hF0 : ∀ F : ResultVar → Sem Value, (∀ r, F r = resF tmps r) → (List.mapM F fn.results.toList).run P w = .ok zs w := fun F hF => by rw [funext hF]; exact h1
    rw [hF0 _ (fun r => by cases r <;> rfl)]
    simp
  split at h
  · rename_i v' hv
    cases h
    obtain ⟨zs, h1, h2⟩ := key _ hv
    simp only [vrL] at h2
    obtain ⟨z, zs', rfl, h3, rfl⟩ := h2
    exact ⟨z, by simpa using h1, h3⟩
  · rename_i vs hne hv
    cases h
    obtain ⟨zs, h1, h2⟩ := key _ hv
    have hlen := vrL_len h2
    have : zs.toArray.size ≠ 1 := by
      simp only [List.size_toArray, hlen]
      intro e
      match vs, e with
      | [u], _ => exact hne u rfl
    rw [dif_neg this] at h1
    exact ⟨_, h1, by simp only [vr]; exact ⟨zs, rfl, h2⟩⟩
  · cases h

theorem dfr_set {ρ : LM} {l : Nat} {o : O} : ∀ {df : List Nat} {ds : List Deferred}, l ∉ df → dfr ρ σ df ds → dfr ρ (σ.set l o) df ds
  | [], ds, _, h => by simpa [dfr] using h
  | x :: xs, ds, hnm, h => by
    simp only [dfr] at h ⊢
    obtain ⟨K, ds2, k1, k2, k3, k4⟩ := h
    simp only [List.mem_cons, not_or] at hnm
    exact ⟨K, ds2, k1, by rw [getElem?_set_ne (Ne.symm hnm.1)]; exact k2, k3, dfr_set hnm.2 k4⟩
/-- A frame that has come to its end, its deferred calls still to be done. -/
theorem returning {fn : Func} (hf : P.funcs[f]? = some fn) : ∀ (df : List Nat) (σ : Store) (w : World) (I : Nat → Prop) (ρ : LM) (a : Act) (todo : List Item) (v : V),
    Rel w I ρ σ tm df a → n ≤ σ.length → df.Nodup → (∀ l ∈ df, n ≤ l) → resA P fn tm (df.foldl (fun s l => s.set l .dead) σ) = some v → Q (.ret v) (df.foldl (fun s l => s.set l .dead) σ) →
    ∀ cs, ∃ e w1 w' fr, Fin n w I ρ σ Q e w' ∧ Steps P (lone { frm f none a todo with mode := .returning } cs w) (lone fr cs w1) ∧ Lv P none f fr w1 e w'
  | [], σ, w, I, ρ, a, todo, v, hr, hn, _, _, hres, hq, cs => by
    obtain ⟨z, h1, h2⟩ := resA_ok hr.tms hr.ors hres
    refine ⟨.returned z, w, w, _, ⟨I, ρ, σ, .ret v, hq, ⟨z, rfl, h2⟩, hr.ors, (Ext.refl w I ρ σ).less hn⟩, Steps.refl _ _, rfl, rfl, ⟨rfl, hr.dfs, rfl, fn, hf, h1⟩, by simp⟩
  | l :: df, σ, w, I, ρ, a, todo, v, hr, hn, hnd, hge, hres, hq, cs => by
    have hd := hr.dfs
    simp only [dfr] at hd
    obtain ⟨L, ds', hL, hs, hds, hrest⟩ := hd
    have hlt : l < σ.length := (List.getElem?_eq_some_iff.1 hs).1
    have hob := hr.ors.objs l _ hs
    simp only [orel] at hob
    obtain ⟨L', hL', hh⟩ := hob
    rw [hL] at hL'; cases hL'
    obtain ⟨w2, hw2⟩ : ∃ w2 : World, w2 = { w with heap := w.heap.setIfInBounds L.b (.deferred none) } := ⟨_, rfl⟩
    have hother : ∀ b, b ≠ L.b → w2.heap[b]? = w.heap[b]? := fun b hb => by subst hw2; simp [Ne.symm hb]
    have hsize : w2.heap.size = w.heap.size := by subst hw2; simp
    have hstep : step P (lone { frm f none a todo with mode := .returning } cs w) = .next (lone { frm f none ⟨a.tmps, ds'⟩ todo with mode := .returning } cs w2) := by
      refine step_lone_go ?_
      have hrun : (Instr.takeDeferred L.b).run P w = .ok [] w2 := by
        subst hw2
        simp only [Instr.takeDeferred, getObj, setObj, Sem.run_bind, Sem.run, hh, Result.andThen_ok]
        rfl
      simp [stepG, unwind, frm, hds, hrun]
    have hlive : live σ l := ⟨_, hs, by simp⟩
    have hO2 : ORel w2 I ρ (σ.set l .dead) := hr.ors.upd hs (by simp) hL (by simp [O.alike, O.rl]) hother hsize (by simp [orel])
    have hdead : ∀ x, live (σ.set l .dead) x → x ≠ l := by
      rintro x ⟨o, h1, h2⟩ rfl
      rw [List.getElem?_set_self hlt] at h1
      cases h1
      exact h2 rfl
    have hO3 : ORel w2 I ρ (σ.set l .dead) := hO2
    have hX : Ext n w I ρ σ w2 I ρ (σ.set l .dead) := by
      refine ⟨by omega, by subst hw2; rfl, by subst hw2; rfl, by subst hw2; rfl, fun b _ hb => hother b fun e => hb ⟨l, _, L, hs, by simp, hL, e.symm⟩, fun _ h => h, fun _ h => .inl h, fun b h => .inl (foot_set hlive h), by simpa using hn, fun x _ h => live_set hlive h, fun x o' hx h1 h2 => ⟨rfl, ?_⟩, fun x o hx h1 _ => ?_⟩
      · have hne : x ≠ l := fun e => by have := hge l (by simp); omega
        rw [getElem?_set_ne hne] at h1
        exact ⟨o', h1, h2, rfl⟩
      · have hne : x ≠ l := fun e => by have := hge l (by simp); omega
        exact ⟨o, by rw [getElem?_set_ne hne]; exact h1, rfl⟩
    have htms : vrL w2 I ρ (σ.set l .dead) tm a.tmps.toList :=
      vrL_all (fun b hb => ⟨hb, hother b fun e => (hr.ors.imm b hb).2 ⟨l, _, L, hs, by simp, hL, e.symm⟩⟩) (same_set hs (by simp) (by simp [O.alike, O.rl])) hr.tms
    have hdf2 : dfr ρ (σ.set l .dead) df ds' :=
       dfr_set (List.nodup_cons.1 hnd).1 hrest
    obtain ⟨e, w1, w', fr, h1, h2, h3⟩ := returning hf df (σ.set l .dead) w2 I ρ ⟨a.tmps, ds'⟩ todo v ⟨htms, hO3, hdf2⟩ (by simpa using hn) (List.nodup_cons.1 hnd).2 (fun x hx => hge x (by simp [hx])) hres hq cs
    exact ⟨e, w1, w', fr, h1.trans hX, .head hstep h2, h3⟩
theorem AW.ret {fn : Func} {c : Code} {v : V} (hF : Fnc P f fn c) (hd : nodupB df = true ∧ (df.all fun l => Nat.ble n l) = true) (hres : resA P fn tm (df.foldl (fun s l => s.set l .dead) σ) = some v) (hq : Q (.ret v) (df.foldl (fun s l => s.set l .dead) σ)) :
    AW P f none n (.code .ret :: k) tm σ df Q := by
  intro w I ρ a rb hr hb hn cs
  cases hb
  obtain ⟨e, w1, w', fr, h1, h2, h3⟩ := returning hF.get df σ w I ρ a (.code .ret :: k) v hr hn (nodupB_ok hd.1) (fun l hl => by have := (List.all_eq_true.1 hd.2) l hl; simpa using this) hres hq cs
  exact ⟨e, w1, w', fr, h1, .head st_ret h2, h3⟩
theorem AW.fin {fn : Func} {c : Code} {v : V} (hF : Fnc P f fn c) (hd : nodupB df = true ∧ (df.all fun l => Nat.ble n l) = true) (hres : resA P fn tm (df.foldl (fun s l => s.set l .dead) σ) = some v) (hq : Q (.ret v) (df.foldl (fun s l => s.set l .dead) σ)) :
    AW P f none n [] tm σ df Q := by
  intro w I ρ a rb hr hb hn cs
  cases hb
  obtain ⟨e, w1, w', fr, h1, h2, h3⟩ := returning hF.get df σ w I ρ a [] v hr hn (nodupB_ok hd.1) (fun l hl => by have := (List.all_eq_true.1 hd.2) l hl; simpa using this) hres hq cs
  exact ⟨e, w1, w', fr, h1, .head st_end h2, h3⟩
end rules
end Go.Br
