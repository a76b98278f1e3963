/- Part 2 of this proof. -/
import Derived.Test.YtoelkgbeefoplaaM1
namespace Go.Br
open Go
variable {o : Oper} {tm : List V} {v : V} {t : TypeId} {w : World} {I : Nat → Prop} {xs : List D} {c : Code} {ρ : LM} {mv : Bool} {fn : Func} {sz : Nat} {a : Act} {l : Nat}
def coArgs (P : Program) : List TypeId → List V → List V
  | t :: ts, v :: vs => coA P t v :: coArgs P ts vs
  | _, vs => vs
section
variable {P : Program} {w w' : World} {I I' : Nat → Prop} {ρ ρ' : LM} {σ σ' : Store}
theorem coArgs_rel : ∀ {ts : List TypeId} {vs : List V} {xs : List Value}, vrL w I ρ σ vs xs → vrL w I ρ σ (coArgs P ts vs) xs
 | [], vs, xs, h => by simpa [coArgs] using h
 | t :: ts, [], xs, h => by simpa [coArgs] using h
 | t :: ts, v :: vs, xs, h => by
   simp only [vrL, coArgs] at h ⊢
   obtain ⟨x, xs', rfl, h1, h2⟩ := h
   exact ⟨x, xs', rfl, coA_rel h1, coArgs_rel h2⟩
structure Fnc (P : Program) (g : FuncId) (fn : Func) (c : Code) : Prop where
  get : P.funcs[g]? = some fn
  body : fn.body = some c
  name : (fn.name == "runtime.NumGoroutine") = false
theorem exec_call {x : Operand} {args : Array Operand} {ts : Array TypeId} {g : FuncId} {fs cs : List Value} (ho : o.op = .call { callee := .value x, args, argTypes := ts })
  (hx : a.eval x = .func (.func g) fs.toArray cs.toArray) (hF : Fnc P g fn c) (w : World) :
  (execOp a.eval o).run P w = .ok (.enter g (fs ++ args.toList.map a.eval ++ cs).toArray) w := by
 have hargs : fs.toArray ++ args.map a.eval ++ cs.toArray = (fs ++ args.toList.map a.eval ++ cs).toArray := by
  apply Array.ext'; simp
 have hname := hF.name
 simp only [execOp, ho, resolve, hx, Deferred.ofValue, Sem.run_bind, Sem.run_pure, Result.andThen_ok, invoke, callFunc, run_program, hF.get]
 rw [if_neg (by simp [hname])]
 simp only [hF.body, Option.isNone_some, Bool.false_eq_true, if_false, Sem.run_pure, hargs]
end
section rules
variable {P : Program} {f : FuncId} {ro : Option Nat} {n : Nat} {k : List Item} {tm tm' : List V} {σ σ' : Store} {df : List Nat} {Q : AE → Store → Prop}
theorem AW.call {ops : Array Oper} {i : Nat} {rest : List Nat} {x : Operand} {args : Array Operand} {ts : Array TypeId} {g : FuncId} {first cap : List V} (m : List Nat) (cargs : List V) (σc : Store) {Qc : AE → Store → Prop}
   (hF : Fnc P g fn c) (hc : CallsA P g cargs σc Qc) (hi : ops[i]? = some o) (hw : wantA ops o tm = some true) (ho : o.op = .call { callee := .value x, args, argTypes := ts }) (hx : ev tm x = .fn (.func g) first cap)
   (hargs : coArgs P fn.params.toList (first ++ args.toList.map (ev tm) ++ cap) = V.renL (mp m σ.length) cargs) (hbel : (belB σc.length σc && (V.locsL cargs).all fun l => Nat.blt l σc.length) = true) (hwi : within σ m σc)
   (hk : ∀ r σc', Qc r σc' → ∃ v, r = .ret v ∧ AW P f ro n (.inRegion ops rest :: k) (put (V.killL (movedB m σc') tm) o.dst (v.ren (mp m σ.length))) (merge σ m σc') df Q) :
   AW P f ro n (.inRegion ops (i :: rest) :: k) tm σ df Q := by
 intro w I ρ a rb hr hb hn
 simp only [Bool.and_eq_true] at hbel
 have hE := emb_enter (ρ := ρ) hwi
 have hOc := orel_enter hr.ors hwi hbel.1
 have hxv := vr_ev hr.tms x
 rw [hx] at hxv
 simp only [vr] at hxv
 obtain ⟨fs, cs, hxe, hfs, hcs⟩ := hxv
 have hev : vrL w I ρ σ (first ++ args.toList.map (ev tm) ++ cap) (fs ++ args.toList.map a.eval ++ cs) := vrL_append (vrL_append hfs (ev_rel (fun y => vr_ev hr.tms y) _)) hcs
 have hev2 := coArgs_rel (P := P) (ts := fn.params.toList) hev
 rw [hargs] at hev2
 have hca : ∀ l ∈ V.locsL cargs, l < σc.length := fun l hl => by
   have := (List.all_eq_true.1 hbel.2) l hl
   simpa [Nat.blt_eq] using this
 have hcr := (vrL_ren hE cargs _ hca).1 hev2
 have hcalls := hc w I (rhoC m ρ) _ hcr hOc
 refine RunsTo.call hi (wantA_ok hw hr.tms) (by simp [ho, Op.isDefer]) (exec_call ho hxe hF w) (S := fun v w'' => ∃ I' ρc' σc' va, Qc (.ret va) σc' ∧ vr w'' I' ρc' σc' va v ∧ ORel w'' I' ρc' σc' ∧ Ext σc.length w I (rhoC m ρ) σc w'' I' ρc' σc') (hcalls.mono ?_) ?_
 · rintro e w'' ⟨I', ρc', σc', r, h1, h2, h3, h4⟩
   obtain ⟨v, rfl, _⟩ := hk r σc' h1
   obtain ⟨y, rfl, h5⟩ := h2
   exact ⟨y, rfl, I', ρc', σc', v, h1, h5, h3, h4⟩
 · rintro y w'' ⟨I', ρc', σc', va, h1, h2, h3, h4⟩
   obtain ⟨v, hv, hnext⟩ := hk _ σc' h1
   cases hv
   obtain ⟨g1, g2, g3, g4⟩ := leave hr.ors hwi h4 h3
   have hval := (vr_ren g1 va y (vr_locs va y h2)).2 h2
   have hst := g3.stays
   have := hnext w'' I' _ (a.put o.dst y) rb ⟨vrL_put (g4 tm _ hr.tms) o.dst hval, g2, by rw [put_defers]; exact dfr_stay hst hr.dfs⟩ (rbOf_stay hst hb) (Nat.le_trans hn g3.len)
   exact this.mono fun e w3 hfin => hfin.trans (g3.less hn)
def resF (tmps : Array Value) : ResultVar → Sem Value
  | .tmp t => pure (tmps.getD t Go.undef)
  | .cell a t => do loadVar t (← asAddr (tmps.getD a Go.undef))
def resV (P : Program) (tm : List V) (σ : Store) : ResultVar → Option V
  | .tmp t => some (tm.getD t .undef)
  | .cell p t => if nilOf σ (tm.getD p .undef) = some false then loadV P σ t (tm.getD p .undef) else none
def resL (P : Program) (tm : List V) (σ : Store) : List ResultVar → Option (List V)
  | [] => some []
  | r :: rs => match resV P tm σ r with
    | some v => (resL P tm σ rs).map (v :: ·)
    | none => none
def resA (P : Program) (fn : Func) (tm : List V) (σ : Store) : Option V :=
  match resL P tm σ fn.results.toList with
  | some [v] => some v
  | some vs => some (.tuple vs)
  | none => none
theorem loadVar_ok {vx v : V} {a : Addr} (h : loadV P σ t vx = some v) (hx : vr w I ρ σ vx (.pointer (some a))) (hO : ORel w I ρ σ) : ∃ z, (loadVar t a).run P w = .ok z w ∧ vr w I ρ σ v z := by
 obtain ⟨z, h1, h2⟩ := loadV_ok (P := P) (o := { (default : Oper) with op := .load t (.tmp 0) }) (e := fun _ => .pointer (some a)) rfl h hx hO
 refine ⟨z, ?_, h2⟩
 simp only [execOp, Instr.loadAt, Instr.sureAddr, Sem.run_bind, Sem.run_pure, Result.andThen_ok] at h1
 cases hq : (loadVar t a).run P w with
 | ok y w2 => rw [hq] at h1; simp at h1; obtain ⟨rfl, rfl⟩ := h1; rfl
 | halt h w2 => rw [hq] at h1; simp at h1
theorem resV_ok {tmps : Array Value} (hr : vrL w I ρ σ tm tmps.toList) (hO : ORel w I ρ σ) {r : ResultVar} (h : resV P tm σ r = some v) :
   ∃ z, (resF tmps r).run P w = .ok z w ∧ vr w I ρ σ v z := by
 cases r with
 | tmp t =>
   simp only [resV, Option.some.injEq] at h
   subst h
   have := vrL_get hr t Go.undef
   exact ⟨_, rfl, by simpa using this⟩
 | cell p t =>
   simp only [resV, Option.ite_none_right_eq_some] at h
   obtain ⟨hn, h⟩ := h
   have hp : vr w I ρ σ (tm.getD p .undef) (tmps.getD p Go.undef) := by simpa using vrL_get hr p Go.undef
   rcases nilOf_rel hn hp with ⟨hc, _⟩ | ⟨_, a, ha⟩
   · cases hc
   · rw [ha] at hp
     obtain ⟨z, h1, h2⟩ := loadVar_ok h hp hO
     exact ⟨z, by simp only [resF, ha, asAddr, Sem.run_bind, Sem.run_pure, Result.andThen_ok, h1], h2⟩
theorem resL_ok {tmps : Array Value} (hr : vrL w I ρ σ tm tmps.toList) (hO : ORel w I ρ σ) : ∀ {rs : List ResultVar} {vs : List V}, resL P tm σ rs = some vs →
    ∃ zs, (rs.mapM (resF tmps)).run P w = .ok zs w ∧ vrL w I ρ σ vs zs
  | [], vs, h => by simp only [resL, Option.some.injEq] at h; subst h; exact ⟨[], by simp, by simp [vrL]⟩
  | r :: rs, vs, h => by
    simp only [resL] at h
    split at h
    · rename_i v hv
      simp only [Option.map_eq_some_iff] at h
      obtain ⟨vs', h1, rfl⟩ := h
      obtain ⟨z, h2, h3⟩ := resV_ok hr hO hv
      obtain ⟨zs, h4, h5⟩ := resL_ok hr hO h1
      refine ⟨z :: zs, ?_, ?_⟩
      · rw [List.mapM_cons, Sem.run_bind, h2]
        simp only [Result.andThen_ok, Sem.run_bind, h4, Sem.run_pure]
      · simp only [vrL]; exact ⟨z, zs, rfl, h3, h5⟩
    · cases h
theorem resA_ok {tmps : Array Value} (hr : vrL w I ρ σ tm tmps.toList) (hO : ORel w I ρ σ) (h : resA P fn tm σ = some v) :
   ∃ z, (results fn tmps).run P w = .ok z w ∧ vr w I ρ σ v z := by
 unfold resA at h
 have key : ∀ vs, resL P tm σ fn.results.toList = some vs → ∃ zs : List Value, (results fn tmps).run P w = .ok (if h : zs.toArray.size = 1 then zs.toArray[0] else .tuple zs.toArray) w ∧ vrL w I ρ σ vs zs := by
   intro vs hvs
   obtain ⟨zs, h1, h2⟩ := resL_ok hr hO hvs
   refine ⟨zs, ?_, h2⟩
   unfold results
   rw [Sem.run_bind, Array.mapM_eq_mapM_toList, Sem.run_map]
   have hF0 : ∀ F : ResultVar → Sem Value, (∀ r, F r = resF tmps r) → (List.mapM F fn.results.toList).run P w = .ok zs w := fun F hF => by rw [funext hF]; exact h1
   rw [hF0 _ (fun r => by cases r <;> rfl)]
   simp
 split at h
 · rename_i v' hv
   cases h
   obtain ⟨zs, h1, h2⟩ := key _ hv
   simp only [vrL] at h2
   obtain ⟨z, zs', rfl, h3, rfl⟩ := h2
   exact ⟨z, by simpa using h1, h3⟩
 · rename_i vs hne hv
   cases h
   obtain ⟨zs, h1, h2⟩ := key _ hv
   have hlen := vrL_len h2
   have : zs.toArray.size ≠ 1 := by
    simp only [List.size_toArray, hlen]
    intro e
    match vs, e with
    | [u], _ => exact hne u rfl
   rw [dif_neg this] at h1
   exact ⟨_, h1, by simp only [vr]; exact ⟨zs, rfl, h2⟩⟩
 · cases h
theorem dfr_set {o : O} : ∀ {df : List Nat} {ds : List Deferred}, l ∉ df → dfr ρ σ df ds → dfr ρ (σ.set l o) df ds
 | [], ds, _, h => by simpa [dfr] using h
 | x :: xs, ds, hnm, h => by
   simp only [dfr] at h ⊢
   obtain ⟨K, ds2, k1, k2, k3, k4⟩ := h
   simp only [List.mem_cons, not_or] at hnm
   exact ⟨K, ds2, k1, by rw [getElem?_set_ne (Ne.symm hnm.1)]; exact k2, k3, dfr_set hnm.2 k4⟩
theorem returning (hf : P.funcs[f]? = some fn) : ∀ (df : List Nat) (σ : Store) (w : World) (I : Nat → Prop) (ρ : LM) (a : Act) (todo : List Item) (v : V),
    Rel w I ρ σ tm df a → n ≤ σ.length → df.Nodup → (∀ l ∈ df, n ≤ l) → resA P fn tm (df.foldl (fun s l => s.set l .dead) σ) = some v → Q (.ret v) (df.foldl (fun s l => s.set l .dead) σ) →
    ∀ cs, ∃ e w1 w' fr, Fin n w I ρ σ Q e w' ∧ Steps P (lone { frm f none a todo with mode := .returning } cs w) (lone fr cs w1) ∧ Lv P none f fr w1 e w'
  | [], σ, w, I, ρ, a, todo, v, hr, hn, _, _, hres, hq, cs => by
    obtain ⟨z, h1, h2⟩ := resA_ok hr.tms hr.ors hres
    refine ⟨.returned z, w, w, _, ⟨I, ρ, σ, .ret v, hq, ⟨z, rfl, h2⟩, hr.ors, (Ext.refl w I ρ σ).less hn⟩, Steps.refl _ _, rfl, rfl, ⟨rfl, hr.dfs, rfl, fn, hf, h1⟩, by simp⟩
  | l :: df, σ, w, I, ρ, a, todo, v, hr, hn, hnd, hge, hres, hq, cs => by
    have hd := hr.dfs
    simp only [dfr] at hd
    obtain ⟨L, ds', hL, hs, hds, hrest⟩ := hd
    have hlt : l < σ.length := (List.getElem?_eq_some_iff.1 hs).1
    have hob := hr.ors.objs l _ hs
    simp only [orel] at hob
    obtain ⟨L', hL', hh⟩ := hob
    rw [hL] at hL'; cases hL'
    obtain ⟨w2, hw2⟩ : ∃ w2 : World, w2 = { w with heap := w.heap.setIfInBounds L.b (.deferred none) } := ⟨_, rfl⟩
    have hother : ∀ b, b ≠ L.b → w2.heap[b]? = w.heap[b]? := fun b hb => by subst hw2; simp [Ne.symm hb]
    have hsize : w2.heap.size = w.heap.size := by subst hw2; simp
    have hstep : step P (lone { frm f none a todo with mode := .returning } cs w) = .next (lone { frm f none ⟨a.tmps, ds'⟩ todo with mode := .returning } cs w2) := by
      refine step_lone_go ?_
      have hrun : (Instr.takeDeferred L.b).run P w = .ok [] w2 := by
        subst hw2
        simp only [Instr.takeDeferred, getObj, setObj, Sem.run_bind, Sem.run, hh, Result.andThen_ok]
        rfl
      simp [stepG, unwind, frm, hds, hrun]
    have hlive : live σ l := ⟨_, hs, by simp⟩
    have hO2 : ORel w2 I ρ (σ.set l .dead) := hr.ors.upd hs (by simp) hL (by simp [O.alike, O.rl]) hother hsize (by simp [orel])
    have hdead : ∀ x, live (σ.set l .dead) x → x ≠ l := by
      rintro x ⟨o, h1, h2⟩ rfl
      rw [List.getElem?_set_self hlt] at h1
      cases h1
      exact h2 rfl
    have hO3 : ORel w2 I ρ (σ.set l .dead) := hO2
    have hX : Ext n w I ρ σ w2 I ρ (σ.set l .dead) := by
      refine ⟨by omega, by subst hw2; rfl, by subst hw2; rfl, by subst hw2; rfl, fun b _ hb => hother b fun e => hb ⟨l, _, L, hs, by simp, hL, e.symm⟩, fun _ h => h, fun _ h => .inl h, fun b h => .inl (foot_set hlive h), by simpa using hn, fun x _ h => live_set hlive h, fun x o' hx h1 h2 => ⟨rfl, ?_⟩, fun x o hx h1 _ => ?_⟩
      · have hne : x ≠ l := fun e => by have := hge l (by simp); omega
        rw [getElem?_set_ne hne] at h1
        exact ⟨o', h1, h2, rfl⟩
      · have hne : x ≠ l := fun e => by have := hge l (by simp); omega
        exact ⟨o, by rw [getElem?_set_ne hne]; exact h1, rfl⟩
    have htms : vrL w2 I ρ (σ.set l .dead) tm a.tmps.toList :=
      vrL_all (fun b hb => ⟨hb, hother b fun e => (hr.ors.imm b hb).2 ⟨l, _, L, hs, by simp, hL, e.symm⟩⟩) (same_set hs (by simp) (by simp [O.alike, O.rl])) hr.tms
    have hdf2 : dfr ρ (σ.set l .dead) df ds' :=
       dfr_set (List.nodup_cons.1 hnd).1 hrest
    obtain ⟨e, w1, w', fr, h1, h2, h3⟩ := returning hf df (σ.set l .dead) w2 I ρ ⟨a.tmps, ds'⟩ todo v ⟨htms, hO3, hdf2⟩ (by simpa using hn) (List.nodup_cons.1 hnd).2 (fun x hx => hge x (by simp [hx])) hres hq cs
    exact ⟨e, w1, w', fr, h1.trans hX, .head hstep h2, h3⟩
theorem AW.ret (hF : Fnc P f fn c) (hd : nodupB df = true ∧ (df.all fun l => Nat.ble n l) = true) (hres : resA P fn tm (df.foldl (fun s l => s.set l .dead) σ) = some v) (hq : Q (.ret v) (df.foldl (fun s l => s.set l .dead) σ)) :
  AW P f none n (.code .ret :: k) tm σ df Q := by
 intro w I ρ a rb hr hb hn cs
 cases hb
 obtain ⟨e, w1, w', fr, h1, h2, h3⟩ := returning hF.get df σ w I ρ a (.code .ret :: k) v hr hn (nodupB_ok hd.1) (fun l hl => by have := (List.all_eq_true.1 hd.2) l hl; simpa using this) hres hq cs
 exact ⟨e, w1, w', fr, h1, .head st_ret h2, h3⟩
theorem AW.fin (hF : Fnc P f fn c) (hd : nodupB df = true ∧ (df.all fun l => Nat.ble n l) = true) (hres : resA P fn tm (df.foldl (fun s l => s.set l .dead) σ) = some v) (hq : Q (.ret v) (df.foldl (fun s l => s.set l .dead) σ)) :
  AW P f none n [] tm σ df Q := by
 intro w I ρ a rb hr hb hn cs
 cases hb
 obtain ⟨e, w1, w', fr, h1, h2, h3⟩ := returning hF.get df σ w I ρ a [] v hr hn (nodupB_ok hd.1) (fun l hl => by have := (List.all_eq_true.1 hd.2) l hl; simpa using this) hres hq cs
 exact ⟨e, w1, w', fr, h1, .head st_end h2, h3⟩
end rules
section
variable (w : World) (I : Nat → Prop)
def DrN (sz : Nat) : List D → List Value → Prop
  | [], vs => vs = []
  | d :: ds, vs => ∃ v rest, Dr w I d v ∧ v.cells.size = sz ∧ vs = v.cells.toList ++ rest ∧ DrN sz ds rest
end
section
variable {w w' : World} {I I' : Nat → Prop} {ρ ρ' : LM} {σ σ' : Store} {P : Program}
theorem DrN_mono (h : ∀ b, I b → I' b ∧ w'.heap[b]? = w.heap[b]?) : ∀ {ds : List D} {vs : List Value}, DrN w I sz ds vs → DrN w' I' sz ds vs
 | [], _, hd => by simpa [DrN] using hd
 | d :: ds, vs, hd => by
   simp only [DrN] at hd ⊢
   obtain ⟨v, rest, h1, h2, h3, h4⟩ := hd
   exact ⟨v, rest, Dr_mono h d v h1, h2, h3, DrN_mono h h4⟩
theorem DrN_len : ∀ {ds : List D} {vs : List Value}, DrN w I sz ds vs → vs.length = ds.length * sz
 | [], _, hd => by simp only [DrN] at hd; subst hd; simp
 | d :: ds, vs, hd => by
   simp only [DrN] at hd
   obtain ⟨v, rest, h1, h2, rfl, h4⟩ := hd
   have := DrN_len h4
   simp only [List.length_append, Array.length_toList, List.length_cons, h2, this, Nat.add_mul, Nat.one_mul]
   omega
theorem Dr_one {d : D} {v : Value} (h : Dr w I d v) : ∀ x ∈ v.cells.toList, one x := by
 obtain ⟨vs, _, _, h3⟩ := Dr_cells (ρ := fun _ => none) (σ := []) h
 exact h3
theorem DrN_one : ∀ {ds : List D} {vs : List Value}, DrN w I sz ds vs → ∀ x ∈ vs, one x
 | [], _, hd, x, hx => by simp only [DrN] at hd; subst hd; simp at hx
 | d :: ds, vs, hd, x, hx => by
   simp only [DrN] at hd
   obtain ⟨v, rest, h1, h2, rfl, h4⟩ := hd
   rcases List.mem_append.1 hx with hx | hx
   · exact Dr_one h1 x hx
   · exact DrN_one h4 x hx
theorem DrN_append : ∀ {ds es : List D} {vs us : List Value}, DrN w I sz ds vs → DrN w I sz es us → DrN w I sz (ds ++ es) (vs ++ us)
 | [], es, vs, us, h1, h2 => by simp only [DrN] at h1; subst h1; simpa using h2
 | d :: ds, es, vs, us, h1, h2 => by
   simp only [DrN] at h1
   obtain ⟨v, rest, g1, g2, rfl, g4⟩ := h1
   simp only [List.cons_append, DrN]
   exact ⟨v, rest ++ us, g1, g2, by simp, DrN_append g4 h2⟩
theorem DrN_drop : ∀ {ds : List D} {vs : List Value} (n : Nat), DrN w I sz ds vs → DrN w I sz (ds.drop n) (vs.drop (n * sz))
 | [], vs, n, h => by simp only [DrN] at h; subst h; simp [DrN]
 | d :: ds, vs, 0, h => by simpa using h
 | d :: ds, vs, n + 1, h => by
   simp only [DrN] at h
   obtain ⟨v, rest, g1, g2, rfl, g4⟩ := h
   have := DrN_drop n g4
   have e : (v.cells.toList ++ rest).drop sz = rest := by
     rw [← g2]; exact List.drop_left' (by simp)
   have e2 : (v.cells.toList ++ rest).drop ((n + 1) * sz) = rest.drop (n * sz) := by
     have h3 : (n + 1) * sz = sz + n * sz := by rw [Nat.add_mul]; omega
     rw [h3, ← List.drop_drop, e]
   rw [e2]
   simpa using this
theorem DrN_take : ∀ {ds : List D} {vs : List Value} (n : Nat), DrN w I sz ds vs → DrN w I sz (ds.take n) (vs.take (n * sz))
 | [], vs, n, h => by simp only [DrN] at h; subst h; simp [DrN]
 | d :: ds, vs, 0, h => by simp [DrN]
 | d :: ds, vs, n + 1, h => by
   simp only [DrN] at h
   obtain ⟨v, rest, g1, g2, rfl, g4⟩ := h
   have := DrN_take n g4
   simp only [List.take_succ_cons, DrN]
   refine ⟨v, rest.take (n * sz), g1, g2, ?_, this⟩
   rw [Nat.add_mul, Nat.one_mul, Nat.add_comm, List.take_append]
   have e : sz + n * sz - v.cells.toList.length = n * sz := by simp [g2]
   rw [e, List.take_of_length_le (by simp [g2])]
theorem DrE_of_N {sz b : Nat} : ∀ {ds : List D} {vs : List Value} {o : Nat}, DrN w I sz ds vs → (∀ j, j < vs.length → w.cell? ⟨b, o + j, none⟩ = vs[j]?) → DrE w I sz b o ds
 | [], _, _, _, _ => by simp [DrE]
 | d :: ds, vs, o, h, hc => by
   simp only [DrN] at h
   obtain ⟨v, rest, g1, g2, rfl, g4⟩ := h
   simp only [DrE]
   refine ⟨⟨v, g1, g2, fun j hj => ?_⟩, DrE_of_N g4 fun j hj => ?_⟩
   · rw [hc j (by simp; omega), List.getElem?_append_left (by simp; omega)]
     simp
   · have := hc (sz + j) (by simp; omega)
     rw [show o + sz + j = o + (sz + j) by omega, this, List.getElem?_append_right (by simp; omega)]
     congr 1
     simp; omega
theorem DrN_of_E {sz b : Nat} : ∀ {ds : List D} {o : Nat}, DrE w I sz b o ds → ∃ vs, DrN w I sz ds vs ∧ ∀ j, j < vs.length → w.cell? ⟨b, o + j, none⟩ = vs[j]?
  | [], _, _ => ⟨[], by simp [DrN], by simp⟩
  | d :: ds, o, h => by
    simp only [DrE] at h
    obtain ⟨⟨v, g1, g2, g3⟩, g4⟩ := h
    obtain ⟨rest, h1, h2⟩ := DrN_of_E g4
    refine ⟨v.cells.toList ++ rest, ?_, fun j hj => ?_⟩
    · simp only [DrN]; exact ⟨v, rest, g1, g2, rfl, h1⟩
    · by_cases hjs : j < sz
      · rw [g3 j hjs, List.getElem?_append_left (by simp; omega)]; simp
      · have := h2 (j - sz) (by simp at hj; omega)
        rw [show o + sz + (j - sz) = o + j by omega] at this
        rw [this, List.getElem?_append_right (by simp; omega)]
        congr 1; simp; omega
theorem DrE_get {sz b : Nat} : ∀ {ds : List D} {o i : Nat} {d : D}, DrE w I sz b o ds → ds[i]? = some d → ∃ v, Dr w I d v ∧ v.cells.size = sz ∧ ∀ j, j < sz → w.cell? ⟨b, o + i * sz + j, none⟩ = v.cells[j]?
 | [], _, _, _, _, h => by simp at h
 | e :: ds, o, 0, d, h, hi => by
   simp only [DrE] at h
   simp only [List.getElem?_cons_zero, Option.some.injEq] at hi
   subst hi
   obtain ⟨⟨v, g1, g2, g3⟩, _⟩ := h
   exact ⟨v, g1, g2, by simpa using g3⟩
 | e :: ds, o, i + 1, d, h, hi => by
   simp only [DrE] at h
   simp only [List.getElem?_cons_succ] at hi
   obtain ⟨v, g1, g2, g3⟩ := DrE_get h.2 hi
   refine ⟨v, g1, g2, fun j hj => ?_⟩
   rw [← g3 j hj]
   congr 2
   rw [Nat.add_mul]; omega
theorem elemSz_und (h : elemSz P t = some sz) : ∃ e i, P.underlying t = some (.slice e) ∧ P.info? e = some i ∧ i.size = sz := by
 unfold elemSz at h
 split at h
 · simp only [Option.map_eq_some_iff] at h
   obtain ⟨i, h1, h2⟩ := h
   exact ⟨_, i, by assumption, h1, h2⟩
 · cases h
def listOf : V → Option (Nat × List D)
  | .d (.list sz xs) => some (sz, xs)
  | .ex sz xs => some (sz, xs)
  | _ => none
theorem listOf_rel {x : Value} (h : listOf v = some (sz, xs)) (hv : vr w I ρ σ v x) : Dr w I (.list sz xs) x := by
 unfold listOf at h
 split at h
 · cases h; simpa [vr] using hv
 · cases h; simp only [vr] at hv; obtain ⟨a, rfl, h⟩ := hv; exact h
 · cases h
theorem ixData_ok {x i : Operand} {k : IntKind} {n : Int} {d : D} (ho : o.op = .indexAddr t x i) (hx : listOf (ev tm x) = some (sz, xs)) (hi : ev tm i = .d (.int k n))
   (ht : elemSz P t = some sz) (h0 : 0 ≤ n) (hd : xs[n.toNat]? = some d) : OpOk P o tm σ (.ep sz d 0) tm σ := by
 intro w I ρ a hr hO
 have hxr := listOf_rel hx (vr_ev hr x)
 have hir := vr_ev hr i
 rw [hi] at hir
 simp only [vr, Dr] at hir hxr
 obtain ⟨ad, cap, he, h1, h2, h3⟩ := hxr
 obtain ⟨e, inf, hu, hinf, hsz⟩ := elemSz_und ht
 have hlt : n.toNat < xs.length := (List.getElem?_eq_some_iff.1 hd).1
 rcases h3 with h3 | ⟨b, q, rfl, hI, hE⟩
 · simp [h3] at hlt
 obtain ⟨u, g1, g2, g3⟩ := DrE_get hE hd
 refine ⟨_, .pointer (some ⟨b, q + n.toNat * sz, none⟩), w, I, ρ, ?_, .inl rfl, ?_, hr, hO, Ext.refl _ _ _ _⟩
 · have hcond : 0 ≤ n ∧ n < (xs.length : Int) := ⟨h0, by omega⟩
   simp [execOp, ho, he, hir, Instr.indexAt, asIntOf, run_underlying hu, hcond, sizeOf, typeInfo, hinf, hsz, addr_add]
 · simp only [vr]
   exact ⟨b, q + n.toNat * sz, by simp, hI, u, g1, g2, g3⟩
theorem ixRow_ok {x i : Operand} {k : IntKind} {n : Int} (ho : o.op = .indexAddr t x i) (hx : ev tm x = .row l) (hi : ev tm i = .d (.int k n))
   (hs : σ[l]? = some (.row sz xs mv)) (ht : elemSz P t = some sz) (h0 : 0 ≤ n) (hn : n.toNat < xs.length) : OpOk P o tm σ (.ptr l n.toNat 0) tm σ := by
 intro w I ρ a hr hO
 have hxr := vr_ev hr x
 have hir := vr_ev hr i
 rw [hx] at hxr
 rw [hi] at hir
 simp only [vr, Dr] at hir hxr
 obtain ⟨e, inf, hu, hinf, hsz⟩ := elemSz_und ht
 have hob := hO.objs l _ hs
 simp only [orel] at hob
 rcases hob with ⟨_, rfl⟩ | ⟨L, C, T, fz, hL, hLs, hh, _⟩
 · simp at hn
 rcases hxr.2.2 _ _ _ hs with ⟨h3, _⟩ | ⟨L', hL', hle, he⟩
 · omega
 rw [hL] at hL'; cases hL'
 refine ⟨_, .pointer (some ⟨L.b, L.o + n.toNat * sz, none⟩), w, I, ρ, ?_, .inl rfl, ?_, hr, hO, Ext.refl _ _ _ _⟩
 · have hcond : 0 ≤ n ∧ n < (xs.length : Int) := ⟨h0, by omega⟩
   simp [execOp, ho, he, hir, Instr.indexAt, asIntOf, run_underlying hu, hcond, sizeOf, typeInfo, hinf, hsz, addr_add]
 · simp only [vr]
   exact ⟨rfl, hxr.2.1, fun _ => ⟨L, hL, by simp [hLs]⟩⟩
theorem ixStr_ok {x i : Operand} {s : ByteArray} {k : IntKind} {n : Int} {b : UInt8} (ho : o.op = .index t x i) (hx : ev tm x = .d (.str s)) (hi : ev tm i = .d (.int k n))
  (ht : isStrT P t = true) (h0 : 0 ≤ n) (hb : s[n.toNat]? = some b) : OpOk P o tm σ (.d (.int .u8 b.toNat)) tm σ := by
 intro w I ρ a hr hO
 have hxr := vr_ev hr x
 have hir := vr_ev hr i
 rw [hx] at hxr
 rw [hi] at hir
 simp only [vr, Dr] at hir hxr
 refine ⟨_, .int .u8 b.toNat, w, I, ρ, ?_, .inl rfl, by simp [vr, Dr], hr, hO, Ext.refl _ _ _ _⟩
 simp [execOp, ho, hxr, hir, Instr.index, asIntOf, run_underlying (isStrT_und ht), h0, hb]
theorem ldRow_ok {x : Operand} {l i s sz : Nat} {d : D} (ho : o.op = .load t x) (hx : ev tm x = .ptr l i s) (hs : σ[l]? = some (.row sz xs mv)) (hd : xs[i]? = some d)
   (hv : loadE P t d s = some v) : OpOk P o tm σ v tm σ := by
 intro w I ρ a hr hO
 have hxr := vr_ev hr x
 rw [hx] at hxr
 simp only [vr] at hxr
 obtain ⟨L, hL, he⟩ := hxr.2.2 ⟨_, hs, by simp⟩
 have hob := hO.objs l _ hs
 simp only [orel] at hob
 rcases hob with ⟨h1, _⟩ | ⟨L', C, T, fz, hL', hLs, hh, hth, hC, hle, hcap, hE⟩
 · rw [hL] at h1; cases h1
 rw [hL] at hL'; cases hL'
 obtain ⟨u, g1, g2, g3⟩ := DrE_get hE hd
 obtain ⟨z, h4, h5⟩ := loadE_ok (ρ := ρ) (σ := σ) (q := L.o + i * sz) (s := s) (b := L.b) hv g1 g2 g3
 rw [hLs] at he
 exact ⟨_, z, w, I, ρ, by simp [execOp, ho, he, Instr.loadAt, Instr.sureAddr, h4], .inl rfl, h5, hr, hO, Ext.refl _ _ _ _⟩
def setD (d : D) (s : Nat) (ys : List D) : Option D :=
  match d with
  | .agg cs => if s + ys.length ≤ cs.length then some (.agg (splice cs s ys)) else none
  | _ => match s, ys with
    | 0, [.agg _] => none
    | 0, [y] => some y
    | _, _ => none
def storeE (P : Program) (tm : List V) (t : TypeId) (y : Operand) (d : D) (s : Nat) : Option D :=
  match cellsV (co P t (ev tm y)) with
  | some vs => match datasX vs with
    | some ds => if (P.info? t).map (·.size) = some ds.length then setD d s ds else none
    | none => none
  | none => none
end
section
variable {w w' : World} {I I' : Nat → Prop} {ρ ρ' : LM} {σ σ' : Store} {P : Program}
theorem DrL_len : ∀ {cs : List D} {xs : List Value}, DrL w I cs xs → xs.length = cs.length
 | [], xs, h => by simp only [DrL] at h; subst h; rfl
 | c :: cs, xs, h => by
   simp only [DrL] at h
   obtain ⟨v, vs', rfl, _, _, h3⟩ := h
   simp [DrL_len h3]
theorem DrL_append : ∀ {cs ds : List D} {xs ys : List Value}, DrL w I cs xs → DrL w I ds ys → DrL w I (cs ++ ds) (xs ++ ys)
 | [], ds, xs, ys, h1, h2 => by simp only [DrL] at h1; subst h1; simpa using h2
 | c :: cs, ds, xs, ys, h1, h2 => by
   simp only [DrL] at h1
   obtain ⟨v, vs', rfl, g1, g2, g3⟩ := h1
   simp only [List.cons_append, DrL]
   exact ⟨v, vs' ++ ys, rfl, g1, g2, DrL_append g3 h2⟩
theorem DrL_take : ∀ {cs : List D} {xs : List Value} (n : Nat), DrL w I cs xs → DrL w I (cs.take n) (xs.take n)
 | [], xs, n, h => by simp only [DrL] at h; subst h; simp [DrL]
 | c :: cs, xs, 0, h => by simp [DrL]
 | c :: cs, xs, n + 1, h => by
   simp only [DrL] at h
   obtain ⟨v, vs', rfl, g1, g2, g3⟩ := h
   simp only [List.take_succ_cons, DrL]
   exact ⟨v, _, rfl, g1, g2, DrL_take n g3⟩
theorem DrL_drop : ∀ {cs : List D} {xs : List Value} (n : Nat), DrL w I cs xs → DrL w I (cs.drop n) (xs.drop n)
 | [], xs, n, h => by simp only [DrL] at h; subst h; simp [DrL]
 | c :: cs, xs, 0, h => by simpa using h
 | c :: cs, xs, n + 1, h => by
   simp only [DrL] at h
   obtain ⟨v, vs', rfl, g1, g2, g3⟩ := h
   simpa using DrL_drop n g3
theorem setD_rel {d d' : D} {s : Nat} {ys : List D} {v : Value} {us : List Value} (h : setD d s ys = some d') (hd : Dr w I d v) (hy : DrL w I ys us) : ∃ v', Dr w I d' v' ∧ v'.cells.toList = splice v.cells.toList s us := by
 have hlen := DrL_len hy
 unfold setD at h
 split at h
 · rename_i cs
   simp only [Option.ite_none_right_eq_some, Option.some.injEq] at h
   obtain ⟨hle, rfl⟩ := h
   simp only [Dr] at hd
   obtain ⟨xs, rfl, hl⟩ := hd
   refine ⟨.agg (splice xs s us).toArray, ?_, by simp [Value.cells]⟩
   simp only [Dr]
   refine ⟨_, rfl, ?_⟩
   unfold splice
   rw [hlen]
   exact DrL_append (DrL_append (DrL_take s hl) hy) (DrL_drop _ hl)
 · rename_i hna
   split at h
   · cases h
   · rename_i y hny
     cases h
     simp only [DrL] at hy
     obtain ⟨u, us', rfl, h1, h2, rfl⟩ := hy
     refine ⟨u, h2, ?_⟩
     have hu : u.cells = #[u] := by cases u <;> simp_all [Value.cells, one, Value.oneCell']
     have hv : v.cells = #[v] := by
        cases d with
        | agg cs => exact absurd rfl (hna cs)
        | int k n => simp only [Dr] at hd; subst hd; rfl
        | bool b => simp only [Dr] at hd; subst hd; rfl
        | str b => simp only [Dr] at hd; subst hd; rfl
        | raw x => simp only [Dr] at hd; obtain ⟨rfl, h9⟩ := hd; cases v <;> simp_all [Value.cells, one, Value.oneCell']
        | list sz xs => simp only [Dr] at hd; obtain ⟨a, c, rfl, _⟩ := hd; rfl
     simp [hu, hv, splice]
   · cases h
theorem DrN_set : ∀ {xs : List D} {vs : List Value} {i s : Nat} {d d' : D} {ys : List D} {us : List Value}, DrN w I sz xs vs → xs[i]? = some d → setD d s ys = some d' → DrL w I ys us → s + us.length ≤ sz →
   DrN w I sz (xs.set i d') (splice vs (i * sz + s) us)
 | [], _, _, _, _, _, _, _, _, hi, _, _, _ => by simp at hi
 | e :: xs, vs, 0, s, d, d', ys, us, h, hi, hs, hy, hle => by
   simp only [List.getElem?_cons_zero, Option.some.injEq] at hi
   subst hi
   simp only [DrN] at h
   obtain ⟨v, rest, g1, g2, rfl, g4⟩ := h
   obtain ⟨v', k1, k2⟩ := setD_rel hs g1 hy
   simp only [List.set_cons_zero, DrN]
   refine ⟨v', rest, k1, ?_, ?_, g4⟩
   · have := congrArg List.length k2
     simp [splice] at this
     omega
   · rw [k2]
     unfold splice
     have e1 : s ≤ v.cells.toList.length := by simp; omega
     have e2 : s + us.length ≤ v.cells.toList.length := by simp; omega
     rw [Nat.zero_mul, Nat.zero_add, List.take_append_of_le_length e1, List.drop_append_of_le_length e2]
     simp
 | e :: xs, vs, i + 1, s, d, d', ys, us, h, hi, hs, hy, hle => by
   simp only [List.getElem?_cons_succ] at hi
   simp only [DrN] at h
   obtain ⟨v, rest, g1, g2, rfl, g4⟩ := h
   have ih := DrN_set g4 hi hs hy hle
   simp only [List.set_cons_succ, DrN]
   refine ⟨v, _, g1, g2, ?_, ih⟩
   unfold splice
   have e1 : (i + 1) * sz + s = v.cells.toList.length + (i * sz + s) := by simp [g2, Nat.add_mul]; omega
   rw [e1, List.take_length_add_append, Nat.add_assoc, List.drop_length_add_append]
   simp
theorem setD_len {d d' : D} {s : Nat} {ys : List D} {v : Value} (h : setD d s ys = some d') (hd : Dr w I d v) : s + ys.length ≤ v.cells.size := by
 unfold setD at h
 split at h
 · simp only [Option.ite_none_right_eq_some] at h
   simp only [Dr] at hd
   obtain ⟨xs, rfl, hl⟩ := hd
   have := DrL_len hl
   simp only [Value.cells, List.size_toArray]
   omega
 · rename_i hna
   have hv : v.cells = #[v] := by
     cases d with
     | agg cs => exact absurd rfl (hna cs)
     | int k n => simp only [Dr] at hd; subst hd; rfl
     | bool b => simp only [Dr] at hd; subst hd; rfl
     | str b => simp only [Dr] at hd; subst hd; rfl
     | raw x => simp only [Dr] at hd; obtain ⟨rfl, h9⟩ := hd; cases v <;> simp_all [Value.cells, one, Value.oneCell']
     | list sz xs => simp only [Dr] at hd; obtain ⟨a, c, rfl, _⟩ := hd; rfl
   split at h
   · cases h
   · simp [hv]
   · cases h
theorem row_cells {L : Loc} {C : Array Value} {T : TypeId} {fz : Nat × Nat} {vs : List Value} (hh : w.heap[L.b]? = some (.cells C T fz)) (hc : ∀ j, j < vs.length → w.cell? ⟨L.b, L.o + j, none⟩ = vs[j]?) :
   vs = (C.toList.drop L.o).take vs.length := by
 apply List.ext_getElem?
 intro j
 by_cases hj : j < vs.length
 · rw [← hc j hj]
   simp [World.cell?, hh, hj]
 · rw [List.getElem?_eq_none (by omega), List.getElem?_eq_none (by simp; omega)]
theorem stRow_ok {x y : Operand} {l i s sz : Nat} {d d' : D} (ho : o.op = .store t x y) (hx : ev tm x = .ptr l i s) (hs : σ[l]? = some (.row sz xs mv)) (hd : xs[i]? = some d)
    (hv : storeE P tm t y d s = some d') : OpOk P o tm σ .undef tm (σ.set l (.row sz (xs.set i d') mv)) := by
  intro w I ρ a hr hO
  have hxr := vr_ev hr x
  rw [hx] at hxr
  simp only [vr] at hxr
  obtain ⟨L, hL, he⟩ := hxr.2.2 ⟨_, hs, by simp⟩
  have hob := hO.objs l _ hs
  simp only [orel] at hob
  rcases hob with ⟨h1, _⟩ | ⟨L', C, T, fz, hL', hLs, hh, hth, hC, hle, hcap, hE⟩
  · rw [hL] at h1; cases h1
  rw [hL] at hL'; cases hL'
  unfold storeE at hv
  split at hv
  · rename_i vs hcv
    split at hv
    · rename_i ds hds
      simp only [Option.ite_none_right_eq_some] at hv
      obtain ⟨hsz, hset⟩ := hv
      obtain ⟨hc, h1⟩ := cells_rel hcv (co_rel (P := P) (t := t) (vr_ev hr y))
      have hDL := vrL_DrLX hds hc h1
      have hlen := DrL_len hDL
      simp only [Array.length_toList] at hlen
      obtain ⟨u, g1, g2, _⟩ := DrE_get hE hd
      have hfit := setD_len hset g1
      rw [g2] at hfit
      obtain ⟨vs0, hN, hcell⟩ := DrN_of_E hE
      have hN0 := DrN_len hN
      have hilt : i < xs.length := (List.getElem?_eq_some_iff.1 hd).1
      have hbound : i * sz + sz ≤ xs.length * sz := by
        have := Nat.mul_le_mul_right sz (show i + 1 ≤ xs.length by omega)
        rwa [Nat.add_mul, Nat.one_mul] at this
      have hbound2 : xs.length * sz ≤ L.cap * sz := Nat.mul_le_mul_right _ hle
      have hN2 := DrN_set hN hd hset hDL (by simp only [Array.length_toList]; omega)
      rw [hLs] at he
      have hrun := run_storeVar_th (P := P) (t := t) (g := L.b) (s := L.o + i * sz + s) (x := a.eval y) hh hth.1 (by rw [hlen]; exact hsz) (by omega) h1
      have hrun' : (execOp a.eval o).run P w = .ok .skip (w.setRow L.b (C.toList.take (L.o + i * sz + s) ++ (a.eval y).cells.toList ++ C.toList.drop (L.o + i * sz + s + (a.eval y).cells.size)).toArray) := by
        simp only [execOp, ho, he, Instr.storeAt, Instr.sureAddr, Sem.run_bind, Sem.run_pure, Result.andThen_ok, hrun]
      have hII : ∀ b, I b → I b ∧ (w.setRow L.b (C.toList.take (L.o + i * sz + s) ++ (a.eval y).cells.toList ++ C.toList.drop (L.o + i * sz + s + (a.eval y).cells.size)).toArray).heap[b]? = w.heap[b]? :=
        fun b hb => ⟨hb, setRow_other _ _ _ _ fun e => (hO.imm b hb).2 ⟨l, _, L, hs, by simp, hL, e.symm⟩⟩
      refine ⟨.skip, undef, _, I, ρ, hrun', .inr ⟨rfl, rfl⟩, by simp [vr], ?_, ?_, ?_⟩
      · exact vrL_all hII (same_set hs (by simp) (by simp [O.alike, O.rl])) hr
      · refine hO.upd hs (by simp) hL (by simp [O.alike, O.rl]) (fun b hb => setRow_other _ _ _ _ hb) (by simp) ?_
        simp only [orel]
        refine .inr ⟨L, _, T, fz, hL, hLs, setRow_heap _ _ _ _ _ _ hh, ?_, ?_, by simpa using hle, hcap, ?_⟩
        · have : ∀ n, n = C.size → thaw fz n := fun n e => e ▸ hth.1
          exact ⟨this _ (by simp; omega), one_splice hth.2 h1⟩
        · simp; omega
        · have hvs0 := row_cells hh hcell
          have hsl : (splice vs0 (i * sz + s) (a.eval y).cells.toList).length = vs0.length := by simp [splice]; omega
          refine DrE_of_N (DrN_mono hII hN2) fun j hj => ?_
          rw [hsl] at hj
          have hcs : ∀ q, (w.setRow L.b (C.toList.take (L.o + i * sz + s) ++ (a.eval y).cells.toList ++ C.toList.drop (L.o + i * sz + s + (a.eval y).cells.size)).toArray).cell? ⟨L.b, q, none⟩ =
              (C.toList.take (L.o + i * sz + s) ++ (a.eval y).cells.toList ++ C.toList.drop (L.o + i * sz + s + (a.eval y).cells.size))[q]? := fun q => by
            rw [cell_setRow_same _ _ _ _ _ _ _ hh]; simp
          rw [hcs]
          have key : C.toList.take (L.o + i * sz + s) ++ (a.eval y).cells.toList ++ C.toList.drop (L.o + i * sz + s + (a.eval y).cells.size) = C.toList.take L.o ++ splice (C.toList.drop L.o) (i * sz + s) (a.eval y).cells.toList := by
            unfold splice
            rw [List.drop_drop, ← List.append_assoc, ← List.append_assoc]
            congr 1
            · congr 1
              rw [Nat.add_assoc, List.take_add]
            · congr 1
              simp; omega
          rw [key, List.getElem?_append_right (by simp; omega)]
          have e1 : L.o + j - (C.toList.take L.o).length = j := by simp; omega
          rw [e1]
          -- both splices agree below vs0's length
          have hsp : splice vs0 (i * sz + s) (a.eval y).cells.toList = (splice (C.toList.drop L.o) (i * sz + s) (a.eval y).cells.toList).take vs0.length := by
            conv => lhs; rw [hvs0]
            unfold splice
            rw [List.take_take, List.drop_take, List.take_append, List.take_append, List.take_take]
            simp only [List.length_append, List.length_take, List.length_drop, Array.length_toList]
            have m1 : min (i * sz + s) vs0.length = i * sz + s := by omega
            have m2 : min vs0.length (i * sz + s) = i * sz + s := by omega
            have m3 : min (i * sz + s) (C.size - L.o) = i * sz + s := by omega
            rw [m1, m2, m3, List.take_of_length_le (l := (a.eval y).cells.toList) (by simp; omega)]
          rw [hsp, List.getElem?_take, if_pos hj]
      · exact Ext.upd hs (by simp) hL (fun h => by simpa [O.still] using h) (by simp [O.alike, O.rl]) rfl (fun b hb => setRow_other _ _ _ _ hb) (by simp) rfl rfl rfl
    · cases hv
  · cases hv
end
def Bnd (tm : List V) (o : Option Operand) (l d : Nat) : Prop :=
  match o with
  | none => l = d
  | some x => ∃ k n, ev tm x = .d (.int k n) ∧ 0 ≤ n ∧ n.toNat = l
section
variable {w w' : World} {I I' : Nat → Prop} {ρ ρ' : LM} {σ σ' : Store} {P : Program}
theorem bound_run (hr : vrL w I ρ σ tm a.tmps.toList) {x : Operand} {k : IntKind} {n : Int} (hx : ev tm x = .d (.int k n)) (h0 : 0 ≤ n) {y : Nat} (hy : n.toNat ≤ y) (c : BoundsCode) : (Instr.sliceBound (a.eval x) y c).run P w = .ok n.toNat w := by
 have := vr_ev hr x
 rw [hx] at this
 simp only [vr, Dr] at this
 have hc : 0 ≤ n ∧ n ≤ (y : Int) := ⟨h0, by omega⟩
 simp [Instr.sliceBound, this, asIntOf, hc]
theorem bounds_run (hr : vrL w I ρ σ tm a.tmps.toList) {lo hi mx : Option Operand} {b : Bool} {len cap l h m : Nat} (hlo : Bnd tm lo l 0) (hhi : Bnd tm hi h len) (hmx : Bnd tm mx m cap) (h1 : l ≤ h) (h2 : h ≤ m) (h3 : m ≤ cap)
    (hm : mx.isSome = true → hi.isSome = true) : (Instr.sliceBounds b len cap (lo.map a.eval) (hi.map a.eval) (mx.map a.eval)).run P w = .ok (l, h, m) w := by
  unfold Instr.sliceBounds
  cases mx with
  | none =>
    simp only [Bnd] at hmx; subst hmx
    cases hi with
    | none =>
      simp only [Bnd] at hhi; subst hhi
      cases lo with
      | none => simp only [Bnd] at hlo; subst hlo; simp
      | some x =>
        obtain ⟨k, n, g1, g2, rfl⟩ := hlo
        simp [bound_run (P := P) hr g1 g2 h1]
    | some y =>
      obtain ⟨k, n, g1, g2, rfl⟩ := hhi
      cases lo with
      | none => simp only [Bnd] at hlo; subst hlo; simp [bound_run (P := P) hr g1 g2 h2]
      | some x =>
        obtain ⟨k', n', g3, g4, rfl⟩ := hlo
        simp [bound_run (P := P) hr g1 g2 h2, bound_run (P := P) hr g3 g4 h1]
  | some z =>
    obtain ⟨k, n, g1, g2, rfl⟩ := hmx
    cases hi with
    | none => simp at hm
    | some y =>
      obtain ⟨k', n', g3, g4, rfl⟩ := hhi
      cases lo with
      | none => simp only [Bnd] at hlo; subst hlo; simp [bound_run (P := P) hr g1 g2 h3, bound_run (P := P) hr g3 g4 h2]
      | some x =>
        obtain ⟨k2, n2, g5, g6, rfl⟩ := hlo
        simp [bound_run (P := P) hr g1 g2 h3, bound_run (P := P) hr g3 g4 h2, bound_run (P := P) hr g5 g6 h1]
theorem DrE_piece {sz b o l h : Nat} (hE : DrE w I sz b o xs) : DrE w I sz b (o + l * sz) ((xs.take h).drop l) := by
 obtain ⟨vs, hN, hc⟩ := DrN_of_E hE
 refine DrE_of_N (DrN_drop l (DrN_take h hN)) fun j hj => ?_
 simp only [List.length_drop, List.length_take] at hj
 rw [List.getElem?_drop, List.getElem?_take, if_pos (by omega), ← hc (l * sz + j) (by omega)]
 congr 2; omega
theorem slice_run {t e : TypeId} {x : Operand} {lo hi mx : Option Operand} {inf : TypeInfo} {ad : Option Addr} {len cap l h m : Nat} (ho : o.op = .slice t x lo hi mx) (hu : P.underlying t = some (.slice e)) (hinf : P.info? e = some inf)
  (he : a.eval x = .slice ad len cap) (hb : (Instr.sliceBounds true len cap (lo.map a.eval) (hi.map a.eval) (mx.map a.eval)).run P w = .ok (l, h, m) w) :
  (execOp a.eval o).run P w = .ok (.value (.slice (if m = l then ad else ad.map (·.add (l * inf.size))) (h - l) (m - l))) w := by
 simp [execOp, ho, Instr.sliceAt, Instr.slice, run_underlying hu, he, hb, sizeOf, typeInfo, hinf]
theorem slData_ok {x : Operand} {lo hi : Option Operand} (l h : Nat) (ho : o.op = .slice t x lo hi none) (hx : listOf (ev tm x) = some (sz, xs)) (ht : elemSz P t = some sz)
   (hlo : Bnd tm lo l 0) (hhi : Bnd tm hi h xs.length) (h1 : l ≤ h) (h2 : h ≤ xs.length) : OpOk P o tm σ (.d (.list sz ((xs.take h).drop l))) tm σ := by
 intro w I ρ a hr hO
 have hxr := listOf_rel hx (vr_ev hr x)
 simp only [Dr] at hxr
 obtain ⟨ad, cap, he, k1, k2, k3⟩ := hxr
 obtain ⟨e, inf, hu, hinf, hsz⟩ := elemSz_und ht
 have hb := bounds_run (P := P) (b := true) (len := xs.length) (cap := cap) (m := cap) hr hlo hhi (mx := none) rfl h1 (Nat.le_trans h2 k1) (Nat.le_refl _) (by simp)
 have hrun := slice_run ho hu hinf he hb
 refine ⟨_, _, w, I, ρ, hrun, .inl rfl, ?_, hr, hO, Ext.refl _ _ _ _⟩
 simp only [vr, Dr]
 have hlen : ((xs.take h).drop l).length = h - l := by simp; omega
 refine ⟨_, cap - l, by rw [hlen], by omega, by omega, ?_⟩
 by_cases hne : l = h
 · exact .inl (List.eq_nil_of_length_eq_zero (by omega))
 rcases k3 with k3 | ⟨b, q, rfl, hI, hE⟩
 · exact .inl (by simp [k3])
 · refine .inr ⟨b, q + l * sz, ?_, hI, DrE_piece hE⟩
   rw [if_neg (by omega)]
   simp [addr_add, hsz]
theorem sl3Data_ok {x y z : Operand} {lo : Option Operand} (l h : Nat) (ho : o.op = .slice t x lo (some y) (some z)) (hx : listOf (ev tm x) = some (sz, xs)) (ht : elemSz P t = some sz)
   (hlo : Bnd tm lo l 0) (hhi : Bnd tm (some y) h xs.length) (hmx : Bnd tm (some z) h xs.length) (h1 : l ≤ h) (h2 : h ≤ xs.length) : OpOk P o tm σ (.ex sz ((xs.take h).drop l)) tm σ := by
 intro w I ρ a hr hO
 have hxr := listOf_rel hx (vr_ev hr x)
 simp only [Dr] at hxr
 obtain ⟨ad, cap, he, k1, k2, k3⟩ := hxr
 obtain ⟨e, inf, hu, hinf, hsz⟩ := elemSz_und ht
 have hb := bounds_run (P := P) (b := true) (len := xs.length) (cap := cap) (m := h) hr hlo hhi (mx := some z) hmx h1 (Nat.le_refl _) (Nat.le_trans h2 k1) (by simp)
 have hrun := slice_run ho hu hinf he hb
 refine ⟨_, _, w, I, ρ, hrun, .inl rfl, ?_, hr, hO, Ext.refl _ _ _ _⟩
 simp only [vr, Dr]
 have hlen : ((xs.take h).drop l).length = h - l := by simp; omega
 refine ⟨_, by rw [hlen], _, h - l, by rw [hlen], by omega, by omega, ?_⟩
 by_cases hne : l = h
 · exact .inl (List.eq_nil_of_length_eq_zero (by omega))
 rcases k3 with k3 | ⟨b, q, rfl, hI, hE⟩
 · exact .inl (by simp [k3])
 · refine .inr ⟨b, q + l * sz, ?_, hI, DrE_piece hE⟩
   rw [if_neg (by omega)]
   simp [addr_add, hsz]
theorem slRow_ok {x : Operand} {lo hi : Option Operand} {lc sz : Nat} (l h : Nat) (ho : o.op = .slice t x lo hi none) (hx : ev tm x = .row lc) (hs : σ[lc]? = some (.row sz xs mv)) (ht : elemSz P t = some sz)
   (hlo : Bnd tm lo l 0) (hhi : Bnd tm hi h xs.length) (h1 : l ≤ h) (h2 : h ≤ xs.length) : OpOk P o tm σ (.sl lc l (h - l) none) tm σ := by
 intro w I ρ a hr hO
 have hxr := vr_ev hr x
 rw [hx] at hxr
 simp only [vr] at hxr
 obtain ⟨e, inf, hu, hinf, hsz⟩ := elemSz_und ht
 have hob := hO.objs lc _ hs
 simp only [orel] at hob
 have hmk : ∀ ad cap, a.eval x = .slice ad xs.length cap → xs.length ≤ cap → (∀ v, v = .slice (if cap = l then ad else ad.map (·.add (l * inf.size))) (h - l) (cap - l) → rowV ρ lc l (h - l) v) →
     ∃ nx y w' I' ρ', (execOp a.eval o).run P w = .ok nx w' ∧ (nx = .value y ∨ nx = .skip ∧ y = undef) ∧ vr w' I' ρ' σ (.sl lc l (h - l) none) y ∧ vrL w' I' ρ' σ tm a.tmps.toList ∧ ORel w' I' ρ' σ ∧ Ext σ.length w I ρ σ w' I' ρ' σ := by
   intro ad cap he k1 hv
   have hb := bounds_run (P := P) (b := true) (len := xs.length) (cap := cap) (m := cap) hr hlo hhi (mx := none) rfl h1 (Nat.le_trans h2 k1) (Nat.le_refl _) (by simp)
   have hrun := slice_run ho hu hinf he hb
   refine ⟨_, _, w, I, ρ, hrun, .inl rfl, ?_, hr, hO, Ext.refl _ _ _ _⟩
   simp only [vr]
   refine ⟨rfl, hxr.2.1, fun sz' xs' mv' hx' => ?_⟩
   rw [hs] at hx'; cases hx'
   exact ⟨by omega, hv _ rfl, fun k hk => by cases hk⟩
 rcases hxr.2.2 _ _ _ hs with ⟨h0, ad, he⟩ | ⟨L, hL, hle, he⟩
 · have he2 : a.eval x = .slice ad xs.length 0 := by rw [he, h0]
   refine hmk ad 0 he2 (by omega) fun v hv => .inl ⟨by omega, ?_⟩
   have : l = 0 := by omega
   subst this
   simp at hv
   have : h = 0 := by omega
   subst this
   exact ⟨_, hv⟩
 · rcases hob with ⟨h0, _⟩ | ⟨L', C, T, fz, hL', hLs, _, _, _, hle2, _⟩
   · rw [hL] at h0; cases h0
   rw [hL] at hL'; cases hL'
   refine hmk _ _ he (by omega) fun v hv => ?_
   by_cases hcl : L.cap = l
   · refine .inl ⟨by omega, ?_⟩
     have e1 : h - l = 0 := by omega
     have e2 : L.cap - 0 - l = 0 := by omega
     rw [e1, e2] at hv
     exact ⟨_, hv⟩
   · refine .inr ⟨L, hL, by omega, ?_⟩
     rw [if_neg (by omega)] at hv
     simpa [addr_add, hsz, hLs] using hv
def cont (σ : Store) : V → Option (Nat × List D)
  | .d (.list sz xs) => some (sz, xs)
  | .ex sz xs => some (sz, xs)
  | .row l => match σ[l]? with | some (.row sz xs _) => some (sz, xs) | _ => none
  | .sl l off n _ => match σ[l]? with | some (.row sz xs _) => some (sz, (xs.drop off).take n) | _ => none
  | .d (.str s) => some (1, s.data.toList.map fun b => .int .u8 b.toNat)
  | _ => none
theorem cells_run {L : Loc} {C : Array Value} {T : TypeId} {fz : Nat × Nat} {q : Nat} {vs : List Value} (hh : w.heap[L.b]? = some (.cells C T fz)) (hc : ∀ j, j < vs.length → C[q + j]? = vs[j]?) {w1 : World} (hw : w1.heap = w.heap) :
  (loadCells ⟨L.b, q, none⟩ vs.length).run P w1 = .ok vs.toArray w1 :=
 run_loadCells_list (P := P) w1 ⟨L.b, q, none⟩ vs fun j v hj => by
  rw [addr_add]
  have hlt := (List.getElem?_eq_some_iff.1 hj).1
  simp [World.cell?, hw, hh, hc j hlt, hj]
theorem str_cells (s : ByteArray) : DrN w I 1 (s.data.toList.map fun b => .int .u8 b.toNat) (s.data.toList.map fun b => .int .u8 b.toNat) := by
 generalize s.data.toList = l
 induction l with
 | nil => simp [DrN]
 | cons b l ih => simp only [List.map_cons, DrN]; exact ⟨.int .u8 b.toNat, _, by simp [Dr], rfl, rfl, ih⟩
theorem cont_rel {x : Value} {ys : List D} (h : cont σ v = some (sz, ys)) (hv : vr w I ρ σ v x) (hO : ORel w I ρ σ) : ∃ news, DrN w I sz ys news ∧ (∀ w1, (Builtin.lenOf x).run P w1 = .ok ys.length w1) ∧
    ∀ w1 : World, w1.heap = w.heap → (Builtin.firstCells sz ys.length x).run P w1 = .ok news.toArray w1 := by
  have hdata : ∀ {sz : Nat} {xs : List D}, Dr w I (.list sz xs) x → ∃ news, DrN w I sz xs news ∧ (∀ w1, (Builtin.lenOf x).run P w1 = .ok xs.length w1) ∧ ∀ w1 : World, w1.heap = w.heap → (Builtin.firstCells sz xs.length x).run P w1 = .ok news.toArray w1 := by
    intro sz xs hd
    simp only [Dr] at hd
    obtain ⟨ad, cap, rfl, k1, k2, k3⟩ := hd
    rcases k3 with rfl | ⟨b, q, rfl, hI, hE⟩
    · refine ⟨[], by simp [DrN], fun w1 => by simp [Builtin.lenOf], fun w1 _ => ?_⟩
      cases ad with
      | none => simp [Builtin.firstCells]
      | some ad => simp [Builtin.firstCells, loadCells, loadCellsFrom]
    · obtain ⟨vs, hN, hc⟩ := DrN_of_E hE
      refine ⟨vs, hN, fun w1 => by simp [Builtin.lenOf], fun w1 hw => ?_⟩
      have hl := DrN_len hN
      simp only [Builtin.firstCells]
      rw [← hl]
      refine run_loadCells_list (P := P) w1 ⟨b, q, none⟩ vs fun j v hj => ?_
      rw [addr_add]
      have hlt := (List.getElem?_eq_some_iff.1 hj).1
      rw [← hj, ← hc j hlt]
      simp [World.cell?, hw]
  have hrow : ∀ {l off n sz : Nat} {xs : List D} {mv : Bool}, σ[l]? = some (.row sz xs mv) → rowV ρ l off n x → off + n ≤ xs.length → ∃ news, DrN w I sz ((xs.drop off).take n) news ∧ (∀ w1, (Builtin.lenOf x).run P w1 = .ok n w1) ∧ ∀ w1 : World, w1.heap = w.heap → (Builtin.firstCells sz n x).run P w1 = .ok news.toArray w1 := by
    intro l off n sz xs mv hs hv hle
    rcases hv with ⟨rfl, ad, rfl⟩ | ⟨L, hL, hle2, rfl⟩
    · refine ⟨[], by simp [DrN], fun w1 => by simp [Builtin.lenOf], fun w1 _ => ?_⟩
      cases ad with
      | none => simp [Builtin.firstCells]
      | some ad => simp [Builtin.firstCells, loadCells, loadCellsFrom]
    · have hob := hO.objs l _ hs
      simp only [orel] at hob
      rcases hob with ⟨h0, _⟩ | ⟨L', C, T, fz, hL', hLs, hh, _, _, _, _, hE⟩
      · rw [hL] at h0; cases h0
      rw [hL] at hL'; cases hL'
      obtain ⟨vs, hN, hc⟩ := DrN_of_E hE
      have hN2 := DrN_take n (DrN_drop off hN)
      refine ⟨_, hN2, fun w1 => by simp [Builtin.lenOf], fun w1 hw => ?_⟩
      have hl := DrN_len hN2
      have hl0 := DrN_len hN
      have hn : ((xs.drop off).take n).length = n := by simp; omega
      rw [hn] at hl
      have hcr := cells_run (P := P) (q := L.o + off * sz) (vs := (vs.drop (off * sz)).take (n * sz)) hh (fun j hj => by
        simp only [List.length_take, List.length_drop] at hj
        rw [List.getElem?_take, if_pos (by omega), List.getElem?_drop, ← hc _ (by omega)]
        simp [World.cell?, hh, Nat.add_assoc]) hw
      rw [hl] at hcr
      simp only [Builtin.firstCells]
      rw [hLs]
      exact hcr
  unfold cont at h
  split at h
  · cases h; simp only [vr] at hv; exact hdata hv
  · cases h; simp only [vr] at hv; obtain ⟨a, rfl, hv⟩ := hv; exact hdata hv
  · split at h
    · rename_i hs
      cases h
      simp only [vr] at hv
      have := hrow hs (hv.2.2 _ _ _ hs) (by omega)
      simpa using this
    · cases h
  · split at h
    · rename_i hs
      cases h
      simp only [vr] at hv
      obtain ⟨g1, g2⟩ := hv.2.2 _ _ _ hs
      have := hrow hs g2.1 g1
      have hn : ∀ (xs : List D) off n, off + n ≤ xs.length → ((xs.drop off).take n).length = n := fun xs off n h => by simp; omega
      rw [hn _ _ _ g1]
      exact this
    · cases h
  · cases h
    simp only [vr, Dr] at hv
    subst hv
    rename_i s
    refine ⟨_, str_cells s, fun w1 => by simp [Builtin.lenOf], fun w1 _ => ?_⟩
    simp only [Builtin.firstCells]
    have : s.extract 0 (s.data.toList.map fun b : UInt8 => D.int .u8 b.toNat).length = s := by simp
    rw [this]
    simp only [Sem.run_pure]
    congr 1
    apply Array.ext'
    simp
  · cases h
end
section
variable {w w' : World} {I I' : Nat → Prop} {ρ ρ' : LM} {σ σ' : Store} {P : Program}
def notIntT (P : Program) (t : TypeId) : Bool := match P.underlying t with | some (.int _) => false | some _ => true | none => false
theorem notIntT_und (h : notIntT P t = true) : ∃ d, P.underlying t = some d ∧ ∀ k, d ≠ .int k := by
 unfold notIntT at h
 cases hu : P.underlying t with
 | none => simp [hu] at h
 | some d => refine ⟨d, rfl, fun k e => ?_⟩; subst e; simp [hu] at h
theorem run_app_room {t t2 ty e : TypeId} {i : TypeInfo} (ht : P.underlying t = some (.slice e)) (hi : P.info? e = some i) (h2 : notIntT P t2 = true) {base : Option Addr} {sLen sCap m : Nat} {x : Value} {news : List Value}
  (hlen : (Builtin.lenOf x).run P w = .ok m w) (hx : (Builtin.firstCells i.size m x).run P w = .ok news.toArray w) (hroom : sLen + m ≤ sCap)
  (hst : match base with | some a => (storeCells (a.add (sLen * i.size)) news).run P w = .ok () w' | none => w' = w) :
  (Builtin.append_ #[t, t2] ty #[.slice base sLen sCap, x]).run P w = .ok (.slice base (sLen + m) sCap) w' := by
 obtain ⟨d, hd, hd2⟩ := notIntT_und h2
 unfold Builtin.append_
 cases d <;> first
  | exact absurd rfl (hd2 _)
  | (simp only [List.getElem?_toArray, List.getElem?_cons_zero, List.getElem?_cons_succ, Sem.run_bind, run_underlying ht, run_underlying hd, Result.andThen_ok, sizeOf, typeInfo, run_program, hi, Sem.run_pure, hlen, hroom, if_true, Bool.not_false, hx, Bool.false_eq_true, if_false]
     cases base with
     | none => simp only at hst; subst hst; rfl
     | some ad => simp only at hst; simp only [Sem.run_bind, hst, Result.andThen_ok]; rfl)
theorem run_app_grow {t t2 ty e : TypeId} {i : TypeInfo} {z : Value} (ht : P.underlying t = some (.slice e)) (hi : P.info? e = some i) (hz : i.zero = some z) (h2 : notIntT P t2 = true) {base : Option Addr} {sLen sCap m : Nat} {x : Value} {news olds : List Value}
  (hlen : (Builtin.lenOf x).run P w = .ok m w) (hold : (Builtin.firstCells i.size sLen (.slice base sLen sCap)).run P w.drew = .ok olds.toArray w.drew) (hx : (Builtin.firstCells i.size m x).run P w.drew = .ok news.toArray w.drew) (hroom : sCap < sLen + m)
  (h63 : sLen + m ≤ 9223372036854775807) (hfit : Builtin.nextslicecap (sLen + m) sCap * i.bytes ≤ 281474976710656) :
  (Builtin.append_ #[t, t2] ty #[.slice base sLen sCap, x]).run P w = .ok (.slice (some ⟨w.heap.size, 0, none⟩) (sLen + m) (grownCap w (sLen + m) sCap e))
   (w.drew.alloc (.cells (olds.toArray ++ news.toArray ++ Builtin.zeroCells z.cells (grownCap w (sLen + m) sCap e - (sLen + m))) e)) := by
 obtain ⟨d, hd, hd2⟩ := notIntT_und h2
 have hmax : IntKind.i64.max = 9223372036854775807 := by decide
 have hn1 : ¬ (((sLen + m : Nat) : Int) > IntKind.i64.max ∧ (False ∨ i.bytes = 0)) := by rw [hmax]; omega
 have hn2 : ¬ (sLen + m ≤ sCap) := by omega
 have h48 : (2 : Nat) ^ 48 = 281474976710656 := by decide
 have hn3 : ¬ (Builtin.nextslicecap (sLen + m) sCap * i.bytes > 2 ^ 48) := by rw [h48]; omega
 unfold Builtin.append_
 cases d <;> first
  | exact absurd rfl (hd2 _)
  | (simp only [List.getElem?_toArray, List.getElem?_cons_zero, List.getElem?_cons_succ, Sem.run_bind, run_underlying ht, run_underlying hd, Result.andThen_ok, sizeOf, typeInfo, run_program, hi, Sem.run_pure, hlen, hn2, if_false, Bool.not_false, Bool.false_eq_true, hn1, hn3,
      run_choose, Question.forced, run_askRoom, World.drew_eq, hold, hx, zeroValue, hz, newRow, run_newObj, World.alloc_eq, if_true]
     rfl)
theorem exec_append {s x : Operand} {t t2 : TypeId} (ho : o.op = .call { callee := .builtin .append, args := #[s, x], argTypes := #[t, t2] }) {v : Value}
  (h : (Builtin.append_ #[t, t2] o.type #[a.eval s, a.eval x]).run P w = .ok v w') : (execOp a.eval o).run P w = .ok (.value v) w' := by
 simp only [execOp, ho, resolve, invoke, builtin, Sem.run_bind, Sem.run_pure, Result.andThen_ok, List.map_toArray, List.map_cons, List.map_nil, h]
def elemW (P : Program) (t : TypeId) : Option (Nat × Nat) :=
  match P.underlying t with
  | some (.slice e) => match P.info? e with
    | some i => match i.zero with
      | some z => if z.cells.size = i.size ∧ (z.cells.toList.all fun x => x.oneCell') = true then some (i.size, i.bytes) else none
      | none => none
    | none => none
  | _ => none
theorem elemW_und {sz by' : Nat} (h : elemW P t = some (sz, by')) : ∃ e i z, P.underlying t = some (.slice e) ∧ P.info? e = some i ∧ i.zero = some z ∧ i.size = sz ∧ i.bytes = by' ∧ z.cells.size = sz ∧ ∀ x ∈ z.cells.toList, one x := by
  unfold elemW at h
  split at h
  · split at h
    · split at h
      · simp only [Option.ite_none_right_eq_some, Option.some.injEq, Prod.mk.injEq] at h
        obtain ⟨⟨h1, h4⟩, h2, h3⟩ := h
        exact ⟨_, _, _, by assumption, by assumption, by assumption, h2, h3, by omega, fun x hx => List.all_eq_true.1 h4 x hx⟩
      · cases h
    · cases h
  · cases h
theorem one_app {cs : List Value} {zs : Array Value} (h : ∀ x ∈ cs, one x) (h' : ∀ x ∈ zs.toList, one x) : ∀ x ∈ (cs.toArray ++ zs).toList, one x := by
 intro x hx
 rw [Array.toList_append] at hx
 rcases List.mem_append.1 hx with hx | hx
 · exact h x (by simpa using hx)
 · exact h' x hx
theorem one_zeros {z : Value} (h : ∀ x ∈ z.cells.toList, one x) (n : Nat) : ∀ x ∈ (Builtin.zeroCells z.cells n).toList, one x := by
 intro x hx
 simp only [Builtin.zeroCells, Array.toList_map, List.mem_map, Array.toList_range, List.mem_range] at hx
 obtain ⟨i, hi, rfl⟩ := hx
 have h0 : 0 < z.cells.size := by
  rcases Nat.eq_zero_or_pos z.cells.size with h0 | h0
  · rw [h0] at hi; omega
  · exact h0
 have hlt := Nat.mod_lt i h0
 rw [getElem!_pos z.cells (i % z.cells.size) hlt]
 exact h _ (by simp)
theorem newRow_grown {e : TypeId} {ds : List D} {cs : List Value} {zs : Array Value} {sz cap : Nat} (hr : vrL w I ρ σ tm a.tmps.toList) (hO : ORel w I ρ σ) (hN : DrN w I sz ds cs) (hzs : zs.size = (cap - ds.length) * sz) (hle : ds.length ≤ cap) (hcap : cap ≤ maxLen) (hzo : ∀ x ∈ zs.toList, one x)
   (hrun : (execOp a.eval o).run P w = .ok (.value (.slice (some ⟨w.heap.size, 0, none⟩) ds.length cap)) (w.drew.alloc (.cells (cs.toArray ++ zs) e))) :
   ∃ nx x w' I' ρ', (execOp a.eval o).run P w = .ok nx w' ∧ (nx = .value x ∨ nx = .skip ∧ x = undef) ∧ vr w' I' ρ' (σ ++ [.row sz ds false]) (.row σ.length) x ∧ vrL w' I' ρ' (σ ++ [.row sz ds false]) tm a.tmps.toList ∧ ORel w' I' ρ' (σ ++ [.row sz ds false]) ∧
     Ext σ.length w I ρ σ w' I' ρ' (σ ++ [.row sz ds false]) := by
 have hl := DrN_len hN
 refine newRow_ok (w' := w.drew) (cs := cs.toArray ++ zs) (t := e) hr hO ?_ hle hcap (one_app (DrN_one hN) hzo) ?_ rfl rfl rfl rfl hrun
 · simp only [Array.size_append, List.size_toArray, hl, hzs, ← Nat.add_mul]
   congr 1; omega
 · have hI : ∀ b, I b → I b ∧ (w.drew.alloc (.cells (cs.toArray ++ zs) e)).heap[b]? = w.heap[b]? := fun b hb => ⟨hb, heap_alloc_old _ _ _ (hO.imm b hb).1⟩
   refine DrE_of_N (DrN_mono hI hN) fun j hj => ?_
   have : (w.drew.alloc (.cells (cs.toArray ++ zs) e)).cell? ⟨w.drew.heap.size, 0 + j, none⟩ = (cs.toArray ++ zs)[j]? := by
     rw [Nat.zero_add]; exact World.cell?_alloc_new _ _ _ _
   rw [this, Array.getElem?_append_left (by simpa using hj)]
   simp
theorem appEx_ok {s x : Operand} {t t2 : TypeId} {sz by' : Nat} {xs ys : List D} (ho : o.op = .call { callee := .builtin .append, args := #[s, x], argTypes := #[t, t2] }) (hs : ev tm s = .ex sz xs) (hx : cont σ (ev tm x) = some (sz, ys))
   (hw : elemW P t = some (sz, by')) (h2 : notIntT P t2 = true) (h0 : 0 < ys.length) (hb : (xs.length + ys.length) * by' ≤ 140737488355328) (h63 : xs.length + ys.length ≤ maxLen) : OpOk P o tm σ (.row σ.length) tm (σ ++ [.row sz (xs ++ ys) false]) := by
 intro w I ρ a hr hO
 obtain ⟨e, i, z, hu, hi, hz, rfl, rfl, hzs, hz1⟩ := elemW_und hw
 have hsr := vr_ev hr s
 have hcs : cont σ (ev tm s) = some (i.size, xs) := by rw [hs]; rfl
 obtain ⟨olds, hNo, _, hfo⟩ := cont_rel (P := P) hcs hsr hO
 rw [hs] at hsr
 simp only [vr] at hsr
 obtain ⟨ad, hsv, _⟩ := hsr
 rw [hsv] at hfo
 obtain ⟨news, hN, hlen, hfc⟩ := cont_rel (P := P) hx (vr_ev hr x) hO
 have hrun := exec_append (a := a) ho (run_app_grow (w := w) (ty := o.type) hu hi hz h2 (base := ad) (sLen := xs.length) (sCap := xs.length) (hlen w) (hfo w.drew rfl) (hfc w.drew rfl) (by omega) (by simp only [maxLen] at h63; omega) (growslice_fits (by omega) hb) |> fun h => by rw [hsv]; exact h)
 have hll : (xs ++ ys).length = xs.length + ys.length := by simp
 have hge := grownCap_ge w (xs.length + ys.length) xs.length e
 refine newRow_grown (cs := olds ++ news) (zs := Builtin.zeroCells z.cells (grownCap w (xs.length + ys.length) xs.length e - (xs.length + ys.length))) (e := e) hr hO (DrN_append hNo hN) ?_ (by rw [hll]; exact hge) (grownCap_le_maxLen w _ _ e h63) (one_zeros hz1 _) ?_
 · rw [size_zeroCells, hzs, hll]
 · rw [hrun, hll]
   congr 3
   apply Array.ext'; simp
theorem map_kill_get {p : Nat → Bool} {x : Nat} : (σ.map (O.kill p))[x]? = (σ[x]?).map (O.kill p) := by simp
theorem ORel.move {o o' : O} (h : ORel w I ρ σ) (hl : σ[l]? = some o) (ho : o ≠ .dead) (hρ : ∀ x, x ≠ l → ρ' x = ρ x) (hheap : ∀ b, b < w.heap.size → (∀ L, ρ l = some L → L.b ≠ b) → w'.heap[b]? = w.heap[b]?) (hsize : w.heap.size ≤ w'.heap.size)
    (hnew : orel w' I ρ' ((σ.map (O.kill (Nat.beq l))).set l o') l o') (hblk : ∀ L', ρ' l = some L' → L'.b < w'.heap.size ∧ (w.heap.size ≤ L'.b ∨ ∃ L, ρ l = some L ∧ L.b = L'.b)) :
    ORel w' I ρ' ((σ.map (O.kill (Nat.beq l))).set l o') ∧ (∀ tm xs, vrL w I ρ σ tm xs → vrL w' I ρ' ((σ.map (O.kill (Nat.beq l))).set l o') (V.killL (Nat.beq l) tm) xs) := by
  have hlt : l < σ.length := (List.getElem?_eq_some_iff.1 hl).1
  have hget : ∀ x o1, ((σ.map (O.kill (Nat.beq l))).set l o')[x]? = some o1 → x ≠ l → ∃ o2, σ[x]? = some o2 ∧ o1 = o2.kill (Nat.beq l) := by
    intro x o1 hx hne
    rw [getElem?_set_ne hne, map_kill_get, Option.map_eq_some_iff] at hx
    obtain ⟨o2, h1, h2⟩ := hx
    exact ⟨o2, h1, h2.symm⟩
  have hII : ∀ b, I b → I b ∧ w'.heap[b]? = w.heap[b]? := fun b hb => ⟨hb, hheap b (h.imm b hb).1 fun L hL e => (h.imm b hb).2 ⟨l, o, L, hl, ho, hL, e⟩⟩
  have hS : ∀ x, x < σ.length → Nat.beq l x = false → Same ρ σ ρ' ((σ.map (O.kill (Nat.beq l))).set l o') x := by
    intro x hx hb
    have hne : x ≠ l := by rintro rfl; simp at hb
    refine ⟨by simpa using hx, fun o1 h1 h2 => ⟨hρ x hne, ?_⟩⟩
    obtain ⟨o2, h3, rfl⟩ := hget x o1 h1 hne
    exact ⟨o2, h3, fun e => h2 (kill_dead.2 e), kill_alike _ _⟩
  have hlive : ∀ x, live ((σ.map (O.kill (Nat.beq l))).set l o') x → live σ x := by
    rintro x ⟨o1, h1, h2⟩
    by_cases hx : x = l
    · subst hx; exact ⟨o, hl, ho⟩
    · obtain ⟨o2, h3, rfl⟩ := hget x o1 h1 hx
      exact ⟨o2, h3, fun e => h2 (kill_dead.2 e)⟩
  have hother : ∀ x X, x ≠ l → live σ x → ρ x = some X → ∀ L, ρ l = some L → L.b ≠ X.b := fun x X hne hx hX L hL e => hne (h.inj x l X L hx ⟨o, hl, ho⟩ hX hL e.symm)
  refine ⟨⟨fun x o1 hx => ?_, fun x y X Y hx hy hX hY e => ?_, ?_, fun b hb => ⟨Nat.lt_of_lt_of_le (h.imm b hb).1 hsize, ?_⟩⟩, fun tm xs ht => ?_⟩
  · by_cases hxl : x = l
    · subst hxl
      rw [List.getElem?_set_self (by simpa using hlt)] at hx
      cases hx
      exact hnew
    · obtain ⟨o2, h3, rfl⟩ := hget x o1 hx hxl
      by_cases hd : o2 = .dead
      · subst hd; simp [O.kill, orel]
      refine orel_up hII (fun y hy => ?_) (hρ x hxl) (fun X hX => hheap _ (h.flt _ ⟨x, o2, X, h3, hd, hX, rfl⟩) (hother x X hxl ⟨o2, h3, hd⟩ hX)) (orel_kill _ (h.objs x o2 h3))
      obtain ⟨h4, h5⟩ := O.locs_kill _ o2 y hy
      exact hS y (orel_bel (h.objs x o2 h3) y h4) h5
  · have hlx := hlive x hx
    have hly := hlive y hy
    by_cases hxl : x = l
    · by_cases hyl : y = l
      · rw [hxl, hyl]
      · exfalso
        subst hxl
        rw [hρ y hyl] at hY
        obtain ⟨_, hq⟩ := hblk X hX
        obtain ⟨o2, h3, h4⟩ := hly
        rcases hq with hq | ⟨L, hL, hq⟩
        · have := h.flt Y.b ⟨y, o2, Y, h3, h4, hY, rfl⟩; omega
        · exact hother y Y hyl ⟨o2, h3, h4⟩ hY L hL (hq.trans e)
    · by_cases hyl : y = l
      · exfalso
        subst hyl
        rw [hρ x hxl] at hX
        obtain ⟨_, hq⟩ := hblk Y hY
        obtain ⟨o2, h3, h4⟩ := hlx
        rcases hq with hq | ⟨L, hL, hq⟩
        · have := h.flt X.b ⟨x, o2, X, h3, h4, hX, rfl⟩; omega
        · exact hother x X hxl ⟨o2, h3, h4⟩ hX L hL (hq.trans e.symm)
      · rw [hρ x hxl] at hX
        rw [hρ y hyl] at hY
        exact h.inj x y X Y hlx hly hX hY e
  · rintro b ⟨x, o1, X, h1, h2, h3, rfl⟩
    by_cases hxl : x = l
    · subst hxl; exact (hblk X h3).1
    · rw [hρ x hxl] at h3
      obtain ⟨o2, h4, h5⟩ := hlive x ⟨o1, h1, h2⟩
      exact Nat.lt_of_lt_of_le (h.flt _ ⟨x, o2, X, h4, h5, h3, rfl⟩) hsize
  · rintro ⟨x, o1, X, h1, h2, h3, rfl⟩
    by_cases hxl : x = l
    · subst hxl
      rcases (hblk X h3).2 with hq | ⟨L, hL, hq⟩
      · have := (h.imm _ hb).1; omega
      · exact (h.imm _ hb).2 ⟨x, o, L, hl, ho, hL, hq⟩
    · rw [hρ x hxl] at h3
      obtain ⟨o2, h4, h5⟩ := hlive x ⟨o1, h1, h2⟩
      exact (h.imm _ hb).2 ⟨x, o2, X, h4, h5, h3, rfl⟩
  · have hk := vrL_kill (Nat.beq l) tm xs ht
    exact vrL_up hII _ _ (fun y hy => hS y (vrL_locs _ _ hk y hy) (locsL_kill _ _ y hy).2) hk
theorem Ext.move {o o' : O} (hl : σ[l]? = some o) (ho : o ≠ .dead) (hld : o.ld = 0) (hst : o'.still = false) (hρ : ∀ x, x ≠ l → ρ' x = ρ x) (hheap : ∀ b, b < w.heap.size → (∀ L, ρ l = some L → L.b ≠ b) → w'.heap[b]? = w.heap[b]?) (hsize : w.heap.size ≤ w'.heap.size)
   (hblk : ∀ L', ρ' l = some L' → L'.b < w'.heap.size ∧ (w.heap.size ≤ L'.b ∨ ∃ L, ρ l = some L ∧ L.b = L'.b)) (hos : w'.os = w.os) (htape : w'.tape = w.tape) (hout : w'.output = w.output) :
   Ext σ.length w I ρ σ w' I ρ' ((σ.map (O.kill (Nat.beq l))).set l o') := by
 have hlt : l < σ.length := (List.getElem?_eq_some_iff.1 hl).1
 have hget : ∀ x o1, ((σ.map (O.kill (Nat.beq l))).set l o')[x]? = some o1 → x ≠ l → ∃ o2, σ[x]? = some o2 ∧ o1 = o2.kill (Nat.beq l) := by
   intro x o1 hx hne
   rw [getElem?_set_ne hne, map_kill_get, Option.map_eq_some_iff] at hx
   obtain ⟨o2, h1, h2⟩ := hx
   exact ⟨o2, h1, h2.symm⟩
 refine ⟨hsize, hos, htape, hout, fun b hb hf => hheap b hb fun L hL e => hf ⟨l, o, L, hl, ho, hL, e⟩, fun _ h => h, fun _ h => .inl h, ?_, by simp, ?_, fun x o1 hx h1 h2 => ?_, fun x o1 hx h1 h2 => ?_⟩
 · rintro b ⟨x, o1, X, h1, h2, h3, rfl⟩
   by_cases hxl : x = l
   · subst hxl
     rcases (hblk X h3).2 with hq | ⟨L, hL, hq⟩
     · exact .inr hq
     · exact .inl ⟨x, o, L, hl, ho, hL, hq⟩
   · rw [hρ x hxl] at h3
     obtain ⟨o2, h4, rfl⟩ := hget x o1 h1 hxl
     exact .inl ⟨x, o2, X, h4, fun e => h2 (kill_dead.2 e), h3, rfl⟩
 · rintro x hx ⟨o1, h1, h2⟩
   by_cases hxl : x = l
   · subst hxl; exact ⟨o, hl, ho⟩
   · obtain ⟨o2, h3, rfl⟩ := hget x o1 h1 hxl
     exact ⟨o2, h3, fun e => h2 (kill_dead.2 e)⟩
 · by_cases hxl : x = l
   · subst hxl
     rw [List.getElem?_set_self (by simpa using hlt)] at h1
     cases h1
     rw [hst] at h2; cases h2
   · obtain ⟨o2, h3, rfl⟩ := hget x o1 h1 hxl
     exact ⟨hρ x hxl, o2, h3, by rwa [kill_still] at h2, kill_alike _ _⟩
 · by_cases hxl : x = l
   · subst hxl
     rw [hl] at h1; cases h1
     exact absurd hld h2
   · exact ⟨o1.kill (Nat.beq l), by rw [getElem?_set_ne hxl, map_kill_get, h1]; rfl, kill_ld _ _⟩
theorem appRow_ok {s x : Operand} {t t2 : TypeId} {l sz by' : Nat} {xs ys : List D} (ho : o.op = .call { callee := .builtin .append, args := #[s, x], argTypes := #[t, t2] }) (hs : ev tm s = .row l) (hl : σ[l]? = some (.row sz xs mv)) (hx : cont σ (ev tm x) = some (sz, ys))
    (hw : elemW P t = some (sz, by')) (h2 : notIntT P t2 = true) (hb : (xs.length + ys.length) * by' ≤ 140737488355328) (h63 : xs.length + ys.length ≤ maxLen) :
    OpOk P o tm σ (.row l) (V.killL (Nat.beq l) tm) ((σ.map (O.kill (Nat.beq l))).set l (.row sz (xs ++ ys) true)) := by
  intro w I ρ a hr hO
  obtain ⟨e, i, z, hu, hi, hz, rfl, rfl, hzs, hz1⟩ := elemW_und hw
  have hlt : l < σ.length := (List.getElem?_eq_some_iff.1 hl).1
  have hsr := vr_ev hr s
  have hcs : cont σ (ev tm s) = some (i.size, xs) := by rw [hs]; simp [cont, hl]
  obtain ⟨olds, hNo, _, hfo⟩ := cont_rel (P := P) hcs hsr hO
  rw [hs] at hsr
  simp only [vr] at hsr
  have hrv := hsr.2.2 _ _ _ hl
  obtain ⟨news, hN, hlen, hfc⟩ := cont_rel (P := P) hx (vr_ev hr x) hO
  have hNN := DrN_append hNo hN
  have hlo := DrN_len hNo
  have hln := DrN_len hN
  have hll : (xs ++ ys).length = xs.length + ys.length := by simp
  have hob := hO.objs l _ hl
  simp only [orel] at hob
  -- what is the same wherever the row comes to lie
  have fin : ∀ (w' : World) (ρ' : LM) (y : Value), (execOp a.eval o).run P w = .ok (.value y) w' → (∀ x, x ≠ l → ρ' x = ρ x) → (∀ b, b < w.heap.size → (∀ L, ρ l = some L → L.b ≠ b) → w'.heap[b]? = w.heap[b]?) → w.heap.size ≤ w'.heap.size →
      orel w' I ρ' ((σ.map (O.kill (Nat.beq l))).set l (.row i.size (xs ++ ys) true)) l (.row i.size (xs ++ ys) true) → (∀ L', ρ' l = some L' → L'.b < w'.heap.size ∧ (w.heap.size ≤ L'.b ∨ ∃ L, ρ l = some L ∧ L.b = L'.b)) →
      rowV ρ' l 0 (xs ++ ys).length y → w'.os = w.os → w'.tape = w.tape → w'.output = w.output →
      ∃ nx x w' I' ρ', (execOp a.eval o).run P w = .ok nx w' ∧ (nx = .value x ∨ nx = .skip ∧ x = undef) ∧ vr w' I' ρ' ((σ.map (O.kill (Nat.beq l))).set l (.row i.size (xs ++ ys) true)) (.row l) x ∧
        vrL w' I' ρ' ((σ.map (O.kill (Nat.beq l))).set l (.row i.size (xs ++ ys) true)) (V.killL (Nat.beq l) tm) a.tmps.toList ∧ ORel w' I' ρ' ((σ.map (O.kill (Nat.beq l))).set l (.row i.size (xs ++ ys) true)) ∧
        Ext σ.length w I ρ σ w' I' ρ' ((σ.map (O.kill (Nat.beq l))).set l (.row i.size (xs ++ ys) true)) := by
    intro w' ρ' y hrun k1 k2 k3 k4 k5 k6 k7 k8 k9
    obtain ⟨g1, g2⟩ := hO.move hl (by simp) k1 k2 k3 k4 k5
    refine ⟨_, y, w', I, ρ', hrun, .inl rfl, ?_, g2 _ _ hr, g1, Ext.move hl (by simp) rfl rfl k1 k2 k3 k5 k7 k8 k9⟩
    simp only [vr]
    refine ⟨?_, by simpa using hlt, fun sz' xs' mv' hx' => ?_⟩
    · obtain ⟨ad, c, rfl⟩ := rowV_slice k6; rfl
    · rw [List.getElem?_set_self (by simpa using hlt)] at hx'
      cases hx'
      exact k6
  have grow : ∀ (base : Option Addr) (cap : Nat), a.eval s = .slice base xs.length cap → cap < xs.length + ys.length →
      ∃ nx x w' I' ρ', (execOp a.eval o).run P w = .ok nx w' ∧ (nx = .value x ∨ nx = .skip ∧ x = undef) ∧ vr w' I' ρ' ((σ.map (O.kill (Nat.beq l))).set l (.row i.size (xs ++ ys) true)) (.row l) x ∧
        vrL w' I' ρ' ((σ.map (O.kill (Nat.beq l))).set l (.row i.size (xs ++ ys) true)) (V.killL (Nat.beq l) tm) a.tmps.toList ∧ ORel w' I' ρ' ((σ.map (O.kill (Nat.beq l))).set l (.row i.size (xs ++ ys) true)) ∧
        Ext σ.length w I ρ σ w' I' ρ' ((σ.map (O.kill (Nat.beq l))).set l (.row i.size (xs ++ ys) true)) := fun base cap hsv hcap => by
    rw [hsv] at hfo
    have hrun := exec_append (a := a) ho (run_app_grow (w := w) (ty := o.type) hu hi hz h2 (base := base) (sLen := xs.length) (sCap := cap) (hlen w) (hfo w.drew rfl) (hfc w.drew rfl) hcap (by simp only [maxLen] at h63; omega) (growslice_fits (by omega) hb) |> fun h => by rw [hsv]; exact h)
    have hge := grownCap_ge w (xs.length + ys.length) cap e
    have hmax := grownCap_le_maxLen w (xs.length + ys.length) cap e h63
    have hcsz : (olds.toArray ++ news.toArray ++ Builtin.zeroCells z.cells (grownCap w (xs.length + ys.length) cap e - (xs.length + ys.length))).size = grownCap w (xs.length + ys.length) cap e * i.size := by
      simp only [Array.size_append, List.size_toArray, hlo, hln, size_zeroCells, hzs, ← Nat.add_mul]
      congr 1; omega
    have hII : ∀ b, I b → I b ∧ (w.drew.alloc (.cells (olds.toArray ++ news.toArray ++ Builtin.zeroCells z.cells (grownCap w (xs.length + ys.length) cap e - (xs.length + ys.length))) e)).heap[b]? = w.heap[b]? := fun b hb => ⟨hb, heap_alloc_old _ _ _ (hO.imm b hb).1⟩
    exact fin _ (fun q => if q = l then some ⟨w.heap.size, 0, i.size, grownCap w (xs.length + ys.length) cap e⟩ else ρ q) _ hrun (fun q hq => by simp [hq]) (fun b hb _ => heap_alloc_old _ _ _ hb) (by simp) (by
      simp only [orel]
      refine .inr ⟨⟨w.heap.size, 0, i.size, grownCap w (xs.length + ys.length) cap e⟩, _, e, (0, 0), by simp, rfl, heap_alloc_new _ _, ⟨thaw_zero _, by
        intro x hx
        rw [Array.toList_append] at hx
        rcases List.mem_append.1 hx with hx | hx
        · rw [Array.toList_append] at hx
          rcases List.mem_append.1 hx with hx | hx
          · exact DrN_one hNo x hx
          · exact DrN_one hN x hx
        · exact one_zeros hz1 _ x hx⟩, by rw [hcsz]; simp, by rw [hll]; exact hge, hmax, ?_⟩
      refine DrE_of_N (DrN_mono hII hNN) fun j hj => ?_
      have : (w.drew.alloc (.cells (olds.toArray ++ news.toArray ++ Builtin.zeroCells z.cells (grownCap w (xs.length + ys.length) cap e - (xs.length + ys.length))) e)).cell? ⟨w.drew.heap.size, 0 + j, none⟩ = (olds.toArray ++ news.toArray ++ Builtin.zeroCells z.cells (grownCap w (xs.length + ys.length) cap e - (xs.length + ys.length)))[j]? := by
        rw [Nat.zero_add]; exact World.cell?_alloc_new _ _ _ _
      refine Eq.trans this ?_
      simp only [List.length_append] at hj
      rw [Array.getElem?_append_left (by simpa using hj)]
      simp) (fun L' hL' => by simp at hL'; subst hL'; exact ⟨by simp, .inl (Nat.le_refl _)⟩) (.inr ⟨⟨w.heap.size, 0, i.size, grownCap w (xs.length + ys.length) cap e⟩, by simp, by rw [hll, Nat.zero_add]; exact hge, by simp [hll]⟩) rfl rfl rfl
  rcases hrv with ⟨h0, ad, hsv⟩ | ⟨L, hL, hle, hsv⟩
  · -- nothing there yet
    have hxs : xs = [] := List.eq_nil_of_length_eq_zero h0
    have hsv' : a.eval s = .slice ad xs.length 0 := by rw [hsv, h0]
    by_cases hm : ys.length = 0
    · have hys : ys = [] := List.eq_nil_of_length_eq_zero hm
      have hnews : news = [] := List.eq_nil_of_length_eq_zero (by rw [hln, hm]; simp)
      have hrun := exec_append (a := a) ho (run_app_room (w := w) (w' := w) (ty := o.type) hu hi h2 (base := ad) (sLen := xs.length) (sCap := 0) (hlen w) (hfc w rfl) (by omega) (by cases ad with
        | none => rfl
        | some ad => simp [hnews, storeCells]) |> fun h => by rw [hsv']; exact h)
      refine fin w ρ _ hrun (fun _ _ => rfl) (fun _ _ _ => rfl) (Nat.le_refl _) ?_ (fun L' hL' => ?_) (.inl ⟨by simp [hxs, hys], ad, by simp [hxs, hys]⟩) rfl rfl rfl
      · simp only [orel]
        rcases hob with ⟨g1, _⟩ | ⟨L, C, T, fz, g1, g2, g3, g4, g5, g6, g7, g8⟩
        · exact .inl ⟨g1, by simp [hxs, hys]⟩
        · exact .inr ⟨L, C, T, fz, g1, g2, g3, g4, g5, by simp [hxs, hys], g7, by simp [hxs, hys, DrE]⟩
      · rcases hob with ⟨g1, _⟩ | ⟨L, C, T, fz, g1, g2, g3, g4, g5, g6, g7, g8⟩
        · rw [hL'] at g1; cases g1
        · rw [hL'] at g1; cases g1
          exact ⟨hO.flt _ ⟨l, _, L', hl, by simp, hL', rfl⟩, .inr ⟨L', hL', rfl⟩⟩
    · exact grow ad 0 hsv' (by omega)
  · rcases hob with ⟨h0, _⟩ | ⟨L', C, T, fz, hL', hLs, hh, hth, hC, hle2, hcap, hE⟩
    · rw [hL] at h0; cases h0
    rw [hL] at hL'; cases hL'
    have hsv' : a.eval s = .slice (some ⟨L.b, L.o, none⟩) xs.length L.cap := by rw [hsv]; simp
    by_cases hroom : xs.length + ys.length ≤ L.cap
    · have hb1 : xs.length * i.size + ys.length * i.size ≤ L.cap * i.size := by rw [← Nat.add_mul]; exact Nat.mul_le_mul_right _ hroom
      have hst := run_storeCells_th (P := P) L.b (L.o + xs.length * i.size) T fz news 0 C w hh hth.1 (by omega) (DrN_one hN)
      simp only [Nat.add_zero] at hst
      have hrun := exec_append (a := a) ho (run_app_room (w := w) (ty := o.type) hu hi h2 (base := some ⟨L.b, L.o, none⟩) (sLen := xs.length) (sCap := L.cap) (hlen w) (hfc w rfl) hroom (by simp only [addr_add]; exact hst) |> fun h => by rw [hsv']; exact h)
      have hII : ∀ b, I b → I b ∧ (w.setRow L.b (C.toList.take (L.o + xs.length * i.size) ++ news ++ C.toList.drop (L.o + xs.length * i.size + news.length)).toArray).heap[b]? = w.heap[b]? :=
        fun b hb => ⟨hb, setRow_other _ _ _ _ fun e => (hO.imm b hb).2 ⟨l, _, L, hl, by simp, hL, e.symm⟩⟩
      refine fin _ ρ _ hrun (fun _ _ => rfl) (fun b _ hb => setRow_other _ _ _ _ fun e => hb L hL e.symm) (by simp) ?_ (fun L' hL' => ?_) (.inr ⟨L, hL, by simpa [hll] using hroom, by simp [hll]⟩) rfl rfl rfl
      · simp only [orel]
        refine .inr ⟨L, _, T, fz, hL, hLs, setRow_heap _ _ _ _ _ _ hh, ?_, ?_, by rw [hll]; exact hroom, hcap, ?_⟩
        · have : ∀ n, n = C.size → thaw fz n := fun n e => e ▸ hth.1
          exact ⟨this _ (by simp; omega), one_splice hth.2 (DrN_one hN)⟩
        · simp; omega
        · refine DrE_of_N (DrN_mono hII hNN) fun j hj => ?_
          rw [cell_setRow_same _ _ _ _ _ _ _ hh]
          simp only [List.length_append] at hj
          obtain ⟨vs0, hN0, hc0⟩ := DrN_of_E hE
          have hvs0l := DrN_len hN0
          have holds : olds = (C.toList.drop L.o).take olds.length := by
            have := hfo w rfl
            rw [hsv'] at this
            simp only [Builtin.firstCells] at this
            have hcr := cells_run (P := P) (w := w) (q := L.o) (vs := (C.toList.drop L.o).take (xs.length * i.size)) hh (fun q hq => by
              simp only [List.length_take, List.length_drop, Array.length_toList] at hq
              rw [List.getElem?_take, if_pos (by omega)]; simp) rfl
            have hlq : ((C.toList.drop L.o).take (xs.length * i.size)).length = xs.length * i.size := by simp; omega
            rw [hlq] at hcr
            rw [hcr] at this
            have h9 := congrArg (fun r => match r with | Result.ok v _ => v.toList | _ => []) this
            simp only at h9
            rw [hlo]; exact h9.symm
          simp only [List.getElem?_toArray]
          by_cases hjo : j < olds.length
          · rw [List.getElem?_append_left (by simp; omega), List.getElem?_append_left (by simp; omega), List.getElem?_append_left hjo, List.getElem?_take, if_pos (by omega)]
            conv => rhs; rw [holds]
            rw [List.getElem?_take, if_pos hjo, List.getElem?_drop]
          · rw [List.getElem?_append_left (by simp; omega), List.getElem?_append_right (by simp; omega), List.getElem?_append_right (by omega)]
            congr 1
            simp only [List.length_take, Array.length_toList]
            omega
      · rw [hL] at hL'; cases hL'
        exact ⟨by have := hO.flt L.b ⟨l, _, L, hl, by simp, hL, rfl⟩; simpa using this, .inr ⟨L, hL, rfl⟩⟩
    · exact grow (some ⟨L.b, L.o, none⟩) L.cap hsv' (by omega)
end
end Go.Br
