/- The base of these proofs, part E: operations that make memory or write it; many steps at once. -/
import Derived.Test.YtoelkgbeefoplaaBrD
namespace Go.Br
open Go

section up
variable {w w' : World} {I I' : Nat → Prop} {ρ ρ' : LM} {σ σ' : Store}
mutual
theorem vr_locs : ∀ (v : V) (x : Value), vr w I ρ σ v x → ∀ l ∈ v.locs, l < σ.length
  | .d _, _, _, l, hl => by simp [V.locs] at hl
  | .undef, _, _, l, hl => by simp [V.locs] at hl
  | .nils, _, _, l, hl => by simp [V.locs] at hl
  | .ex _ _, _, _, l, hl => by simp [V.locs] at hl
  | .ep _ _ _, _, _, l, hl => by simp [V.locs] at hl
  | .ptr k i s, x, h, l, hl => by simp only [V.locs, List.mem_singleton] at hl; subst hl; simp only [vr] at h; exact h.2.1
  | .row k, x, h, l, hl => by simp only [V.locs, List.mem_singleton] at hl; subst hl; simp only [vr] at h; exact h.2.1
  | .sl k _ _ _, x, h, l, hl => by simp only [V.locs, List.mem_singleton] at hl; subst hl; simp only [vr] at h; exact h.2.1
  | .yield k, x, h, l, hl => by simp only [V.locs, List.mem_singleton] at hl; subst hl; simp only [vr] at h; exact h.2.1
  | .fn f a b, x, h, l, hl => by
    simp only [V.locs, List.mem_append] at hl
    simp only [vr] at h
    obtain ⟨fs, cs, _, h1, h2⟩ := h
    rcases hl with hl | hl
    · exact vrL_locs a fs h1 l hl
    · exact vrL_locs b cs h2 l hl
  | .tuple vs, x, h, l, hl => by
    simp only [V.locs] at hl
    simp only [vr] at h
    obtain ⟨xs, _, h1⟩ := h
    exact vrL_locs vs xs h1 l hl
  | .agg vs, x, h, l, hl => by
    simp only [V.locs] at hl
    simp only [vr] at h
    obtain ⟨xs, _, h1, _⟩ := h
    exact vrL_locs vs xs h1 l hl
theorem vrL_locs : ∀ (vs : List V) (xs : List Value), vrL w I ρ σ vs xs → ∀ l ∈ V.locsL vs, l < σ.length
  | [], _, _, l, hl => by simp [V.locsL] at hl
  | v :: vs, xs, h, l, hl => by
    simp only [V.locsL, List.mem_append] at hl
    simp only [vrL] at h
    obtain ⟨x, xs', _, h1, h2⟩ := h
    rcases hl with hl | hl
    · exact vr_locs v x h1 l hl
    · exact vrL_locs vs xs' h2 l hl
end
theorem vr_all (hI : ∀ b, I b → I' b ∧ w'.heap[b]? = w.heap[b]?) (hs : ∀ l, l < σ.length → Same ρ σ ρ' σ' l) {v : V} {x : Value} (h : vr w I ρ σ v x) : vr w' I' ρ' σ' v x :=
  vr_up hI v x (fun l hl => hs l (vr_locs v x h l hl)) h
theorem vrL_all (hI : ∀ b, I b → I' b ∧ w'.heap[b]? = w.heap[b]?) (hs : ∀ l, l < σ.length → Same ρ σ ρ' σ' l) {v : List V} {x : List Value} (h : vrL w I ρ σ v x) : vrL w' I' ρ' σ' v x :=
  vrL_up hI v x (fun l hl => hs l (vrL_locs v x h l hl)) h

/-- A thing that stays as it is. -/
theorem orel_all (hI : ∀ b, I b → I' b ∧ w'.heap[b]? = w.heap[b]?) (hs : ∀ l, l < σ.length → Same ρ σ ρ' σ' l) {l : Nat} {o : O} (hρ : ρ' l = ρ l) (hh : ∀ L, ρ l = some L → w'.heap[L.b]? = w.heap[L.b]?) (h : orel w I ρ σ l o) :
    orel w' I' ρ' σ' l o := by
  cases o with
  | dead => simp [orel]
  | cells cs =>
    simp only [orel] at h ⊢
    obtain ⟨L, C, T, fz, h1, h2, h3, h4, h5, h6⟩ := h
    exact ⟨L, C, T, fz, hρ.trans h1, h2, (hh L h1).trans h3, h4, vrL_all hI hs h5, h6⟩
  | row sz xs mv =>
    simp only [orel] at h ⊢
    rcases h with ⟨h1, h2⟩ | ⟨L, C, T, fz, h1, h2, h3, h4, h5, h6, h7, h8⟩
    · exact .inl ⟨hρ.trans h1, h2⟩
    · exact .inr ⟨L, C, T, fz, hρ.trans h1, h2, (hh L h1).trans h3, h4, h5, h6, h7, DrE_mono hI sz L.b (hh L h1) L.o xs h8⟩
  | map es =>
    simp only [orel] at h ⊢
    obtain ⟨L, E, n, h1, h2, h3, h4, h5, h6⟩ := h
    refine ⟨L, E, n, hρ.trans h1, h2, (hh L h1).trans h3, h4, fun j e hj => ?_, h6⟩
    obtain ⟨g1, x, g2, g3, g4⟩ := h5 j e hj
    exact ⟨g1, x, g2, g3, Dr_mono hI _ _ g4⟩
  | loop st pend fn tm params assign body =>
    simp only [orel] at h ⊢
    obtain ⟨L, tmps, db, h1, h2, h3⟩ := h
    exact ⟨L, tmps, db, hρ.trans h1, (hh L h1).trans h2, vrL_all hI hs h3⟩
  | defd =>
    simp only [orel] at h ⊢
    obtain ⟨L, h1, h2⟩ := h
    exact ⟨L, hρ.trans h1, (hh L h1).trans h2⟩
end up

theorem live_lt {σ : Store} {l : Nat} (h : live σ l) : l < σ.length := by
  obtain ⟨o, ho, _⟩ := h
  exact (List.getElem?_eq_some_iff.1 ho).1

/-- Loops and the lists of deferred calls stay what they are. -/
def Stay (ρ : LM) (σ : Store) (ρ' : LM) (σ' : Store) : Prop :=
  ∀ l o, σ[l]? = some o → o.ld ≠ 0 → ρ' l = ρ l ∧ ∃ o', σ'[l]? = some o' ∧ o'.ld = o.ld
theorem ld_one {o : O} (h : o.ld = 1) : o = .defd := by cases o <;> simp_all [O.ld]
theorem ld_two {o : O} (h : o.ld = 2) : ∃ a b c d e f g, o = .loop a b c d e f g := by
  cases o <;> simp_all [O.ld]
theorem ld_still {o : O} (h : o.ld ≠ 0) : o.still = true := by cases o <;> simp_all [O.ld, O.still]
theorem Ext.stays {w w' : World} {I I' : Nat → Prop} {ρ ρ' : LM} {σ σ' : Store} (h : Ext σ.length w I ρ σ w' I' ρ' σ') : Stay ρ σ ρ' σ' := by
  intro l o hl ho
  have hlt : l < σ.length := (List.getElem?_eq_some_iff.1 hl).1
  obtain ⟨o', h1, h2⟩ := h.stay l o hlt hl ho
  exact ⟨(h.fixed l o' hlt h1 (ld_still (by rw [h2]; exact ho))).1, o', h1, h2⟩

theorem dfr_stay {ρ ρ' : LM} {σ σ' : Store} (hs : Stay ρ σ ρ' σ') : ∀ {df : List Nat} {ds : List Deferred}, dfr ρ σ df ds → dfr ρ' σ' df ds
  | [], ds, h => by simpa [dfr] using h
  | l :: ls, ds, h => by
    simp only [dfr] at h ⊢
    obtain ⟨L, ds', h1, h2, h3, h4⟩ := h
    obtain ⟨g1, o', g2, g3⟩ := hs l _ h2 (by simp [O.ld])
    have := ld_one (o := o') (by rw [g3]; rfl)
    subst this
    exact ⟨L, ds', g1.trans h1, g2, h3, dfr_stay hs h4⟩
theorem rbOf_stay {ρ ρ' : LM} {σ σ' : Store} (hs : Stay ρ σ ρ' σ') {ro rb : Option Nat} (h : rbOf ρ σ ro rb) : rbOf ρ' σ' ro rb := by
  cases ro with
  | none => exact h
  | some l =>
    obtain ⟨L, o, h1, h2, h3, h4⟩ := h
    obtain ⟨a1, a2, a3, a4, a5, a6, a7, rfl⟩ := h3
    obtain ⟨g1, o', g2, g3⟩ := hs l _ h2 (by simp [O.ld])
    exact ⟨L, o', g1.trans h1, g2, ld_two (by rw [g3]; rfl), h4⟩

/-- What an operation does to a state: its value, the slots that are still of use, the store. -/
def OpOk (P : Program) (o : Oper) (tm : List V) (σ : Store) (v : V) (tm' : List V) (σ' : Store) : Prop :=
  ∀ (w : World) (I : Nat → Prop) (ρ : LM) (a : Act), vrL w I ρ σ tm a.tmps.toList → ORel w I ρ σ →
    ∃ nx x w' I' ρ', (execOp a.eval o).run P w = .ok nx w' ∧ (nx = .value x ∨ nx = .skip ∧ x = undef) ∧ vr w' I' ρ' σ' v x ∧ vrL w' I' ρ' σ' tm' a.tmps.toList ∧ ORel w' I' ρ' σ' ∧
      Ext σ.length w I ρ σ w' I' ρ' σ'

/-- Is an operation carried out? -/
def wantA (ops : Array Oper) (o : Oper) (tm : List V) : Option Bool :=
  match o.guard with
  | none => some true
  | some (j, want) => match (ops[j]?).bind (·.dst) with
    | some d => match tm[d]? with
      | some (.d (.bool b)) => some (b == want)
      | _ => none
    | none => none
theorem wantA_ok {ops : Array Oper} {o : Oper} {tm : List V} {b : Bool} (h : wantA ops o tm = some b) {w : World} {I : Nat → Prop} {ρ : LM} {σ : Store} {a : Act} (hr : vrL w I ρ σ tm a.tmps.toList) :
    Region.wanted o (yielded ops a.tmps) = b := by
  unfold wantA at h
  unfold Region.wanted
  cases hg : o.guard with
  | none => simp [hg] at h; simp [h]
  | some p =>
    obtain ⟨j, want⟩ := p
    simp only [hg] at h ⊢
    split at h
    · rename_i d hd
      split at h
      · rename_i c hc
        cases h
        obtain ⟨x, hx, hv⟩ := vrL_get? hr hc
        simp only [vr, Dr] at hv
        subst hv
        have hx' : a.tmps[d]? = some (.bool c) := by simpa using hx
        simp only [yielded, hd, Option.bind_some, hx']
        cases c <;> cases want <;> rfl
      · cases h
    · cases h

section rules
variable {P : Program} {f : FuncId} {ro : Option Nat} {n : Nat} {k : List Item} {tm tm' : List V} {σ σ' : Store} {df : List Nat} {Q : AE → Store → Prop}
theorem AW.op {ops : Array Oper} {i : Nat} {rest : List Nat} {o : Oper} {v : V} (hi : ops[i]? = some o) (hw : wantA ops o tm = some true) (hd : Op.isDefer o.op = false) (hok : OpOk P o tm σ v tm' σ')
    (h : AW P f ro n (.inRegion ops rest :: k) (put tm' o.dst v) σ' df Q) : AW P f ro n (.inRegion ops (i :: rest) :: k) tm σ df Q := by
  intro w I ρ a rb hr hb hn
  obtain ⟨nx, x, w', I', ρ', h1, h2, h3, h4, h5, h6⟩ := hok w I ρ a hr.tms hr.ors
  have h7 := h6.stays
  have hwa := wantA_ok hw hr.tms
  have hlen : n ≤ σ'.length := Nat.le_trans hn h6.len
  have hnext := h w' I' ρ' (a.put o.dst x) rb ⟨vrL_put h4 o.dst h3, h5, by rw [put_defers]; exact dfr_stay h7 hr.dfs⟩ (rbOf_stay h7 hb) hlen
  have hnext := hnext.mono fun e w'' hf => hf.trans (h6.less hn)
  rcases h2 with rfl | ⟨rfl, rfl⟩
  · exact .step (fun cs => st_op_value hi hwa hd h1) hnext
  · exact .step (fun cs => st_op_unit hi hwa hd h1) hnext
theorem AW.opSkip {ops : Array Oper} {i : Nat} {rest : List Nat} {o : Oper} (hi : ops[i]? = some o) (hw : wantA ops o tm = some false)
    (h : AW P f ro n (.inRegion ops rest :: k) (put tm o.dst .undef) σ df Q) : AW P f ro n (.inRegion ops (i :: rest) :: k) tm σ df Q := by
  intro w I ρ a rb hr hb hn
  have hwa := wantA_ok hw hr.tms
  have hs : ∀ cs, step P (lone (frm f rb a (.inRegion ops (i :: rest) :: k)) cs w) = .next (lone (frm f rb (a.put o.dst undef) (.inRegion ops rest :: k)) cs w) := by
    intro cs
    have := st_op_skip (P := P) (f := f) (rb := rb) (a := a) (k := k) (cs := cs) (w := w) (ops := ops) (i := i) (rest := rest) (by simp [hi, hwa])
    simpa [hi] using this
  exact .step hs (h w I ρ _ rb ⟨vrL_put hr.tms o.dst (by simp [vr]), hr.ors, by rw [put_defers]; exact hr.dfs⟩ hb hn)
/-- A state may be told with less. -/
theorem AW.less (hl : ∀ w I ρ (a : List Value), vrL w I ρ σ tm a → vrL w I ρ σ tm' a) (h : AW P f ro n k tm' σ df Q) : AW P f ro n k tm σ df Q :=
  fun w I ρ a rb hr hb hn => h w I ρ a rb ⟨hl w I ρ _ hr.tms, hr.ors, hr.dfs⟩ hb hn
end rules

theorem qop_isDefer {P : Program} {tm : List V} {σ : Store} {o : Op} {v : V} (h : qop P tm σ o = some v) : Op.isDefer o = false := by
  cases o <;> simp_all [qop, Op.isDefer]
theorem qop_opOk {P : Program} {tm : List V} {σ : Store} {o : Oper} {v : V} (h : qop P tm σ o.op = some v) : OpOk P o tm σ v tm σ := by
  intro w I ρ a hr hO
  obtain ⟨z, h1, h2⟩ := qop_ok (w := w) (I := I) (ρ := ρ) h (fun x => vr_ev hr x) hO
  exact ⟨_, z, w, I, ρ, h1, .inl rfl, h2, hr, hO, Ext.refl w I ρ σ⟩

/-- A value as it is stored at a type. -/
def elemSz (P : Program) (t : TypeId) : Option Nat := match P.underlying t with | some (.slice e) => (P.info? e).map (·.size) | _ => none
def co (P : Program) (t : TypeId) : V → V
  | .nils => match elemSz P t with | some sz => .d (.list sz []) | none => .nils
  | .ex sz xs => .d (.list sz xs)
  | v => v
section
variable {w w' : World} {I I' : Nat → Prop} {ρ ρ' : LM} {σ σ' : Store}
theorem co_rel {P : Program} {t : TypeId} {v : V} {x : Value} (h : vr w I ρ σ v x) : vr w I ρ σ (co P t v) x := by
  unfold co
  split
  · simp only [vr] at h
    subst h
    split
    · simp only [vr, Dr]; exact ⟨none, 0, rfl, Nat.le_refl _, Nat.zero_le _, by simp⟩
    · simp [vr]
  · simp only [vr] at h ⊢
    obtain ⟨a, rfl, h⟩ := h
    exact h
  · exact h

theorem getElem?_set_ne {σ : Store} {l x : Nat} (h : x ≠ l) (o : O) : (σ.set l o)[x]? = σ[x]? := by
  rw [List.getElem?_set]; simp [Ne.symm h]
theorem same_set {l : Nat} {o o' : O} (hl : σ[l]? = some o) (hn : o ≠ .dead) (hk : o.alike o') : ∀ x, x < σ.length → Same ρ σ ρ (σ.set l o') x := by
  intro x hx
  refine ⟨by simpa using hx, fun o1 h1 h2 => ⟨rfl, ?_⟩⟩
  by_cases hxl : x = l
  · subst hxl
    rw [List.getElem?_set_self (by exact hx)] at h1
    cases h1
    exact ⟨o, hl, hn, hk⟩
  · rw [getElem?_set_ne hxl] at h1
    exact ⟨o1, h1, h2, rfl⟩
theorem live_set {l : Nat} {o : O} {x : Nat} (hl : live σ l) (h : live (σ.set l o) x) : live σ x := by
  obtain ⟨o1, h1, h2⟩ := h
  by_cases hx : x = l
  · subst hx; exact hl
  · rw [getElem?_set_ne hx] at h1; exact ⟨o1, h1, h2⟩
theorem foot_set {l : Nat} {o : O} {b : Nat} (hl : live σ l) (h : foot ρ (σ.set l o) b) : foot ρ σ b := by
  obtain ⟨x, o1, L, h1, h2, h3, h4⟩ := h
  obtain ⟨o2, h5, h6⟩ := live_set hl ⟨o1, h1, h2⟩
  exact ⟨x, o2, L, h5, h6, h3, h4⟩

/-- A thing that was written in its place. -/
theorem ORel.upd {l : Nat} {L : Loc} {o o' : O} (h : ORel w I ρ σ) (hl : σ[l]? = some o) (ho : o ≠ .dead) (hL : ρ l = some L) (hk : o.alike o')
    (hheap : ∀ b, b ≠ L.b → w'.heap[b]? = w.heap[b]?) (hsize : w'.heap.size = w.heap.size) (hnew : orel w' I ρ (σ.set l o') l o') : ORel w' I ρ (σ.set l o') where
  objs x o1 hx := by
    have hI : ∀ b, I b → I b ∧ w'.heap[b]? = w.heap[b]? := fun b hb => ⟨hb, hheap b fun e => (h.imm b hb).2 ⟨l, o, L, hl, ho, hL, e.symm⟩⟩
    have hlt : l < σ.length := (List.getElem?_eq_some_iff.1 hl).1
    by_cases hxl : x = l
    · subst hxl
      rw [List.getElem?_set_self hlt] at hx
      cases hx
      exact hnew
    · rw [getElem?_set_ne hxl] at hx
      by_cases hd : o1 = .dead
      · subst hd; simp [orel]
      refine orel_all hI (same_set hl ho hk) rfl (fun K hK => hheap _ fun e => hxl ?_) (h.objs x o1 hx)
      exact h.inj x l K L ⟨o1, hx, hd⟩ ⟨o, hl, ho⟩ hK hL e
  inj x y X Y hx hy hX hY e := h.inj x y X Y (live_set ⟨o, hl, ho⟩ hx) (live_set ⟨o, hl, ho⟩ hy) hX hY e
  flt b hb := by rw [hsize]; exact h.flt b (foot_set ⟨o, hl, ho⟩ hb)
  imm b hb := ⟨by rw [hsize]; exact (h.imm b hb).1, fun hf => (h.imm b hb).2 (foot_set ⟨o, hl, ho⟩ hf)⟩
theorem Ext.upd {l : Nat} {L : Loc} {o o' : O} (hl : σ[l]? = some o) (ho : o ≠ .dead) (hL : ρ l = some L) (hf : o'.still = true → o.still = true) (hk : o.alike o') (hld : o'.ld = o.ld)
    (hheap : ∀ b, b ≠ L.b → w'.heap[b]? = w.heap[b]?) (hsize : w'.heap.size = w.heap.size) (hos : w'.os = w.os) (htape : w'.tape = w.tape) (hout : w'.output = w.output) : Ext σ.length w I ρ σ w' I ρ (σ.set l o') where
  size := by omega
  os := hos
  tape := htape
  output := hout
  old b _ hb := hheap b fun e => hb ⟨l, o, L, hl, ho, hL, e.symm⟩
  immI _ h := h
  immN _ h := .inl h
  footN b h := .inl (foot_set ⟨o, hl, ho⟩ h)
  len := by simp
  alive x _ h := live_set ⟨o, hl, ho⟩ h
  fixed x o1 hx h1 h2 := by
    refine ⟨rfl, ?_⟩
    by_cases hxl : x = l
    · subst hxl
      rw [List.getElem?_set_self hx] at h1
      cases h1
      exact ⟨o, hl, hf h2, hk⟩
    · rw [getElem?_set_ne hxl] at h1
      exact ⟨o1, h1, h2, rfl⟩
  stay x o1 hx h1 _ := by
    by_cases hxl : x = l
    · subst hxl
      rw [hl] at h1; cases h1
      exact ⟨o', List.getElem?_set_self hx, hld⟩
    · exact ⟨o1, by rw [getElem?_set_ne hxl]; exact h1, rfl⟩

/-- A new thing. -/
theorem ORel.new (h : ORel w I ρ σ) (L : Loc) (o : O) (hL : L.b = w.heap.size) (hheap : ∀ b, b < w.heap.size → w'.heap[b]? = w.heap[b]?) (hsize : w'.heap.size = w.heap.size + 1)
    (hnew : orel w' I (fun x => if x = σ.length then some L else ρ x) (σ ++ [o]) σ.length o) : ORel w' I (fun x => if x = σ.length then some L else ρ x) (σ ++ [o]) := by
  have hI : ∀ b, I b → I b ∧ w'.heap[b]? = w.heap[b]? := fun b hb => ⟨hb, hheap b (h.imm b hb).1⟩
  have hS : ∀ x, x < σ.length → Same ρ σ (fun x => if x = σ.length then some L else ρ x) (σ ++ [o]) x := by
    intro x hx
    refine ⟨by simp; omega, fun o' h1 h2 => ⟨by simp [Nat.ne_of_lt hx], o', ?_, h2, rfl⟩⟩
    rwa [List.getElem?_append_left hx] at h1
  have hold : ∀ x o1, (σ ++ [o])[x]? = some o1 → x ≠ σ.length → σ[x]? = some o1 := by
    intro x o1 hx hne
    rw [List.getElem?_append] at hx
    split at hx
    · exact hx
    · have := (List.getElem?_eq_some_iff.1 hx).1
      simp at this; omega
  have hfoot : ∀ b, foot (fun x => if x = σ.length then some L else ρ x) (σ ++ [o]) b → foot ρ σ b ∨ b = w.heap.size := by
    rintro b ⟨x, o1, K, h1, h2, h3, h4⟩
    by_cases hx : x = σ.length
    · simp only [hx, if_true, Option.some.injEq] at h3
      subst h3
      exact .inr (h4.symm.trans hL)
    · simp only [hx, if_false] at h3
      exact .inl ⟨x, o1, K, hold x o1 h1 hx, h2, h3, h4⟩
  have hlive : ∀ x, live (σ ++ [o]) x → x ≠ σ.length → live σ x := fun x ⟨o1, h1, h2⟩ hne => ⟨o1, hold x o1 h1 hne, h2⟩
  refine ⟨fun x o1 hx => ?_, ?_, ?_, ?_⟩
  · by_cases hxe : x = σ.length
    · subst hxe
      simp at hx
      subst hx
      exact hnew
    · by_cases hd : o1 = .dead
      · subst hd; simp [orel]
      refine orel_all hI hS (by simp [hxe]) (fun K hK => hheap _ ?_) (h.objs x o1 (hold x o1 hx hxe))
      exact h.flt _ ⟨x, o1, K, hold x o1 hx hxe, hd, hK, rfl⟩
  · intro x y X Y hx hy hX hY e
    by_cases hxe : x = σ.length
    · by_cases hye : y = σ.length
      · rw [hxe, hye]
      · simp only [hxe, if_true, Option.some.injEq] at hX
        simp only [hye, if_false] at hY
        subst hX
        obtain ⟨o2, h1, h2⟩ := hlive y hy hye
        have := h.flt Y.b ⟨y, o2, Y, h1, h2, hY, rfl⟩
        omega
    · by_cases hye : y = σ.length
      · simp only [hye, if_true, Option.some.injEq] at hY
        simp only [hxe, if_false] at hX
        subst hY
        obtain ⟨o2, h1, h2⟩ := hlive x hx hxe
        have := h.flt X.b ⟨x, o2, X, h1, h2, hX, rfl⟩
        omega
      · simp only [hxe, hye, if_false] at hX hY
        exact h.inj x y X Y (hlive x hx hxe) (hlive y hy hye) hX hY e
  · intro b hb
    rcases hfoot b hb with hb | hb
    · have := h.flt b hb; omega
    · omega
  · intro b hb
    refine ⟨by have := (h.imm b hb).1; omega, fun hf => ?_⟩
    rcases hfoot b hf with hf | hf
    · exact (h.imm b hb).2 hf
    · have := (h.imm b hb).1; omega
theorem Ext.new (L : Loc) (o : O) (hL : L.b = w.heap.size) (hheap : ∀ b, b < w.heap.size → w'.heap[b]? = w.heap[b]?) (hsize : w'.heap.size = w.heap.size + 1) (hos : w'.os = w.os) (htape : w'.tape = w.tape) (hout : w'.output = w.output) :
    Ext σ.length w I ρ σ w' I (fun x => if x = σ.length then some L else ρ x) (σ ++ [o]) where
  size := by omega
  os := hos
  tape := htape
  output := hout
  old b hb _ := hheap b hb
  immI _ h := h
  immN _ h := .inl h
  footN b := by
    rintro ⟨x, o1, K, h1, h2, h3, h4⟩
    by_cases hx : x = σ.length
    · simp only [hx, if_true, Option.some.injEq] at h3
      subst h3
      exact .inr (by omega)
    · simp only [hx, if_false] at h3
      refine .inl ⟨x, o1, K, ?_, h2, h3, h4⟩
      have hlt := (List.getElem?_eq_some_iff.1 h1).1
      simp at hlt
      rwa [List.getElem?_append_left (by omega)] at h1
  len := by simp
  alive x hx h := by
    obtain ⟨o1, h1, h2⟩ := h
    rw [List.getElem?_append_left hx] at h1
    exact ⟨o1, h1, h2⟩
  fixed x o1 hx h1 h2 := ⟨by simp [Nat.ne_of_lt hx], o1, by rw [List.getElem?_append_left hx] at h1; exact h1, h2, rfl⟩
  stay x o1 hx h1 _ := ⟨o1, by rw [List.getElem?_append_left hx]; exact h1, rfl⟩
theorem same_new (L : Loc) (o : O) : ∀ x, x < σ.length → Same ρ σ (fun x => if x = σ.length then some L else ρ x) (σ ++ [o]) x := by
  intro x hx
  refine ⟨by simp; omega, fun o' h1 h2 => ⟨by simp [Nat.ne_of_lt hx], o', ?_, h2, rfl⟩⟩
  rwa [List.getElem?_append_left hx] at h1
end
end Go.Br
