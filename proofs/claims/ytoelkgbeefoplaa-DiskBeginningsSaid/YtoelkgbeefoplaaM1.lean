/- Part 1 of this proof. -/
import Derived.Great.BuildSlice
import Derived.Test.YtoelkgbeefoplaaM0
namespace Go.Br
open Go
variable {o : Oper} {tm : List V} {P : Program} {σ σ' : Store} {v : V} {t : TypeId} {n : Nat} {w : World} {ops : Array Oper} {I : Nat → Prop} {ρ ρ' : LM} {a : Act} {l : Nat} {i : Nat}
section up
variable {w w' : World} {I I' : Nat → Prop} {ρ ρ' : LM} {σ σ' : Store}
mutual
theorem vr_locs : ∀ (v : V) (x : Value), vr w I ρ σ v x → ∀ l ∈ v.locs, l < σ.length
 | .d _, _, _, l, hl => by simp [V.locs] at hl
 | .undef, _, _, l, hl => by simp [V.locs] at hl
 | .nils, _, _, l, hl => by simp [V.locs] at hl
 | .ex _ _, _, _, l, hl => by simp [V.locs] at hl
 | .ep _ _ _, _, _, l, hl => by simp [V.locs] at hl
 | .ptr k i s, x, h, l, hl => by simp only [V.locs, List.mem_singleton] at hl; subst hl; simp only [vr] at h; exact h.2.1
 | .row k, x, h, l, hl => by simp only [V.locs, List.mem_singleton] at hl; subst hl; simp only [vr] at h; exact h.2.1
 | .sl k _ _ _, x, h, l, hl => by simp only [V.locs, List.mem_singleton] at hl; subst hl; simp only [vr] at h; exact h.2.1
 | .yield k, x, h, l, hl => by simp only [V.locs, List.mem_singleton] at hl; subst hl; simp only [vr] at h; exact h.2.1
 | .map k, x, h, l, hl => by simp only [V.locs, List.mem_singleton] at hl; subst hl; simp only [vr] at h; exact h.2.1
 | .fn f a b, x, h, l, hl => by
   simp only [V.locs, List.mem_append] at hl
   simp only [vr] at h
   obtain ⟨fs, cs, _, h1, h2⟩ := h
   rcases hl with hl | hl
   · exact vrL_locs a fs h1 l hl
   · exact vrL_locs b cs h2 l hl
 | .tuple vs, x, h, l, hl => by
   simp only [V.locs] at hl
   simp only [vr] at h
   obtain ⟨xs, _, h1⟩ := h
   exact vrL_locs vs xs h1 l hl
 | .agg vs, x, h, l, hl => by
   simp only [V.locs] at hl
   simp only [vr] at h
   obtain ⟨xs, _, h1, _⟩ := h
   exact vrL_locs vs xs h1 l hl
theorem vrL_locs : ∀ (vs : List V) (xs : List Value), vrL w I ρ σ vs xs → ∀ l ∈ V.locsL vs, l < σ.length
 | [], _, _, l, hl => by simp [V.locsL] at hl
 | v :: vs, xs, h, l, hl => by
   simp only [V.locsL, List.mem_append] at hl
   simp only [vrL] at h
   obtain ⟨x, xs', _, h1, h2⟩ := h
   rcases hl with hl | hl
   · exact vr_locs v x h1 l hl
   · exact vrL_locs vs xs' h2 l hl
end
theorem vr_all (hI : ∀ b, I b → I' b ∧ w'.heap[b]? = w.heap[b]?) (hs : ∀ l, l < σ.length → Same ρ σ ρ' σ' l) {x : Value} (h : vr w I ρ σ v x) : vr w' I' ρ' σ' v x :=
 vr_up hI v x (fun l hl => hs l (vr_locs v x h l hl)) h
theorem vrL_all (hI : ∀ b, I b → I' b ∧ w'.heap[b]? = w.heap[b]?) (hs : ∀ l, l < σ.length → Same ρ σ ρ' σ' l) {v : List V} {x : List Value} (h : vrL w I ρ σ v x) : vrL w' I' ρ' σ' v x :=
 vrL_up hI v x (fun l hl => hs l (vrL_locs v x h l hl)) h
theorem orel_all (hI : ∀ b, I b → I' b ∧ w'.heap[b]? = w.heap[b]?) (hs : ∀ l, l < σ.length → Same ρ σ ρ' σ' l) {o : O} (hρ : ρ' l = ρ l) (hh : ∀ L, ρ l = some L → w'.heap[L.b]? = w.heap[L.b]?) (h : orel w I ρ σ l o) :
   orel w' I' ρ' σ' l o := by
 cases o with
 | dead => simp [orel]
 | cells cs =>
   simp only [orel] at h ⊢
   obtain ⟨L, C, T, fz, h1, h2, h3, h4, h5, h6⟩ := h
   exact ⟨L, C, T, fz, hρ.trans h1, h2, (hh L h1).trans h3, h4, vrL_all hI hs h5, h6⟩
 | row sz xs mv =>
   simp only [orel] at h ⊢
   rcases h with ⟨h1, h2⟩ | ⟨L, C, T, fz, h1, h2, h3, h4, h5, h6, h7, h8⟩
   · exact .inl ⟨hρ.trans h1, h2⟩
   · exact .inr ⟨L, C, T, fz, hρ.trans h1, h2, (hh L h1).trans h3, h4, h5, h6, h7, DrE_mono hI sz L.b (hh L h1) L.o xs h8⟩
 | map es =>
   simp only [orel] at h ⊢
   obtain ⟨L, E, n, h1, h2, h3, h4, h5, h6⟩ := h
   refine ⟨L, E, n, hρ.trans h1, h2, (hh L h1).trans h3, h4, fun j e hj => ?_, h6⟩
   obtain ⟨g1, x, g2, g3, g4⟩ := h5 j e hj
   exact ⟨g1, x, g2, g3, Dr_mono hI _ _ g4⟩
 | loop st pend fn tm params assign body =>
   simp only [orel] at h ⊢
   obtain ⟨L, tmps, db, h1, h2, h3⟩ := h
   exact ⟨L, tmps, db, hρ.trans h1, (hh L h1).trans h2, vrL_all hI hs h3⟩
 | defd =>
   simp only [orel] at h ⊢
   obtain ⟨L, h1, h2⟩ := h
   exact ⟨L, hρ.trans h1, (hh L h1).trans h2⟩
end up
theorem live_lt (h : live σ l) : l < σ.length := by
 obtain ⟨o, ho, _⟩ := h
 exact (List.getElem?_eq_some_iff.1 ho).1
def Stay (ρ : LM) (σ : Store) (ρ' : LM) (σ' : Store) : Prop :=
  ∀ l o, σ[l]? = some o → o.ld ≠ 0 → ρ' l = ρ l ∧ ∃ o', σ'[l]? = some o' ∧ o'.ld = o.ld
theorem ld_one {o : O} (h : o.ld = 1) : o = .defd := by cases o <;> simp_all [O.ld]
theorem ld_two {o : O} (h : o.ld = 2) : ∃ a b c d e f g, o = .loop a b c d e f g := by
 cases o <;> simp_all [O.ld]
theorem ld_still {o : O} (h : o.ld ≠ 0) : o.still = true := by cases o <;> simp_all [O.ld, O.still]
theorem Ext.stays {w w' : World} {I I' : Nat → Prop} (h : Ext σ.length w I ρ σ w' I' ρ' σ') : Stay ρ σ ρ' σ' := by
 intro l o hl ho
 have hlt : l < σ.length := (List.getElem?_eq_some_iff.1 hl).1
 obtain ⟨o', h1, h2⟩ := h.stay l o hlt hl ho
 exact ⟨(h.fixed l o' hlt h1 (ld_still (by rw [h2]; exact ho))).1, o', h1, h2⟩
theorem dfr_stay (hs : Stay ρ σ ρ' σ') : ∀ {df : List Nat} {ds : List Deferred}, dfr ρ σ df ds → dfr ρ' σ' df ds
 | [], ds, h => by simpa [dfr] using h
 | l :: ls, ds, h => by
   simp only [dfr] at h ⊢
   obtain ⟨L, ds', h1, h2, h3, h4⟩ := h
   obtain ⟨g1, o', g2, g3⟩ := hs l _ h2 (by simp [O.ld])
   have := ld_one (o := o') (by rw [g3]; rfl)
   subst this
   exact ⟨L, ds', g1.trans h1, g2, h3, dfr_stay hs h4⟩
theorem rbOf_stay (hs : Stay ρ σ ρ' σ') {ro rb : Option Nat} (h : rbOf ρ σ ro rb) : rbOf ρ' σ' ro rb := by
 cases ro with
 | none => exact h
 | some l =>
   obtain ⟨L, o, h1, h2, h3, h4⟩ := h
   obtain ⟨a1, a2, a3, a4, a5, a6, a7, rfl⟩ := h3
   obtain ⟨g1, o', g2, g3⟩ := hs l _ h2 (by simp [O.ld])
   exact ⟨L, o', g1.trans h1, g2, ld_two (by rw [g3]; rfl), h4⟩
def OpOk (P : Program) (o : Oper) (tm : List V) (σ : Store) (v : V) (tm' : List V) (σ' : Store) : Prop :=
  ∀ (w : World) (I : Nat → Prop) (ρ : LM) (a : Act), vrL w I ρ σ tm a.tmps.toList → ORel w I ρ σ →
    ∃ nx x w' I' ρ', (execOp a.eval o).run P w = .ok nx w' ∧ (nx = .value x ∨ nx = .skip ∧ x = undef) ∧ vr w' I' ρ' σ' v x ∧ vrL w' I' ρ' σ' tm' a.tmps.toList ∧ ORel w' I' ρ' σ' ∧
      Ext σ.length w I ρ σ w' I' ρ' σ'
def wantA (ops : Array Oper) (o : Oper) (tm : List V) : Option Bool :=
  match o.guard with
  | none => some true
  | some (j, want) => match (ops[j]?).bind (·.dst) with
    | some d => match tm[d]? with
      | some (.d (.bool b)) => some (b == want)
      | some (.tuple []) => some false
      | _ => none
    | none => none
theorem wantA_ok {b : Bool} (h : wantA ops o tm = some b) (hr : vrL w I ρ σ tm a.tmps.toList) :
    Region.wanted o (yielded ops a.tmps) = b := by
  unfold wantA at h
  unfold Region.wanted
  cases hg : o.guard with
  | none => simp [hg] at h; simp [h]
  | some p =>
    obtain ⟨j, want⟩ := p
    simp only [hg] at h ⊢
    split at h
    · rename_i d hd
      split at h
      · rename_i c hc
        cases h
        obtain ⟨x, hx, hv⟩ := vrL_get? hr hc
        simp only [vr, Dr] at hv
        subst hv
        have hx' : a.tmps[d]? = some (.bool c) := by simpa using hx
        simp only [yielded, hd, Option.bind_some, hx']
        cases c <;> cases want <;> rfl
      · rename_i hc
        cases h
        obtain ⟨x, hx, hv⟩ := vrL_get? hr hc
        simp only [vr, vrL] at hv
        obtain ⟨xs, rfl, rfl⟩ := hv
        have hx' : a.tmps[d]? = some (.tuple #[]) := by simpa using hx
        simp only [yielded, hd, Option.bind_some, hx']
        rfl
      · cases h
    · cases h
section rules
variable {P : Program} {f : FuncId} {ro : Option Nat} {n : Nat} {k : List Item} {tm tm' : List V} {σ σ' : Store} {df : List Nat} {Q : AE → Store → Prop}
theorem AW.op {rest : List Nat} (hi : ops[i]? = some o) (hw : wantA ops o tm = some true) (hd : Op.isDefer o.op = false) (hok : OpOk P o tm σ v tm' σ')
   (h : AW P f ro n (.inRegion ops rest :: k) (put tm' o.dst v) σ' df Q) : AW P f ro n (.inRegion ops (i :: rest) :: k) tm σ df Q := by
 intro w I ρ a rb hr hb hn
 obtain ⟨nx, x, w', I', ρ', h1, h2, h3, h4, h5, h6⟩ := hok w I ρ a hr.tms hr.ors
 have h7 := h6.stays
 have hwa := wantA_ok hw hr.tms
 have hlen : n ≤ σ'.length := Nat.le_trans hn h6.len
 have hnext := h w' I' ρ' (a.put o.dst x) rb ⟨vrL_put h4 o.dst h3, h5, by rw [put_defers]; exact dfr_stay h7 hr.dfs⟩ (rbOf_stay h7 hb) hlen
 have hnext := hnext.mono fun e w'' hf => hf.trans (h6.less hn)
 rcases h2 with rfl | ⟨rfl, rfl⟩
 · exact .step (fun cs => st_op_value hi hwa hd h1) hnext
 · exact .step (fun cs => st_op_unit hi hwa hd h1) hnext
theorem AW.opSkip {rest : List Nat} (hi : ops[i]? = some o) (hw : wantA ops o tm = some false)
  (h : AW P f ro n (.inRegion ops rest :: k) (put tm o.dst (.tuple [])) σ df Q) : AW P f ro n (.inRegion ops (i :: rest) :: k) tm σ df Q := by
 intro w I ρ a rb hr hb hn
 have hwa := wantA_ok hw hr.tms
 have hs : ∀ cs, step P (lone (frm f rb a (.inRegion ops (i :: rest) :: k)) cs w) = .next (lone (frm f rb (a.put o.dst undef) (.inRegion ops rest :: k)) cs w) := by
  intro cs
  have := st_op_skip (P := P) (f := f) (rb := rb) (a := a) (k := k) (cs := cs) (w := w) (ops := ops) (i := i) (rest := rest) (by simp [hi, hwa])
  simpa [hi] using this
 exact .step hs (h w I ρ _ rb ⟨vrL_put hr.tms o.dst (by simp [vr, vrL, undef]), hr.ors, by rw [put_defers]; exact hr.dfs⟩ hb hn)
theorem AW.less (hl : ∀ w I ρ (a : List Value), vrL w I ρ σ tm a → vrL w I ρ σ tm' a) (h : AW P f ro n k tm' σ df Q) : AW P f ro n k tm σ df Q :=
 fun w I ρ a rb hr hb hn => h w I ρ a rb ⟨hl w I ρ _ hr.tms, hr.ors, hr.dfs⟩ hb hn
end rules
theorem qop_isDefer {o : Op} (h : qop P tm σ o = some v) : Op.isDefer o = false := by
 cases o <;> simp_all [qop, Op.isDefer]
theorem qop_opOk (h : qop P tm σ o.op = some v) : OpOk P o tm σ v tm σ := by
 intro w I ρ a hr hO
 obtain ⟨z, h1, h2⟩ := qop_ok (w := w) (I := I) (ρ := ρ) h (fun x => vr_ev hr x) hO
 exact ⟨_, z, w, I, ρ, h1, .inl rfl, h2, hr, hO, Ext.refl w I ρ σ⟩
def elemSz (P : Program) (t : TypeId) : Option Nat := match P.underlying t with | some (.slice e) => (P.info? e).map (·.size) | _ => none
def co (P : Program) (t : TypeId) : V → V
  | .nils => match elemSz P t with | some sz => .d (.list sz []) | none => .nils
  | .ex sz xs => .d (.list sz xs)
  | v => v
section
variable {w w' : World} {I I' : Nat → Prop} {ρ ρ' : LM} {σ σ' : Store}
theorem co_rel {x : Value} (h : vr w I ρ σ v x) : vr w I ρ σ (co P t v) x := by
 unfold co
 split
 · simp only [vr] at h
   subst h
   split
   · simp only [vr, Dr]; exact ⟨none, 0, rfl, Nat.le_refl _, Nat.zero_le _, by simp⟩
   · simp [vr]
 · simp only [vr] at h ⊢
   obtain ⟨a, rfl, h⟩ := h
   exact h
 · exact h
def coX (P : Program) (t : TypeId) : V → V
  | .nils => match elemSz P t with | some sz => .ex sz [] | none => .nils
  | v => co P t v
theorem coX_rel {x : Value} (h : vr w I ρ σ v x) : vr w I ρ σ (coX P t v) x := by
 unfold coX
 split
 · simp only [vr] at h
   subst h
   split
   · simp only [vr, Dr]; exact ⟨none, rfl, none, 0, rfl, Nat.le_refl _, Nat.zero_le _, by simp⟩
   · simp [vr]
 · exact co_rel h
def coA (P : Program) (t : TypeId) : V → V
  | .agg vs => match datasX vs with | some ds => .d (.agg ds) | none => .agg vs
  | v => co P t v
theorem coA_rel {x : Value} (h : vr w I ρ σ v x) : vr w I ρ σ (coA P t v) x := by
 unfold coA
 split
 · split
   · rename_i ds hds
     simp only [vr] at h ⊢
     obtain ⟨xs, rfl, h1, h2⟩ := h
     simp only [Dr]
     exact ⟨xs, rfl, vrL_DrLX hds h1 h2⟩
   · exact h
 · exact co_rel h
theorem getElem?_set_ne {l x : Nat} (h : x ≠ l) (o : O) : (σ.set l o)[x]? = σ[x]? := by
 rw [List.getElem?_set]; simp [Ne.symm h]
theorem same_set {o o' : O} (hl : σ[l]? = some o) (hn : o ≠ .dead) (hk : o.alike o') : ∀ x, x < σ.length → Same ρ σ ρ (σ.set l o') x := by
 intro x hx
 refine ⟨by simpa using hx, fun o1 h1 h2 => ⟨rfl, ?_⟩⟩
 by_cases hxl : x = l
 · subst hxl
   rw [List.getElem?_set_self (by exact hx)] at h1
   cases h1
   exact ⟨o, hl, hn, hk⟩
 · rw [getElem?_set_ne hxl] at h1
   exact ⟨o1, h1, h2, rfl⟩
theorem live_set {o : O} {x : Nat} (hl : live σ l) (h : live (σ.set l o) x) : live σ x := by
 obtain ⟨o1, h1, h2⟩ := h
 by_cases hx : x = l
 · subst hx; exact hl
 · rw [getElem?_set_ne hx] at h1; exact ⟨o1, h1, h2⟩
theorem foot_set {o : O} {b : Nat} (hl : live σ l) (h : foot ρ (σ.set l o) b) : foot ρ σ b := by
 obtain ⟨x, o1, L, h1, h2, h3, h4⟩ := h
 obtain ⟨o2, h5, h6⟩ := live_set hl ⟨o1, h1, h2⟩
 exact ⟨x, o2, L, h5, h6, h3, h4⟩
theorem ORel.upd {L : Loc} {o o' : O} (h : ORel w I ρ σ) (hl : σ[l]? = some o) (ho : o ≠ .dead) (hL : ρ l = some L) (hk : o.alike o')
  (hheap : ∀ b, b ≠ L.b → w'.heap[b]? = w.heap[b]?) (hsize : w'.heap.size = w.heap.size) (hnew : orel w' I ρ (σ.set l o') l o') : ORel w' I ρ (σ.set l o') where
 objs x o1 hx := by
  have hI : ∀ b, I b → I b ∧ w'.heap[b]? = w.heap[b]? := fun b hb => ⟨hb, hheap b fun e => (h.imm b hb).2 ⟨l, o, L, hl, ho, hL, e.symm⟩⟩
  have hlt : l < σ.length := (List.getElem?_eq_some_iff.1 hl).1
  by_cases hxl : x = l
  · subst hxl
    rw [List.getElem?_set_self hlt] at hx
    cases hx
    exact hnew
  · rw [getElem?_set_ne hxl] at hx
    by_cases hd : o1 = .dead
    · subst hd; simp [orel]
    refine orel_all hI (same_set hl ho hk) rfl (fun K hK => hheap _ fun e => hxl ?_) (h.objs x o1 hx)
    exact h.inj x l K L ⟨o1, hx, hd⟩ ⟨o, hl, ho⟩ hK hL e
 inj x y X Y hx hy hX hY e := h.inj x y X Y (live_set ⟨o, hl, ho⟩ hx) (live_set ⟨o, hl, ho⟩ hy) hX hY e
 flt b hb := by rw [hsize]; exact h.flt b (foot_set ⟨o, hl, ho⟩ hb)
 imm b hb := ⟨by rw [hsize]; exact (h.imm b hb).1, fun hf => (h.imm b hb).2 (foot_set ⟨o, hl, ho⟩ hf)⟩
theorem Ext.upd {L : Loc} {o o' : O} (hl : σ[l]? = some o) (ho : o ≠ .dead) (hL : ρ l = some L) (hf : o'.still = true → o.still = true) (hk : o.alike o') (hld : o'.ld = o.ld)
  (hheap : ∀ b, b ≠ L.b → w'.heap[b]? = w.heap[b]?) (hsize : w'.heap.size = w.heap.size) (hos : w'.os = w.os) (htape : w'.tape = w.tape) (hout : w'.output = w.output) : Ext σ.length w I ρ σ w' I ρ (σ.set l o') where
 size := by omega
 os := hos
 tape := htape
 output := hout
 old b _ hb := hheap b fun e => hb ⟨l, o, L, hl, ho, hL, e.symm⟩
 immI _ h := h
 immN _ h := .inl h
 footN b h := .inl (foot_set ⟨o, hl, ho⟩ h)
 len := by simp
 alive x _ h := live_set ⟨o, hl, ho⟩ h
 fixed x o1 hx h1 h2 := by
  refine ⟨rfl, ?_⟩
  by_cases hxl : x = l
  · subst hxl
    rw [List.getElem?_set_self hx] at h1
    cases h1
    exact ⟨o, hl, hf h2, hk⟩
  · rw [getElem?_set_ne hxl] at h1
    exact ⟨o1, h1, h2, rfl⟩
 stay x o1 hx h1 _ := by
  by_cases hxl : x = l
  · subst hxl
    rw [hl] at h1; cases h1
    exact ⟨o', List.getElem?_set_self hx, hld⟩
  · exact ⟨o1, by rw [getElem?_set_ne hxl]; exact h1, rfl⟩
theorem ORel.new (h : ORel w I ρ σ) (L : Loc) (o : O) (hL : L.b = w.heap.size) (hheap : ∀ b, b < w.heap.size → w'.heap[b]? = w.heap[b]?) (hsize : w'.heap.size = w.heap.size + 1)
    (hnew : orel w' I (fun x => if x = σ.length then some L else ρ x) (σ ++ [o]) σ.length o) : ORel w' I (fun x => if x = σ.length then some L else ρ x) (σ ++ [o]) := by
  have hI : ∀ b, I b → I b ∧ w'.heap[b]? = w.heap[b]? := fun b hb => ⟨hb, hheap b (h.imm b hb).1⟩
  have hS : ∀ x, x < σ.length → Same ρ σ (fun x => if x = σ.length then some L else ρ x) (σ ++ [o]) x := by
    intro x hx
    refine ⟨by simp; omega, fun o' h1 h2 => ⟨by simp [Nat.ne_of_lt hx], o', ?_, h2, rfl⟩⟩
    rwa [List.getElem?_append_left hx] at h1
  have hold : ∀ x o1, (σ ++ [o])[x]? = some o1 → x ≠ σ.length → σ[x]? = some o1 := by
    intro x o1 hx hne
    rw [List.getElem?_append] at hx
    split at hx
    · exact hx
    · have := (List.getElem?_eq_some_iff.1 hx).1
      simp at this; omega
  have hfoot : ∀ b, foot (fun x => if x = σ.length then some L else ρ x) (σ ++ [o]) b → foot ρ σ b ∨ b = w.heap.size := by
    rintro b ⟨x, o1, K, h1, h2, h3, h4⟩
    by_cases hx : x = σ.length
    · simp only [hx, if_true, Option.some.injEq] at h3
      subst h3
      exact .inr (h4.symm.trans hL)
    · simp only [hx, if_false] at h3
      exact .inl ⟨x, o1, K, hold x o1 h1 hx, h2, h3, h4⟩
  have hlive : ∀ x, live (σ ++ [o]) x → x ≠ σ.length → live σ x := fun x ⟨o1, h1, h2⟩ hne => ⟨o1, hold x o1 h1 hne, h2⟩
  refine ⟨fun x o1 hx => ?_, ?_, ?_, ?_⟩
  · by_cases hxe : x = σ.length
    · subst hxe
      simp at hx
      subst hx
      exact hnew
    · by_cases hd : o1 = .dead
      · subst hd; simp [orel]
      refine orel_all hI hS (by simp [hxe]) (fun K hK => hheap _ ?_) (h.objs x o1 (hold x o1 hx hxe))
      exact h.flt _ ⟨x, o1, K, hold x o1 hx hxe, hd, hK, rfl⟩
  · intro x y X Y hx hy hX hY e
    by_cases hxe : x = σ.length
    · by_cases hye : y = σ.length
      · rw [hxe, hye]
      · simp only [hxe, if_true, Option.some.injEq] at hX
        simp only [hye, if_false] at hY
        subst hX
        obtain ⟨o2, h1, h2⟩ := hlive y hy hye
        have := h.flt Y.b ⟨y, o2, Y, h1, h2, hY, rfl⟩
        omega
    · by_cases hye : y = σ.length
      · simp only [hye, if_true, Option.some.injEq] at hY
        simp only [hxe, if_false] at hX
        subst hY
        obtain ⟨o2, h1, h2⟩ := hlive x hx hxe
        have := h.flt X.b ⟨x, o2, X, h1, h2, hX, rfl⟩
        omega
      · simp only [hxe, hye, if_false] at hX hY
        exact h.inj x y X Y (hlive x hx hxe) (hlive y hy hye) hX hY e
  · intro b hb
    rcases hfoot b hb with hb | hb
    · have := h.flt b hb; omega
    · omega
  · intro b hb
    refine ⟨by have := (h.imm b hb).1; omega, fun hf => ?_⟩
    rcases hfoot b hf with hf | hf
    · exact (h.imm b hb).2 hf
    · have := (h.imm b hb).1; omega
theorem Ext.new (L : Loc) (o : O) (hL : L.b = w.heap.size) (hheap : ∀ b, b < w.heap.size → w'.heap[b]? = w.heap[b]?) (hsize : w'.heap.size = w.heap.size + 1) (hos : w'.os = w.os) (htape : w'.tape = w.tape) (hout : w'.output = w.output) :
  Ext σ.length w I ρ σ w' I (fun x => if x = σ.length then some L else ρ x) (σ ++ [o]) where
 size := by omega
 os := hos
 tape := htape
 output := hout
 old b hb _ := hheap b hb
 immI _ h := h
 immN _ h := .inl h
 footN b := by
  rintro ⟨x, o1, K, h1, h2, h3, h4⟩
  by_cases hx : x = σ.length
  · simp only [hx, if_true, Option.some.injEq] at h3
    subst h3
    exact .inr (by omega)
  · simp only [hx, if_false] at h3
    refine .inl ⟨x, o1, K, ?_, h2, h3, h4⟩
    have hlt := (List.getElem?_eq_some_iff.1 h1).1
    simp at hlt
    rwa [List.getElem?_append_left (by omega)] at h1
 len := by simp
 alive x hx h := by
  obtain ⟨o1, h1, h2⟩ := h
  rw [List.getElem?_append_left hx] at h1
  exact ⟨o1, h1, h2⟩
 fixed x o1 hx h1 h2 := ⟨by simp [Nat.ne_of_lt hx], o1, by rw [List.getElem?_append_left hx] at h1; exact h1, h2, rfl⟩
 stay x o1 hx h1 _ := ⟨o1, by rw [List.getElem?_append_left hx]; exact h1, rfl⟩
theorem same_new (L : Loc) (o : O) : ∀ x, x < σ.length → Same ρ σ (fun x => if x = σ.length then some L else ρ x) (σ ++ [o]) x := by
 intro x hx
 refine ⟨by simp; omega, fun o' h1 h2 => ⟨by simp [Nat.ne_of_lt hx], o', ?_, h2, rfl⟩⟩
 rwa [List.getElem?_append_left hx] at h1
end
section
variable {P : Program} {w w' : World} {I I' : Nat → Prop} {ρ ρ' : LM} {σ σ' : Store}
theorem run_storeCells_th (g o : Nat) (t : TypeId) (fz : Nat × Nat) : ∀ (vs : List Value) (i : Nat) (cur : Array Value) (w : World), w.heap[g]? = some (.cells cur t fz) → thaw fz cur.size → o + i + vs.length ≤ cur.size → (∀ v ∈ vs, v.oneCell' = true) →
   (storeCells ⟨g, o, none⟩ vs i).run P w = .ok () (w.setRow g (cur.toList.take (o + i) ++ vs ++ cur.toList.drop (o + i + vs.length)).toArray)
 | [], i, cur, w, hg, _, _, _ => by
   simp only [storeCells, List.append_nil, List.length_nil, Nat.add_zero, List.take_append_drop, Array.toArray_toList]
   rw [setRow_self w g cur t fz hg]
   rfl
 | v :: rest, i, cur, w, hg, hth, hl, h1 => by
   have hi : o + i < cur.size := by simp at hl; omega
   have hcell : w.cell? ⟨g, o + i, none⟩ = some cur[o + i] := by simp [World.cell?, hg, hi]
   have hfro : w.frozen? ⟨g, o + i, none⟩ = false := by
     have := hth.2 (o + i) (Nat.le_of_lt hi)
     simp only [World.frozen?, hg, Bool.and_eq_false_iff, decide_eq_false_iff_not]
     omega
   have hst : (store ((⟨g, o, none⟩ : Addr).add i) v).run P w = .ok () (w.setRow g (cur.setIfInBounds (o + i) v)) := by
     rw [addr_add, run_store P w _ v _ (h1 v (by simp)), hcell]
     simp [hfro, setCell_eq_setRow w g (o + i) cur t fz v hg]
   have ih := run_storeCells_th g o t fz rest (i + 1) (cur.setIfInBounds (o + i) v) (w.setRow g (cur.setIfInBounds (o + i) v)) (setRow_heap w g cur _ t _ hg) (by simpa using hth) (by simp at hl ⊢; omega) (fun x hx => h1 x (by simp [hx]))
   simp only [storeCells, Sem.run_bind, hst, Result.andThen_ok, ih, setRow_setRow]
   congr 3
   have e := list_seg_step cur.toList (o + i) v rest (by simp at hl ⊢; omega)
   simpa [Array.toList_setIfInBounds, Nat.add_assoc] using e
theorem run_storeVar_th {t T : TypeId} {g s : Nat} {fz : Nat × Nat} {cur : Array Value} {x : Value} (hg : w.heap[g]? = some (.cells cur T fz)) (hth : thaw fz cur.size) (hsz : (P.info? t).map (·.size) = some x.cells.size)
   (hfit : s + x.cells.size ≤ cur.size) (h1 : ∀ v ∈ x.cells.toList, one v) :
   (storeVar t ⟨g, s, none⟩ x).run P w = .ok () (w.setRow g (cur.toList.take s ++ x.cells.toList ++ cur.toList.drop (s + x.cells.size)).toArray) := by
 cases hq : P.info? t with
 | none => simp [hq] at hsz
 | some i =>
   have hs : i.size = x.cells.size := by simpa [hq] using hsz
   have := run_storeCells_th (P := P) g s T fz x.cells.toList 0 cur w hg hth (by simpa using hfit) h1
   simp only [Nat.add_zero, Array.length_toList] at this
   simp [storeVar, sizeOf, typeInfo, hq, hs, this]
def splice {α : Type} (l : List α) (s : Nat) (xs : List α) : List α := l.take s ++ xs ++ l.drop (s + xs.length)
def storeA (P : Program) (tm : List V) (σ : Store) (t : TypeId) (x y : Operand) : Option Store :=
  match ev tm x, cellsV (coX P t (ev tm y)) with
  | .ptr l 0 s, some vs => match σ[l]? with
    | some (.cells cs) => if s + vs.length ≤ cs.length ∧ (P.info? t).map (·.size) = some vs.length then some (σ.set l (.cells (splice cs s vs))) else none
    | _ => none
  | _, _ => none
theorem storeA_ok {x y : Operand} (ho : o.op = .store t x y) (h : storeA P tm σ t x y = some σ') : OpOk P o tm σ .undef tm σ' := by
  intro w I ρ a hr hO
  unfold storeA at h
  split at h
  · rename_i l s vs hx hy
    split at h
    · rename_i cs hs
      simp only [Option.ite_none_right_eq_some, Option.some.injEq] at h
      obtain ⟨⟨hfit, hsz⟩, rfl⟩ := h
      have hxr := vr_ev hr x
      have hyr := coX_rel (P := P) (t := t) (vr_ev hr y)
      obtain ⟨hc, h1⟩ := cells_rel hy hyr
      rw [hx] at hxr
      simp only [vr] at hxr
      obtain ⟨L, hL, he⟩ := hxr.2.2 ⟨_, hs, by simp⟩
      have hob := hO.objs l _ hs
      simp only [orel] at hob
      obtain ⟨L', C, T, fz, hL', h0, hh, hth, hcr, hone⟩ := hob
      rw [hL] at hL'; cases hL'
      have hlen := vrL_len hc
      have hlen2 := vrL_len hcr
      simp only [Array.length_toList] at hlen hlen2
      simp only [h0, Nat.zero_mul, Nat.add_zero, Nat.zero_add] at he
      have hrun := run_storeVar_th (P := P) (t := t) (s := s) (x := a.eval y) hh hth (by rw [hlen]; exact hsz) (by omega) h1
      have hrun' : (execOp a.eval o).run P w = .ok .skip (w.setRow L.b (C.toList.take s ++ (a.eval y).cells.toList ++ C.toList.drop (s + (a.eval y).cells.size)).toArray) := by
        simp only [execOp, ho, he, Instr.storeAt, Instr.sureAddr, Sem.run_bind, Sem.run_pure, Result.andThen_ok, hrun]
      refine ⟨.skip, undef, _, I, ρ, hrun', .inr ⟨rfl, rfl⟩, by simp [vr], ?_, ?_, ?_⟩
      · refine vrL_all (fun b hb => ⟨hb, setRow_other _ _ _ _ fun e => (hO.imm b hb).2 ⟨l, _, L, hs, by simp, hL, e.symm⟩⟩) (same_set hs (by simp) (by simp [O.alike, O.rl])) hr
      · refine hO.upd hs (by simp) hL (by simp [O.alike, O.rl]) (fun b hb => setRow_other _ _ _ _ hb) (by simp) ?_
        simp only [orel]
        refine ⟨L, _, T, fz, hL, h0, setRow_heap _ _ _ _ _ _ hh, ?_, ?_, ?_⟩
        · have : ∀ n, n = C.size → thaw fz n := fun n e => e ▸ hth
          exact this _ (by simp; omega)
        · have hv : vrL (w.setRow L.b (C.toList.take s ++ (a.eval y).cells.toList ++ C.toList.drop (s + (a.eval y).cells.size)).toArray) I ρ (σ.set l (.cells (splice cs s vs))) (splice cs s vs) (C.toList.take s ++ (a.eval y).cells.toList ++ C.toList.drop (s + (a.eval y).cells.size)) := by
            refine vrL_all (w := w) (I := I) (ρ := ρ) (σ := σ) (fun b hb => ⟨hb, setRow_other _ _ _ _ fun e => (hO.imm b hb).2 ⟨l, _, L, hs, by simp, hL, e.symm⟩⟩) (same_set hs (by simp) (by simp [O.alike, O.rl])) ?_
            unfold splice
            rw [hlen]
            exact vrL_append (vrL_append (vrL_take hcr s) hc) (vrL_drop hcr _)
          simpa using hv
        · intro z hz
          simp only [List.mem_append] at hz
          rcases hz with (hz | hz) | hz
          · exact hone z (List.mem_of_mem_take hz)
          · exact h1 z hz
          · exact hone z (List.mem_of_mem_drop hz)
      · exact Ext.upd hs (by simp) hL (fun _ => rfl) (by simp [O.alike, O.rl]) rfl (fun b hb => setRow_other _ _ _ _ hb) (by simp) rfl rfl rfl
    · cases h
  · cases h
theorem one_splice {C : Array Value} {vs : List Value} {i j : Nat} (h : ∀ x ∈ C.toList, one x) (h' : ∀ x ∈ vs, one x) : ∀ x ∈ (C.toList.take i ++ vs ++ C.toList.drop j).toArray.toList, one x := by
 intro x hx
 simp only [List.append_assoc, List.mem_append] at hx
 rcases hx with hx | hx | hx
 · exact h x (List.mem_of_mem_take hx)
 · exact h' x hx
 · exact h x (List.mem_of_mem_drop hx)
theorem thaw_zero (n : Nat) : thaw (0, 0) n := ⟨Nat.le_refl _, fun j _ h => by omega⟩
theorem newCells_ok {vs : List V} {cs : Array Value} (hr : vrL w I ρ σ tm a.tmps.toList) (hO : ORel w I ρ σ) (hv : vrL w I ρ σ vs cs.toList) (h1 : ∀ x ∈ cs.toList, one x)
   (hrun : (execOp a.eval o).run P w = .ok (.value (.pointer (some ⟨w.heap.size, 0, none⟩))) (w.alloc (.cells cs t))) :
   ∃ nx x w' I' ρ', (execOp a.eval o).run P w = .ok nx w' ∧ (nx = .value x ∨ nx = .skip ∧ x = undef) ∧ vr w' I' ρ' (σ ++ [.cells vs]) (.ptr σ.length 0 0) x ∧ vrL w' I' ρ' (σ ++ [.cells vs]) tm a.tmps.toList ∧ ORel w' I' ρ' (σ ++ [.cells vs]) ∧
     Ext σ.length w I ρ σ w' I' ρ' (σ ++ [.cells vs]) := by
 have hI : ∀ b, I b → I b ∧ (w.alloc (.cells cs t)).heap[b]? = w.heap[b]? := fun b hb => ⟨hb, heap_alloc_old _ _ _ (hO.imm b hb).1⟩
 refine ⟨_, _, _, I, (fun x => if x = σ.length then some ⟨w.heap.size, 0, 0, 0⟩ else ρ x), hrun, .inl rfl, ?_, vrL_all hI (same_new _ _) hr, ?_, ?_⟩
 · simp only [vr]
   refine ⟨rfl, by simp, fun _ => ⟨⟨w.heap.size, 0, 0, 0⟩, by simp, by simp⟩⟩
 · refine hO.new _ _ rfl (fun b hb => heap_alloc_old _ _ _ hb) (by simp) ?_
   simp only [orel]
   exact ⟨⟨w.heap.size, 0, 0, 0⟩, cs, t, (0, 0), by simp, rfl, heap_alloc_new _ _, thaw_zero _, vrL_all hI (same_new _ _) hv, h1⟩
 · exact Ext.new _ _ rfl (fun b hb => heap_alloc_old _ _ _ hb) (by simp) rfl rfl rfl
def boxA (P : Program) (tm : List V) (σ : Store) (t : TypeId) (x : Operand) : Option (V × Store) :=
  (cellsV (coX P t (ev tm x))).map fun vs => (.ptr σ.length 0 0, σ ++ [.cells vs])
theorem boxA_ok {x : Operand} (ho : o.op = .box t x) (h : boxA P tm σ t x = some (v, σ')) : OpOk P o tm σ v tm σ' := by
 intro w I ρ a hr hO
 simp only [boxA, Option.map_eq_some_iff, Prod.mk.injEq] at h
 obtain ⟨vs, hc, rfl, rfl⟩ := h
 obtain ⟨h1, h2⟩ := cells_rel hc (coX_rel (P := P) (t := t) (vr_ev hr x))
 exact newCells_ok (t := t) hr hO h1 h2 (by simp [execOp, ho, Instr.box, newVar, newRow])
def cellTys (P : Program) : Nat → TypeId → List TypeId
  | 0, _ => []
  | d + 1, t => match P.underlying t with
    | some (.struct fs) => fs.toList.flatMap fun f => cellTys P d f.type
    | some (.array n e) => (List.replicate n (cellTys P d e)).flatten
    | _ => [t]
def zip2 (P : Program) : List TypeId → List Value → Option (List V)
  | [], [] => some []
  | t :: ts, x :: xs => if x.oneCell' then (zip2 P ts xs).map (coX P t (cst x) :: ·) else none
  | _, _ => none
theorem zip2_rel : ∀ {ts : List TypeId} {xs : List Value} {vs : List V}, zip2 P ts xs = some vs → vrL w I ρ σ vs xs ∧ ∀ x ∈ xs, one x
 | [], [], vs, h => by simp only [zip2, Option.some.injEq] at h; subst h; simp [vrL]
 | t :: ts, x :: xs, vs, h => by
   simp only [zip2, Option.ite_none_right_eq_some, Option.map_eq_some_iff] at h
   obtain ⟨h1, vs', h2, rfl⟩ := h
   obtain ⟨h3, h4⟩ := zip2_rel h2
   refine ⟨?_, ?_⟩
   · simp only [vrL]; exact ⟨x, xs, rfl, coX_rel (vr_cst x), h3⟩
   · intro y hy
     rcases List.mem_cons.1 hy with rfl | hy
     · exact h1
     · exact h4 y hy
 | [], _ :: _, _, h => by simp [zip2] at h
 | _ :: _, [], _, h => by simp [zip2] at h
def zeroA (P : Program) (t : TypeId) : Option (List V) :=
  match (P.info? t).bind (·.zero) with
  | some z => zip2 P (cellTys P 20 t) z.cells.toList
  | none => none
theorem zeroA_rel {vs : List V} (h : zeroA P t = some vs) : ∃ i z, P.info? t = some i ∧ i.zero = some z ∧ vrL w I ρ σ vs z.cells.toList ∧ ∀ x ∈ z.cells.toList, one x := by
 unfold zeroA at h
 split at h
 · rename_i z hz
   simp only [Option.bind_eq_some_iff] at hz
   obtain ⟨i, h1, h2⟩ := hz
   exact ⟨i, z, h1, h2, zip2_rel h⟩
 · cases h
def allocA (P : Program) (σ : Store) (t : TypeId) : Option (V × Store) := (zeroA P t).map fun vs => (.ptr σ.length 0 0, σ ++ [.cells vs])
theorem allocA_ok (ho : o.op = .alloc t) (h : allocA P σ t = some (v, σ')) : OpOk P o tm σ v tm σ' := by
 intro w I ρ a hr hO
 simp only [allocA, Option.map_eq_some_iff, Prod.mk.injEq] at h
 obtain ⟨vs, hc, rfl, rfl⟩ := h
 obtain ⟨i, z, h1, h2, h3, h4⟩ := zeroA_rel (w := w) (I := I) (ρ := ρ) (σ := σ) hc
 exact newCells_ok (t := t) hr hO h3 h4 (by simp [execOp, ho, Instr.alloc, zeroValue, typeInfo, h1, h2, newVar, newRow])
def fillA (place : Nat → Option (Nat × Nat)) (cells : List V) : List (Nat × List V) → Option (List V)
  | [] => some cells
  | (i, vs) :: rest => match place i with
    | none => none
    | some (off, size) => if vs.length ≠ size || off + vs.length > cells.length then none else fillA place (splice cells off vs) rest
theorem foldl_set (xs : List Value) : ∀ (cs : Array Value) (off : Nat), off + xs.length ≤ cs.size →
  ((xs.toArray.zipIdx.foldl (fun cs (c, j) => cs.setIfInBounds (off + j) c) cs)).toList = splice cs.toList off xs := by
 intro cs off h
 have key : ∀ (xs : List Value) (k : Nat) (cs : Array Value), off + k + xs.length ≤ cs.size →
    ((xs.zipIdx k).foldl (fun (cs : Array Value) (p : Value × Nat) => cs.setIfInBounds (off + p.2) p.1) cs).toList = splice cs.toList (off + k) xs := by
  intro xs
  induction xs with
  | nil => intro k cs _; simp [splice]
  | cons x xs ih =>
    intro k cs hk
    simp only [List.zipIdx_cons, List.foldl_cons]
    simp only [List.length_cons] at hk
    rw [ih (k + 1) (cs.setIfInBounds (off + k) x) (by simp; omega)]
    have e := list_seg_step cs.toList (off + k) x xs (by simp; omega)
    unfold splice
    simpa [Array.toList_setIfInBounds, Nat.add_assoc] using e
 have := key xs 0 cs (by simpa using h)
 rw [Nat.add_zero] at this
 rw [← this]
 simp
def pr2 (w : World) (I : Nat → Prop) (ρ : LM) (σ : Store) : List (Nat × List V) → List (Nat × Value) → Prop
  | [], qs => qs = []
  | p :: ps, qs => ∃ q qs', qs = q :: qs' ∧ p.1 = q.1 ∧ vrL w I ρ σ p.2 q.2.cells.toList ∧ (∀ x ∈ q.2.cells.toList, one x) ∧ pr2 w I ρ σ ps qs'
theorem fill_rel {place : Nat → Option (Nat × Nat)} : ∀ {ps : List (Nat × List V)} {qs : List (Nat × Value)} {cells vs : List V} {cs : Array Value}, fillA place cells ps = some vs →
    pr2 w I ρ σ ps qs → vrL w I ρ σ cells cs.toList → (∀ x ∈ cs.toList, one x) →
    ∃ ds, Instr.fill place cs qs = some ds ∧ vrL w I ρ σ vs ds.toList ∧ ∀ x ∈ ds.toList, one x
  | [], qs, cells, vs, cs, h, hf, hc, h1 => by
    simp only [pr2] at hf
    subst hf
    simp only [fillA, Option.some.injEq] at h
    subst h
    exact ⟨cs, rfl, hc, h1⟩
  | (i, us) :: ps, qs, cells, vs, cs, h, hf, hc, h1 => by
    simp only [pr2] at hf
    obtain ⟨⟨j, x⟩, qs, rfl, he, hu, h2, hf⟩ := hf
    · simp only at he hu h2
      subst he
      simp only [fillA] at h
      cases hp : place i with
      | none => simp [hp] at h
      | some p =>
        obtain ⟨off, size⟩ := p
        simp only [hp] at h
        split at h
        · cases h
        · rename_i hcond
          have hlen := vrL_len hu
          have hlen2 := vrL_len hc
          simp only [Array.length_toList] at hlen hlen2
          simp at hcond
          have hfold := foldl_set x.cells.toList cs off (by simp; omega)
          simp only [Array.toArray_toList] at hfold
          have := fill_rel (cs := x.cells.zipIdx.foldl (fun cs (c, j) => cs.setIfInBounds (off + j) c) cs) h hf
            (by rw [hfold]; unfold splice; simp only [Array.length_toList]; rw [hlen]; exact vrL_append (vrL_append (vrL_take hc off) hu) (vrL_drop hc _))
            (by
              rw [hfold]
              intro z hz
              unfold splice at hz
              simp only [List.mem_append] at hz
              rcases hz with (hz | hz) | hz
              · exact h1 z (List.mem_of_mem_take hz)
              · exact h2 z hz
              · exact h1 z (List.mem_of_mem_drop hz))
          obtain ⟨ds, g1, g2, g3⟩ := this
          refine ⟨ds, ?_, g2, g3⟩
          simp only [Instr.fill, hp]
          rw [if_neg (by simp; omega)]
          exact g1
end
section
variable {P : Program} {w w' : World} {I I' : Nat → Prop} {ρ ρ' : LM} {σ σ' : Store}
def partTy (P : Program) (t : TypeId) (i : Nat) : TypeId :=
  match P.underlying t with
  | some (.struct fs) => match fs[i]? with | some f => f.type | none => 0
  | some (.array _ e) | some (.slice e) => e
  | _ => 0
def partsA (P : Program) (tm : List V) (t : TypeId) : List (Nat × Operand) → Option (List (Nat × List V))
  | [] => some []
  | (i, x) :: ps => match cellsV (co P (partTy P t i) (ev tm x)) with
    | some vs => (partsA P tm t ps).map ((i, vs) :: ·)
    | none => none
theorem partsA_rel {e : Operand → Value} (hx : ∀ x, vr w I ρ σ (ev tm x) (e x)) : ∀ {ps : List (Nat × Operand)} {qs : List (Nat × List V)}, partsA P tm t ps = some qs → pr2 w I ρ σ qs (ps.map fun p => (p.1, e p.2))
 | [], qs, h => by simp only [partsA, Option.some.injEq] at h; subst h; simp [pr2]
 | (i, x) :: ps, qs, h => by
   simp only [partsA] at h
   split at h
   · rename_i vs hc
     simp only [Option.map_eq_some_iff] at h
     obtain ⟨qs', h1, rfl⟩ := h
     obtain ⟨h2, h3⟩ := cells_rel hc (co_rel (hx x))
     simp only [List.map_cons, pr2]
     exact ⟨_, _, rfl, rfl, h2, h3, partsA_rel hx h1⟩
   · cases h
def buildA (P : Program) (tm : List V) (t : TypeId) (parts : List (Nat × Operand)) : Option V :=
  match zeroA P t, partsA P tm t parts with
  | some zs, some ps => match P.underlying t with
    | some (.struct fs) => match fs.toList.mapM (fun f => (P.info? f.type).map fun i => (f.offset, i.size)) with
      | some places => (fillA (places.toArray[·]?) zs ps).map mkAgg
      | none => none
    | some (.array _ e) => match P.info? e with
      | some ie => (fillA (fun i => some (i * ie.size, ie.size)) zs ps).map mkAgg
      | none => none
    | _ => none
  | _, _ => none
theorem buildA_ok {parts : Array (Nat × Operand)} (ho : o.op = .build t parts) (h : buildA P tm t parts.toList = some v) : OpOk P o tm σ v tm σ := by
  intro w I ρ a hr hO
  unfold buildA at h
  split at h
  · rename_i zs ps hz hp
    obtain ⟨i, z, h1, h2, h3, h4⟩ := zeroA_rel (w := w) (I := I) (ρ := ρ) (σ := σ) hz
    have hpr := partsA_rel (w := w) (I := I) (ρ := ρ) (σ := σ) (e := a.eval) (fun x => vr_ev hr x) hp
    have hmap : (parts.map fun (i, x) => (i, a.eval x)).toList = parts.toList.map fun p => (p.1, a.eval p.2) := by simp
    have fin : ∀ place vs, fillA place zs ps = some vs → mkAgg vs = v → (∀ ds, Instr.fill place z.cells (parts.toList.map fun p => (p.1, a.eval p.2)) = some ds → P.built t (parts.toList.map fun p => (p.1, a.eval p.2)) = some ds) →
        ∃ nx x w' I' ρ', (execOp a.eval o).run P w = .ok nx w' ∧ (nx = .value x ∨ nx = .skip ∧ x = undef) ∧ vr w' I' ρ' σ v x ∧ vrL w' I' ρ' σ tm a.tmps.toList ∧ ORel w' I' ρ' σ ∧ Ext σ.length w I ρ σ w' I' ρ' σ := by
      intro place vs hf hv hb
      obtain ⟨ds, g1, g2, g3⟩ := fill_rel hf hpr h3 h4
      have hrun := run_build (P := P) w t (parts.map fun (i, x) => (i, a.eval x)) ds (by rw [hmap]; exact hb ds g1)
      refine ⟨_, .agg ds, w, I, ρ, by simp only [execOp, ho, Sem.run_bind, hrun, Result.andThen_ok]; rfl, .inl rfl, ?_, hr, hO, Ext.refl _ _ _ _⟩
      rw [← hv]
      have := mkAgg_rel g2 g3
      simpa using this
    split at h
    · rename_i fs hu
      split at h
      · rename_i places hpl
        simp only [Option.map_eq_some_iff] at h
        obtain ⟨vs, hf, hv⟩ := h
        exact fin _ vs hf hv (fun ds hd => by simp only [Program.built, h1, hu, h2, hpl]; exact hd)
      · cases h
    · rename_i e hu
      split at h
      · rename_i ie hie
        simp only [Option.map_eq_some_iff] at h
        obtain ⟨vs, hf, hv⟩ := h
        exact fin _ vs hf hv (fun ds hd => by simp only [Program.built, h1, hu, h2, hie]; exact hd)
      · cases h
    · cases h
  · cases h
def chunk : Nat → Option Nat → List V → Option (List D)
  | 0, _, [] => some []
  | 0, _, _ :: _ => none
  | n + 1, none, vs => match vs with
    | .d x :: vs => (chunk n none vs).map (x :: ·)
    | .ex sz xs :: vs => (chunk n none vs).map (.list sz xs :: ·)
    | _ => none
  | n + 1, some sz, vs => if sz ≤ vs.length then match datasX (vs.take sz) with
      | some ds => (chunk n (some sz) (vs.drop sz)).map (.agg ds :: ·)
      | none => none
    else none
def szOf : Option Nat → Nat
  | none => 1
  | some n => n
theorem chunk_rel {b : Nat} : ∀ {n : Nat} {ag : Option Nat} {vs : List V} {ds : List D} {xs : List Value} {o : Nat}, chunk n ag vs = some ds → vrL w I ρ σ vs xs → (∀ x ∈ xs, one x) → (∀ j, j < xs.length → w.cell? ⟨b, o + j, none⟩ = xs[j]?) →
    DrE w I (szOf ag) b o ds ∧ ds.length = n ∧ xs.length = n * szOf ag
  | 0, ag, vs, ds, xs, o, h, hr, _, _ => by
    cases vs with
    | nil => simp only [chunk, Option.some.injEq] at h; subst h; simp only [vrL] at hr; subst hr; simp [DrE]
    | cons v vs => simp [chunk] at h
  | n + 1, none, vs, ds, xs, o, h, hr, h1, hc => by
    simp only [chunk] at h
    split at h
    · rename_i x vs'
      simp only [Option.map_eq_some_iff] at h
      obtain ⟨ds', h2, rfl⟩ := h
      simp only [vrL, vr] at hr
      obtain ⟨y, xs', rfl, h3, h4⟩ := hr
      obtain ⟨g1, g2, g3⟩ := chunk_rel (b := b) (o := o + 1) h2 h4 (fun z hz => h1 z (by simp [hz])) (fun j hj => by
        have := hc (j + 1) (by simp; omega)
        rw [show o + 1 + j = o + (j + 1) by omega, this]; simp)
      have hone := h1 y (by simp)
      have hy : y.cells = #[y] := by cases y <;> simp_all [Value.cells, one, Value.oneCell']
      refine ⟨?_, by simp [g2], by simp only [List.length_cons, g3, szOf]; omega⟩
      simp only [DrE, szOf]
      refine ⟨⟨y, h3, by simp [hy], fun j hj => ?_⟩, g1⟩
      have : j = 0 := by omega
      subst this
      have := hc 0 (by simp)
      simpa [hy] using this
    · rename_i sz0 xs0 vs'
      simp only [Option.map_eq_some_iff] at h
      obtain ⟨ds', h2, rfl⟩ := h
      simp only [vrL, vr] at hr
      obtain ⟨y, xs', rfl, ⟨_, _, h3⟩, h4⟩ := hr
      obtain ⟨g1, g2, g3⟩ := chunk_rel (b := b) (o := o + 1) h2 h4 (fun z hz => h1 z (by simp [hz])) (fun j hj => by
        have := hc (j + 1) (by simp; omega)
        rw [show o + 1 + j = o + (j + 1) by omega, this]; simp)
      have hone := h1 y (by simp)
      have hy : y.cells = #[y] := by cases y <;> simp_all [Value.cells, one, Value.oneCell']
      refine ⟨?_, by simp [g2], by simp only [List.length_cons, g3, szOf]; omega⟩
      simp only [DrE, szOf]
      refine ⟨⟨y, h3, by simp [hy], fun j hj => ?_⟩, g1⟩
      have : j = 0 := by omega
      subst this
      have := hc 0 (by simp)
      simpa [hy] using this
    · cases h
  | n + 1, some sz, vs, ds, xs, o, h, hr, h1, hc => by
    simp only [chunk, Option.ite_none_right_eq_some] at h
    obtain ⟨hle, h⟩ := h
    split at h
    · rename_i es hes
      simp only [Option.map_eq_some_iff] at h
      obtain ⟨ds', h2, rfl⟩ := h
      have hlen := vrL_len hr
      obtain ⟨g1, g2, g3⟩ := chunk_rel (b := b) (o := o + sz) h2 (vrL_drop hr sz) (fun z hz => h1 z (List.mem_of_mem_drop hz)) (fun j hj => by
        simp at hj
        have := hc (sz + j) (by omega)
        rw [show o + sz + j = o + (sz + j) by omega, this]
        simp)
      simp only [List.length_drop, szOf] at g3
      refine ⟨?_, by simp [g2], by simp only [szOf, Nat.add_mul, Nat.one_mul]; omega⟩
      simp only [DrE, szOf]
      refine ⟨⟨.agg (xs.take sz).toArray, ?_, by simp [Value.cells]; omega, fun j hj => ?_⟩, g1⟩
      · simp only [Dr]
        exact ⟨_, rfl, vrL_DrLX hes (vrL_take hr sz) fun z hz => h1 z (List.mem_of_mem_take hz)⟩
      · rw [hc j (by omega)]
        simp [Value.cells, hj]
    · cases h
theorem range_mod (z : List Value) (hz : 0 < z.length) : ∀ n, (List.range (n * z.length)).map (fun i => z.getD (i % z.length) default) = (List.replicate n z).flatten
 | 0 => by simp
 | n + 1 => by
   rw [Nat.add_mul, Nat.one_mul, List.range_add, List.map_append, range_mod z hz n, List.replicate_succ', List.flatten_append]
   congr 1
   simp only [List.map_map, List.flatten_cons, List.flatten_nil, List.append_nil]
   apply List.ext_getElem
   · simp
   · intro i h1 h2
     simp at h1
     simp [Nat.mod_eq_of_lt h1, h1]
def buildSliceA (P : Program) (tm : List V) (σ : Store) (t : TypeId) (len : Nat) (parts : List (Nat × Operand)) : Option (V × Store) :=
  match P.underlying t with
  | some (.slice e) => match zeroA P e, partsA P tm t parts, aggOf P e with
    | some zs, some ps, some ag => if zs.length = szOf ag ∧ 0 < len ∧ 0 < szOf ag ∧ len * szOf ag ≤ 16777216 ∧ (P.info? e).map (·.size) = some (szOf ag) then
        match fillA (fun i => some (i * szOf ag, szOf ag)) (List.replicate len zs).flatten ps with
        | some vs => (chunk len ag vs).map fun ds => (.row σ.length, σ ++ [.row (szOf ag) ds false])
        | none => none
      else none
    | _, _, _ => none
  | _ => none
theorem vrL_flat {zs : List V} {xs : List Value} (h : vrL w I ρ σ zs xs) : ∀ n, vrL w I ρ σ (List.replicate n zs).flatten (List.replicate n xs).flatten
 | 0 => by simp [vrL]
 | n + 1 => by simp only [List.replicate_succ, List.flatten_cons]; exact vrL_append h (vrL_flat h n)
theorem newRow_ok {ds : List D} {cs : Array Value} {sz cap : Nat} (hr : vrL w I ρ σ tm a.tmps.toList) (hO : ORel w I ρ σ) (hcs : cs.size = cap * sz) (hle : ds.length ≤ cap) (hcap : cap ≤ maxLen) (hone : ∀ x ∈ cs.toList, one x)
   (hd : DrE (w'.alloc (.cells cs t)) I sz w'.heap.size 0 ds) (hheap : w'.heap = w.heap) (hos : w'.os = w.os) (htape : w'.tape = w.tape) (hout : w'.output = w.output)
   (hrun : (execOp a.eval o).run P w = .ok (.value (.slice (some ⟨w.heap.size, 0, none⟩) ds.length cap)) (w'.alloc (.cells cs t))) :
   ∃ nx x w' I' ρ', (execOp a.eval o).run P w = .ok nx w' ∧ (nx = .value x ∨ nx = .skip ∧ x = undef) ∧ vr w' I' ρ' (σ ++ [.row sz ds false]) (.row σ.length) x ∧ vrL w' I' ρ' (σ ++ [.row sz ds false]) tm a.tmps.toList ∧ ORel w' I' ρ' (σ ++ [.row sz ds false]) ∧
     Ext σ.length w I ρ σ w' I' ρ' (σ ++ [.row sz ds false]) := by
 have hold : ∀ b, b < w.heap.size → (w'.alloc (.cells cs t)).heap[b]? = w.heap[b]? := fun b hb => by rw [heap_alloc_old _ _ _ (by rw [hheap]; exact hb), hheap]
 have hnew : (w'.alloc (.cells cs t)).heap[w.heap.size]? = some (.cells cs t) := by have := heap_alloc_new w' (.cells cs t); rwa [hheap] at this
 have hsz : (w'.alloc (.cells cs t)).heap.size = w.heap.size + 1 := by simp [hheap]
 have hI : ∀ b, I b → I b ∧ (w'.alloc (.cells cs t)).heap[b]? = w.heap[b]? := fun b hb => ⟨hb, hold b (hO.imm b hb).1⟩
 rw [hheap] at hd
 refine ⟨_, _, _, I, (fun x => if x = σ.length then some ⟨w.heap.size, 0, sz, cap⟩ else ρ x), hrun, .inl rfl, ?_, vrL_all hI (same_new _ _) hr, ?_, ?_⟩
 · simp only [vr]
   refine ⟨rfl, by simp, fun sz' xs' mv' hx => ?_⟩
   simp at hx
   obtain ⟨rfl, rfl, rfl⟩ := hx
   exact .inr ⟨⟨w.heap.size, 0, sz, cap⟩, by simp, by simpa using hle, by simp⟩
 · refine hO.new _ _ rfl hold hsz ?_
   simp only [orel]
   exact .inr ⟨⟨w.heap.size, 0, sz, cap⟩, cs, t, (0, 0), by simp, rfl, hnew, ⟨thaw_zero _, hone⟩, by simp [hcs], hle, hcap, hd⟩
 · exact Ext.new _ _ rfl hold hsz hos htape hout
theorem buildSliceA_ok {len : Nat} {parts : Array (Nat × Operand)} (ho : o.op = .buildSlice t len parts) (h : buildSliceA P tm σ t len parts.toList = some (v, σ')) : OpOk P o tm σ v tm σ' := by
  intro w I ρ a hr hO
  unfold buildSliceA at h
  split at h
  · rename_i e hu
    split at h
    · rename_i zs ps ag hz hp hag
      simp only [Option.ite_none_right_eq_some] at h
      obtain ⟨⟨hzl, hl0, hs0, hbig, hisz⟩, h⟩ := h
      split at h
      · rename_i vs hf
        simp only [Option.map_eq_some_iff, Prod.mk.injEq] at h
        obtain ⟨ds, hch, rfl, rfl⟩ := h
        obtain ⟨ie, z, h1, h2, h3, h4⟩ := zeroA_rel (w := w) (I := I) (ρ := ρ) (σ := σ) hz
        have hpr := partsA_rel (w := w) (I := I) (ρ := ρ) (σ := σ) (e := a.eval) (fun x => vr_ev hr x) hp
        have hzlen := vrL_len h3
        simp only [Array.length_toList] at hzlen
        have hie : ie.size = szOf ag := by simpa [h1] using hisz
        have hinit : ((Array.range (len * ie.size)).map (z.cells[· % z.cells.size]!)).toList = (List.replicate len z.cells.toList).flatten := by
          rw [← range_mod z.cells.toList (by simp; omega) len]
          simp only [Array.toList_map, Array.toList_range, Array.length_toList]
          rw [hie, hzlen, hzl]
          apply List.map_congr_left
          intro i _
          simp [getElem!_def, List.getD]
          cases z.cells[i % szOf ag]? <;> rfl
        obtain ⟨cs, g1, g2, g3⟩ := fill_rel (cs := (Array.range (len * ie.size)).map (z.cells[· % z.cells.size]!)) hf hpr (by rw [hinit]; exact vrL_flat h3 len) (by
          rw [hinit]
          intro x hx
          simp only [List.mem_flatten, List.mem_replicate] at hx
          obtain ⟨l, ⟨_, rfl⟩, hx⟩ := hx
          exact h4 x hx)
        have hmap : (parts.map fun (i, x) => (i, a.eval x)).toList = parts.toList.map fun p => (p.1, a.eval p.2) := by simp
        have hrun := run_buildSlice (P := P) w t e len (parts.map fun (i, x) => (i, a.eval x)) cs ie z hu h1 h2 (by rw [hie]; simp only [gt_iff_lt, Nat.not_lt]; exact hbig) (by rw [hie]; exact Nat.ne_of_gt (Nat.mul_pos hl0 hs0)) (by rw [hmap, hie]; rw [hie] at g1; exact g1)
        have hI : ∀ b, I b → I b ∧ (w.alloc (.cells cs e)).heap[b]? = w.heap[b]? := fun b hb => ⟨hb, heap_alloc_old _ _ _ (hO.imm b hb).1⟩
        obtain ⟨k1, k2, k3⟩ := chunk_rel (w := w.alloc (.cells cs e)) (b := w.heap.size) (o := 0) hch (vrL_up hI vs _ (σ' := σ) (ρ' := ρ) (fun l hl => ⟨vrL_locs vs _ g2 l hl, fun o' h1 h2 => ⟨rfl, o', h1, h2, rfl⟩⟩) g2) g3 (fun j hj => by simp)
        refine newRow_ok (w' := w) (cap := len) (sz := szOf ag) (t := e) (cs := cs) hr hO (by simpa using k3) (by omega) (by have : len ≤ len * szOf ag := Nat.le_mul_of_pos_right _ hs0; simp only [maxLen]; omega) g3 k1 rfl rfl rfl rfl ?_
        simp only [execOp, ho, Sem.run_bind, hrun, Result.andThen_ok, k2]
        rfl
      · cases h
    · cases h
  · cases h
end
def mop (P : Program) (tm : List V) (σ : Store) (o : Oper) : Option (V × Store) :=
  match o.op with
  | .store t x y => (storeA P tm σ t x y).map fun σ' => (.undef, σ')
  | .box t x => boxA P tm σ t x
  | .alloc t => allocA P σ t
  | .build t parts => (buildA P tm t parts.toList).map fun v => (v, σ)
  | .buildSlice t len parts => buildSliceA P tm σ t len parts.toList
  | op => (qop P tm σ op).map fun v => (v, σ)
theorem mop_ok (h : mop P tm σ o = some (v, σ')) : OpOk P o tm σ v tm σ' ∧ Op.isDefer o.op = false := by
 unfold mop at h
 split at h
 · rename_i ho
   simp only [Option.map_eq_some_iff, Prod.mk.injEq] at h
   obtain ⟨s, h1, rfl, rfl⟩ := h
   exact ⟨storeA_ok ho h1, by simp [ho, Op.isDefer]⟩
 · rename_i ho; exact ⟨boxA_ok ho h, by simp [ho, Op.isDefer]⟩
 · rename_i ho; exact ⟨allocA_ok ho h, by simp [ho, Op.isDefer]⟩
 · rename_i ho
   simp only [Option.map_eq_some_iff, Prod.mk.injEq] at h
   obtain ⟨s, h1, rfl, rfl⟩ := h
   exact ⟨buildA_ok ho h1, by simp [ho, Op.isDefer]⟩
 · rename_i ho; exact ⟨buildSliceA_ok ho h, by simp [ho, Op.isDefer]⟩
 · rename_i op _ _ _ _ _
   simp only [Option.map_eq_some_iff, Prod.mk.injEq] at h
   obtain ⟨s, h1, rfl, rfl⟩ := h
   exact ⟨qop_opOk h1, qop_isDefer h1⟩
def mstep (P : Program) (todo : List Item) (tm : List V) (σ : Store) : Option (List Item × List V × Store) :=
  match todo with
  | .code .skip :: k => some (k, tm, σ)
  | .code (.label _) :: k => some (k, tm, σ)
  | .inBlock _ :: k => some (k, tm, σ)
  | .inScope _ :: k => some (k, tm, σ)
  | .code (.seq a b) :: k => some (.code a :: .code b :: k, tm, σ)
  | .code (.block id c) :: k => some (.code c :: .inBlock id :: k, tm, σ)
  | .code (.scope c) :: k => some (.code c :: .inScope c :: k, tm, σ)
  | .code (.loop c) :: k => some (.code c :: .inLoop c :: k, tm, σ)
  | .inLoop c :: k => some (.code c :: .inLoop c :: k, tm, σ)
  | .code (.exit id) :: k => (exitTo id k).map fun k' => (k', tm, σ)
  | .code (.goto l) :: k => (gotoIn l k).map fun k' => (k', tm, σ)
  | .code (.cond c x y) :: k => match ev tm c with
    | .d (.bool true) => some (.code x :: k, tm, σ)
    | .d (.bool false) => some (.code y :: k, tm, σ)
    | _ => none
  | .code (.region _ ops false) :: k => some (.inRegion ops (List.range ops.size) :: k, tm, σ)
  | .inRegion _ [] :: k => some (k, tm, σ)
  | .inRegion ops (i :: r) :: k => match ops[i]? with
    | none => none
    | some o => match wantA ops o tm with
      | some true => (mop P tm σ o).map fun p => (.inRegion ops r :: k, put tm o.dst p.1, p.2)
      | some false => some (.inRegion ops r :: k, put tm o.dst (.tuple []), σ)
      | none => none
  | _ => none
theorem mstep_ok {f : FuncId} {ro : Option Nat} {todo todo' : List Item} {tm tm' : List V} {df : List Nat} {Q : AE → Store → Prop} (h : mstep P todo tm σ = some (todo', tm', σ'))
    (hn : AW P f ro n todo' tm' σ' df Q) : AW P f ro n todo tm σ df Q := by
  unfold mstep at h
  split at h
  · cases h; exact .skip hn
  · cases h; exact .label hn
  · cases h; exact .inBlock hn
  · cases h; exact .inScope hn
  · cases h; exact .seq hn
  · cases h; exact .block hn
  · cases h; exact .scope hn
  · cases h; exact .loop hn
  · cases h; exact .inLoop hn
  · simp only [Option.map_eq_some_iff, Prod.mk.injEq] at h
    obtain ⟨k', h1, rfl, rfl, rfl⟩ := h
    exact .exit h1 hn
  · simp only [Option.map_eq_some_iff, Prod.mk.injEq] at h
    obtain ⟨k', h1, rfl, rfl, rfl⟩ := h
    exact .goto h1 hn
  · split at h
    · rename_i hc; cases h; exact .cond hc (fun _ => hn) (fun e => by cases e)
    · rename_i hc; cases h; exact .cond hc (fun e => by cases e) (fun _ => hn)
    · cases h
  · cases h; exact .region hn
  · cases h; exact .regionEnd hn
  · split at h
    · cases h
    · rename_i o hi
      split at h
      · rename_i hw
        simp only [Option.map_eq_some_iff, Prod.mk.injEq] at h
        obtain ⟨p, h1, rfl, rfl, rfl⟩ := h
        obtain ⟨g1, g2⟩ := mop_ok h1
        exact .op hi hw g2 g1 hn
      · rename_i hw
        cases h
        exact .opSkip hi hw hn
      · cases h
  · cases h
def msteps (P : Program) : Nat → List Item → List V → Store → Option (List Item × List V × Store)
  | 0, todo, tm, σ => some (todo, tm, σ)
  | n + 1, todo, tm, σ => match mstep P todo tm σ with
    | some (todo', tm', σ') => msteps P n todo' tm' σ'
    | none => none
theorem AW.steps {f : FuncId} {ro : Option Nat} (m : Nat) : ∀ {todo todo' : List Item} {tm tm' : List V} {σ σ' : Store} {df : List Nat} {Q : AE → Store → Prop}, msteps P m todo tm σ = some (todo', tm', σ') →
   AW P f ro n todo' tm' σ' df Q → AW P f ro n todo tm σ df Q := by
 induction m with
 | zero => intro todo todo' tm tm' σ σ' df Q h hn; cases h; exact hn
 | succ m ih =>
   intro todo todo' tm tm' σ σ' df Q h hn
   simp only [msteps] at h
   split at h
   · rename_i t1 t2 t3 h1
     exact mstep_ok h1 (ih h hn)
   · cases h
mutual
def V.ren (m : Nat → Nat) : V → V
  | .ptr l i s => .ptr (m l) i s
  | .row l => .row (m l)
  | .sl l a b c => .sl (m l) a b c
  | .yield l => .yield (m l)
  | .map l => .map (m l)
  | .fn f a b => .fn f (V.renL m a) (V.renL m b)
  | .tuple vs => .tuple (V.renL m vs)
  | .agg vs => .agg (V.renL m vs)
  | .d x => .d x
  | .undef => .undef
  | .nils => .nils
  | .ex sz xs => .ex sz xs
  | .ep sz x s => .ep sz x s
def V.renL (m : Nat → Nat) : List V → List V
  | [] => []
  | v :: vs => V.ren m v :: V.renL m vs
end
def O.ren (m : Nat → Nat) : O → O
  | .cells cs => .cells (V.renL m cs)
  | .loop a b c tm x e f => .loop a b c (V.renL m tm) x e f
  | .dead => .dead
  | .row sz xs mv => .row sz xs mv
  | .map es => .map es
  | .defd => .defd
theorem O.ren_dead {m : Nat → Nat} {o : O} : o.ren m = .dead ↔ o = .dead := by cases o <;> simp [O.ren]
theorem O.ren_still {m : Nat → Nat} {o : O} : (o.ren m).still = o.still := by cases o <;> rfl
theorem O.ren_ld {m : Nat → Nat} {o : O} : (o.ren m).ld = o.ld := by cases o <;> rfl
theorem O.alike_trans {a b c : O} (h : a.alike b) (h' : b.alike c) : a.alike c := Eq.trans h h'
theorem O.alike_symm {a b : O} (h : a.alike b) : b.alike a := Eq.symm h
theorem O.alike_ren {m : Nat → Nat} (o : O) : o.alike (o.ren m) := by cases o <;> rfl
theorem O.ren_alike {m : Nat → Nat} (o : O) : (o.ren m).alike o := by cases o <;> rfl
def Emb (m : Nat → Nat) (ρc : LM) (σc : Store) (ρ : LM) (σ : Store) : Prop :=
  ∀ i oc, σc[i]? = some oc → ρ (m i) = ρc i ∧ ∃ o, σ[m i]? = some o ∧ (o = .dead ↔ oc = .dead) ∧ o.alike oc
section ren
variable {w : World} {I : Nat → Prop} {m : Nat → Nat} {ρc ρ : LM} {σc σ : Store}
theorem Emb.lt (h : Emb m ρc σc ρ σ) (hi : i < σc.length) : m i < σ.length := by
 obtain ⟨_, o, ho, _⟩ := h i _ (List.getElem?_eq_getElem hi)
 exact (List.getElem?_eq_some_iff.1 ho).1
theorem Emb.live (h : Emb m ρc σc ρ σ) (hi : i < σc.length) : live σ (m i) ↔ live σc i := by
 obtain ⟨h1, o, ho, hd, _⟩ := h i _ (List.getElem?_eq_getElem hi)
 constructor
 · rintro ⟨o', h2, h3⟩
   rw [ho] at h2; cases h2
   exact ⟨_, List.getElem?_eq_getElem hi, fun e => h3 (hd.2 e)⟩
 · rintro ⟨o', h2, h3⟩
   rw [List.getElem?_eq_getElem hi] at h2; cases h2
   exact ⟨o, ho, fun e => h3 (hd.1 e)⟩
theorem Emb.rho (h : Emb m ρc σc ρ σ) (hi : i < σc.length) : ρ (m i) = ρc i := (h i _ (List.getElem?_eq_getElem hi)).1
theorem rowV_ren {i off n : Nat} (h : ρ (m i) = ρc i) {x : Value} : rowV ρ (m i) off n x ↔ rowV ρc i off n x := by unfold rowV; rw [h]
mutual
theorem vr_ren (h : Emb m ρc σc ρ σ) : ∀ (v : V) (x : Value), (∀ l ∈ v.locs, l < σc.length) → (vr w I ρ σ (v.ren m) x ↔ vr w I ρc σc v x)
 | .d _, _, _ => by simp [V.ren, vr]
 | .undef, _, _ => by simp [V.ren, vr]
 | .nils, _, _ => by simp [V.ren, vr]
 | .ex _ _, _, _ => by simp [V.ren, vr]
 | .ep _ _ _, _, _ => by simp [V.ren, vr]
 | .ptr l i s, x, hl => by
   have hl := hl l (by simp [V.locs])
   simp only [V.ren, vr, h.live hl, h.rho hl, h.lt hl, hl, true_and]
 | .yield l, x, hl => by
   have hl := hl l (by simp [V.locs])
   simp only [V.ren, vr, h.live hl, h.rho hl, h.lt hl, hl, true_and]
 | .map l, x, hl => by
   have hl := hl l (by simp [V.locs])
   simp only [V.ren, vr, h.live hl, h.rho hl, h.lt hl, hl, true_and]
 | .row l, x, hl => by
   have hl := hl l (by simp [V.locs])
   obtain ⟨h1, o, ho, _, h2⟩ := h l _ (List.getElem?_eq_getElem hl)
   simp only [V.ren, vr, h.lt hl, hl, true_and, and_congr_right_iff]
   intro _
   constructor
   · intro hx sz xs mv e
     obtain ⟨sz', xs', mv', e', hlen⟩ := alike_row (sz := sz) (xs := xs) (mv := mv) (by rw [List.getElem?_eq_getElem hl] at e; rw [← Option.some.inj e]; exact h2)
     rw [← hlen]
     exact (rowV_ren h1).1 (hx sz' xs' mv' (by rw [ho, e']))
   · intro hx sz xs mv e
     obtain ⟨sz', xs', mv', e', hlen⟩ := alike_row (sz := sz) (xs := xs) (mv := mv) (by rw [ho] at e; rw [← Option.some.inj e]; exact O.alike_symm h2)
     rw [← hlen]
     exact (rowV_ren h1).2 (hx sz' xs' mv' (by rw [List.getElem?_eq_getElem hl, e']))
 | .sl l a b c, x, hl => by
   have hl := hl l (by simp [V.locs])
   obtain ⟨h1, o, ho, _, h2⟩ := h l _ (List.getElem?_eq_getElem hl)
   simp only [V.ren, vr, h.lt hl, hl, true_and, and_congr_right_iff]
   intro _
   constructor
   · intro hx sz xs mv e
     obtain ⟨sz', xs', mv', e', hlen⟩ := alike_row (sz := sz) (xs := xs) (mv := mv) (by rw [List.getElem?_eq_getElem hl] at e; rw [← Option.some.inj e]; exact h2)
     rw [← hlen]
     have := hx sz' xs' mv' (by rw [ho, e'])
     exact ⟨this.1, (rowV_ren h1).1 this.2.1, this.2.2⟩
   · intro hx sz xs mv e
     obtain ⟨sz', xs', mv', e', hlen⟩ := alike_row (sz := sz) (xs := xs) (mv := mv) (by rw [ho] at e; rw [← Option.some.inj e]; exact O.alike_symm h2)
     rw [← hlen]
     have := hx sz' xs' mv' (by rw [List.getElem?_eq_getElem hl, e'])
     exact ⟨this.1, (rowV_ren h1).2 this.2.1, this.2.2⟩
 | .fn f a b, x, hl => by
   simp only [V.locs, List.mem_append] at hl
   simp only [V.ren, vr]
   constructor
   · rintro ⟨fs, cs, e, g1, g2⟩
     exact ⟨fs, cs, e, (vrL_ren h a fs fun l hm => hl l (.inl hm)).1 g1, (vrL_ren h b cs fun l hm => hl l (.inr hm)).1 g2⟩
   · rintro ⟨fs, cs, e, g1, g2⟩
     exact ⟨fs, cs, e, (vrL_ren h a fs fun l hm => hl l (.inl hm)).2 g1, (vrL_ren h b cs fun l hm => hl l (.inr hm)).2 g2⟩
 | .tuple vs, x, hl => by
   simp only [V.locs] at hl
   simp only [V.ren, vr]
   constructor
   · rintro ⟨xs, e, g1⟩
     exact ⟨xs, e, (vrL_ren h vs xs hl).1 g1⟩
   · rintro ⟨xs, e, g1⟩
     exact ⟨xs, e, (vrL_ren h vs xs hl).2 g1⟩
 | .agg vs, x, hl => by
   simp only [V.locs] at hl
   simp only [V.ren, vr]
   constructor
   · rintro ⟨xs, e, g1, g2⟩
     exact ⟨xs, e, (vrL_ren h vs xs hl).1 g1, g2⟩
   · rintro ⟨xs, e, g1, g2⟩
     exact ⟨xs, e, (vrL_ren h vs xs hl).2 g1, g2⟩
theorem vrL_ren (h : Emb m ρc σc ρ σ) : ∀ (vs : List V) (xs : List Value), (∀ l ∈ V.locsL vs, l < σc.length) → (vrL w I ρ σ (V.renL m vs) xs ↔ vrL w I ρc σc vs xs)
 | [], _, _ => by simp [V.renL, vrL]
 | v :: vs, xs, hl => by
   simp only [V.locsL, List.mem_append] at hl
   simp only [V.renL, vrL]
   constructor
   · rintro ⟨x, xs', e, g1, g2⟩
     exact ⟨x, xs', e, (vr_ren h v x fun l hm => hl l (.inl hm)).1 g1, (vrL_ren h vs xs' fun l hm => hl l (.inr hm)).1 g2⟩
   · rintro ⟨x, xs', e, g1, g2⟩
     exact ⟨x, xs', e, (vr_ren h v x fun l hm => hl l (.inl hm)).2 g1, (vrL_ren h vs xs' fun l hm => hl l (.inr hm)).2 g2⟩
end
def O.bel (n : Nat) (o : O) : Prop := ∀ l ∈ o.locs, l < n
theorem orel_ren (h : Emb m ρc σc ρ σ) {oc : O} (hi : ρ (m i) = ρc i) (hb : oc.bel σc.length) : orel w I ρ σ (m i) (oc.ren m) ↔ orel w I ρc σc i oc := by
 cases oc with
 | dead => simp [O.ren, orel]
 | cells cs => simp only [O.ren, orel, hi, vrL_ren h cs _ hb]
 | row sz xs mv => simp only [O.ren, orel, hi]
 | map es => simp only [O.ren, orel, hi]
 | defd => simp only [O.ren, orel, hi]
 | loop a b c tm x e f =>
   have htm : ∀ l ∈ V.locsL tm, l < σc.length := fun l hl => hb l (by simpa [O.locs] using hl)
   simp only [O.ren, orel, hi, vrL_ren h tm _ htm]
theorem orel_bel {o : O} (h : orel w I ρ σ l o) : o.bel σ.length := by
 intro x hx
 cases o with
 | cells cs => simp only [orel] at h; obtain ⟨L, C, T, fz, _, _, _, _, h5, _⟩ := h; exact vrL_locs cs _ h5 x hx
 | loop a b c tm y e f =>
   simp only [orel] at h
   obtain ⟨L, tmps, db, _, _, h3⟩ := h
   exact vrL_locs tm _ h3 x hx
 | _ => simp [O.locs] at hx
end ren
def CallsA (P : Program) (g : FuncId) (args : List V) (σ : Store) (Q : AE → Store → Prop) : Prop :=
  ∀ w I ρ (xs : List Value), vrL w I ρ σ args xs → ORel w I ρ σ → Calls P g xs.toArray w (Fin σ.length w I ρ σ Q)
theorem CallsA.mono {g : FuncId} {args : List V} {Q Q' : AE → Store → Prop} (h : CallsA P g args σ Q) (hq : ∀ r σ', Q r σ' → Q' r σ') : CallsA P g args σ Q' :=
 fun w I ρ xs h1 h2 => (h w I ρ xs h1 h2).mono fun _ _ ⟨I', ρ', σ', r, k1, k2⟩ => ⟨I', ρ', σ', r, hq _ _ k1, k2⟩
theorem CallsA.of {g : FuncId} {fn : Func} {c : Code} {args : List V} {Q : AE → Store → Prop} (hf : P.funcs[g]? = some fn) (hb : fn.body = some c)
  (h : AW P g none σ.length [.code c] (args ++ List.replicate (fn.ntmps - args.length) .undef) σ [] Q) : CallsA P g args σ Q := by
 intro w I ρ xs h1 h2
 have hl := vrL_len h1
 refine calls_of_runs hf hb (h w I ρ _ none ⟨?_, h2, rfl⟩ rfl (Nat.le_refl _))
 have := vrL_append h1 (vrL_undef (w := w) (I := I) (ρ := ρ) (σ := σ) (fn.ntmps - args.length) Go.undef)
 simpa [hl] using this
def mp (m : List Nat) (N : Nat) (i : Nat) : Nat := match m[i]? with | some l => l | none => N + (i - m.length)
def movedB (m : List Nat) (σc' : Store) (l : Nat) : Bool :=
  match m.idxOf? l with
  | some i => match σc'[i]? with | some (.row _ _ true) => true | _ => false
  | none => false
def flagged (o o' : O) : O := match o, o' with
  | .row _ _ true, .row sz xs _ => .row sz xs true
  | _, o' => o'
def merge (σ : Store) (m : List Nat) (σc' : Store) : Store :=
  (σ.mapIdx fun l o => match m.idxOf? l with
    | some i => flagged o ((σc'.getD i .dead).ren (mp m σ.length))
    | none => o.kill (movedB m σc')) ++ (σc'.drop m.length).map (·.ren (mp m σ.length))
def nodupB : List Nat → Bool
  | [] => true
  | x :: xs => !(xs.any (Nat.beq x)) && nodupB xs
theorem nodupB_ok : ∀ {m : List Nat}, nodupB m = true → m.Nodup
 | [], _ => List.nodup_nil
 | x :: xs, h => by
   simp only [nodupB, Bool.and_eq_true, Bool.not_eq_true', List.any_eq_false] at h
   refine List.nodup_cons.2 ⟨fun hm => ?_, nodupB_ok h.2⟩
   have := h.1 x hm
   simp at this
def within (σ : Store) (m : List Nat) (σc : Store) : Prop :=
  m.length = σc.length ∧ nodupB m = true ∧ m.map (fun l => σ[l]?) = (m.zip σc).map fun p => some (flagged (σ.getD p.1 .dead) (p.2.ren (mp m σ.length)))
theorem within_get {σ σc : Store} {m : List Nat} (h : within σ m σc) (hi : m[i]? = some l) : ∃ oc, σc[i]? = some oc ∧ σ[l]? = some (flagged (σ.getD l .dead) (oc.ren (mp m σ.length))) := by
 have hlt : i < σc.length := by rw [← h.1]; exact (List.getElem?_eq_some_iff.1 hi).1
 refine ⟨_, List.getElem?_eq_getElem hlt, ?_⟩
 have := congrArg (fun z => z[i]?) h.2.2
 have hz : (m.zip σc)[i]? = some (l, σc[i]) := by
  rw [List.getElem?_zip_eq_some]
  exact ⟨hi, List.getElem?_eq_getElem hlt⟩
 simp only [List.getElem?_map, hi, hz, Option.map_some, Option.some.injEq] at this
 exact this
theorem flagged_dead {o o' : O} : flagged o o' = .dead ↔ o' = .dead := by
 unfold flagged; split <;> simp
theorem flagged_alike (o o' : O) : (flagged o o').alike o' := by
 unfold flagged
 split <;> rfl
theorem flagged_still {o o' : O} (h : (flagged o o').still = true) : o'.still = true := by
 unfold flagged at h
 split at h
 · simp [O.still] at h
 · exact h
theorem flagged_ld (o o' : O) : (flagged o o').ld = o'.ld := by
 unfold flagged; split <;> rfl
theorem flagged_orel {o o' : O} : orel w I ρ σ l (flagged o o') ↔ orel w I ρ σ l o' := by
 unfold flagged; split <;> simp [orel]
theorem kill_dead {p : Nat → Bool} {o : O} : o.kill p = .dead ↔ o = .dead := by cases o <;> simp [O.kill]
theorem kill_alike (p : Nat → Bool) (o : O) : o.alike (o.kill p) := by cases o <;> rfl
theorem kill_still (p : Nat → Bool) (o : O) : (o.kill p).still = o.still := by cases o <;> rfl
theorem kill_ld (p : Nat → Bool) (o : O) : (o.kill p).ld = o.ld := by cases o <;> rfl
theorem orel_kill {o : O} (p : Nat → Bool) (h : orel w I ρ σ l o) : orel w I ρ σ l (o.kill p) := by
 cases o with
 | cells cs => simp only [O.kill, orel] at h ⊢; obtain ⟨L, C, T, fz, h1, h2, h3, h4, h5, h6⟩ := h; exact ⟨L, C, T, fz, h1, h2, h3, h4, vrL_kill p cs _ h5, h6⟩
 | loop a b c tm x e f => simp only [O.kill, orel] at h ⊢; obtain ⟨L, tmps, db, h1, h2, h3⟩ := h; exact ⟨L, tmps, db, h1, h2, vrL_kill p tm _ h3⟩
 | _ => exact h
theorem mem_idx {m : List Nat} (hn : m.Nodup) (h : m[i]? = some l) : m.idxOf? l = some i := by
 rw [List.idxOf?_eq_some_iff]
 obtain ⟨hi, he⟩ := List.getElem?_eq_some_iff.1 h
 refine ⟨hi, he, fun j hj => ?_⟩
 intro e
 have hjl : j < m.length := by omega
 have := (List.getElem_inj (h₀ := hjl) (h₁ := hi) hn).1 (by rw [he]; simpa using e)
 omega
theorem idx_mem {m : List Nat} (h : m.idxOf? l = some i) : m[i]? = some l := by
 rw [List.idxOf?_eq_some_iff] at h
 obtain ⟨hi, he, _⟩ := h
 rw [List.getElem?_eq_getElem hi, he]
section up
variable {w w' : World} {I I' : Nat → Prop} {ρ ρ' : LM} {σ σ' : Store}
theorem orel_up (hI : ∀ b, I b → I' b ∧ w'.heap[b]? = w.heap[b]?) {o : O} (hs : ∀ x ∈ o.locs, Same ρ σ ρ' σ' x) (hρ : ρ' l = ρ l) (hh : ∀ L, ρ l = some L → w'.heap[L.b]? = w.heap[L.b]?) (h : orel w I ρ σ l o) :
   orel w' I' ρ' σ' l o := by
 cases o with
 | dead => simp [orel]
 | cells cs =>
   simp only [orel] at h ⊢
   obtain ⟨L, C, T, fz, h1, h2, h3, h4, h5, h6⟩ := h
   exact ⟨L, C, T, fz, hρ.trans h1, h2, (hh L h1).trans h3, h4, vrL_up hI _ _ hs h5, h6⟩
 | row sz xs mv =>
   simp only [orel] at h ⊢
   rcases h with ⟨h1, h2⟩ | ⟨L, C, T, fz, h1, h2, h3, h4, h5, h6, h7, h8⟩
   · exact .inl ⟨hρ.trans h1, h2⟩
   · exact .inr ⟨L, C, T, fz, hρ.trans h1, h2, (hh L h1).trans h3, h4, h5, h6, h7, DrE_mono hI sz L.b (hh L h1) L.o xs h8⟩
 | map es =>
   simp only [orel] at h ⊢
   obtain ⟨L, E, n, h1, h2, h3, h4, h5, h6⟩ := h
   refine ⟨L, E, n, hρ.trans h1, h2, (hh L h1).trans h3, h4, fun j e hj => ?_, h6⟩
   obtain ⟨g1, x, g2, g3, g4⟩ := h5 j e hj
   exact ⟨g1, x, g2, g3, Dr_mono hI _ _ g4⟩
 | loop st pend fn tm params assign body =>
   simp only [orel] at h ⊢
   obtain ⟨L, tmps, db, h1, h2, h3⟩ := h
   exact ⟨L, tmps, db, hρ.trans h1, (hh L h1).trans h2, vrL_up hI _ _ hs h3⟩
 | defd =>
   simp only [orel] at h ⊢
   obtain ⟨L, h1, h2⟩ := h
   exact ⟨L, hρ.trans h1, (hh L h1).trans h2⟩
end up
theorem O.locs_kill (p : Nat → Bool) (o : O) : ∀ l ∈ (o.kill p).locs, l ∈ o.locs ∧ p l = false := by
 intro l hl
 cases o with
 | cells cs => exact locsL_kill p cs l hl
 | loop a b c tm d e f => exact locsL_kill p tm l hl
 | _ => simp [O.kill, O.locs] at hl
def belB (n : Nat) (σ : Store) : Bool := σ.all fun o => o.locs.all fun l => Nat.blt l n
theorem belB_ok (h : belB n σ = true) {o : O} (hi : σ[i]? = some o) : o.bel n := by
 intro l hl
 have h1 := (List.all_eq_true.1 h) o (List.mem_of_getElem? hi)
 have h2 := (List.all_eq_true.1 h1) l hl
 simpa [Nat.blt_eq] using h2
def rhoC (m : List Nat) (ρ : LM) : LM := fun i => match m[i]? with | some l => ρ l | none => none
def rhoB (m : List Nat) (N : Nat) (ρ ρc' : LM) : LM := fun l => match m.idxOf? l with | some i => ρc' i | none => if l < N then ρ l else ρc' (m.length + (l - N))
section calls
variable {w w' : World} {I I' : Nat → Prop} {ρ ρc' : LM} {σ σc σc' : Store} {m : List Nat}
theorem emb_enter (hw : within σ m σc) : Emb (mp m σ.length) (rhoC m ρ) σc ρ σ := by
 intro i oc hi
 have hlt : i < m.length := by rw [hw.1]; exact (List.getElem?_eq_some_iff.1 hi).1
 have hm : m[i]? = some m[i] := List.getElem?_eq_getElem hlt
 obtain ⟨oc', h1, h2⟩ := within_get hw hm
 rw [hi] at h1; cases h1
 have hmp : mp m σ.length i = m[i] := by simp [mp, hm]
 rw [hmp]
 exact ⟨by simp [rhoC, hm], _, h2, flagged_dead.trans O.ren_dead, O.alike_trans (flagged_alike _ _) (O.ren_alike oc)⟩
theorem orel_enter (hO : ORel w I ρ σ) (hw : within σ m σc) (hb : belB σc.length σc = true) : ORel w I (rhoC m ρ) σc := by
 have hE := emb_enter (ρ := ρ) hw
 have hmi : ∀ i, i < σc.length → m[i]? = some (mp m σ.length i) := fun i hi => by
   have hlt : i < m.length := by rw [hw.1]; exact hi
   simp [mp, List.getElem?_eq_getElem hlt]
 have hfoot : ∀ b, foot (rhoC m ρ) σc b → foot ρ σ b := by
   rintro b ⟨i, oc, L, h1, h2, h3, h4⟩
   have hi := (List.getElem?_eq_some_iff.1 h1).1
   obtain ⟨o, h5, h6⟩ := (hE.live hi).2 ⟨oc, h1, h2⟩
   exact ⟨_, o, L, h5, h6, (hE.rho hi).trans h3, h4⟩
 refine ⟨fun i oc hi => ?_, fun i j L L' hi hj hL hL' e => ?_, fun b h => hO.flt b (hfoot b h), fun b h => ⟨(hO.imm b h).1, fun hf => (hO.imm b h).2 (hfoot b hf)⟩⟩
 · have hlt := (List.getElem?_eq_some_iff.1 hi).1
   obtain ⟨oc', h1, h2⟩ := within_get hw (hmi i hlt)
   rw [hi] at h1; cases h1
   have := hO.objs _ _ h2
   rw [flagged_orel] at this
   exact (orel_ren hE (hE.rho hlt) (belB_ok hb hi)).1 this
 · have h1 := live_lt hi
   have h2 := live_lt hj
   have := hO.inj _ _ L L' ((hE.live h1).2 hi) ((hE.live h2).2 hj) ((hE.rho h1).trans hL) ((hE.rho h2).trans hL') e
   have hi' := hmi i h1
   have hj' := hmi j h2
   rw [← this] at hj'
   have a1 := mem_idx (nodupB_ok hw.2.1) hi'
   have a2 := mem_idx (nodupB_ok hw.2.1) hj'
   rw [a1] at a2
   exact Option.some.inj a2
theorem merge_len : (merge σ m σc').length = σ.length + (σc'.length - m.length) := by simp [merge]
theorem merge_lt (hl : l < σ.length) : (merge σ m σc')[l]? = some (match m.idxOf? l with
  | some i => flagged σ[l] ((σc'.getD i .dead).ren (mp m σ.length))
  | none => σ[l].kill (movedB m σc')) := by
 unfold merge
 rw [List.getElem?_append_left (by simpa using hl), List.getElem?_mapIdx, List.getElem?_eq_getElem hl]
 rfl
theorem merge_ge {k : Nat} : (merge σ m σc')[σ.length + k]? = (σc'[m.length + k]?).map (·.ren (mp m σ.length)) := by
 unfold merge
 rw [List.getElem?_append_right (by simp)]
 simp
theorem leave (hO : ORel w I ρ σ) (hw : within σ m σc) (hx : Ext σc.length w I (rhoC m ρ) σc w' I' ρc' σc') (hO' : ORel w' I' ρc' σc') :
    Emb (mp m σ.length) ρc' σc' (rhoB m σ.length ρ ρc') (merge σ m σc') ∧ ORel w' I' (rhoB m σ.length ρ ρc') (merge σ m σc') ∧ Ext σ.length w I ρ σ w' I' (rhoB m σ.length ρ ρc') (merge σ m σc') ∧
      (∀ tm xs, vrL w I ρ σ tm xs → vrL w' I' (rhoB m σ.length ρ ρc') (merge σ m σc') (V.killL (movedB m σc') tm) xs) := by
  have hE := emb_enter (ρ := ρ) hw
  have hnd := nodupB_ok hw.2.1
  have hn : m.length ≤ σc'.length := by rw [hw.1]; exact hx.len
  have hmlt : ∀ i l, m[i]? = some l → l < σ.length := fun i l h => by
    obtain ⟨oc, _, h2⟩ := within_get hw h
    exact (List.getElem?_eq_some_iff.1 h2).1
  have hidxN : ∀ k, m.idxOf? (σ.length + k) = none := fun k => by
    cases hq : m.idxOf? (σ.length + k) with
    | none => rfl
    | some i => have := hmlt i _ (idx_mem hq); omega
  have hE' : Emb (mp m σ.length) ρc' σc' (rhoB m σ.length ρ ρc') (merge σ m σc') := by
    intro i oc hi
    by_cases him : i < m.length
    · have hm : m[i]? = some m[i] := List.getElem?_eq_getElem him
      have hid := mem_idx hnd hm
      have hlt := hmlt i _ hm
      have hmp : mp m σ.length i = m[i] := by simp [mp, hm]
      rw [hmp]
      refine ⟨by simp [rhoB, hid], _, merge_lt hlt, ?_⟩
      simp only [hid, List.getD_eq_getElem?_getD, hi, Option.getD_some]
      exact ⟨flagged_dead.trans O.ren_dead, O.alike_trans (flagged_alike _ _) (O.ren_alike oc)⟩
    · have hm : m[i]? = none := by simp; omega
      have hmp : mp m σ.length i = σ.length + (i - m.length) := by simp [mp, hm]
      rw [hmp]
      have hi2 : m.length + (i - m.length) = i := by omega
      exact ⟨by simp only [rhoB, hidxN]; rw [if_neg (by omega)]; congr 1; omega, oc.ren (mp m σ.length), by rw [merge_ge, hi2, hi]; rfl, O.ren_dead, O.ren_alike oc⟩
  have hsplit : ∀ l o', (merge σ m σc')[l]? = some o' → o' ≠ .dead → (∃ i oc', σc'[i]? = some oc' ∧ oc' ≠ .dead ∧ l = mp m σ.length i ∧ rhoB m σ.length ρ ρc' l = ρc' i) ∨
      (l < σ.length ∧ m.idxOf? l = none ∧ ∃ o, σ[l]? = some o ∧ o ≠ .dead ∧ o' = o.kill (movedB m σc') ∧ rhoB m σ.length ρ ρc' l = ρ l) := by
    intro l o' hl hd
    by_cases hlt : l < σ.length
    · rw [merge_lt hlt] at hl
      cases hid : m.idxOf? l with
      | some i =>
        simp only [hid, Option.some.injEq] at hl
        have hm := idx_mem hid
        have him := (List.getElem?_eq_some_iff.1 hm).1
        have hic : i < σc'.length := by omega
        refine .inl ⟨i, _, List.getElem?_eq_getElem hic, ?_, by simp [mp, hm], by simp [rhoB, hid]⟩
        intro e
        apply hd
        rw [← hl, flagged_dead, O.ren_dead]
        simp [hic, e]
      | none =>
        simp only [hid, Option.some.injEq] at hl
        refine .inr ⟨hlt, rfl, _, List.getElem?_eq_getElem hlt, fun e => hd ?_, hl.symm, by simp [rhoB, hid, hlt]⟩
        rw [← hl, e]; rfl
    · have hk : l = σ.length + (l - σ.length) := by omega
      rw [hk, merge_ge] at hl
      simp only [Option.map_eq_some_iff] at hl
      obtain ⟨oc, h1, h2⟩ := hl
      refine .inl ⟨_, oc, h1, fun e => hd ?_, ?_, ?_⟩
      · rw [← h2, e]; rfl
      · have hm : m[m.length + (l - σ.length)]? = none := by simp
        simp only [mp, hm]; omega
      · have := hidxN (l - σ.length)
        rw [← hk] at this
        simp [rhoB, this, hlt]
  have hfootc : ∀ b, foot (rhoC m ρ) σc b → ∃ j o L, m.idxOf? j ≠ none ∧ σ[j]? = some o ∧ o ≠ .dead ∧ ρ j = some L ∧ L.b = b := by
    rintro b ⟨i, oc, L, h1, h2, h3, h4⟩
    have hi := (List.getElem?_eq_some_iff.1 h1).1
    obtain ⟨o, h5, h6⟩ := (hE.live hi).2 ⟨oc, h1, h2⟩
    have him : i < m.length := by rw [hw.1]; exact hi
    have hm : m[i]? = some (mp m σ.length i) := by simp [mp, List.getElem?_eq_getElem him]
    exact ⟨_, o, L, by rw [mem_idx hnd hm]; simp, h5, h6, (hE.rho hi).trans h3, h4⟩
  have hfootc' : ∀ b, foot (rhoC m ρ) σc b → foot ρ σ b := fun b h => by
    obtain ⟨j, o, L, _, h1, h2, h3, h4⟩ := hfootc b h
    exact ⟨j, o, L, h1, h2, h3, h4⟩
  -- a location of the caller's own is not the callee's
  have hnot : ∀ l o L, m.idxOf? l = none → σ[l]? = some o → o ≠ .dead → ρ l = some L → ¬ foot (rhoC m ρ) σc L.b := by
    intro l o L hid h1 h2 h3 hf
    obtain ⟨j, o', L', hj, h4, h5, h6, h7⟩ := hfootc _ hf
    have := hO.inj j l L' L ⟨o', h4, h5⟩ ⟨o, h1, h2⟩ h6 h3 h7
    rw [this] at hj
    exact hj hid
  have hI : ∀ b, I b → I' b ∧ w'.heap[b]? = w.heap[b]? := fun b hb => ⟨hx.immI b hb, hx.old b (hO.imm b hb).1 fun hf => (hO.imm b hb).2 (hfootc' b hf)⟩
  have hS : ∀ x, x < σ.length → movedB m σc' x = false → Same ρ σ (rhoB m σ.length ρ ρc') (merge σ m σc') x := by
    intro x hxl hp
    refine ⟨by rw [merge_len]; omega, fun o' ho' hd => ?_⟩
    rw [merge_lt hxl] at ho'
    cases hid : m.idxOf? x with
    | none =>
      simp only [hid, Option.some.injEq] at ho'
      refine ⟨by simp [rhoB, hid, hxl], _, List.getElem?_eq_getElem hxl, fun e => hd ?_, ?_⟩
      · rw [← ho', e]; rfl
      · rw [← ho']; exact kill_alike _ _
    | some i =>
      simp only [hid, Option.some.injEq] at ho'
      have hm := idx_mem hid
      have him := (List.getElem?_eq_some_iff.1 hm).1
      have hic : i < σc'.length := by omega
      have hig : σc'[i]? = some σc'[i] := List.getElem?_eq_getElem hic
      have hgd : σc'.getD i .dead = σc'[i] := by simp [hic]
      rw [hgd] at ho'
      have hnd' : σc'[i] ≠ .dead := fun e => hd (by rw [← ho', flagged_dead, O.ren_dead]; exact e)
      have hst : σc'[i].still = true := by
        simp only [movedB, hid, hig] at hp
        revert hp hnd'
        cases σc'[i] with
        | row sz xs mv => cases mv <;> simp [O.still]
        | dead => simp
        | _ => simp [O.still]
      obtain ⟨h1, oc, h2, h3, h4⟩ := hx.fixed i _ (by rw [← hw.1]; exact him) hig hst
      obtain ⟨oc2, h5, h6⟩ := within_get hw hm
      rw [h2] at h5; cases h5
      have hoc : oc ≠ .dead := fun e => by rw [e] at h3; simp [O.still] at h3
      refine ⟨by simp only [rhoB, hid]; rw [h1]; simp [rhoC, hm], _, h6, fun e => hoc (O.ren_dead.1 (flagged_dead.1 e)), ?_⟩
      rw [← ho']
      exact O.alike_trans (O.alike_trans (O.alike_trans (flagged_alike _ _) (O.ren_alike oc)) h4) (O.alike_trans (O.alike_ren _) (O.alike_symm (flagged_alike _ _)))
  have hT : ∀ tm xs, vrL w I ρ σ tm xs → vrL w' I' (rhoB m σ.length ρ ρc') (merge σ m σc') (V.killL (movedB m σc') tm) xs := by
    intro tm xs h
    have hk := vrL_kill (movedB m σc') tm xs h
    exact vrL_up hI _ _ (fun l hl => hS l (vrL_locs _ _ hk l hl) (locsL_kill _ _ l hl).2) hk
  have hold : ∀ l o L, m.idxOf? l = none → σ[l]? = some o → o ≠ .dead → ρ l = some L → w'.heap[L.b]? = w.heap[L.b]? := fun l o L h1 h2 h3 h4 =>
    hx.old _ (hO.flt _ ⟨l, o, L, h2, h3, h4, rfl⟩) (hnot l o L h1 h2 h3 h4)
  refine ⟨hE', ⟨fun l o' hl => ?_, fun l l' L L' hl hl' hL hL' e => ?_, fun b hb => ?_, fun b hb => ⟨(hO'.imm b hb).1, fun hf => ?_⟩⟩, ?_, hT⟩
  · by_cases hd : o' = .dead
    · subst hd; simp [orel]
    have hl0 := hl
    rcases hsplit l o' hl hd with ⟨i, oc', h1, h2, h3, h4⟩ | ⟨h1, h2, o, h3, h4, h5, h6⟩
    · have hob := hO'.objs i oc' h1
      have := (orel_ren hE' (by rw [← h3]; exact h4) (orel_bel hob)).2 hob
      rw [← h3] at this
      obtain ⟨o2, h7⟩ : ∃ o2, o' = flagged o2 (oc'.ren (mp m σ.length)) := by
        by_cases hlt : l < σ.length
        · rw [merge_lt hlt] at hl
          cases hid : m.idxOf? l with
          | some i' =>
            have hii : i' = i := by
              have hm := idx_mem hid
              by_cases him : i < m.length
              · have hm2 : m[i]? = some l := by rw [h3]; simp [mp, List.getElem?_eq_getElem him]
                have := mem_idx hnd hm2
                rw [hid] at this
                exact Option.some.inj this
              · exfalso
                have hm2 : m[i]? = none := by simp; omega
                simp only [mp, hm2] at h3
                omega
            subst hii
            simp only [hid, Option.some.injEq, List.getD_eq_getElem?_getD, h1, Option.getD_some] at hl
            exact ⟨_, hl.symm⟩
          | none =>
            exfalso
            by_cases him : i < m.length
            · have hm2 : m[i]? = some l := by rw [h3]; simp [mp, List.getElem?_eq_getElem him]
              have := mem_idx hnd hm2
              rw [hid] at this
              cases this
            · have hm2 : m[i]? = none := by simp; omega
              simp only [mp, hm2] at h3
              omega
        · have hk : l = σ.length + (l - σ.length) := by omega
          rw [hk, merge_ge] at hl
          have him : ¬ i < m.length := fun him => hlt (by rw [h3]; exact hmlt i _ (by simp [mp, List.getElem?_eq_getElem him]))
          have hm2 : m[i]? = none := by simp; omega
          simp only [mp, hm2] at h3
          have hi2 : m.length + (l - σ.length) = i := by omega
          rw [hi2, h1] at hl
          exact ⟨.dead, by simpa [flagged] using hl.symm⟩
      rw [h7, flagged_orel]
      exact this
    · rw [h5]
      have hob := orel_kill (movedB m σc') (hO.objs l o h3)
      refine orel_up hI (fun x hx' => ?_) h6 (fun L hL => hold l o L h2 h3 h4 hL) hob
      obtain ⟨hx1, hx2⟩ := O.locs_kill _ o x hx'
      have hxlt : x < σ.length := orel_bel (hO.objs l o h3) x hx1
      exact hS x hxlt hx2
  · obtain ⟨o, ho, hd⟩ := hl
    obtain ⟨o2, ho2, hd2⟩ := hl'
    rcases hsplit l o ho hd with ⟨i, oc', h1, h2, h3, h4⟩ | ⟨h1, h2, p, h3, h4, h5, h6⟩ <;> rcases hsplit l' o2 ho2 hd2 with ⟨j, oc2, k1, k2, k3, k4⟩ | ⟨k1, k2, q, k3, k4, k5, k6⟩
    · rw [h4] at hL; rw [k4] at hL'
      rw [h3, k3, hO'.inj i j L L' ⟨_, h1, h2⟩ ⟨_, k1, k2⟩ hL hL' e]
    · exfalso
      rw [h4] at hL; rw [k6] at hL'
      rcases hx.footN L.b ⟨i, oc', L, h1, h2, hL, rfl⟩ with hf | hf
      · rw [e] at hf; exact hnot l' q L' k2 k3 k4 hL' hf
      · have := hO.flt L'.b ⟨l', q, L', k3, k4, hL', rfl⟩; omega
    · exfalso
      rw [h6] at hL; rw [k4] at hL'
      rcases hx.footN L'.b ⟨j, oc2, L', k1, k2, hL', rfl⟩ with hf | hf
      · rw [← e] at hf; exact hnot l p L h2 h3 h4 hL hf
      · have := hO.flt L.b ⟨l, p, L, h3, h4, hL, rfl⟩; omega
    · rw [h6] at hL; rw [k6] at hL'
      exact hO.inj l l' L L' ⟨_, h3, h4⟩ ⟨_, k3, k4⟩ hL hL' e
  · obtain ⟨l, o', L, h1, h2, h3, h4⟩ := hb
    rcases hsplit l o' h1 h2 with ⟨i, oc', k1, k2, k3, k4⟩ | ⟨k1, k2, p, k3, k4, k5, k6⟩
    · rw [k4] at h3; exact hO'.flt b ⟨i, oc', L, k1, k2, h3, h4⟩
    · rw [k6] at h3; exact Nat.lt_of_lt_of_le (hO.flt b ⟨l, p, L, k3, k4, h3, h4⟩) hx.size
  · obtain ⟨l, o', L, h1, h2, h3, h4⟩ := hf
    rcases hsplit l o' h1 h2 with ⟨i, oc', k1, k2, k3, k4⟩ | ⟨k1, k2, p, k3, k4, k5, k6⟩
    · rw [k4] at h3; exact (hO'.imm b hb).2 ⟨i, oc', L, k1, k2, h3, h4⟩
    · rw [k6] at h3
      have hfo : foot ρ σ b := ⟨l, p, L, k3, k4, h3, h4⟩
      rcases hx.immN b hb with hq | hq | hq
      · exact (hO.imm b hq).2 hfo
      · rw [← h4] at hq; exact hnot l p L k2 k3 k4 h3 hq
      · have := hO.flt b hfo; omega
  · refine ⟨hx.size, hx.os, hx.tape, hx.output, fun b hb hf => hx.old b hb fun h => hf (hfootc' b h), hx.immI, fun b hb => ?_, fun b hb => ?_, by rw [merge_len]; omega, fun l hl hv => ?_, fun l o' hl ho' hst => ?_, fun l o hl ho hld => ?_⟩
    · rcases hx.immN b hb with hq | hq | hq
      · exact .inl hq
      · exact .inr (.inl (hfootc' b hq))
      · exact .inr (.inr hq)
    · obtain ⟨l, o', L, h1, h2, h3, h4⟩ := hb
      rcases hsplit l o' h1 h2 with ⟨i, oc', k1, k2, k3, k4⟩ | ⟨k1, k2, p, k3, k4, k5, k6⟩
      · rw [k4] at h3
        rcases hx.footN b ⟨i, oc', L, k1, k2, h3, h4⟩ with hq | hq
        · exact .inl (hfootc' b hq)
        · exact .inr hq
      · rw [k6] at h3; exact .inl ⟨l, p, L, k3, k4, h3, h4⟩
    · obtain ⟨o', h1, h2⟩ := hv
      rcases hsplit l o' h1 h2 with ⟨i, oc', k1, k2, k3, k4⟩ | ⟨k1, k2, p, k3, k4, k5, k6⟩
      · by_cases him : i < m.length
        · have hic : i < σc.length := by rw [← hw.1]; exact him
          rw [k3]
          exact (hE.live hic).2 (hx.alive i hic ⟨oc', k1, k2⟩)
        · exfalso
          have hm2 : m[i]? = none := by simp; omega
          simp only [mp, hm2] at k3
          omega
      · exact ⟨p, k3, k4⟩
    · rw [merge_lt hl] at ho'
      cases hid : m.idxOf? l with
      | none =>
        simp only [hid, Option.some.injEq] at ho'
        refine ⟨by simp [rhoB, hid, hl], _, List.getElem?_eq_getElem hl, ?_, ?_⟩
        · rw [← ho', kill_still] at hst; exact hst
        · rw [← ho']; exact kill_alike _ _
      | some i =>
        simp only [hid, Option.some.injEq] at ho'
        have hm := idx_mem hid
        have him := (List.getElem?_eq_some_iff.1 hm).1
        have hic : i < σc'.length := by omega
        have hgd : σc'.getD i .dead = σc'[i] := by simp [hic]
        rw [hgd] at ho'
        have hst' : σc'[i].still = true := by
          have := flagged_still (o := σ[l]) (o' := σc'[i].ren (mp m σ.length)) (by rw [ho']; exact hst)
          rwa [O.ren_still] at this
        obtain ⟨h1, oc, h2, h3, h4⟩ := hx.fixed i _ (by rw [← hw.1]; exact him) (List.getElem?_eq_getElem hic) hst'
        obtain ⟨oc2, h5, h6⟩ := within_get hw hm
        rw [h2] at h5; cases h5
        refine ⟨by simp only [rhoB, hid]; rw [h1]; simp [rhoC, hm], _, h6, ?_, ?_⟩
        · -- the flag was not set
          have hrl : (oc.ren (mp m σ.length)).rl = (σc'[i].ren (mp m σ.length)).rl := O.alike_trans (O.alike_trans (O.ren_alike oc) h4) (O.alike_ren _)
          rw [List.getElem?_eq_getElem hl, Option.some.injEq] at h6
          rw [← h6]
          rw [← ho'] at hst
          have hgd2 : σ.getD l .dead = σ[l] := by simp [hl]
          rw [hgd2] at h6
          by_cases hrow : ∃ sz xs, σ[l] = .row sz xs true
          · exfalso
            obtain ⟨sz, xs, hrow⟩ := hrow
            rw [hrow] at h6 hst
            have h7 : (oc.ren (mp m σ.length)).rl = some xs.length := by
              have := flagged_alike (.row sz xs true) (oc.ren (mp m σ.length))
              unfold O.alike at this
              rw [← this, ← h6]; rfl
            rw [hrl] at h7
            cases hq : σc'[i].ren (mp m σ.length) <;> rw [hq] at h7 hst <;> simp [O.rl, flagged, O.still] at h7 hst
          · have hq : flagged σ[l] (oc.ren (mp m σ.length)) = oc.ren (mp m σ.length) := by
              unfold flagged
              split
              · rename_i sz xs _ _ _ he _
                exact absurd ⟨sz, xs, he⟩ hrow
              · rfl
            rw [h6, hq, O.ren_still]
            exact h3
        · rw [← ho']
          exact O.alike_trans (O.alike_trans (O.alike_trans (flagged_alike _ _) (O.ren_alike oc)) h4) (O.alike_trans (O.alike_ren _) (O.alike_symm (flagged_alike _ _)))
    · cases hid : m.idxOf? l with
      | none =>
        refine ⟨_, merge_lt hl, ?_⟩
        simp only [hid, kill_ld]
        rw [List.getElem?_eq_getElem hl] at ho; cases ho; rfl
      | some i =>
        have hm := idx_mem hid
        obtain ⟨oc, h1, h2⟩ := within_get hw hm
        rw [ho, Option.some.injEq] at h2
        have hld2 : oc.ld = o.ld := by rw [h2, flagged_ld, O.ren_ld]
        have him := (List.getElem?_eq_some_iff.1 hm).1
        obtain ⟨oc', h3, h4⟩ := hx.stay i oc (by rw [← hw.1]; exact him) h1 (by rw [hld2]; exact hld)
        refine ⟨_, merge_lt hl, ?_⟩
        simp only [hid, List.getD_eq_getElem?_getD, h3, Option.getD_some, flagged_ld, O.ren_ld, h4, hld2]
end calls
end Go.Br
