/- Part 5 of this proof. -/
import Derived.MapKept
import Derived.Test.YtoelkgbeefoplaaM4
namespace Go.Br
open Go
variable {o : Oper} {tm tm' : List V} {P : Program} {σ σ' : Store} {v : V} {t : TypeId} {w : World} {I : Nat → Prop} {xs : List D} {c : Code} {ρ : LM} {mv : Bool} {ds : List D} {fn : Func} {sz : Nat} {l : Nat} {i : Nat}
def fA (l : Nat) : FP := ⟨[], [], [], [l], [l], [l], true, false⟩
def fB (a b : Nat) : FP := ⟨[a], [], [], [b], [a, b], [], true, false⟩
def fO (l : Nat) : FP := ⟨[], [], [], [l], [l], [], true, false⟩
def fR (l : Nat) : FP := ⟨[l], [], [], [], [l], [], true, false⟩
def fX (a b c d e : List Nat) : FP := ⟨a, b, c, d, e, [], true, false⟩
def subB (a b : List Nat) : Bool := a.all fun l => b.any (Nat.beq l)
theorem subB_in {a b : List Nat} (h : subB a b = true) (hl : l ∈ a) : l ∈ b := in_all h hl
def okB (fp : FP) (tm : List V) (σ : Store) (o : Oper) (v : V) (U : List (Nat × O)) : Bool :=
  subB (U.map Prod.fst) fp.w && subB v.locs fp.out && (U.all fun p => subB p.2.locs fp.out && !p.2.isDead) && subB (V.locsL (valsOf tm o)) fp.m && (fp.w.all fun l => liveB σ l) && (fp.lv.all fun l => liveB σ l) &&
  (fp.r.all fun l => match σ[l]? with | some ob => subB ob.locs fp.m | none => true) &&
  (!fp.u || (V.fullL (valsOf tm o) && fp.r.all fun l => match σ[l]? with | some ob => ob.full | none => true))
theorem okB_ok {fp : FP} {U : List (Nat × O)} (h : okB fp tm σ o v U = true) : OkF fp tm σ o v U := by
 simp only [okB, Bool.and_eq_true] at h
 obtain ⟨⟨⟨⟨⟨⟨⟨h1, h2⟩, h3⟩, h4⟩, h7⟩, h8⟩, h5⟩, h6⟩ := h
 have h3' : ∀ p ∈ U, subB p.2.locs fp.out = true ∧ p.2.isDead = false := fun p hp => by
   have := List.all_eq_true.1 h3 p hp
   simpa using this
 refine ⟨fun p hp => subB_in h1 (List.mem_map.2 ⟨p, hp, rfl⟩), fun l hl => subB_in h2 hl, fun p hp l hl => subB_in (h3' p hp).1 hl, fun l hl => subB_in h4 hl, fun l hl => List.all_eq_true.1 h7 l hl, fun p hp => (h3' p hp).2, fun l hl => List.all_eq_true.1 h8 l hl, fun l hl ob ho x hx => ?_, fun hu => ?_⟩
 · have := List.all_eq_true.1 h5 l hl
   simp only [ho] at this
   exact subB_in this hx
 · rw [hu] at h6
   simp only [Bool.not_true, Bool.false_or, Bool.and_eq_true] at h6
   refine ⟨h6.1, fun l hl ob ho => ?_⟩
   have := List.all_eq_true.1 h6.2 l hl
   simpa only [ho] using this
theorem inK_one (l : Nat) : inK [l] = Nat.beq l := by
 funext x
 simp only [inK, List.any_cons, List.any_nil, Bool.or_false]
 rw [Bool.eq_iff_iff, Nat.beq_eq, Nat.beq_eq]
 exact ⟨fun h => h.symm, fun h => h.symm⟩
theorem effS_nilk {U : List (Nat × O)} : effS [] U σ = patch U σ := by
 have := effS_nil (σ := σ)
 unfold effS at this ⊢
 rw [show σ.map (O.kill (inK [])) = σ from this]
theorem liveB_at {σ σ2 : Store} (h : σ2[l]? = σ[l]?) : liveB σ2 l = liveB σ l := by unfold liveB; rw [h]
theorem nilOf_at {σ σ2 : Store} (h : ∀ l ∈ v.locs, σ2[l]? = σ[l]?) : nilOf σ2 v = nilOf σ v := by
 unfold nilOf
 split <;> first | rfl | (rw [liveB_at (h _ (by simp [V.locs]))])
theorem nilV_at {σ σ2 : Store} (h : ∀ l ∈ v.locs, σ2[l]? = σ[l]?) : nilV σ2 v = nilV σ v := by
 unfold nilV
 split <;> first | rfl | (rw [liveB_at (h _ (by simp [V.locs]))])
theorem loadV_at {σ σ2 : Store} (h : ∀ l ∈ v.locs, σ2[l]? = σ[l]?) : loadV P σ2 t v = loadV P σ t v := by
 unfold loadV
 split <;> first | rfl | (rw [h _ (by simp [V.locs])])
theorem lenV_at {σ σ2 : Store} (h : ∀ l ∈ v.locs, σ2[l]? = σ[l]?) : lenV σ2 v = lenV σ v := by
 unfold lenV
 split <;> first | rfl | (rw [h _ (by simp [V.locs])])
theorem ptrBin_at {op : BinOp} {σ σ2 : Store} {x y : V} (hx : ∀ l ∈ x.locs, σ2[l]? = σ[l]?) (hy : ∀ l ∈ y.locs, σ2[l]? = σ[l]?) : ptrBin P σ2 op t x y = ptrBin P σ op t x y := by
 unfold ptrBin
 rw [nilOf_at hx, nilOf_at hy]
theorem bltV_at {b : Builtin} {ts : List TypeId} {σ σ2 : Store} {vs : List V} (h : ∀ l ∈ V.locsL vs, σ2[l]? = σ[l]?) : bltV P σ2 b ts vs = bltV P σ b ts vs := by
 unfold bltV
 split <;> first | rfl | (rw [lenV_at (fun l hl => h l (by simpa [V.locsL] using hl))])
theorem cont_at {σ σ2 : Store} (h : ∀ l ∈ v.locs, σ2[l]? = σ[l]?) : cont σ2 v = cont σ v := by
 unfold cont
 split <;> first | rfl | (rw [h _ (by simp [V.locs])])
theorem locs_of {x : Operand} (hx : x ∈ o.op.operands.toList) (hl : l ∈ (ev tm x).locs) : l ∈ V.locsL (valsOf tm o) := by
 have : ∀ vs : List V, ∀ v ∈ vs, ∀ l ∈ v.locs, l ∈ V.locsL vs := by
  intro vs
  induction vs with
  | nil => intro v hv; cases hv
  | cons w ws ih =>
    intro v hv l hl
    simp only [V.locsL, List.mem_append]
    rcases List.mem_cons.1 hv with rfl | hv
    · exact .inl hl
    · exact .inr (ih v hv l hl)
 exact this _ _ (List.mem_map.2 ⟨x, hx, rfl⟩) l hl
theorem qop_at {σ σ2 : Store} (h : ∀ l ∈ V.locsL (valsOf tm o), σ2[l]? = σ[l]?) : qop P tm σ2 o.op = qop P tm σ o.op := by
 have h' : ∀ x ∈ o.op.operands.toList, ∀ l ∈ (ev tm x).locs, σ2[l]? = σ[l]? := fun x hx l hl => h l (locs_of hx hl)
 obtain ⟨dst, op, type, pos, after, guard⟩ := o
 cases op <;> simp only [Op.operands] at h'
 case nilCheck x => exact nilV_at (h' x (by simp))
 case binOp op t x y u => simp only [qop]; rw [ptrBin_at (h' x (by simp)) (h' y (by simp))]
 case fieldAddr t x f => simp only [qop]; rw [nilOf_at (h' x (by simp))]
 case load t x => exact loadV_at (h' x (by simp))
 case call c =>
  obtain ⟨callee, args, ts⟩ := c
  cases callee with
  | builtin b => exact bltV_at (by simpa [valsOf, Op.operands, Call.operands] using h)
  | _ => rfl
 case makeFunc f a b => cases f <;> rfl
 all_goals rfl
def opNeed (o : Op) : Nat := match o with
  | .nilCheck _ | .fieldAddr .. | .binOp .. => 1
  | .load .. | .call _ => 2
  | _ => 0
theorem nilOf_live {σ σ2 : Store} (h : ∀ l ∈ v.locs, liveB σ2 l = liveB σ l) : nilOf σ2 v = nilOf σ v := by
 unfold nilOf
 split <;> first | rfl | (rw [h _ (by simp [V.locs])])
theorem nilV_live {σ σ2 : Store} (h : ∀ l ∈ v.locs, liveB σ2 l = liveB σ l) : nilV σ2 v = nilV σ v := by
 unfold nilV
 split <;> first | rfl | (rw [h _ (by simp [V.locs])])
def needB (fp : FP) (tm : List V) (o : Oper) : Bool := match opNeed o.op with
  | 0 => true
  | 1 => subB (V.locsL (valsOf tm o)) fp.lv
  | _ => subB (V.locsL (valsOf tm o)) fp.r
theorem qop_need {fp : FP} {σ σ2 : Store} (hn : needB fp tm o = true) (hr : ∀ l ∈ fp.r, σ2[l]? = σ[l]?) (hl : ∀ l ∈ fp.lv, liveB σ2 l = liveB σ l) : qop P tm σ2 o.op = qop P tm σ o.op := by
 unfold needB at hn
 split at hn
 · rename_i h0
   obtain ⟨dst, op, type, pos, after, guard⟩ := o
   cases op <;> simp [opNeed] at h0
   case makeFunc f a b => cases f <;> rfl
   all_goals rfl
 · rename_i h1
   have h' : ∀ x ∈ o.op.operands.toList, ∀ l ∈ (ev tm x).locs, liveB σ2 l = liveB σ l := fun x hx l h => hl l (subB_in hn (locs_of hx h))
   obtain ⟨dst, op, type, pos, after, guard⟩ := o
   cases op <;> simp [opNeed] at h1 <;> simp only [Op.operands] at h'
   case nilCheck x => exact nilV_live (h' x (by simp))
   case binOp op t x y u => simp only [qop, ptrBin]; rw [nilOf_live (h' x (by simp)), nilOf_live (h' y (by simp))]
   case fieldAddr t x f => simp only [qop]; rw [nilOf_live (h' x (by simp))]
 · exact qop_at fun l h => hr l (subB_in hn h)
def storeU (P : Program) (tm : List V) (σ : Store) (op : Op) : Option (Nat × O) := match op with
  | .store t x y => match ev tm x, cellsV (coX P t (ev tm y)) with
    | .ptr l 0 s, some vs => match σ[l]? with
      | some (.cells cs) => if s + vs.length ≤ cs.length ∧ (P.info? t).map (·.size) = some vs.length then some (l, .cells (splice cs s vs)) else none
      | _ => none
    | _, _ => none
  | _ => none
theorem storeU_ok {p : Nat × O} (h : storeU P tm σ o.op = some p) : mop P tm σ o = some (.undef, σ.set p.1 p.2) := by
  obtain ⟨dst, op, type, pos, after, guard⟩ := o
  unfold storeU at h
  split at h
  · rename_i t x y ho
    simp only [] at ho
    subst ho
    simp only [mop, storeA]
    split at h
    · rename_i l s vs hx hy
      simp only [hx, hy]
      split at h
      · rename_i cs hs
        simp only [hs]
        split at h
        · rename_i hc
          cases h
          rw [if_pos hc]
          rfl
        · cases h
      · cases h
    · cases h
  · cases h
theorem storeU_at {σ σ2 : Store} {p : Nat × O} (h : σ2[p.1]? = σ[p.1]?) (hs : storeU P tm σ o.op = some p) : storeU P tm σ2 o.op = some p := by
 obtain ⟨dst, op, type, pos, after, guard⟩ := o
 cases op
 case store t x y =>
  simp only [storeU] at hs ⊢
  split at hs
  · rename_i l s vs hx hy
    have hl : p.1 = l := by
        split at hs
        · split at hs
          · cases hs; rfl
          · cases hs
        · cases hs
    rw [hl] at h
    rw [h]
    exact hs
  · cases hs
 all_goals simp [storeU] at hs
def buildU (P : Program) (tm : List V) (op : Op) : Option V := match op with
  | .build t parts => buildA P tm t parts.toList
  | _ => none
theorem buildU_ok (h : buildU P tm o.op = some v) : mop P tm σ o = some (v, σ) := by
 obtain ⟨dst, op, type, pos, after, guard⟩ := o
 unfold buildU at h
 split at h
 · rename_i t parts ho
   simp only [] at ho
   subst ho
   simp only [mop, h, Option.map_some]
 · cases h
section
variable {P : Program} {f : FuncId} {ro : Option Nat} {n : Nat} {k : List Item} {df : List Nat} {Q : AE → Store → Prop} {ops : Array Oper}
theorem StepF.of {F : List FP} {fp : FP} {U : List (Nat × O)} (hi : ops[i]? = some o) (hF : F.getD i noFP = fp) (hg : fp.g = false) (hw : wantA ops o tm = some true) (hok : okB fp tm σ o v U = true)
  (ht : effT fp.k o.dst v tm = tm') (hs : effS fp.k U σ = σ') (h : Rob P f ro n k df Q ops fp i tm σ o v U) : StepF P f ro n k df Q ops F i (tm, σ) (tm', σ') := by
 subst hF ht hs
 exact ⟨o, hi, .inr (.inr ⟨hg, hw, v, U, rfl, okB_ok hok, h⟩)⟩
theorem rob_op {fp : FP} {U : List (Nat × O)} (hi : ops[i]? = some o) (hd : Op.isDefer o.op = false)
  (h : ∀ (tm2 : List V) (σ2 : Store), valsOf tm2 o = valsOf tm o → (∀ l ∈ fp.r, σ2[l]? = σ[l]?) → OpOk P o tm2 σ2 v (V.killL (inK fp.k) tm2) (effS fp.k U σ2)) : Rob P f ro n k df Q ops fp i tm σ o v U :=
 fun _ tm2 σ2 e1 e2 _ e4 _ hn => .op hi e2 hd (h tm2 σ2 e1 e4) hn
theorem rob_mop {fp : FP} {U : List (Nat × O)} (hi : ops[i]? = some o) (hk : fp.k = [])
  (h : ∀ (σ2 : Store), (∀ l ∈ fp.r, σ2[l]? = σ[l]?) → (∀ l ∈ fp.lv, liveB σ2 l = true) → mop P tm σ2 o = some (v, patch U σ2)) : Rob P f ro n k df Q ops fp i tm σ o v U := by
 intro rest tm2 σ2 e1 e2 _ e4 e5 hn
 have h1 : mop P tm2 σ2 o = some (v, patch U σ2) := by rw [mop_congr e1]; exact h σ2 e4 e5
 obtain ⟨h2, h3⟩ := mop_ok h1
 rw [hk, effT_nil, effS_nilk] at hn
 exact .op hi e2 h3 h2 hn
def srunF (P : Program) (ops : Array Oper) (F : List FP) : List Nat → List V → Store → Option (List V × Store)
  | [], tm, σ => some (tm, σ)
  | i :: L, tm, σ => match ops[i]? with
    | none => none
    | some o => match (F.getD i noFP).g, wantA ops o tm with
      | false, some false => srunF P ops F L (put tm o.dst (.tuple [])) σ
      | false, some true => match (F.getD i noFP).k with
        | [] => match storeU P tm σ o.op with
          | some p => if okB (F.getD i noFP) tm σ o .undef [p] && inK (F.getD i noFP).r p.1 then srunF P ops F L (put tm o.dst .undef) (σ.set p.1 p.2) else none
          | none => match qop P tm σ o.op with
            | some v => if okB (F.getD i noFP) tm σ o v [] && needB (F.getD i noFP) tm o then srunF P ops F L (put tm o.dst v) σ else none
            | none => match buildU P tm o.op with
              | some v => if okB (F.getD i noFP) tm σ o v [] then srunF P ops F L (put tm o.dst v) σ else none
              | none => none
        | _ => none
      | _, _ => none
theorem srunF_ok {F : List FP} : ∀ {L : List Nat} {tm tm' : List V} {σ σ' : Store}, srunF P ops F L tm σ = some (tm', σ') → Run (StepF P f ro n k df Q ops F) L (tm, σ) (tm', σ')
  | [], tm, tm', σ, σ', h => by simp only [srunF, Option.some.injEq, Prod.mk.injEq] at h; obtain ⟨rfl, rfl⟩ := h; rfl
  | i :: L, tm, tm', σ, σ', h => by
    simp only [srunF] at h
    split at h
    · cases h
    · rename_i o hi
      split at h
      · rename_i hg hw
        exact ⟨_, ⟨o, hi, .inr (.inl ⟨hg, hw, rfl⟩)⟩, srunF_ok h⟩
      · rename_i hg hw
        split at h
        · rename_i hk
          split at h
          · rename_i p hp
            split at h
            · rename_i hok
              simp only [Bool.and_eq_true] at hok
              refine ⟨_, StepF.of hi rfl hg hw hok.1 (by rw [hk, effT_nil]) (by rw [hk, effS_nilk]; rfl) (rob_mop hi hk fun σ2 e _ => ?_), srunF_ok h⟩
              exact storeU_ok (storeU_at (e _ (inK_iff.1 hok.2)) hp)
            · cases h
          · split at h
            · rename_i v hq
              split at h
              · rename_i hok
                simp only [Bool.and_eq_true] at hok
                refine ⟨_, StepF.of hi rfl hg hw hok.1 (by rw [hk, effT_nil]) (by rw [hk, effS_nilk]; rfl) (rob_mop hi hk fun σ2 e e5 => ?_), srunF_ok h⟩
                exact mop_of_qop (by rw [qop_need hok.2 e fun l hl => by rw [e5 l hl, (okB_ok hok.1).ll l hl]]; exact hq)
              · cases h
            · split at h
              · rename_i v hq
                split at h
                · rename_i hok
                  exact ⟨_, StepF.of hi rfl hg hw hok (by rw [hk, effT_nil]) (by rw [hk, effS_nilk]; rfl) (rob_mop hi hk fun σ2 _ _ => buildU_ok hq), srunF_ok h⟩
                · cases h
              · cases h
        · cases h
      · cases h
section
variable {F : List FP} {i : Nat} {o : Oper} {v : V} {tm tm' : List V} {σ σ' : Store} {fp : FP}
theorem StepF.look (xs : List Operand) (hi : ops[i]? = some o) (hF : F.getD i noFP = fp) (hg : (Bool.not fp.g && fp.k.isEmpty) = true) (hw : wantA ops o tm = some true) (hd : Op.isDefer o.op = false) (hx : o.op.operands.toList = xs) (hok : okB fp tm σ o v [] = true)
  (h : ∀ (tm' : List V) (σ2 : Store), (∀ x ∈ xs, ev tm' x = ev tm x) → (∀ l ∈ fp.r, σ2[l]? = σ[l]?) → OpOk P o tm' σ2 v tm' σ2) : StepF P f ro n k df Q ops F i (tm, σ) (put tm o.dst v, σ) := by
 simp only [Bool.and_eq_true, Bool.not_eq_true', List.isEmpty_iff] at hg
 refine StepF.of hi hF hg.1 hw hok (by rw [hg.2, effT_nil]) (by rw [hg.2, effS_nil]) (rob_op hi hd fun tm2 σ2 e1 e2 => ?_)
 rw [hg.2, effS_nil, V.killL_id (p := inK []) fun l => rfl]
 exact h tm2 σ2 (vals_at hx e1) e2
theorem StepF.sets (xs : List Operand) (l : Nat) (ob : O) (hi : ops[i]? = some o) (hF : F.getD i noFP = fp) (hg : (Bool.not fp.g && fp.k.isEmpty) = true) (hw : wantA ops o tm = some true) (hd : Op.isDefer o.op = false) (hx : o.op.operands.toList = xs) (hok : okB fp tm σ o v [(l, ob)] = true)
  (h : ∀ (tm' : List V) (σ2 : Store), (∀ x ∈ xs, ev tm' x = ev tm x) → (∀ l ∈ fp.r, σ2[l]? = σ[l]?) → OpOk P o tm' σ2 v tm' (σ2.set l ob)) : StepF P f ro n k df Q ops F i (tm, σ) (put tm o.dst v, σ.set l ob) := by
 simp only [Bool.and_eq_true, Bool.not_eq_true', List.isEmpty_iff] at hg
 refine StepF.of hi hF hg.1 hw hok (by rw [hg.2, effT_nil]) (by rw [hg.2, effS_nilk]; rfl) (rob_op hi hd fun tm2 σ2 e1 e2 => ?_)
 rw [hg.2, effS_nilk, V.killL_id (p := inK []) fun l => rfl]
 exact h tm2 σ2 (vals_at hx e1) e2
theorem StepF.moves (xs : List Operand) (l : Nat) (ob : O) (hi : ops[i]? = some o) (hF : F.getD i noFP = fp) (hg : fp.g = false) (hk : fp.k = [l]) (hw : wantA ops o tm = some true) (hd : Op.isDefer o.op = false) (hx : o.op.operands.toList = xs) (hok : okB fp tm σ o v [(l, ob)] = true)
  (h : ∀ (tm' : List V) (σ2 : Store), (∀ x ∈ xs, ev tm' x = ev tm x) → (∀ l ∈ fp.r, σ2[l]? = σ[l]?) → OpOk P o tm' σ2 v (V.killL (Nat.beq l) tm') ((σ2.map (O.kill (Nat.beq l))).set l ob)) :
  StepF P f ro n k df Q ops F i (tm, σ) (put (V.killL (Nat.beq l) tm) o.dst v, (σ.map (O.kill (Nat.beq l))).set l ob) := by
 refine StepF.of hi hF hg hw hok (by rw [hk, effT, inK_one]) (by rw [hk, effS, inK_one]; rfl) (rob_op hi hd fun tm2 σ2 e1 e2 => ?_)
 rw [hk, effS, inK_one]
 exact h tm2 σ2 (vals_at hx e1) e2
theorem StepF.data (hi : ops[i]? = some o) (hF : F.getD i noFP = fp) (hg : (Bool.not fp.g && fp.k.isEmpty) = true) (hw : wantA ops o tm = some true) (hok : okB fp tm σ o v [] = true)
  (h : ∀ s, Sem P f ro n k df Q ops o i (valsOf tm o) s v s) : StepF P f ro n k df Q ops F i (tm, σ) (put tm o.dst v, σ) := by
 simp only [Bool.and_eq_true, Bool.not_eq_true', List.isEmpty_iff] at hg
 refine StepF.of hi hF hg.1 hw hok (by rw [hg.2, effT_nil]) (by rw [hg.2, effS_nil]) fun rest tm2 σ2 e1 e2 _ _ _ hn => ?_
 rw [hg.2, effT_nil, effS_nil] at hn
 exact h σ2 rest tm2 e1 e2 hn
theorem StepF.all {s s' : List V × Store} (hi : ops[i]? = some o) (hg : (F.getD i noFP).g = true) (h : ∀ rest, AW P f ro n (.inRegion ops rest :: k) s'.1 s'.2 df Q → AW P f ro n (.inRegion ops (i :: rest) :: k) s.1 s.2 df Q) : StepF P f ro n k df Q ops F i s s' := ⟨o, hi, .inl ⟨hg, h⟩⟩
end
end
def movedK (m : List Nat) (σc' : Store) : List Nat := (m.zip σc').filterMap fun p => match p.2 with | .row _ _ true => some p.1 | _ => none
def updU (σ : Store) (m : List Nat) (σc' : Store) : List (Nat × O) := (m.zip σc').map fun p => (p.1, flagged (σ.getD p.1 .dead) (p.2.ren (mp m σ.length)))
theorem idxOf?_iff {m : List Nat} (hn : m.Nodup) : m.idxOf? l = some i ↔ m[i]? = some l := by
  induction m generalizing i with
  | nil => simp
  | cons x m ih =>
    rw [List.nodup_cons] at hn
    rw [List.idxOf?_cons]
    by_cases hx : x = l
    · subst hx
      simp only [beq_self_eq_true, if_true, Option.some.injEq]
      constructor
      · rintro rfl; rfl
      · intro h
        cases i with
        | zero => rfl
        | succ i =>
          rw [List.getElem?_cons_succ] at h
          exact absurd (List.mem_of_getElem? h) hn.1
    · have hb : (x == l) = false := by simpa using hx
      rw [hb]
      simp only [Bool.false_eq_true, if_false, Option.map_eq_some_iff]
      constructor
      · rintro ⟨j, hj, rfl⟩
        rw [List.getElem?_cons_succ]
        exact (ih hn.2).1 hj
      · intro h
        cases i with
        | zero => simp at h; exact absurd h hx
        | succ i => exact ⟨i, (ih hn.2).2 (by simpa using h), rfl⟩
theorem zip_get {m : List Nat} {σc : Store} {p : Nat × O} : p ∈ m.zip σc ↔ ∃ i : Nat, m[i]? = some p.1 ∧ σc[i]? = some p.2 := by
 rw [List.mem_iff_getElem?]
 constructor
 · rintro ⟨i, h⟩
   rw [List.getElem?_zip_eq_some] at h
   exact ⟨i, h⟩
 · rintro ⟨i, h⟩
   exact ⟨i, List.getElem?_zip_eq_some.2 h⟩
theorem inK_moved {m : List Nat} {σc' : Store} (hn : m.Nodup) : inK (movedK m σc') = movedB m σc' := by
  funext l
  rw [Bool.eq_iff_iff, inK_iff]
  unfold movedK movedB
  rw [List.mem_filterMap]
  constructor
  · rintro ⟨p, hp, h⟩
    obtain ⟨i, h1, h2⟩ := zip_get.1 hp
    split at h
    · rename_i hrow
      cases h
      rw [(idxOf?_iff hn).2 h1]
      simp only [h2, hrow]
    · cases h
  · intro h
    split at h
    · rename_i i hi
      split at h
      · rename_i a b hrow
        exact ⟨(l, .row a b true), zip_get.2 ⟨i, (idxOf?_iff hn).1 hi, hrow⟩, rfl⟩
      · cases h
    · cases h
theorem patch_on : ∀ (U : List (Nat × O)) (σ : Store), (U.map Prod.fst).Nodup → ∀ p ∈ U, p.1 < σ.length → (patch U σ)[p.1]? = some p.2
 | [], _, _, _, h, _ => by cases h
 | q :: U, σ, hn, p, hp, hl => by
   simp only [List.map_cons, List.nodup_cons, List.mem_map, not_exists, not_and] at hn
   show (patch U (σ.set q.1 q.2))[p.1]? = _
   rcases List.mem_cons.1 hp with rfl | hp
   · rw [patch_off U _ _ fun x hx e => hn.1 x hx e, List.getElem?_set_self hl]
   · exact patch_on U _ hn.2 p hp (by simpa using hl)
theorem merge_eff {m : List Nat} {σc' : Store} (hn : m.Nodup) (hl : σc'.length = m.length) : merge σ m σc' = effS (movedK m σc') (updU σ m σc') σ := by
 have hfst : (updU σ m σc').map Prod.fst = m := by
   unfold updU
   rw [List.map_map]
   have : (Prod.fst ∘ fun p : Nat × O => (p.1, flagged (σ.getD p.1 .dead) (p.2.ren (mp m σ.length)))) = Prod.fst := rfl
   rw [this, List.map_fst_zip (by omega)]
 apply List.ext_getElem?
 intro l
 have hdrop : (σc'.drop m.length).map (·.ren (mp m σ.length)) = [] := by rw [List.drop_of_length_le (by omega)]; rfl
 rw [merge, hdrop, List.append_nil, List.getElem?_mapIdx]
 by_cases hlt : l < σ.length
 case neg =>
   rw [List.getElem?_eq_none (by omega), List.getElem?_eq_none (by rw [effS_length]; omega)]; rfl
 rw [List.getElem?_eq_getElem hlt, Option.map_some]
 cases hi : m.idxOf? l with
 | none =>
   have hnm : l ∉ m := fun h => by
    obtain ⟨i, hi'⟩ := List.mem_iff_getElem?.1 h
    rw [(idxOf?_iff hn).2 hi'] at hi
    cases hi
   rw [effS, patch_off _ _ _ fun p hp e => hnm (by rw [← hfst, ← e]; exact List.mem_map.2 ⟨p, hp, rfl⟩), List.getElem?_map, List.getElem?_eq_getElem hlt, inK_moved hn]
   rfl
 | some i =>
   have hmi := (idxOf?_iff hn).1 hi
   have hilt : i < σc'.length := by rw [hl]; exact (List.getElem?_eq_some_iff.1 hmi).1
   have hmem : (l, flagged (σ.getD l .dead) (σc'[i].ren (mp m σ.length))) ∈ updU σ m σc' := List.mem_map.2 ⟨(l, σc'[i]), zip_get.2 ⟨i, hmi, List.getElem?_eq_getElem hilt⟩, rfl⟩
   rw [effS, patch_on _ _ (by rw [hfst]; exact hn) _ hmem (by simpa using hlt)]
   simp only [List.getD_eq_getElem?_getD, List.getElem?_eq_getElem hilt, List.getElem?_eq_getElem hlt, Option.getD_some]
theorem within_at {σ σ2 : Store} {m : List Nat} {σc : Store} (hl : σ2.length = σ.length) (h : ∀ l ∈ m, σ2[l]? = σ[l]?) (hw : within σ m σc) : within σ2 m σc := by
 refine ⟨hw.1, hw.2.1, ?_⟩
 have e1 : m.map (fun l => σ2[l]?) = m.map (fun l => σ[l]?) := List.map_congr_left h
 rw [e1, hw.2.2, hl]
 refine List.map_congr_left fun p hp => ?_
 obtain ⟨i, hi, _⟩ := zip_get.1 hp
 rw [List.getD_eq_getElem?_getD, List.getD_eq_getElem?_getD, h p.1 (List.mem_of_getElem? hi)]
section
variable {P : Program} {f : FuncId} {ro : Option Nat} {n : Nat} {k : List Item} {df : List Nat} {Q : AE → Store → Prop} {ops : Array Oper}
theorem StepF.call {F : List FP} {fp : FP} {x : Operand} {args : Array Operand} {ts : Array TypeId} {g : FuncId} {first cap : List V} (m : List Nat) (cargs : List V) (σc σc' : Store) {vc : V}
  (hi : ops[i]? = some o) (hF : F.getD i noFP = fp) (hg : fp.g = false) (hw : wantA ops o tm = some true) (hFn : Fnc P g fn c) (hc : CallsA P g cargs σc fun r s => r = .ret vc ∧ s = σc')
  (ho : o.op = .call { callee := .value x, args, argTypes := ts }) (hx : ev tm x = .fn (.func g) first cap) (hargs : coArgs P fn.params.toList (first ++ args.toList.map (ev tm) ++ cap) = V.renL (mp m σ.length) cargs)
  (hbel : (belB σc.length σc && (V.locsL cargs).all fun l => Nat.blt l σc.length) = true) (hwi : within σ m σc) (hlen : Nat.beq σc'.length m.length = true) (hk : movedK m σc' = fp.k) (hr : subB m fp.r = true) (hv : vc.ren (mp m σ.length) = v)
  (hok : okB fp tm σ o v (updU σ m σc') = true) (ht : effT fp.k o.dst v tm = tm') (hs : effS fp.k (updU σ m σc') σ = σ') : StepF P f ro n k df Q ops F i (tm, σ) (tm', σ') := by
 refine StepF.of hi hF hg hw hok ht hs fun rest tm2 σ2 e1 e2 e3 e4 _ hn => ?_
 have h' : ∀ x ∈ o.op.operands.toList, ev tm2 x = ev tm x := List.map_inj_left.1 e1
 have hnd := nodupB_ok hwi.2.1
 have hm : ∀ l ∈ m, σ2[l]? = σ[l]? := fun l hl => e4 l (subB_in hr hl)
 have hwi2 := within_at e3 hm hwi
 have hup : updU σ2 m σc' = updU σ m σc' := by
  unfold updU
  refine List.map_congr_left fun p hp => ?_
  obtain ⟨i, hi, _⟩ := zip_get.1 hp
  rw [List.getD_eq_getElem?_getD, List.getD_eq_getElem?_getD, hm p.1 (List.mem_of_getElem? hi), e3]
 have hxop : x ∈ o.op.operands.toList := by rw [ho]; simp [Op.operands, Call.operands]
 have hargs2 : args.toList.map (ev tm2) = args.toList.map (ev tm) := List.map_congr_left fun y hy => h' y (by rw [ho]; simp [Op.operands, Call.operands]; right; simpa using hy)
 refine .call m cargs σc hFn hc hi e2 ho ((h' x hxop).trans hx) (by rw [hargs2, hargs, e3]) hbel hwi2 ?_
 rintro r s ⟨rfl, rfl⟩
 refine ⟨vc, rfl, ?_⟩
 rw [e3, hv, merge_eff hnd (by simpa using hlen), hup, hk, ← inK_moved hnd, hk]
 exact hn
theorem patch_same : ∀ (U : List (Nat × O)) (σ : Store), (∀ p ∈ U, σ[p.1]? = some p.2) → patch U σ = σ
 | [], _, _ => rfl
 | p :: U, σ, h => by
   show patch U (σ.set p.1 p.2) = σ
   have e : σ.set p.1 p.2 = σ := by
     obtain ⟨h1, h2⟩ := List.getElem?_eq_some_iff.1 (h p (by simp))
     rw [← h2, List.set_getElem_self]
   rw [e]
   exact patch_same U σ fun q hq => h q (by simp [hq])
theorem StepF.callLook {F : List FP} {fp : FP} {x : Operand} {args : Array Operand} {ts : Array TypeId} {g : FuncId} {first cap : List V} (m : List Nat) (cargs : List V) (σc : Store) {vc : V}
   (hi : ops[i]? = some o) (hF : F.getD i noFP = fp) (hg : (Bool.not fp.g && fp.k.isEmpty) = true) (hw : wantA ops o tm = some true) (hFn : Fnc P g fn c) (hc : CallsA P g cargs σc fun r s => r = .ret vc ∧ s = σc)
   (ho : o.op = .call { callee := .value x, args, argTypes := ts }) (hx : ev tm x = .fn (.func g) first cap) (hargs : coArgs P fn.params.toList (first ++ args.toList.map (ev tm) ++ cap) = V.renL (mp m σ.length) cargs)
   (hbel : (belB σc.length σc && (V.locsL cargs).all fun l => Nat.blt l σc.length) = true) (hwi : within σ m σc) (hlen : Nat.beq σc.length m.length = true) (hk : (movedK m σc).isEmpty = true) (hr : subB m fp.r = true) (hv : vc.ren (mp m σ.length) = v)
   (hok : okB fp tm σ o v [] = true) : StepF P f ro n k df Q ops F i (tm, σ) (put tm o.dst v, σ) := by
 simp only [Bool.and_eq_true, Bool.not_eq_true', List.isEmpty_iff] at hg hk
 refine StepF.of hi hF hg.1 hw hok (by rw [hg.2, effT_nil]) (by rw [hg.2, effS_nil]) fun rest tm2 σ2 e1 e2 e3 e4 _ hn => ?_
 have h' : ∀ x ∈ o.op.operands.toList, ev tm2 x = ev tm x := List.map_inj_left.1 e1
 have hnd := nodupB_ok hwi.2.1
 have hm : ∀ l ∈ m, σ2[l]? = σ[l]? := fun l hl => e4 l (subB_in hr hl)
 have hwi2 := within_at e3 hm hwi
 have hxop : x ∈ o.op.operands.toList := by rw [ho]; simp [Op.operands, Call.operands]
 have hargs2 : args.toList.map (ev tm2) = args.toList.map (ev tm) := List.map_congr_left fun y hy => h' y (by rw [ho]; simp [Op.operands, Call.operands]; right; simpa using hy)
 refine .call m cargs σc hFn hc hi e2 ho ((h' x hxop).trans hx) (by rw [hargs2, hargs, e3]) hbel hwi2 ?_
 rintro r s ⟨rfl, rfl⟩
 refine ⟨vc, rfl, ?_⟩
 rw [hg.2, effT_nil, effS_nil] at hn
 rw [e3, hv, merge_eff hnd (by simpa using hlen), hk, effS_nilk, ← inK_moved hnd, hk, V.killL_id (p := inK []) fun l => rfl, patch_same _ _ fun p hp => ?_]
 · exact hn
 · obtain ⟨q, hq, rfl⟩ := List.mem_map.1 hp
   obtain ⟨i, h1, h2⟩ := zip_get.1 hq
   obtain ⟨oc, h3, h4⟩ := within_get hwi2 h1
   rw [h2] at h3
   cases h3
   exact h4
end
def orderF (ops : Array Oper) (F : List FP) (X : List (Nat × Nat)) (M : List Nat) : Bool :=
  nodupB M && (M.all fun i => Nat.blt i ops.size) && ((List.range ops.size).all fun i => M.contains i) && F.all fpOk &&
  (let B := clos ops X M (List.replicate ops.size 0); pairsAll (fun a b => !(depF ops F a b) || (B.getD b 0).testBit a) M)
theorem run_amongF {f : FuncId} {ro : Option Nat} {n : Nat} {k : List Item} {df : List Nat} {Q : AE → Store → Prop} {ops : Array Oper} {s s' : List V × Store} {L : List Nat} (hL : Ord ops L) (F : List FP) (X : List (Nat × Nat)) (M : List Nat) (hX : ∀ p ∈ X, ahead L p.1 p.2) (hok : orderF ops F X M = true)
   (hrun : Run (StepF P f ro n k df Q ops F) M s s') : Run (StepF P f ro n k df Q ops F) L s s' := by
 unfold orderF at hok
 simp only [Bool.and_eq_true] at hok
 obtain ⟨⟨⟨⟨h1, h2⟩, h3⟩, hF⟩, h4⟩ := hok
 have hmem : ∀ i, i ∈ M ↔ i < ops.size := fun i => ⟨fun h => by simpa using List.all_eq_true.1 h2 i h, fun h => by simpa using List.all_eq_true.1 h3 i (List.mem_range.2 h)⟩
 have hmm : ∀ i, i ∈ L ↔ i ∈ M := fun i => (hL.mem i).trans (hmem i).symm
 refine Run.turn (dep := depF ops F) (depF_symm ops F) (fun i j hd s a b => stepF_swap hF i j hd s a b) M L hL.nodup (nodupB_ok h1) hmm (fun i j hi hj hdep hij => ?_) hrun
 by_cases hlt : ahead M i j
 · exact hlt
 · exfalso
   have hne : i ≠ j := fun e => by subst e; exact Nat.lt_irrefl _ hij
   have h5 : ahead M j i := by
    unfold ahead at hlt ⊢
    have h3 : M.idxOf i ≠ M.idxOf j := by
        intro e
        apply hne
        have e1 := List.getElem_idxOf (List.idxOf_lt_length_iff.2 ((hmm i).1 hi))
        have e2 := List.getElem_idxOf (List.idxOf_lt_length_iff.2 ((hmm j).1 hj))
        rw [← e1, ← e2]
        simp only [e]
    omega
   have h6 := pairsAll_ok h4 j i ((hmm j).1 hj) ((hmm i).1 hi) h5
   rw [depF_symm, hdep] at h6
   simp only [Bool.not_true, Bool.false_or] at h6
   have h7 := clos_ok hL hX M (List.replicate ops.size 0) (fun j hj => (hmm j).2 hj) (fun j i h => by
    rw [List.getD_eq_getElem?_getD, List.getElem?_replicate] at h
    split at h <;> simp at h) i j h6
   exact Nat.lt_asymm hij h7
theorem AW.drawF {f : FuncId} {ro : Option Nat} {n : Nat} {T T' : List Item} {df : List Nat} {Q : AE → Store → Prop} (hm : P.follows .mixedOrders = true) (ht : isDraw T = true) (hE : edgesB (drawOf T) = true) (hT : cgo 1 [] T = T')
   (hrun : ∀ k L, Ord (drawOf T) L → ∃ F, Run (StepF P f ro n k df Q (drawOf T) F) L (tm, σ) (tm', σ')) (h : AW P f ro n T' tm' σ' df Q) : AW P f ro n T tm σ df Q := by
 subst hT
 unfold isDraw at ht
 split at ht
 · refine .order hm hE fun L hL => ?_
   obtain ⟨F, hF⟩ := hrun _ L hL
   exact runF_sound hF (.regionEnd h)
 · cases ht
section
variable {w w' : World} {I I' : Nat → Prop} {ρ ρ' : LM} {σ σ' : Store} {P : Program}
theorem newRowAt_ok {ds xs0 : List D} {cs : Array Value} {a : Act} {sz cap l : Nat} (hl : σ[l]? = some (.row sz xs0 mv)) (hr : vrL w I ρ σ tm a.tmps.toList) (hO : ORel w I ρ σ) (hcs : cs.size = cap * sz) (hle : ds.length ≤ cap) (hcap : cap ≤ maxLen) (hone : ∀ x ∈ cs.toList, one x)
  (hd : DrE (w.alloc (.cells cs t)) I sz w.heap.size 0 ds)
  (hrun : (execOp a.eval o).run P w = .ok (.value (.slice (some ⟨w.heap.size, 0, none⟩) ds.length cap)) (w.alloc (.cells cs t))) :
  ∃ nx x w' I' ρ', (execOp a.eval o).run P w = .ok nx w' ∧ (nx = .value x ∨ nx = .skip ∧ x = undef) ∧ vr w' I' ρ' ((σ.map (O.kill (Nat.beq l))).set l (.row sz ds true)) (.row l) x ∧ vrL w' I' ρ' ((σ.map (O.kill (Nat.beq l))).set l (.row sz ds true)) (V.killL (Nat.beq l) tm) a.tmps.toList ∧ ORel w' I' ρ' ((σ.map (O.kill (Nat.beq l))).set l (.row sz ds true)) ∧
    Ext σ.length w I ρ σ w' I' ρ' ((σ.map (O.kill (Nat.beq l))).set l (.row sz ds true)) := by
 have hlt : l < σ.length := (List.getElem?_eq_some_iff.1 hl).1
 have hold : ∀ b, b < w.heap.size → (w.alloc (.cells cs t)).heap[b]? = w.heap[b]? := fun b hb => heap_alloc_old _ _ _ hb
 have hnew : (w.alloc (.cells cs t)).heap[w.heap.size]? = some (.cells cs t) := heap_alloc_new w (.cells cs t)
 have hsz : (w.alloc (.cells cs t)).heap.size = w.heap.size + 1 := by simp
 let ρ' : LM := fun x => if x = l then some ⟨w.heap.size, 0, sz, cap⟩ else ρ x
 have hρ : ∀ x, x ≠ l → ρ' x = ρ x := fun x hx => by simp [ρ', hx]
 have hρl : ρ' l = some ⟨w.heap.size, 0, sz, cap⟩ := by simp [ρ']
 have hor : orel (w.alloc (.cells cs t)) I ρ' ((σ.map (O.kill (Nat.beq l))).set l (.row sz ds true)) l (.row sz ds true) := by
  simp only [orel]
  exact .inr ⟨_, cs, t, (0, 0), hρl, rfl, hnew, ⟨thaw_zero _, hone⟩, by simp [hcs], hle, hcap, hd⟩
 have hblk : ∀ K, ρ' l = some K → K.b < (w.alloc (.cells cs t)).heap.size ∧ (w.heap.size ≤ K.b ∨ ∃ L, ρ l = some L ∧ L.b = K.b) := fun K hK => by
  rw [hρl] at hK; cases hK
  exact ⟨by rw [hsz]; exact Nat.lt_succ_self _, .inl (Nat.le_refl _)⟩
 obtain ⟨g1, g2⟩ := hO.move hl (by simp) hρ (fun b hb _ => hold b hb) (by omega) hor hblk
 have hx := Ext.move (I := I) hl (by simp) rfl (o' := .row sz ds true) rfl hρ (fun b hb _ => hold b hb) (by omega) hblk rfl rfl rfl
 refine ⟨_, _, _, I, ρ', hrun, .inl rfl, ?_, g2 _ _ hr, g1, hx⟩
 simp only [vr]
 refine ⟨rfl, by simpa using hlt, fun sz' xs'' mv' hx' => ?_⟩
 rw [List.getElem?_set_self (by simpa using hlt)] at hx'
 cases hx'
 exact .inr ⟨_, hρl, by simpa using hle, by simp⟩
theorem buildAt_ok {len sz l : Nat} {parts : Array (Nat × Operand)} {ds xs0 : List D} (ho : o.op = .buildSlice t len parts) (h : buildSliceA P tm [] t len parts.toList = some (.row 0, [.row sz ds false])) (hl : σ[l]? = some (.row sz xs0 mv)) :
    OpOk P o tm σ (.row l) (V.killL (Nat.beq l) tm) ((σ.map (O.kill (Nat.beq l))).set l (.row sz ds true)) := by
  intro w I ρ a hr hO
  unfold buildSliceA at h
  split at h
  · rename_i e hu
    split at h
    · rename_i zs ps ag hz hp hag
      simp only [Option.ite_none_right_eq_some] at h
      obtain ⟨⟨hzl, hl0, hs0, hbig, hisz⟩, h⟩ := h
      split at h
      · rename_i vs hf
        simp only [Option.map_eq_some_iff, Prod.mk.injEq, List.nil_append, List.length_nil, true_and, List.cons.injEq, O.row.injEq, and_true] at h
        obtain ⟨ds', hch, rfl, rfl⟩ := h
        obtain ⟨ie, z, h1, h2, h3, h4⟩ := zeroA_rel (w := w) (I := I) (ρ := ρ) (σ := σ) hz
        have hpr := partsA_rel (w := w) (I := I) (ρ := ρ) (σ := σ) (e := a.eval) (fun x => vr_ev hr x) hp
        have hzlen := vrL_len h3
        simp only [Array.length_toList] at hzlen
        have hie : ie.size = szOf ag := by simpa [h1] using hisz
        have hinit : ((Array.range (len * ie.size)).map (z.cells[· % z.cells.size]!)).toList = (List.replicate len z.cells.toList).flatten := by
          rw [← range_mod z.cells.toList (by simp; omega) len]
          simp only [Array.toList_map, Array.toList_range, Array.length_toList]
          rw [hie, hzlen, hzl]
          apply List.map_congr_left
          intro i _
          simp [getElem!_def, List.getD]
          cases z.cells[i % szOf ag]? <;> rfl
        obtain ⟨cs, g1, g2, g3⟩ := fill_rel (cs := (Array.range (len * ie.size)).map (z.cells[· % z.cells.size]!)) hf hpr (by rw [hinit]; exact vrL_flat h3 len) (by
          rw [hinit]
          intro x hx
          simp only [List.mem_flatten, List.mem_replicate] at hx
          obtain ⟨l, ⟨_, rfl⟩, hx⟩ := hx
          exact h4 x hx)
        have hmap : (parts.map fun (i, x) => (i, a.eval x)).toList = parts.toList.map fun p => (p.1, a.eval p.2) := by simp
        have hrun := run_buildSlice (P := P) w t e len (parts.map fun (i, x) => (i, a.eval x)) cs ie z hu h1 h2 (by rw [hie]; simp only [gt_iff_lt, Nat.not_lt]; exact hbig) (by rw [hie]; exact Nat.ne_of_gt (Nat.mul_pos hl0 hs0)) (by rw [hmap, hie]; rw [hie] at g1; exact g1)
        have hI : ∀ b, I b → I b ∧ (w.alloc (.cells cs e)).heap[b]? = w.heap[b]? := fun b hb => ⟨hb, heap_alloc_old _ _ _ (hO.imm b hb).1⟩
        obtain ⟨k1, k2, k3⟩ := chunk_rel (w := w.alloc (.cells cs e)) (b := w.heap.size) (o := 0) hch (vrL_up hI vs _ (σ' := σ) (ρ' := ρ) (fun l hl => ⟨vrL_locs vs _ g2 l hl, fun o' h1 h2 => ⟨rfl, o', h1, h2, rfl⟩⟩) g2) g3 (fun j hj => by simp)
        refine newRowAt_ok (cap := len) (sz := szOf ag) (t := e) (cs := cs) hl hr hO (by simpa using k3) (by omega) (by have : len ≤ len * szOf ag := Nat.le_mul_of_pos_right _ hs0; simp only [maxLen]; omega) g3 k1 ?_
        simp only [execOp, ho, Sem.run_bind, hrun, Result.andThen_ok, k2]
        rfl
      · cases h
    · cases h
  · cases h
end
section
variable {P : Program} {f : FuncId} {ro : Option Nat} {n : Nat} {T : List Item} {tm : List V} {σ : Store} {df : List Nat} {Q : AE → Store → Prop}
theorem AW.newVirt (sz : Nat) (h : AW P f ro n T tm (σ ++ [.row sz [] false]) df Q) : AW P f ro n T tm σ df Q := by
  intro w I ρ a rb hr hb hn
  have hO := hr.ors
  let σ2 : Store := σ ++ [.row sz [] false]
  let ρ2 : LM := fun x => if x = σ.length then none else ρ x
  have hlen : σ2.length = σ.length + 1 := by simp [σ2]
  have g1 : ∀ x, x < σ.length → σ2[x]? = σ[x]? := fun x hx => List.getElem?_append_left hx
  have g3 : σ2[σ.length]? = some (.row sz [] false) := by
    show (_ ++ _)[σ.length]? = _
    rw [List.getElem?_append_right (by omega)]
    simp
  have g4 : ∀ x, x < σ.length → ρ2 x = ρ x := fun x hx => by show (if _ then _ else _) = _; rw [if_neg (by omega)]
  have hS : ∀ x, x < σ.length → Same ρ σ ρ2 σ2 x := fun x hx => ⟨by omega, fun o' h1 h2 => ⟨g4 x hx, o', by rw [← g1 x hx]; exact h1, h2, rfl⟩⟩
  have hI : ∀ b, I b → I b ∧ w.heap[b]? = w.heap[b]? := fun b hb => ⟨hb, rfl⟩
  have cases3 : ∀ x o, σ2[x]? = some o → x = σ.length ∧ o = .row sz [] false ∨ x < σ.length ∧ σ[x]? = some o := by
    intro x o hx
    have hxl : x < σ2.length := (List.getElem?_eq_some_iff.1 hx).1
    by_cases h1 : x = σ.length
    · subst h1
      rw [g3] at hx; cases hx
      exact .inl ⟨rfl, rfl⟩
    · have h2 : x < σ.length := by omega
      exact .inr ⟨h2, by rw [← g1 x h2]; exact hx⟩
  have hfoot : ∀ b, foot ρ2 σ2 b → foot ρ σ b := by
    rintro b ⟨x, o, L, h1, h2, h3, h4⟩
    rcases cases3 x o h1 with ⟨rfl, rfl⟩ | ⟨hx, h5⟩
    · simp [ρ2] at h3
    · rw [g4 x hx] at h3
      exact ⟨x, o, L, h5, h2, h3, h4⟩
  have hO2 : ORel w I ρ2 σ2 := by
    refine ⟨fun x o hx => ?_, fun x y L L' hv hv' hL hL' hb => ?_, fun b hb => hO.flt b (hfoot b hb), fun b hb => ⟨(hO.imm b hb).1, fun h => (hO.imm b hb).2 (hfoot b h)⟩⟩
    · rcases cases3 x o hx with ⟨rfl, rfl⟩ | ⟨h2, h5⟩
      · simp only [orel]
        exact .inl ⟨by simp [ρ2], trivial⟩
      · by_cases hd : o = .dead
        · subst hd; simp [orel]
        · exact orel_all hI hS (g4 x h2) (fun L hL => rfl) (hO.objs x o h5)
    · obtain ⟨o, h1, h2⟩ := hv
      obtain ⟨o', h1', h2'⟩ := hv'
      rcases cases3 x o h1 with ⟨rfl, rfl⟩ | ⟨hx, h5⟩
      · simp [ρ2] at hL
      · rcases cases3 y o' h1' with ⟨rfl, rfl⟩ | ⟨hy, h7⟩
        · simp [ρ2] at hL'
        · rw [g4 x hx] at hL
          rw [g4 y hy] at hL'
          exact hO.inj x y L L' ⟨o, h5, h2⟩ ⟨o', h7, h2'⟩ hL hL' hb
  have hE : Ext σ.length w I ρ σ w I ρ2 σ2 := by
    refine ⟨Nat.le_refl _, rfl, rfl, rfl, fun _ _ _ => rfl, fun b hb => hb, fun b hb => .inl hb, fun b hb => .inl (hfoot b hb), by omega, fun x hx ⟨o, h1, h2⟩ => ?_, fun x o' hx h1 h2 => ?_, fun x o hx h1 h2 => ?_⟩
    · exact ⟨o, by rw [← g1 x hx]; exact h1, h2⟩
    · exact ⟨g4 x hx, o', by rw [← g1 x hx]; exact h1, h2, rfl⟩
    · exact ⟨o, by rw [g1 x hx]; exact h1, rfl⟩
  have hst := hE.stays
  exact (h w I ρ2 a rb ⟨vrL_all hI hS hr.tms, hO2, dfr_stay hst hr.dfs⟩ (rbOf_stay hst hb) (by show n ≤ σ2.length; omega)).mono fun e w' hf => hf.trans (hE.less hn)
end
section
variable {P : Program} {f : FuncId} {ro : Option Nat} {n : Nat} {k : List Item} {df : List Nat} {Q : AE → Store → Prop} {ops : Array Oper}
theorem StepF.build {F : List FP} {fp : FP} {len sz l : Nat} {parts : Array (Nat × Operand)} (hi : ops[i]? = some o) (hF : F.getD i noFP = fp) (hg : fp.g = false) (hk : fp.k = [l]) (hw : wantA ops o tm = some true)
  (ho : o.op = .buildSlice t len parts) (hb : buildSliceA P tm [] t len parts.toList = some (.row 0, [.row sz ds false])) (hl : σ[l]? = some (.row sz [] mv)) (hr : inK fp.r l = true) (hok : okB fp tm σ o (.row l) [(l, .row sz ds true)] = true) :
  StepF P f ro n k df Q ops F i (tm, σ) (put (V.killL (Nat.beq l) tm) o.dst (.row l), (σ.map (O.kill (Nat.beq l))).set l (.row sz ds true)) := by
 refine StepF.moves o.op.operands.toList l _ hi hF hg hk hw (by simp [ho, Op.isDefer]) rfl hok fun tm' σ2 hv hs => ?_
 refine buildAt_ok ho ?_ ((hs l (inK_iff.1 hr)).trans hl)
 rw [← hb]
 unfold buildSliceA
 rw [partsA_congr (tm' := tm) fun x hx => hv x.2 (by rw [ho]; exact List.mem_map.2 ⟨x, hx, rfl⟩)]
end
theorem Run.asP {St : Nat → List V × Store → List V × Store → Prop} {L : List Nat} {s : List V × Store} (ht : tm = tm') (hs : σ = σ') (h : Run St L (tm', σ') s) : Run St L (tm, σ) s := by subst ht hs; exact h
section
variable {P : Program} {f : FuncId} {ro : Option Nat} {n : Nat} {k : List Item} {df : List Nat} {Q : AE → Store → Prop} {ops : Array Oper}
theorem StepF.mopAll {F : List FP} (hi : ops[i]? = some o) (hg : (F.getD i noFP).g = true) (hw : wantA ops o tm = some true) (h : mop P tm σ o = some (v, σ')) : StepF P f ro n k df Q ops F i (tm, σ) (put tm o.dst v, σ') :=
 .all hi hg fun rest hn => sem_mop hi h rest tm rfl hw hn
end
section
variable {P : Program} {f : FuncId} {ro : Option Nat} {n : Nat} {T : List Item} {tm : List V} {σ σ' : Store} {df : List Nat} {Q : AE → Store → Prop}
theorem AW.raise (l : Nat) (hl : σ[l]? = some (.row sz xs mv)) (hs : σ.set l (.row sz xs true) = σ') (h : AW P f ro n T tm σ' df Q) : AW P f ro n T tm σ df Q := by
  subst hs
  intro w I ρ a rb hr hb hn
  have hO := hr.ors
  have hlt : l < σ.length := (List.getElem?_eq_some_iff.1 hl).1
  let σ2 : Store := σ.set l (.row sz xs true)
  have hlen : σ2.length = σ.length := by simp [σ2]
  have gl : σ2[l]? = some (.row sz xs true) := List.getElem?_set_self hlt
  have gne : ∀ x : Nat, x ≠ l → σ2[x]? = σ[x]? := fun x hx => List.getElem?_set_ne (Ne.symm hx)
  have back : ∀ (x : Nat) (o' : O), σ2[x]? = some o' → ∃ o : O, σ[x]? = some o ∧ (o' = .dead ↔ o = .dead) ∧ o.alike o' ∧ (o'.still = true → o = o') ∧ o.ld = o'.ld := by
    intro x o' hx
    by_cases hxl : x = l
    · subst hxl
      rw [gl] at hx; cases hx
      exact ⟨_, hl, by simp, rfl, by simp [O.still], rfl⟩
    · rw [gne x hxl] at hx
      exact ⟨o', hx, Iff.rfl, rfl, fun _ => rfl, rfl⟩
  have hS : ∀ x, x < σ.length → Same ρ σ ρ σ2 x := fun x hx => ⟨by omega, fun o' h1 h2 => by
    obtain ⟨o, g1, g2, g3, _⟩ := back x o' h1
    exact ⟨rfl, o, g1, fun e => h2 (g2.2 e), g3⟩⟩
  have hI : ∀ b, I b → I b ∧ w.heap[b]? = w.heap[b]? := fun b hb => ⟨hb, rfl⟩
  have hlive : ∀ x, live σ2 x → live σ x := fun x ⟨o', h1, h2⟩ => by
    obtain ⟨o, g1, g2, _⟩ := back x o' h1
    exact ⟨o, g1, fun e => h2 (g2.2 e)⟩
  have hfoot : ∀ b, foot ρ σ2 b → foot ρ σ b := by
    rintro b ⟨x, o', L, h1, h2, h3, h4⟩
    obtain ⟨o, g1, g2, _⟩ := back x o' h1
    exact ⟨x, o, L, g1, fun e => h2 (g2.2 e), h3, h4⟩
  have hO2 : ORel w I ρ σ2 := by
    refine ⟨fun x o' hx => ?_, fun x y L L' hv hv' hL hL' hb => hO.inj x y L L' (hlive x hv) (hlive y hv') hL hL' hb, fun b hb => hO.flt b (hfoot b hb), fun b hb => ⟨(hO.imm b hb).1, fun h => (hO.imm b hb).2 (hfoot b h)⟩⟩
    by_cases hxl : x = l
    · subst hxl
      rw [gl] at hx; cases hx
      have := hO.objs x _ hl
      simp only [orel] at this ⊢
      exact this
    · rw [gne x hxl] at hx
      by_cases hd : o' = .dead
      · subst hd; simp [orel]
      · exact orel_all hI hS rfl (fun L hL => rfl) (hO.objs x o' hx)
  have hE : Ext σ.length w I ρ σ w I ρ σ2 := by
    refine ⟨Nat.le_refl _, rfl, rfl, rfl, fun _ _ _ => rfl, fun b hb => hb, fun b hb => .inl hb, fun b hb => .inl (hfoot b hb), by omega, fun x hx h => hlive x h, fun x o' hx h1 h2 => ?_, fun x o hx h1 h2 => ?_⟩
    · obtain ⟨o, g1, _, g3, g4, _⟩ := back x o' h1
      exact ⟨rfl, o, g1, by rw [g4 h2]; exact h2, g3⟩
    · by_cases hxl : x = l
      · subst hxl
        rw [hl] at h1; cases h1
        simp [O.ld] at h2
      · exact ⟨o, by rw [gne x hxl]; exact h1, rfl⟩
  have hst := hE.stays
  exact (h w I ρ a rb ⟨vrL_all hI hS hr.tms, hO2, dfr_stay hst hr.dfs⟩ (rbOf_stay hst hb) (by show n ≤ σ2.length; omega)).mono fun e w' hf => hf.trans (hE.less hn)
end
section
variable {P : Program} {f : FuncId} {n : Nat} {T : List Item} {tm : List V} {σ σ1 σ2 : Store} {df : List Nat} {Q : AE → Store → Prop}
theorem AW.retX (m : List Nat) (v' : V) (hF : Fnc P f fn c) (hT : isRet T = true) (hd : nodupB df = true ∧ (df.all fun l => Nat.ble n l) = true) (hs : df.foldl (fun s l => s.set l .dead) σ = σ1) (hres : resA P fn tm σ1 = some v)
   (he : exact σ1 m σ2) (hv : v = v'.ren (mp m σ1.length)) (hn' : n ≤ σ2.length ∧ m.take n = List.range n) (hbel : (belB σ2.length σ2 && v'.locs.all fun l => Nat.blt l σ2.length) = true) (hq : Q (.ret v') σ2) : AW P f none n T tm σ df Q := by
 subst hs
 have h0 : AW P f none n T tm σ df (fun r s => r = .ret v ∧ s = df.foldl (fun s l => s.set l .dead) σ) := .retD hF hT hd rfl hres ⟨rfl, rfl⟩
 intro w I ρ a rb hr hb hn
 refine (h0 w I ρ a rb hr hb hn).mono ?_
 rintro e w' ⟨I', ρ', σ', r, ⟨rfl, rfl⟩, h2, hO, h4⟩
 simp only [Bool.and_eq_true] at hbel
 generalize hσ1 : df.foldl (fun s l => s.set l .dead) σ = σ1 at *
 have hE : Emb (mp m σ1.length) (rhoC m ρ') σ2 ρ' σ1 := by
   intro i o hi
   obtain ⟨h1, h2⟩ := exact_get he hi
   exact ⟨by simp [rhoC, h1], _, h2, O.ren_dead, O.ren_alike o⟩
 have hfoot : ∀ b, foot (rhoC m ρ') σ2 b → foot ρ' σ1 b := by
   rintro b ⟨i, oc, L, h1, h2, h3, h4⟩
   have hi := (List.getElem?_eq_some_iff.1 h1).1
   obtain ⟨o, h5, h6⟩ := (hE.live hi).2 ⟨oc, h1, h2⟩
   exact ⟨_, o, L, h5, h6, (hE.rho hi).trans h3, h4⟩
 have hO2 : ORel w' I' (rhoC m ρ') σ2 := by
   refine ⟨fun i oc hi => ?_, fun i j L L' hi hj hL hL' e => ?_, fun b h => hO.flt b (hfoot b h), fun b h => ⟨(hO.imm b h).1, fun hf => (hO.imm b h).2 (hfoot b hf)⟩⟩
   · obtain ⟨h1, h2⟩ := exact_get he hi
     exact (orel_ren hE (by simp [rhoC, h1]) (belB_ok hbel.1 hi)).1 (hO.objs _ _ h2)
   · have h1 := live_lt hi
     have h2 := live_lt hj
     have := hO.inj _ _ L L' ((hE.live h1).2 hi) ((hE.live h2).2 hj) ((hE.rho h1).trans hL) ((hE.rho h2).trans hL') e
     have hi' := (exact_get he (List.getElem?_eq_getElem h1)).1
     have hj' := (exact_get he (List.getElem?_eq_getElem h2)).1
     rw [← this] at hj'
     have a1 := mem_idx (nodupB_ok he.2.1) hi'
     have a2 := mem_idx (nodupB_ok he.2.1) hj'
     rw [a1] at a2
     exact Option.some.inj a2
 have hid : ∀ l, l < n → mp m σ1.length l = l ∧ rhoC m ρ' l = ρ' l := by
   intro l hl
   have : (m.take n)[l]? = some l := by rw [hn'.2]; simp [hl]
   rw [List.getElem?_take, if_pos hl] at this
   exact ⟨by simp [mp, this], by simp [rhoC, this]⟩
 have hat : ∀ l o', l < n → σ2[l]? = some o' → σ1[l]? = some (o'.ren (mp m σ1.length)) := by
   intro l o' hl ho
   have hx := (exact_get he ho).2
   rwa [(hid l hl).1] at hx
 refine ⟨I', rhoC m ρ', σ2, .ret v', hq, ?_, hO2, ⟨h4.size, h4.os, h4.tape, h4.output, h4.old, h4.immI, h4.immN, fun b hb => h4.footN b (hfoot b hb), hn'.1, fun l hl hv => ?_, fun l o' hl ho' hst => ?_, fun l o hl ho hld => ?_⟩⟩
 · obtain ⟨x, rfl, hx⟩ := h2
   refine ⟨x, rfl, (vr_ren hE v' x fun l hl => ?_).1 (by rw [← hv]; exact hx)⟩
   have := (List.all_eq_true.1 hbel.2) l hl
   simpa [Nat.blt_eq] using this
 · have := (hE.live (Nat.lt_of_lt_of_le hl hn'.1)).2 hv
   rw [(hid l hl).1] at this
   exact h4.alive l hl this
 · obtain ⟨g1, o, g2, g3, g4⟩ := h4.fixed l _ hl (hat l o' hl ho') (by rw [O.ren_still]; exact hst)
   exact ⟨(hid l hl).2.trans g1, o, g2, g3, O.alike_trans g4 (O.ren_alike o')⟩
 · obtain ⟨o1, g1, g2⟩ := h4.stay l o hl ho hld
   have hlt : l < σ2.length := Nat.lt_of_lt_of_le hl hn'.1
   have hx := hat l _ hl (List.getElem?_eq_getElem hlt)
   rw [g1, Option.some.injEq] at hx
   exact ⟨_, List.getElem?_eq_getElem hlt, by rw [← g2, hx, O.ren_ld]⟩
def notStr : V → Bool
  | .d (.str _) => false
  | _ => true
theorem contSl {x : Value} (h : cont σ v = some (sz, xs)) (hs : notStr v = true) (hv : vr w I ρ σ v x) : ∃ a len cap, x = .slice a len cap ∧ (a = none → xs = []) := by
 cases v with
 | d d =>
   cases d with
   | list sz' xs' =>
     simp only [cont, Option.some.injEq, Prod.mk.injEq] at h
     obtain ⟨rfl, rfl⟩ := h
     simp only [vr, Dr] at hv
     obtain ⟨ad, cap, hxe, h1, h2, h3⟩ := hv
     refine ⟨ad, _, cap, hxe, fun ha => ?_⟩
     rcases h3 with h3 | ⟨b, o', rfl, _⟩
     · exact h3
     · cases ha
   | str s => simp [notStr] at hs
   | _ => simp [cont] at h
 | ex sz' xs' =>
   simp only [cont, Option.some.injEq, Prod.mk.injEq] at h
   obtain ⟨rfl, rfl⟩ := h
   simp only [vr, Dr] at hv
   obtain ⟨_, _, ad, cap, hxe, h1, h2, h3⟩ := hv
   refine ⟨ad, _, cap, hxe, fun ha => ?_⟩
   rcases h3 with h3 | ⟨b, o', rfl, _⟩
   · exact h3
   · cases ha
 | row l =>
   simp only [cont] at h
   split at h
   · rename_i sz' xs' mv hl
     simp only [Option.some.injEq, Prod.mk.injEq] at h
     obtain ⟨rfl, rfl⟩ := h
     simp only [vr] at hv
     rcases hv.2.2 _ _ _ hl with ⟨h1, a, h2⟩ | ⟨L, h1, h2, h3⟩
     · exact ⟨a, 0, 0, h2, fun _ => List.eq_nil_of_length_eq_zero h1⟩
     · exact ⟨_, _, _, h3, fun ha => by cases ha⟩
   · cases h
 | sl l off n c =>
   simp only [cont] at h
   split at h
   · rename_i sz' xs' mv hl
     simp only [Option.some.injEq, Prod.mk.injEq] at h
     obtain ⟨rfl, rfl⟩ := h
     simp only [vr] at hv
     obtain ⟨h0, h1, _⟩ := hv.2.2 _ _ _ hl
     rcases h1 with ⟨h1, a, h2⟩ | ⟨L, h1, h2, h3⟩
     · exact ⟨a, 0, 0, h2, fun _ => by rw [h1]; simp⟩
     · exact ⟨_, _, _, h3, fun ha => by cases ha⟩
   · cases h
 | _ => simp [cont] at h
theorem nilEqC_ok {x y : Operand} {t ty : TypeId} {neg : Bool} (ho : o.op = .binOp (if neg then .neq else .eql) t x y ty) (ht : isSliceT P t = true) (hx : cont σ (ev tm x) = some (sz, xs)) (hs : notStr (ev tm x) = true) (hy : ev tm y = .nils) :
   OpAny P o tm σ fun v => ∃ b : Bool, v = .d (.bool (b != neg)) ∧ (b = true → xs = []) := by
 intro w I ρ a hr hO
 obtain ⟨e, hu⟩ := isSliceT_und ht
 obtain ⟨ad, len, cap, hxe, h3⟩ := contSl hx hs (vr_ev hr x)
 have hyr := vr_ev hr y
 rw [hy] at hyr
 simp only [vr] at hyr
 refine ⟨.bool (ad.isNone != neg), .d (.bool (ad.isNone != neg)), ?_, by simp [vr, Dr], ad.isNone, rfl, fun hb => h3 (by simpa using hb)⟩
 have hg : (eqGuard (if neg then .neq else .eql) t x y (a.eval x) (a.eval y)).run P w = .ok () w := by
   rw [hxe, hyr]
   unfold eqGuard
   cases neg <;> simp
 cases neg
 · have := run_eql_slice_nil' (P := P) (w := w) ad len cap hu
   simp only [Bool.false_eq_true, if_false] at ho hg
   rw [hxe, hyr] at hg
   simp only [execOp, ho, hxe, hyr, Sem.run_bind, hg, Result.andThen_ok, this, Sem.run_pure]
   simp
 · have := run_neq_slice_nil (P := P) w t e ad len cap hu
   simp only [if_true] at ho hg
   rw [hxe, hyr] at hg
   simp only [execOp, ho, hxe, hyr, Sem.run_bind, hg, Result.andThen_ok, this, Sem.run_pure]
   simp
end
section
variable {P : Program} {w : World} {I : Nat → Prop} {ρ : LM} {σ : Store}
theorem newData_grown {e : TypeId} {cs : List Value} {zs : Array Value} {a : Act} {sz cap : Nat} (hr : vrL w I ρ σ tm a.tmps.toList) (hO : ORel w I ρ σ) (hN : DrN w I sz ds cs) (hle : ds.length ≤ cap) (hcap : cap ≤ maxLen)
   (hrun : (execOp a.eval o).run P w = .ok (.value (.slice (some ⟨w.heap.size, 0, none⟩) ds.length cap)) (w.drew.alloc (.cells (cs.toArray ++ zs) e))) :
   ∃ nx x w' I' ρ', (execOp a.eval o).run P w = .ok nx w' ∧ (nx = .value x ∨ nx = .skip ∧ x = undef) ∧ vr w' I' ρ' σ (.d (.list sz ds)) x ∧ vrL w' I' ρ' σ tm a.tmps.toList ∧ ORel w' I' ρ' σ ∧ Ext σ.length w I ρ σ w' I' ρ' σ := by
 have hold : ∀ b, b < w.heap.size → (w.drew.alloc (.cells (cs.toArray ++ zs) e)).heap[b]? = w.heap[b]? := fun b hb => heap_alloc_old _ _ _ hb
 have hsz : (w.drew.alloc (.cells (cs.toArray ++ zs) e)).heap.size = w.heap.size + 1 := by simp [show w.drew.heap = w.heap from rfl]
 have hI : ∀ b, I b → (I b ∨ b = w.heap.size) ∧ (w.drew.alloc (.cells (cs.toArray ++ zs) e)).heap[b]? = w.heap[b]? := fun b hb => ⟨.inl hb, hold b (hO.imm b hb).1⟩
 have hS : ∀ x, x < σ.length → Same ρ σ ρ σ x := fun x hx => ⟨hx, fun o' h1 h2 => ⟨rfl, o', h1, h2, rfl⟩⟩
 refine ⟨_, _, _, (fun b => I b ∨ b = w.heap.size), ρ, hrun, .inl rfl, ?_, vrL_all hI hS hr, ?_, ?_⟩
 · simp only [vr, Dr]
   refine ⟨_, cap, rfl, hle, hcap, .inr ⟨_, 0, rfl, .inr rfl, ?_⟩⟩
   refine DrE_of_N (DrN_mono hI hN) fun j hj => ?_
   have : (w.drew.alloc (.cells (cs.toArray ++ zs) e)).cell? ⟨w.drew.heap.size, 0 + j, none⟩ = (cs.toArray ++ zs)[j]? := by
     rw [Nat.zero_add]; exact World.cell?_alloc_new _ _ _ _
   have h2 : w.drew.heap.size = w.heap.size := rfl
   rw [h2] at this
   rw [this, Array.getElem?_append_left (by simpa using hj)]
   simp
 · refine ⟨fun l o h => ?_, hO.inj, fun b hb => by rw [hsz]; have := hO.flt b hb; omega, fun b hb => ?_⟩
   · by_cases hd : o = .dead
     · subst hd; simp [orel]
     · exact orel_all hI hS rfl (fun L hL => hold _ (hO.flt _ ⟨l, o, L, h, hd, hL, rfl⟩)) (hO.objs l o h)
   · rw [hsz]
     rcases hb with hb | rfl
     · exact ⟨by have := (hO.imm b hb).1; omega, (hO.imm b hb).2⟩
     · exact ⟨by omega, fun h => by have := hO.flt _ h; omega⟩
 · refine ⟨by rw [hsz]; omega, rfl, rfl, rfl, fun b hb _ => hold b hb, fun b hb => .inl hb, fun b hb => ?_, fun b hb => .inl hb, Nat.le_refl _, fun _ _ h => h, fun l o _ h hf => ⟨rfl, o, h, hf, rfl⟩, fun l o _ h _ => ⟨o, h, rfl⟩⟩
   rcases hb with hb | rfl
   · exact .inl hb
   · exact .inr (.inr (Nat.le_refl _))
theorem appExD_ok {s x : Operand} {t t2 : TypeId} {sz by' : Nat} {xs ys : List D} (ho : o.op = .call { callee := .builtin .append, args := #[s, x], argTypes := #[t, t2] }) (hs : ev tm s = .ex sz xs) (hx : cont σ (ev tm x) = some (sz, ys))
   (hw : elemW P t = some (sz, by')) (h2 : notIntT P t2 = true) (hb : (xs.length + ys.length) * by' ≤ 140737488355328) (h63 : xs.length + ys.length ≤ maxLen) : OpOk P o tm σ (.d (.list sz (xs ++ ys))) tm σ := by
 rcases Nat.eq_zero_or_pos ys.length with h0 | h0
 · have hy : ys = [] := List.eq_nil_of_length_eq_zero h0
   subst hy
   intro w I ρ a hr hO
   obtain ⟨nx, x, w', I', ρ', h3, h4, h5, h6⟩ := appNone_ok (P := P) (σ := σ) ho hs hx hw h2 w I ρ a hr hO
   refine ⟨nx, x, w', I', ρ', h3, h4, ?_, h6⟩
   simp only [vr] at h5 ⊢
   obtain ⟨_, _, h5⟩ := h5
   simpa using h5
 · intro w I ρ a hr hO
   obtain ⟨e, i, z, hu, hi, hz, rfl, rfl, hzs, hz1⟩ := elemW_und hw
   have hsr := vr_ev hr s
   have hcs : cont σ (ev tm s) = some (i.size, xs) := by rw [hs]; rfl
   obtain ⟨olds, hNo, _, hfo⟩ := cont_rel (P := P) hcs hsr hO
   rw [hs] at hsr
   simp only [vr] at hsr
   obtain ⟨ad, hsv, _⟩ := hsr
   rw [hsv] at hfo
   obtain ⟨news, hN, hlen, hfc⟩ := cont_rel (P := P) hx (vr_ev hr x) hO
   have hrun := exec_append (a := a) ho (run_app_grow (w := w) (ty := o.type) hu hi hz h2 (base := ad) (sLen := xs.length) (sCap := xs.length) (hlen w) (hfo w.drew rfl) (hfc w.drew rfl) (by omega) (by simp only [maxLen] at h63; omega) (growslice_fits (by omega) hb) |> fun h => by rw [hsv]; exact h)
   have hll : (xs ++ ys).length = xs.length + ys.length := by simp
   have hge := grownCap_ge w (xs.length + ys.length) xs.length e
   refine newData_grown (cs := olds ++ news) (zs := Builtin.zeroCells z.cells (grownCap w (xs.length + ys.length) xs.length e - (xs.length + ys.length))) (e := e) hr hO (DrN_append hNo hN) (by rw [hll]; exact hge) (grownCap_le_maxLen w _ _ e h63) ?_
   rw [hrun, hll]
   congr 3
   apply Array.ext'; simp
end
section
variable {P : Program} {f : FuncId} {ro : Option Nat} {n : Nat} {k : List Item} {tm : List V} {σ : Store} {df : List Nat} {Q : AE → Store → Prop} {ops : Array Oper}
theorem AW.goes {T T' : List Item} (l : List Nat) (hT : T = T') (ht : keep l tm = tm') (hs : σ = σ') (h : AW P f ro n T' tm' σ' df Q) : AW P f ro n T tm σ df Q := by
 subst hT hs
 exact .keeps l ht h
theorem AW.yieldD {T0 : List Item} {rest : List Nat} {x : Operand} {args : Array Operand} {ts : Array TypeId} {st : LoopState} {fn : FuncId} {tml tmr : List V} {Qr : AE → Store → Prop} {R : List Item}
  (hi : ops[i]? = some o) (hw : wantA ops o tm = some true) (ho : o.op = .call { callee := .value x, args, argTypes := ts }) (hx : ev tm x = .yield l) (hl : σ[l]? = some (lp T0 fn tml st)) (hps : args.size = (rfPs T0).size)
  (hR : [.code (rfAs T0), .beginRound, .code (rfBd T0)] = R) (htm : roundTm tml (rfPs T0).toList (args.toList.map (ev tm)) = tmr) {N : Nat} (hN : σ.length = N) (hr : AW P fn (some l) N R tmr σ [] Qr)
  (hk : ∀ r σ', Qr r σ' → ∃ v, r = .ret v ∧ AW P f ro n (.inRegion ops rest :: k) (put (V.killL (mvB σ') tm) o.dst v) σ' df Q) : AW P f ro n (.inRegion ops (i :: rest) :: k) tm σ df Q := by
 subst htm hN hR
 exact .yield hi hw ho hx hl hps hr hk
end
end Go.Br
namespace Go.Br
open Go Go.MapKept
variable {o : Oper} {tm tm' : List V} {P : Program} {σ σ' : Store} {v : V} {t : TypeId} {w : World} {I : Nat → Prop} {xs : List D} {c : Code} {ρ : LM} {mv : Bool} {ds : List D} {fn : Func} {sz : Nat} {l : Nat} {i : Nat}
def keyB : Value → Value → Bool
  | .int _ a, .int _ b => a == b
  | .string a, .string b => a == b
  | .bool a, .bool b => a == b
  | _, _ => false
theorem keyB_iff {kd : TypeDesc} {a b : Value} (ha : IsKey kd a) (hb : IsKey kd b) : keyB a b = true ↔ a = b := by
 cases kd <;> cases a <;> cases b <;> simp_all [IsKey, keyB, bytes_beq]
def mapFind (k : Value) : List (Value × D) → Option D
  | [] => none
  | e :: es => if keyB k e.1 then some e.2 else mapFind k es
def mapPut (k : Value) (d : D) : List (Value × D) → List (Value × D)
  | [] => [(k, d)]
  | e :: es => if keyB k e.1 then (k, d) :: es else e :: mapPut k d es
def keysOk (kd : TypeDesc) (es : List (Value × D)) : Prop := ∀ e ∈ es, IsKey kd e.1
def keyV : D → Option Value
  | .int k n => some (.int k n)
  | .str s => some (.string s)
  | .bool b => some (.bool b)
  | _ => none
theorem keyV_rel {d : D} {v x : Value} (h : keyV d = some v) (hd : Dr w I d x) : x = v := by
 cases d <;> simp_all [keyV, Dr]
theorem keyV_dr {d : D} {v : Value} (h : keyV d = some v) : Dr w I d v := by
 cases d <;> simp_all [keyV, Dr]
theorem findNow_abs {kd : TypeDesc} {kv : Value} (hk : IsKey kd kv) : ∀ (E : List MapEntry) (es : List (Value × D)) (i : Nat), E.map (·.key) = es.map (·.1) → keysOk kd es →
    (Instr.findNow kd kv E i = some none ∧ mapFind kv es = none ∧ ∀ d, mapPut kv d es = es ++ [(kv, d)]) ∨
    ∃ j e d0, Instr.findNow kd kv E i = some (some (i + j, e.val)) ∧ E[j]? = some e ∧ e.key = kv ∧ es[j]? = some (kv, d0) ∧ mapFind kv es = some d0 ∧ ∀ d, mapPut kv d es = es.set j (kv, d)
  | [], [], i, _, _ => .inl ⟨rfl, rfl, fun _ => rfl⟩
  | [], _ :: _, i, h, _ => by simp at h
  | _ :: _, [], i, h, _ => by simp at h
  | e :: E, p :: es, i, h, ho => by
    simp only [List.map_cons, List.cons.injEq] at h
    have hp : IsKey kd p.1 := ho p (by simp)
    obtain ⟨r, hr, hiff⟩ := sameNow_of_keys hk hp
    have hb := keyB_iff hk hp
    cases r with
    | true =>
      have e1 : kv = p.1 := hiff.1 rfl
      refine .inr ⟨0, e, p.2, by simp [Instr.findNow, h.1, hr], rfl, by rw [h.1, e1], by simp [e1], by simp [mapFind, hb.2 e1], fun d => by simp [mapPut, hb.2 e1]⟩
    | false =>
      have hne : kv ≠ p.1 := fun q => by have := hiff.2 q; cases this
      have hb' : keyB kv p.1 = false := by
        cases hq : keyB kv p.1 with
        | false => rfl
        | true => exact absurd (hb.1 hq) hne
      rcases findNow_abs hk E es (i + 1) h.2 (fun x hx => ho x (by simp [hx])) with ⟨h1, h2, h3⟩ | ⟨j, e', d0, h1, h2, h3, h4, h5, h6⟩
      · exact .inl ⟨by simp [Instr.findNow, h.1, hr, h1], by simp [mapFind, hb', h2], fun d => by simp [mapPut, hb', h3]⟩
      · exact .inr ⟨j + 1, e', d0, by simp [Instr.findNow, h.1, hr, h1]; omega, by simpa using h2, h3, by simpa using h4, by simp [mapFind, hb', h5], fun d => by simp [mapPut, hb', h6]⟩
theorem sameBits_refl {kd : TypeDesc} {kv : Value} (h : IsKey kd kv) (n : Nat) : Instr.sameBits n kv kv = true := by
 cases kd <;> cases kv <;> first | exact h.elim | (unfold Instr.sameBits; simp) | (unfold Instr.sameBits; exact (bytes_beq _ _).2 rfl)
section
variable {P : Program} {tm : List V} {σ : Store} {o : Oper}
theorem makeMap_ok (ho : o.op = .makeMap t none) : OpOk P o tm σ (.map σ.length) tm (σ ++ [.map []]) := by
 intro w I ρ a hr hO
 have hold : ∀ b, b < w.heap.size → (w.alloc (.map #[] 0)).heap[b]? = w.heap[b]? := fun b hb => heap_alloc_old _ _ _ hb
 have hI : ∀ b, I b → I b ∧ (w.alloc (.map #[] 0)).heap[b]? = w.heap[b]? := fun b hb => ⟨hb, hold b (hO.imm b hb).1⟩
 let L : Loc := ⟨w.heap.size, 0, 0, 0⟩
 have hsz : (w.alloc (.map #[] 0)).heap.size = w.heap.size + 1 := by simp
 refine ⟨.value (.map (some w.heap.size)), _, w.alloc (.map #[] 0), I, (fun x => if x = σ.length then some L else ρ x), ?_, .inl rfl, ?_, vrL_all hI (same_new L _) hr, ?_, Ext.new L _ rfl hold hsz rfl rfl rfl⟩
 · have hmk : (Instr.makeMap t none).run P w = .ok (.map (some w.heap.size)) (w.alloc (.map #[] 0)) := rfl
   simp only [execOp, ho, Option.map_none, Sem.run_bind, hmk, Result.andThen_ok, Sem.run_pure]
 · simp only [vr]
   exact ⟨rfl, by simp, fun _ => ⟨L, by simp, rfl⟩⟩
 · refine hO.new L _ rfl hold hsz ?_
   simp only [orel]
   exact ⟨L, #[], 0, by simp, rfl, heap_alloc_new _ _, rfl, fun j e h => by simp at h, fun i j e e' h => by simp at h⟩
theorem map_at {x : Value} {es : List (Value × D)} (hO : ORel w I ρ σ) (hl : σ[l]? = some (.map es)) (hx : vr w I ρ σ (.map l) x) :
   ∃ L E n, ρ l = some L ∧ L.o = 0 ∧ x = .map (some L.b) ∧ w.heap[L.b]? = some (.map E n) ∧ E.toList.map (·.key) = es.map (·.1) ∧ E.size = es.length ∧ (∀ (j : Nat) (e : MapEntry), E[j]? = some e → e.born < n ∧ ∃ x : Value × D, es[j]? = some x ∧ e.key = x.1 ∧ Dr w I x.2 e.val) ∧ (∀ (i j : Nat) (e e' : MapEntry), E[i]? = some e → E[j]? = some e' → e.born = e'.born → i = j) := by
 have ho := hO.objs l _ hl
 simp only [orel] at ho
 obtain ⟨L, E, n, hL, hLo, hh, hs, h1, h2⟩ := ho
 simp only [vr] at hx
 obtain ⟨L', hL', hxe⟩ := hx.2.2 ⟨_, hl, by simp⟩
 rw [hL] at hL'; cases hL'
 refine ⟨L, E, n, hL, hLo, hxe, hh, ?_, hs, h1, h2⟩
 apply List.ext_getElem?
 intro j
 simp only [List.getElem?_map, Array.getElem?_toList]
 cases he : E[j]? with
 | none =>
   have : es[j]? = none := by rw [List.getElem?_eq_none_iff, ← hs]; exact Array.getElem?_eq_none_iff.1 he
   rw [this]; rfl
 | some e =>
   obtain ⟨_, y, hy, hk, _⟩ := h1 j e he
   rw [hy, Option.map_some, Option.map_some, hk]
theorem lookup_ok {t kt et : TypeId} {kd : TypeDesc} {m k : Operand} {es : List (Value × D)} {dk dz : D} {kv zv : Value} {ok : Bool} (ho : o.op = .lookup t m k ok) (hu : P.underlying t = some (.map kt et)) (hkd : P.underlying kt = some kd)
   (hm : ev tm m = .map l) (hl : σ[l]? = some (.map es)) (hk : ev tm k = .d dk) (hkv : keyV dk = some kv) (hz : (P.info? et).bind (·.zero) = some zv) (hzd : keyV dz = some zv) (hik : IsKey kd kv) (hes : keysOk kd es) :
   OpOk P o tm σ (if ok then .tuple [.d ((mapFind kv es).getD dz), .d (.bool (mapFind kv es).isSome)] else .d ((mapFind kv es).getD dz)) tm σ := by
 intro w I ρ a hr hO
 have hmr := vr_ev hr m
 rw [hm] at hmr
 obtain ⟨L, E, n, hL, hLo, hme, hh, hkeys, hs, h1, h2⟩ := map_at hO hl hmr
 have hkr := vr_ev hr k
 rw [hk] at hkr
 simp only [vr] at hkr
 have hke := keyV_rel hkv hkr
 have hzr : (zeroValue et).run P w = .ok zv w := by
   rw [Option.bind_eq_some_iff] at hz
   obtain ⟨i, hi1, hi2⟩ := hz
   simp [zeroValue, typeInfo, hi1, hi2]
 rcases findNow_abs hik E.toList es 0 hkeys hes with ⟨g1, g2, _⟩ | ⟨j, e, d0, g1, g2, g3, g4, g5, _⟩
 · have hf := run_findKey (P := P) (w := w) hkd g1
   have hrun : (Instr.lookup t (a.eval m) (a.eval k) ok).run P w = .ok (if ok then .tuple #[zv, .bool false] else zv) w := by
     rw [hme, hke]
     simp only [Instr.lookup, Sem.run_bind, run_underlying hu, Result.andThen_ok, Go.MapKept.run_getObj_map hh, run_checkKey hkd hik, hf, hzr, Sem.run_pure]
   refine ⟨.value (if ok then .tuple #[zv, .bool false] else zv), _, w, I, ρ, by simp only [execOp, ho, Sem.run_bind, hrun, Result.andThen_ok, Sem.run_pure], .inl rfl, ?_, hr, hO, Ext.refl _ _ _ _⟩
   rw [g2]
   cases ok
   · simp only [Bool.false_eq_true, if_false, Option.getD_none, vr]; exact keyV_dr hzd
   · simp only [if_true, Option.getD_none, vr, vrL]
     exact ⟨[zv, .bool false], rfl, zv, _, rfl, keyV_dr hzd, _, _, rfl, by simp [Dr], rfl⟩
 · have hf := run_findKey (P := P) (w := w) hkd g1
   have hrun : (Instr.lookup t (a.eval m) (a.eval k) ok).run P w = .ok (if ok then .tuple #[e.val, .bool true] else e.val) w := by
     rw [hme, hke]
     simp only [Instr.lookup, Sem.run_bind, run_underlying hu, Result.andThen_ok, Go.MapKept.run_getObj_map hh, run_checkKey hkd hik, hf, Sem.run_pure]
   have hval : Dr w I d0 e.val := by
     obtain ⟨_, y, hy, _, hd⟩ := h1 j e (by simpa using g2)
     rw [g4] at hy; cases hy; exact hd
   refine ⟨.value (if ok then .tuple #[e.val, .bool true] else e.val), _, w, I, ρ, by simp only [execOp, ho, Sem.run_bind, hrun, Result.andThen_ok, Sem.run_pure], .inl rfl, ?_, hr, hO, Ext.refl _ _ _ _⟩
   rw [g5]
   cases ok
   · simp only [Bool.false_eq_true, if_false, Option.getD_some, vr]; exact hval
   · simp only [if_true, Option.getD_some, vr, vrL]
     exact ⟨[e.val, .bool true], rfl, e.val, _, rfl, hval, _, _, rfl, by simp [Dr], rfl⟩
theorem mapUpd_ok {t kt et : TypeId} {kd : TypeDesc} {m k x : Operand} {es : List (Value × D)} {dk dx : D} {kv : Value} (ho : o.op = .mapUpdate t m k x) (hu : P.underlying t = some (.map kt et)) (hkd : P.underlying kt = some kd)
    (hm : ev tm m = .map l) (hl : σ[l]? = some (.map es)) (hk : ev tm k = .d dk) (hkv : keyV dk = some kv) (hx : ev tm x = .d dx) (hik : IsKey kd kv) (hes : keysOk kd es) : OpOk P o tm σ .undef tm (σ.set l (.map (mapPut kv dx es))) := by
  intro w I ρ a hr hO
  have hmr := vr_ev hr m
  rw [hm] at hmr
  obtain ⟨L, E, n, hL, hLo, hme, hh, hkeys, hs, h1, h2⟩ := map_at hO hl hmr
  have hkr := vr_ev hr k
  rw [hk] at hkr
  simp only [vr] at hkr
  have hke := keyV_rel hkv hkr
  have hxr := vr_ev hr x
  rw [hx] at hxr
  simp only [vr] at hxr
  have hlt : l < σ.length := (List.getElem?_eq_some_iff.1 hl).1
  have hb : L.b < w.heap.size := (Array.getElem?_eq_some_iff.1 hh).1
  -- what is common to both
  have hfin : ∀ (E' : Array MapEntry) (n' : Nat), (Instr.mapUpdate t (a.eval m) (a.eval k) (a.eval x)).run P w = .ok () (w.putObj L.b (.map E' n')) →
      (∀ (I' : Nat → Prop) (w' : World), (∀ d v, Dr w I d v → Dr w' I' d v) → E'.size = (mapPut kv dx es).length ∧ (∀ (j : Nat) (e : MapEntry), E'[j]? = some e → e.born < n' ∧ ∃ x : Value × D, (mapPut kv dx es)[j]? = some x ∧ e.key = x.1 ∧ Dr w' I' x.2 e.val) ∧ (∀ (i j : Nat) (e e' : MapEntry), E'[i]? = some e → E'[j]? = some e' → e.born = e'.born → i = j)) →
      ∃ nx x w' I' ρ', (execOp a.eval o).run P w = .ok nx w' ∧ (nx = .value x ∨ nx = .skip ∧ x = undef) ∧ vr w' I' ρ' (σ.set l (.map (mapPut kv dx es))) .undef x ∧ vrL w' I' ρ' (σ.set l (.map (mapPut kv dx es))) tm a.tmps.toList ∧ ORel w' I' ρ' (σ.set l (.map (mapPut kv dx es))) ∧
        Ext σ.length w I ρ σ w' I' ρ' (σ.set l (.map (mapPut kv dx es))) := by
    intro E' n' hrun hE'
    have hS : ∀ x, x < σ.length → Same ρ σ ρ (σ.set l (.map (mapPut kv dx es))) x := by
      intro y hy
      refine ⟨by simp; exact hy, fun o' g1 g2 => ?_⟩
      by_cases hyl : y = l
      · subst hyl
        rw [List.getElem?_set_self hlt] at g1
        cases g1
        exact ⟨rfl, _, hl, by simp, rfl⟩
      · rw [List.getElem?_set_ne (Ne.symm hyl)] at g1
        exact ⟨rfl, o', g1, g2, rfl⟩
    have hI : ∀ b, I b → I b ∧ (w.putObj L.b (.map E' n')).heap[b]? = w.heap[b]? := fun b hb => ⟨hb, putObj_other fun e => (hO.imm b hb).2 ⟨l, _, L, hl, by simp, hL, e.symm⟩⟩
    obtain ⟨q1, q2, q3⟩ := hE' I (w.putObj L.b (.map E' n')) (fun d v hd => Dr_mono hI d v hd)
    refine ⟨.skip, undef, _, I, ρ, ?_, .inr ⟨rfl, rfl⟩, by simp [vr], vrL_all hI hS hr, ?_, ?_⟩
    · simp only [execOp, ho, Sem.run_bind, hrun, Result.andThen_ok, Sem.run_pure]
    · refine hO.upd hl (by simp) hL rfl (fun b hb => putObj_other hb) (by simp) ?_
      simp only [orel]
      exact ⟨L, E', n', hL, hLo, putObj_self hb, q1, q2, q3⟩
    · exact Ext.upd hl (by simp) hL (fun _ => rfl) rfl rfl (fun b hb => putObj_other hb) (by simp) rfl rfl rfl
  have hput : ∀ (o' : Obj), (setObj L.b o').run P w = .ok () (w.putObj L.b o') := fun o' => by
    rw [run_setObj_map o' hh]; rfl
  rcases findNow_abs hik E.toList es 0 hkeys hes with ⟨g1, g2, g3⟩ | ⟨j, e, d0, g1, g2, g3, g4, g5, g6⟩
  · have hf := run_findKey (P := P) (w := w) hkd g1
    refine hfin (E.push { key := kv, val := a.eval x, born := n }) (n + 1) ?_ fun I' w' hmono => ?_
    · rw [hme, hke]
      simp only [Instr.mapUpdate, Sem.run_bind, run_underlying hu, Result.andThen_ok, Go.MapKept.run_getObj_map hh, run_checkKey hkd hik, hf, hput]
    · rw [g3]
      refine ⟨by simp [hs], fun i e he => ?_, fun i i' e e' he he' hbn => ?_⟩
      · rw [Array.getElem?_push] at he
        split at he
        · rename_i hi
          cases he
          exact ⟨by simp, (kv, dx), by rw [hi, hs]; simp, rfl, hmono _ _ hxr⟩
        · obtain ⟨r1, y, r2, r3, r4⟩ := h1 i e he
          exact ⟨by omega, y, by rw [List.getElem?_append_left (List.getElem?_eq_some_iff.1 r2).1]; exact r2, r3, hmono _ _ r4⟩
      · rw [Array.getElem?_push] at he he'
        split at he <;> split at he'
        · omega
        · cases he
          have := (h1 i' e' he').1
          simp at hbn; omega
        · cases he'
          have := (h1 i e he).1
          simp at hbn; omega
        · exact h2 i i' e e' he he' hbn
  · have hf := run_findKey (P := P) (w := w) hkd g1
    have g2' : E[j]? = some e := by simpa using g2
    have hsame : Instr.sameBits 10000 e.key kv = true := by
      rw [g3]; exact sameBits_refl hik 10000
    have hjl : j < es.length := (List.getElem?_eq_some_iff.1 g4).1
    refine hfin (E.modify j fun e => { e with key := kv, val := a.eval x }) n ?_ fun I' w' hmono => ?_
    · rw [hme, hke]
      simp only [Instr.mapUpdate, Sem.run_bind, run_underlying hu, Result.andThen_ok, Go.MapKept.run_getObj_map hh, run_checkKey hkd hik, hf, Nat.zero_add, g2', Option.map_some, Option.getD_some, Instr.keyThatStays, hsame, if_true, Sem.run_pure, hput]
    · rw [g6]
      refine ⟨by simp [hs], fun i e1 he => ?_, fun i i' e1 e2 he he' hbn => ?_⟩
      · rw [Array.getElem?_modify] at he
        split at he
        · rename_i hi
          subst hi
          rw [g2'] at he
          cases he
          exact ⟨(h1 j e g2').1, (kv, dx), by rw [List.getElem?_set_self hjl], rfl, hmono _ _ hxr⟩
        · rename_i hi
          obtain ⟨r1, y, r2, r3, r4⟩ := h1 i e1 he
          exact ⟨r1, y, by rw [List.getElem?_set_ne hi]; exact r2, r3, hmono _ _ r4⟩
      · have hb1 : ∀ (i : Nat) (e1 : MapEntry), (E.modify j fun e => { e with key := kv, val := a.eval x })[i]? = some e1 → ∃ e0, E[i]? = some e0 ∧ e0.born = e1.born := by
          intro i e1 he
          rw [Array.getElem?_modify] at he
          split at he
          · rename_i hi
            subst hi
            rw [g2'] at he
            cases he
            exact ⟨e, g2', rfl⟩
          · exact ⟨e1, he, rfl⟩
        obtain ⟨u1, v1, v2⟩ := hb1 i e1 he
        obtain ⟨u2, v3, v4⟩ := hb1 i' e2 he'
        exact h2 i i' u1 u2 v1 v3 (by rw [v2, v4, hbn])
end
mutual
def V.frc (l : Nat) (ds : List D) : V → V
  | .row k => if Nat.beq l k then .undef else .row k
  | .sl k off n c => if Nat.beq l k then .undef else .sl k off n c
  | .ptr k i s => if Nat.beq l k then (match i with | 0 => .ep ds.length (.agg ds) s | _ => .undef) else .ptr k i s
  | .yield k => if Nat.beq l k then .undef else .yield k
  | .map k => if Nat.beq l k then .undef else .map k
  | .fn f a b => .fn f (V.frcL l ds a) (V.frcL l ds b)
  | .tuple vs => .tuple (V.frcL l ds vs)
  | .agg vs => .agg (V.frcL l ds vs)
  | .d x => .d x
  | .undef => .undef
  | .nils => .nils
  | .ex sz xs => .ex sz xs
  | .ep sz x s => .ep sz x s
def V.frcL (l : Nat) (ds : List D) : List V → List V
  | [] => []
  | v :: vs => V.frc l ds v :: V.frcL l ds vs
end
def O.frc (l : Nat) (ds : List D) : O → O
  | .cells cs => .cells (V.frcL l ds cs)
  | .loop a b c tm x e f => .loop a b c (V.frcL l ds tm) x e f
  | .dead => .dead
  | .row sz xs mv => .row sz xs mv
  | .map es => .map es
  | .defd => .defd
section frc
variable {w : World} {I : Nat → Prop} {ρ : LM} {σ : Store} {P : Program}
mutual
theorem vr_frc {l : Nat} {cs0 : List V} {ds : List D} (hO : ORel w I ρ σ) (hl : σ[l]? = some (.cells cs0)) (hds : datasX cs0 = some ds) : ∀ (v : V) (x : Value), vr w I ρ σ v x → vr w (Iadd I ρ l) ρ (σ.set l .dead) (v.frc l ds) x
  | .row k, x, h => by
    simp only [V.frc]
    split
    · simp [vr]
    · rename_i hk
      have hk : k ≠ l := by rintro rfl; simp at hk
      simp only [vr] at h ⊢
      exact ⟨h.1, by simpa using h.2.1, fun sz' xs' mv' hx => h.2.2 sz' xs' mv' (by rwa [getElem?_set_ne hk] at hx)⟩
  | .sl k off n c, x, h => by
    simp only [V.frc]
    split
    · simp [vr]
    · rename_i hk
      have hk : k ≠ l := by rintro rfl; simp at hk
      simp only [vr] at h ⊢
      exact ⟨h.1, by simpa using h.2.1, fun sz' xs' mv' hx => h.2.2 sz' xs' mv' (by rwa [getElem?_set_ne hk] at hx)⟩
  | .ptr k i s, x, h => by
    simp only [V.frc]
    split
    · rename_i hk
      have hk : l = k := by simpa using hk
      subst hk
      split
      · simp only [vr] at h
        obtain ⟨L, hL, he⟩ := h.2.2 ⟨_, hl, by simp⟩
        have hob := hO.objs l _ hl
        simp only [orel] at hob
        obtain ⟨L', C, T, fz, hL', h2, h3, h4, h5, h6⟩ := hob
        rw [hL] at hL'; cases hL'
        have hD := vrL_DrLX hds h5 h6
        have hlen : C.size = ds.length := by have := DrL_len hD; simpa using this
        simp only [vr]
        refine ⟨L.b, 0, by rw [he, h2]; simp, .inr ⟨L, hL, rfl⟩, .agg C, ?_, by simp [Value.cells, hlen], fun j hj => ?_⟩
        · simp only [Dr]
          exact ⟨C.toList, by simp, DrL_mono (fun b hb => ⟨.inl hb, rfl⟩) _ _ hD⟩
        · simp [World.cell?, h3, Value.cells]
      · simp [vr]
    · rename_i hk
      have hk : k ≠ l := by rintro rfl; simp at hk
      simp only [vr] at h ⊢
      refine ⟨h.1, by simpa using h.2.1, ?_⟩
      rintro ⟨o, h1, h2⟩
      rw [getElem?_set_ne hk] at h1
      exact h.2.2 ⟨o, h1, h2⟩
  | .yield k, x, h => by
    simp only [V.frc]
    split
    · simp [vr]
    · rename_i hk
      have hk : k ≠ l := by rintro rfl; simp at hk
      simp only [vr] at h ⊢
      refine ⟨h.1, by simpa using h.2.1, ?_⟩
      rintro ⟨o, h1, h2⟩
      rw [getElem?_set_ne hk] at h1
      exact h.2.2 ⟨o, h1, h2⟩
  | .map k, x, h => by
    simp only [V.frc]
    split
    · simp [vr]
    · rename_i hk
      have hk : k ≠ l := by rintro rfl; simp at hk
      simp only [vr] at h ⊢
      refine ⟨h.1, by simpa using h.2.1, ?_⟩
      rintro ⟨o, h1, h2⟩
      rw [getElem?_set_ne hk] at h1
      exact h.2.2 ⟨o, h1, h2⟩
  | .fn f a b, x, h => by
    simp only [V.frc, vr] at h ⊢
    obtain ⟨fs, cs, e, h1, h2⟩ := h
    exact ⟨fs, cs, e, vrL_frc hO hl hds a fs h1, vrL_frc hO hl hds b cs h2⟩
  | .tuple vs, x, h => by
    simp only [V.frc, vr] at h ⊢
    obtain ⟨ys, e, h1⟩ := h
    exact ⟨ys, e, vrL_frc hO hl hds vs ys h1⟩
  | .agg vs, x, h => by
    simp only [V.frc, vr] at h ⊢
    obtain ⟨ys, e, h1, h2⟩ := h
    exact ⟨ys, e, vrL_frc hO hl hds vs ys h1, h2⟩
  | .d y, x, h => by
    simp only [V.frc, vr] at h ⊢
    exact Dr_mono (fun b hb => ⟨.inl hb, rfl⟩) _ _ h
  | .undef, x, h => by simp [V.frc, vr]
  | .nils, x, h => by simpa [V.frc, vr] using h
  | .ex sz ys, x, h => by
    simp only [V.frc, vr] at h ⊢
    obtain ⟨a, e, h1⟩ := h
    exact ⟨a, e, Dr_mono (fun b hb => ⟨.inl hb, rfl⟩) _ _ h1⟩
  | .ep sz y s, x, h => by
    simp only [V.frc, vr] at h ⊢
    obtain ⟨b, q, e, h1, u, h2, h3, h4⟩ := h
    exact ⟨b, q, e, .inl h1, u, Dr_mono (fun b hb => ⟨.inl hb, rfl⟩) _ _ h2, h3, h4⟩
theorem vrL_frc {l : Nat} {cs0 : List V} {ds : List D} (hO : ORel w I ρ σ) (hl : σ[l]? = some (.cells cs0)) (hds : datasX cs0 = some ds) : ∀ (vs : List V) (ys : List Value), vrL w I ρ σ vs ys → vrL w (Iadd I ρ l) ρ (σ.set l .dead) (V.frcL l ds vs) ys
  | [], ys, h => by simpa [V.frcL, vrL] using h
  | v :: vs, ys, h => by
    simp only [V.frcL, vrL] at h ⊢
    obtain ⟨y, ys', e, h1, h2⟩ := h
    exact ⟨y, ys', e, vr_frc hO hl hds v y h1, vrL_frc hO hl hds vs ys' h2⟩
end
theorem orel_frc {cs0 : List V} (hO : ORel w I ρ σ) (hl : σ[l]? = some (.cells cs0)) (hds : datasX cs0 = some ds) {k : Nat} {o : O} (h : orel w I ρ σ k o) : orel w (Iadd I ρ l) ρ (σ.set l .dead) k (o.frc l ds) := by
 have hI : ∀ b, I b → Iadd I ρ l b ∧ w.heap[b]? = w.heap[b]? := fun b hb => ⟨.inl hb, rfl⟩
 cases o with
 | dead => simp [O.frc, orel]
 | cells cs =>
   simp only [O.frc, orel] at h ⊢
   obtain ⟨L, C, T, fz, h1, h2, h3, h4, h5, h6⟩ := h
   exact ⟨L, C, T, fz, h1, h2, h3, h4, vrL_frc hO hl hds cs _ h5, h6⟩
 | row sz xs mv =>
   simp only [O.frc, orel] at h ⊢
   rcases h with h | ⟨L, C, T, fz, h1, h2, h3, h4, h5, h6, h7, h8⟩
   · exact .inl h
   · exact .inr ⟨L, C, T, fz, h1, h2, h3, h4, h5, h6, h7, DrE_mono hI _ _ rfl _ _ h8⟩
 | map es =>
   simp only [O.frc, orel] at h ⊢
   obtain ⟨L, E, n, h1, h2, h3, h4, h5, h6⟩ := h
   refine ⟨L, E, n, h1, h2, h3, h4, fun j e hj => ?_, h6⟩
   obtain ⟨g1, x, g2, g3, g4⟩ := h5 j e hj
   exact ⟨g1, x, g2, g3, Dr_mono hI _ _ g4⟩
 | loop st pend fn tm params assign body =>
   simp only [O.frc, orel] at h ⊢
   obtain ⟨L, tmps, db, h1, h2, h3⟩ := h
   exact ⟨L, tmps, db, h1, h2, vrL_frc hO hl hds tm _ h3⟩
 | defd => simpa [O.frc, orel] using h
theorem frc_dead {o : O} : o.frc l ds = .dead ↔ o = .dead := by cases o <;> simp [O.frc]
theorem frc_still {o : O} : (o.frc l ds).still = o.still := by cases o <;> rfl
theorem frc_rl (o : O) : o.alike (o.frc l ds) := by cases o <;> rfl
theorem frc_ld {o : O} : (o.frc l ds).ld = o.ld := by cases o <;> rfl
end frc
section rules
variable {P : Program} {f : FuncId} {ro : Option Nat} {n : Nat} {k : List Item} {tm tm' : List V} {σ σ' : Store} {df : List Nat} {Q : AE → Store → Prop}
theorem freezeC_core {a : List Value} {cs0 : List V} (hO : ORel w I ρ σ) (hl : σ[l]? = some (.cells cs0)) (hds : datasX cs0 = some ds) (hr : vrL w I ρ σ tm a) :
    vrL w (Iadd I ρ l) ρ ((σ.map (O.frc l ds)).set l .dead) (V.frcL l ds tm) a ∧ ORel w (Iadd I ρ l) ρ ((σ.map (O.frc l ds)).set l .dead) ∧ Ext σ.length w I ρ σ w (Iadd I ρ l) ρ ((σ.map (O.frc l ds)).set l .dead) ∧ True := by
  have hlt : l < σ.length := (List.getElem?_eq_some_iff.1 hl).1
  have hget : ∀ x o1, ((σ.map (O.frc l ds)).set l .dead)[x]? = some o1 → o1 ≠ .dead → x ≠ l ∧ ∃ o2, σ[x]? = some o2 ∧ o2 ≠ .dead ∧ o1 = o2.frc l ds := by
    intro x o1 h1 h2
    by_cases hx : x = l
    · subst hx
      rw [List.getElem?_set_self (by simpa using hlt)] at h1
      cases h1; exact absurd rfl h2
    · rw [getElem?_set_ne hx, List.getElem?_map, Option.map_eq_some_iff] at h1
      obtain ⟨o2, h3, rfl⟩ := h1
      exact ⟨hx, o2, h3, fun e => h2 (frc_dead.2 e), rfl⟩
  have hsame : ∀ x, x < σ.length → Same ρ (σ.set l .dead) ρ ((σ.map (O.frc l ds)).set l .dead) x := by
    intro x hx
    refine ⟨by simpa using hx, fun o1 h1 h2 => ⟨rfl, ?_⟩⟩
    obtain ⟨hne, o2, h3, h4, rfl⟩ := hget x o1 h1 h2
    exact ⟨o2, by rw [getElem?_set_ne hne]; exact h3, h4, frc_rl o2⟩
  have hII : ∀ b, Iadd I ρ l b → Iadd I ρ l b ∧ w.heap[b]? = w.heap[b]? := fun b hb => ⟨hb, rfl⟩
  have htm := vrL_all hII (fun x hx => hsame x (by simpa using hx)) (vrL_frc hO hl hds tm _ hr)
  have hlive : ∀ x, live ((σ.map (O.frc l ds)).set l .dead) x → x ≠ l ∧ live σ x := by
    rintro x ⟨o1, h1, h2⟩
    obtain ⟨hne, o2, h3, h4, _⟩ := hget x o1 h1 h2
    exact ⟨hne, o2, h3, h4⟩
  have hfoot : ∀ b, foot ρ ((σ.map (O.frc l ds)).set l .dead) b → foot ρ σ b := by
    rintro b ⟨x, o1, L, h1, h2, h3, h4⟩
    obtain ⟨_, o2, h5, h6, _⟩ := hget x o1 h1 h2
    exact ⟨x, o2, L, h5, h6, h3, h4⟩
  have hO2 : ORel w (Iadd I ρ l) ρ ((σ.map (O.frc l ds)).set l .dead) := by
    refine ⟨fun x o1 h1 => ?_, fun x y X Y hx hy => hO.inj x y X Y (hlive x hx).2 (hlive y hy).2, fun b hb => hO.flt b (hfoot b hb), fun b hb => ?_⟩
    · by_cases hd : o1 = .dead
      · subst hd; simp [orel]
      obtain ⟨hne, o2, h3, h4, rfl⟩ := hget x o1 h1 hd
      have := orel_frc hO hl hds (hO.objs x o2 h3)
      exact orel_all hII (fun x hx => hsame x (by simpa using hx)) rfl (fun _ _ => rfl) this
    · rcases hb with hb | ⟨L, hL, rfl⟩
      · exact ⟨(hO.imm b hb).1, fun hf => (hO.imm b hb).2 (hfoot b hf)⟩
      · refine ⟨hO.flt _ ⟨l, _, L, hl, by simp, hL, rfl⟩, ?_⟩
        rintro ⟨x, o1, X, h1, h2, h3, h4⟩
        obtain ⟨hne, o2, h5, h6, _⟩ := hget x o1 h1 h2
        exact hne (hO.inj x l X L ⟨o2, h5, h6⟩ ⟨_, hl, by simp⟩ h3 hL h4)
  have hX : Ext σ.length w I ρ σ w (Iadd I ρ l) ρ ((σ.map (O.frc l ds)).set l .dead) := by
    refine ⟨Nat.le_refl _, rfl, rfl, rfl, fun _ _ _ => rfl, fun b hb => .inl hb, fun b hb => ?_, fun b hb => .inl (hfoot b hb), by simp, fun x _ hx => (hlive x hx).2, fun x o1 hx h1 h2 => ⟨rfl, ?_⟩, fun x o hx h1 h2 => ?_⟩
    · rcases hb with hb | ⟨L, hL, rfl⟩
      · exact .inl hb
      · exact .inr (.inl ⟨l, _, L, hl, by simp, hL, rfl⟩)
    · obtain ⟨hne, o2, h5, h6, rfl⟩ := hget x o1 h1 (by rintro rfl; simp [O.still] at h2)
      exact ⟨o2, h5, by rwa [frc_still] at h2, frc_rl o2⟩
    · have hne : x ≠ l := by rintro rfl; rw [hl] at h1; cases h1; exact h2 rfl
      exact ⟨o.frc l ds, by rw [getElem?_set_ne hne, List.getElem?_map, h1]; rfl, frc_ld⟩
  exact ⟨htm, hO2, hX, trivial⟩
theorem AW.freezeC (l : Nat) {cs0 : List V} (hl : σ[l]? = some (.cells cs0)) (hds : datasX cs0 = some ds) (h : AW P f ro n k (V.frcL l ds tm) ((σ.map (O.frc l ds)).set l .dead) df Q) : AW P f ro n k tm σ df Q := by
 intro w I ρ a rb hr hb hn
 obtain ⟨htm, hO2, hX, _⟩ := freezeC_core hr.ors hl hds hr.tms
 have hst := hX.stays
 have := h w (Iadd I ρ l) ρ a rb ⟨htm, hO2, dfr_stay hst hr.dfs⟩ (rbOf_stay hst hb) (by simpa using hn)
 exact this.mono fun e w' hf => hf.trans (hX.less hn)
def okM (n : Nat) (m : List Nat) (σ σ' : Store) : Bool :=
  (List.range n).all fun l => (match m[l]? with | some k => Nat.beq l k | none => false) || (match σ[l]?, σ'[l]? with | some (.row _ _ _), some (.row _ _ true) => true | _, _ => false)
theorem AW.subM (m : List Nat) (tm' : List V) (σ' : Store) (ro' : Option Nat) (df' : List Nat) (he : exact σ m σ') (htm : tm = V.renL (mp m σ.length) tm') (hn' : n ≤ σ'.length ∧ okM n m σ σ' = true)
    (hbel : (belB σ'.length σ' && (V.locsL tm').all fun l => Nat.blt l σ'.length) = true) (hdf : df = df'.map (mp m σ.length) ∧ (df'.all fun l => Nat.blt l σ'.length) = true) (hro : ro = ro'.map (mp m σ.length) ∧ (ro'.all fun l => Nat.blt l σ'.length) = true)
    (h : AW P f ro' n k tm' σ' df' Q) : AW P f ro n k tm σ df Q := by
  intro w I ρ a rb hr hb hn
  simp only [Bool.and_eq_true] at hbel
  have hO := hr.ors
  have hE : Emb (mp m σ.length) (rhoC m ρ) σ' ρ σ := by
    intro i o hi
    obtain ⟨h1, h2⟩ := exact_get he hi
    exact ⟨by simp [rhoC, h1], _, h2, O.ren_dead, O.ren_alike o⟩
  have hfoot : ∀ b, foot (rhoC m ρ) σ' b → foot ρ σ b := by
    rintro b ⟨i, oc, L, h1, h2, h3, h4⟩
    have hi := (List.getElem?_eq_some_iff.1 h1).1
    obtain ⟨o, h5, h6⟩ := (hE.live hi).2 ⟨oc, h1, h2⟩
    exact ⟨_, o, L, h5, h6, (hE.rho hi).trans h3, h4⟩
  have hO2 : ORel w I (rhoC m ρ) σ' := by
    refine ⟨fun i oc hi => ?_, fun i j L L' hi hj hL hL' e => ?_, fun b h => hO.flt b (hfoot b h), fun b h => ⟨(hO.imm b h).1, fun hf => (hO.imm b h).2 (hfoot b hf)⟩⟩
    · obtain ⟨h1, h2⟩ := exact_get he hi
      exact (orel_ren hE (by simp [rhoC, h1]) (belB_ok hbel.1 hi)).1 (hO.objs _ _ h2)
    · have h1 := live_lt hi
      have h2 := live_lt hj
      have := hO.inj _ _ L L' ((hE.live h1).2 hi) ((hE.live h2).2 hj) ((hE.rho h1).trans hL) ((hE.rho h2).trans hL') e
      have hi' := (exact_get he (List.getElem?_eq_getElem h1)).1
      have hj' := (exact_get he (List.getElem?_eq_getElem h2)).1
      rw [← this] at hj'
      have a1 := mem_idx (nodupB_ok he.2.1) hi'
      have a2 := mem_idx (nodupB_ok he.2.1) hj'
      rw [a1] at a2
      exact Option.some.inj a2
  have hid0 : ∀ l, l < n → (mp m σ.length l = l ∧ rhoC m ρ l = ρ l) ∨ ((∃ sz xs mv, σ[l]? = some (.row sz xs mv)) ∧ ∃ sz xs, σ'[l]? = some (.row sz xs true)) := by
    intro l hl
    have h1 := List.all_eq_true.1 hn'.2 l (by simpa using hl)
    rw [Bool.or_eq_true] at h1
    rcases h1 with h1 | h1
    · left
      split at h1
      · rename_i k hk
        have hk' : l = k := by simpa using h1
        subst hk'
        exact ⟨by simp [mp, hk], by simp [rhoC, hk]⟩
      · cases h1
    · right
      split at h1
      · rename_i a1 a2 a3 a4 a5 h2 h3
        exact ⟨⟨_, _, _, h2⟩, _, _, h3⟩
      · cases h1
  have htms : vrL w I (rhoC m ρ) σ' tm' a.tmps.toList := by
    have h1 := hr.tms
    rw [htm] at h1
    exact (vrL_ren hE tm' _ fun l hl => by have := (List.all_eq_true.1 hbel.2) l hl; simpa [Nat.blt_eq] using this).1 h1
  have hds : dfr (rhoC m ρ) σ' df' a.defers := by
    have h1 := hr.dfs
    rw [hdf.1] at h1
    exact dfr_exact he hE hdf.2 h1
  have hrb : rbOf (rhoC m ρ) σ' ro' rb := by
    rw [hro.1] at hb
    cases ro' with
    | none => exact hb
    | some l =>
      obtain ⟨L, o, g1, g2, g3, g4⟩ := hb
      have hlt : l < σ'.length := by simpa [Nat.blt_eq] using hro.2
      have hx := (exact_get he (List.getElem?_eq_getElem hlt)).2
      rw [g2] at hx
      refine ⟨L, σ'[l], (hE.rho hlt).symm.trans g1, List.getElem?_eq_getElem hlt, ?_, g4⟩
      obtain ⟨a1, a2, a3, a4, a5, a6, a7, rfl⟩ := g3
      cases hq : σ'[l] <;> rw [hq] at hx <;> simp [O.ren] at hx
      exact ⟨_, _, _, _, _, _, _, rfl⟩
  have hrun := h w I (rhoC m ρ) a rb ⟨htms, hO2, hds⟩ hrb hn'.1
  refine hrun.mono fun e w' hf => ?_
  obtain ⟨I', ρ', σ2, r, h1, h2, h3, h4⟩ := hf
  refine ⟨I', ρ', σ2, r, h1, h2, h3, ⟨h4.size, h4.os, h4.tape, h4.output, fun b hb hf => h4.old b hb fun h => hf (hfoot b h), h4.immI, fun b hb => ?_, fun b hb => ?_, h4.len, fun l hl hv => ?_, fun l o' hl ho' hst => ?_, fun l o hl ho hld => ?_⟩⟩
  · rcases h4.immN b hb with hq | hq | hq
    · exact .inl hq
    · exact .inr (.inl (hfoot b hq))
    · exact .inr (.inr hq)
  · exact (h4.footN b hb).imp (hfoot b) id
  · rcases hid0 l hl with hid | ⟨⟨_, _, _, h5⟩, _⟩
    · have := (hE.live (Nat.lt_of_lt_of_le hl hn'.1)).2 (h4.alive l hl hv)
      rwa [hid.1] at this
    · exact ⟨_, h5, by simp⟩
  · obtain ⟨g1, o, g2, g3, g4⟩ := h4.fixed l o' hl ho' hst
    rcases hid0 l hl with hid | ⟨_, _, _, h5⟩
    · have hx := (exact_get he g2).2
      rw [hid.1] at hx
      exact ⟨g1.trans hid.2, _, hx, by rw [O.ren_still]; exact g3, O.alike_trans (O.ren_alike o) g4⟩
    · rw [h5] at g2
      cases g2
      simp [O.still] at g3
  · rcases hid0 l hl with hid | ⟨⟨_, _, _, h5⟩, _⟩
    · have hlt : l < σ'.length := Nat.lt_of_lt_of_le hl hn'.1
      have hx := (exact_get he (List.getElem?_eq_getElem hlt)).2
      rw [hid.1, ho, Option.some.injEq] at hx
      obtain ⟨o', g1, g2⟩ := h4.stay l _ hl (List.getElem?_eq_getElem hlt) (by rw [hx, O.ren_ld] at hld; exact hld)
      exact ⟨o', g1, by rw [g2, hx, O.ren_ld]⟩
    · rw [h5] at ho
      cases ho
      exact absurd rfl hld
end rules
end Go.Br
