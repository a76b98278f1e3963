/- The base of these proofs, part X: nil slices, empty rows, loops over functions from place to place. -/
import Derived.Test.YtoelkgbeefoplaaBrW
import Derived.Laws.Cover3
namespace Go.Br
open Go

section
variable {P : Program} {f : FuncId} {ro : Option Nat} {n : Nat} {k : List Item} {T T' : List Item} {tm tm' : List V} {σ σ' : Store} {df : List Nat} {Q : AE → Store → Prop} {ops : Array Oper}
/-- An operation that may yield one of some values. -/
def OpAny (P : Program) (o : Oper) (tm : List V) (σ : Store) (W : V → Prop) : Prop :=
  ∀ (w : World) (I : Nat → Prop) (ρ : LM) (a : Act), vrL w I ρ σ tm a.tmps.toList → ORel w I ρ σ → ∃ x v, (execOp a.eval o).run P w = .ok (.value x) w ∧ vr w I ρ σ v x ∧ W v
theorem AW.opAny {i : Nat} {rest : List Nat} {o : Oper} {W : V → Prop} (hi : ops[i]? = some o) (hw : wantA ops o tm = some true) (hd : Op.isDefer o.op = false) (hok : OpAny P o tm σ W)
    (h : ∀ v, W v → AW P f ro n (.inRegion ops rest :: k) (put tm o.dst v) σ df Q) : AW P f ro n (.inRegion ops (i :: rest) :: k) tm σ df Q := by
  intro w I ρ a rb hr hb hn
  obtain ⟨x, v, h1, h2, h3⟩ := hok w I ρ a hr.tms hr.ors
  exact .step (fun cs => st_op_value hi (wantA_ok hw hr.tms) hd h1) (h v h3 w I ρ (a.put o.dst x) rb ⟨vrL_put hr.tms o.dst h2, hr.ors, by rw [put_defers]; exact hr.dfs⟩ hb hn)
theorem AW.anyH {o : Oper} {W : V → Prop} (ho : opOf T = some o) (hw : wantA (opsOf T) o tm = some true) (hd : Op.isDefer o.op = false) (hT : tlOf T = T') (hok : OpAny P o tm σ W)
    (h : ∀ v, W v → AW P f ro n T' (put tm o.dst v) σ df Q) : AW P f ro n T tm σ df Q := by
  subst hT
  unfold opOf at ho
  split at ho
  · rename_i ops i r k
    exact .opAny ho hw hd hok h
  · cases ho
theorem run_eql_slice_nil' {w : World} {t e : TypeId} (a : Option Addr) (l c : Nat) (h : P.underlying t = some (.slice e)) : (binOp .eql t (.slice a l c) (.slice none 0 0)).run P w = .ok (.bool a.isNone) w := by
  simp only [binOp]
  simp [run_equal_slice_nil w t e a l c h]
/-- Is a slice nil? -/
theorem nilEq_ok {o : Oper} {x y : Operand} {t ty : TypeId} {sz : Nat} {xs : List D} {neg : Bool} (ho : o.op = .binOp (if neg then .neq else .eql) t x y ty) (ht : isSliceT P t = true) (hx : listOf (ev tm x) = some (sz, xs)) (hy : ev tm y = .nils) :
    OpAny P o tm σ fun v => ∃ b : Bool, v = .d (.bool (b != neg)) ∧ (b = true → xs = []) := by
  intro w I ρ a hr hO
  obtain ⟨e, hu⟩ := isSliceT_und ht
  have hxr := listOf_rel hx (vr_ev hr x)
  have hyr := vr_ev hr y
  rw [hy] at hyr
  simp only [vr] at hyr
  simp only [Dr] at hxr
  obtain ⟨ad, cap, hxe, h1, h2, h3⟩ := hxr
  refine ⟨.bool (ad.isNone != neg), .d (.bool (ad.isNone != neg)), ?_, by simp [vr, Dr], ad.isNone, rfl, fun hb => ?_⟩
  · have hg : (eqGuard (if neg then .neq else .eql) t x y (a.eval x) (a.eval y)).run P w = .ok () w := by
      rw [hxe, hyr]
      unfold eqGuard
      cases neg <;> simp
    cases neg
    · have := run_eql_slice_nil' (P := P) (w := w) ad xs.length cap hu
      simp only [Bool.false_eq_true, if_false] at ho hg
      rw [hxe, hyr] at hg
      simp only [execOp, ho, hxe, hyr, Sem.run_bind, hg, Result.andThen_ok, this, Sem.run_pure]
      simp
    · have := run_neq_slice_nil (P := P) w t e ad xs.length cap hu
      simp only [if_true] at ho hg
      rw [hxe, hyr] at hg
      simp only [execOp, ho, hxe, hyr, Sem.run_bind, hg, Result.andThen_ok, this, Sem.run_pure]
      simp
  · rcases h3 with h3 | ⟨b, o', rfl, _⟩
    · exact h3
    · simp at hb

/-- Nothing more is appended. -/
theorem appNone_ok {o : Oper} {s x : Operand} {t t2 : TypeId} {sz by' : Nat} {xs : List D} (ho : o.op = .call { callee := .builtin .append, args := #[s, x], argTypes := #[t, t2] }) (hs : ev tm s = .ex sz xs) (hx : cont σ (ev tm x) = some (sz, []))
    (hw : elemW P t = some (sz, by')) (h2 : notIntT P t2 = true) : OpOk P o tm σ (.ex sz xs) tm σ := by
  intro w I ρ a hr hO
  obtain ⟨e, i, z, hu, hi, hz, rfl, rfl, hzs⟩ := elemW_und hw
  have hsr := vr_ev hr s
  rw [hs] at hsr
  have hsr0 := hsr
  simp only [vr] at hsr
  obtain ⟨ad, hsv, _⟩ := hsr
  obtain ⟨news, hN, hlen, hfc⟩ := cont_rel (P := P) hx (vr_ev hr x) hO
  have hnews : news = [] := by
    simp only [DrN] at hN
    exact hN
  subst hnews
  have hst : ∀ ad : Option Addr, match ad with | some a => (storeCells (a.add (xs.length * i.size)) []).run P w = .ok () w | none => w = w := by
    intro ad
    cases ad with
    | none => rfl
    | some a => simp [storeCells]
  have hrun := exec_append (a := a) ho (run_app_room (w := w) (w' := w) (ty := o.type) hu hi h2 (base := ad) (sLen := xs.length) (sCap := xs.length) (hlen w) (hfc w rfl) (by simp) (hst ad) |> fun h => by rw [hsv]; exact h)
  refine ⟨_, .slice ad xs.length xs.length, w, I, ρ, by simpa using hrun, .inl rfl, ?_, hr, hO, Ext.refl _ _ _ _⟩
  rw [hsv] at hsr0
  exact hsr0
theorem vals_at {o : Oper} {xs : List Operand} (hx : o.op.operands.toList = xs) (h : valsOf tm' o = valsOf tm o) : ∀ x ∈ xs, ev tm' x = ev tm x := by
  unfold valsOf at h
  rw [hx] at h
  exact List.map_inj_left.1 h
theorem StepQ.rule {c : List Nat} {i : Nat} {o : Oper} {v : V} (xs : List Operand) (hi : ops[i]? = some o) (hc3 : Nat.beq (c.getD i 2) 3 = false) (hw : wantA ops o tm = some true) (hd : Op.isDefer o.op = false) (hx : o.op.operands.toList = xs)
    (h : ∀ s tm', (∀ x ∈ xs, ev tm' x = ev tm x) → OpOk P o tm' s v tm' s) : StepQ P f ro n k df Q ops c i (tm, σ) (put tm o.dst v, σ) :=
  .pure hi (fun e => by rw [e] at hc3; exact absurd hc3 (by decide)) hw hd fun s tm' hv => h s tm' (vals_at hx hv)
theorem StepQ.data {c : List Nat} {i : Nat} {o : Oper} {v : V} (hi : ops[i]? = some o) (hc3 : Nat.beq (c.getD i 2) 3 = false) (hw : wantA ops o tm = some true)
    (h : ∀ s, Sem P f ro n k df Q ops o i (valsOf tm o) s v s) : StepQ P f ro n k df Q ops c i (tm, σ) (put tm o.dst v, σ) := .sem hi (fun e => by rw [e] at hc3; exact absurd hc3 (by decide)) hw h
/-- A call with data that makes nothing. -/
theorem sem_data0 {i : Nat} {o : Oper} {x : Operand} {args : Array Operand} {ts : Array TypeId} {g : FuncId} {fn : Func} {c : Code} {first cap ds : List V} {v : V}
    (hF : Fnc P g fn c) (hc : CallsA P g ds [] fun r σ' => r = .ret v ∧ σ' = []) (hi : ops[i]? = some o) (ho : o.op = .call { callee := .value x, args, argTypes := ts }) (hx : ev tm x = .fn (.func g) first cap)
    (hargs : coArgs P fn.params.toList (first ++ args.toList.map (ev tm) ++ cap) = ds) (hl : (V.locsL ds).isEmpty = true) (hv : v.locs.isEmpty = true) (σ : Store) :
    Sem P f ro n k df Q ops o i (valsOf tm o) σ v σ := by
  have h := sem_data (P := P) (f := f) (ro := ro) (n := n) (k := k) (df := df) (Q := Q) hF hc hi ho hx hargs hl σ
  rw [V.ren_none v (by simpa using hv)] at h
  simpa using h

/-- A row without elements, told as data. -/
theorem build0_ok {o : Oper} {t e : TypeId} {sz sz' : Nat} (ho : o.op = .buildSlice t 0 #[]) (hu : P.underlying t = some (.slice e)) (hi : (P.info? e).map (·.size) = some sz') : OpOk P o tm σ (.ex sz []) tm σ := by
  intro w I ρ a hr hO
  have hrun : (execOp a.eval o).run P w = .ok (.value (.slice (some ⟨w.heap.size, 0, none⟩) 0 0)) (w.alloc (.cells #[] e)) := by
    simp only [Option.map_eq_some_iff] at hi
    obtain ⟨ie, hi, _⟩ := hi
    simp [execOp, ho, Instr.buildSlice, run_underlying hu, sizeOf, typeInfo, hi, Instr.fill, newRow]
    have h0 : ∀ g : Nat → Value, Array.map g (Array.range 0) = #[] := fun g => by apply Array.eq_empty_of_size_eq_zero; simp
    rw [h0]
  have hI : ∀ b, I b → I b ∧ (w.alloc (.cells #[] e)).heap[b]? = w.heap[b]? := fun b hb => ⟨hb, heap_alloc_old _ _ _ (hO.imm b hb).1⟩
  have hS : ∀ l, l < σ.length → Same ρ σ ρ σ l := fun l hl => ⟨hl, fun o' h1 h2 => ⟨rfl, o', h1, h2, rfl⟩⟩
  have hx := Ext.refl w I ρ σ
  refine ⟨_, _, _, I, ρ, hrun, .inl rfl, ?_, vrL_all hI hS hr, ⟨fun l o hl => ?_, hO.inj, fun b hb => ?_, fun b hb => ?_⟩, ⟨by simp, rfl, rfl, rfl, fun b hb _ => heap_alloc_old _ _ _ hb, hx.immI, hx.immN, hx.footN, Nat.le_refl _, hx.alive, hx.fixed, hx.stay⟩⟩
  · simp only [vr, Dr, List.length_nil]
    exact ⟨_, rfl, _, 0, rfl, by omega, by simp [maxLen], .inl trivial⟩
  · by_cases hd : o = .dead
    · subst hd; simp [orel]
    · exact orel_all hI hS rfl (fun L hL => heap_alloc_old _ _ _ (hO.flt _ ⟨l, o, L, hl, hd, hL, rfl⟩)) (hO.objs l o hl)
  · have := hO.flt b hb; simp; omega
  · have := (hO.imm b hb).1
    exact ⟨by simp; omega, (hO.imm b hb).2⟩

/-- A nil slice in a cell, told as a row that is not laid yet. -/
theorem AW.virt (l i sz : Nat) {cs : List V} (hl : σ[l]? = some (.cells cs)) (hi : cs[i]? = some .nils) (h : AW P f ro n T tm (σ.set l (.cells (cs.set i (.row σ.length))) ++ [.row sz [] false]) df Q) : AW P f ro n T tm σ df Q := by
  intro w I ρ a rb hr hb hn
  have hO := hr.ors
  have hlt : l < σ.length := (List.getElem?_eq_some_iff.1 hl).1
  let σ2 : Store := σ.set l (.cells (cs.set i (.row σ.length))) ++ [.row sz [] false]
  let ρ2 : LM := fun x => if x = σ.length then none else ρ x
  have hlen : σ2.length = σ.length + 1 := by simp [σ2]
  have g1 : ∀ x, x < σ.length → x ≠ l → σ2[x]? = σ[x]? := fun x hx hxl => by
    show (_ ++ _)[x]? = _
    rw [List.getElem?_append_left (by simp; exact hx), List.getElem?_set_ne (Ne.symm hxl)]
  have g2 : σ2[l]? = some (.cells (cs.set i (.row σ.length))) := by
    show (_ ++ _)[l]? = _
    rw [List.getElem?_append_left (by simp; exact hlt), List.getElem?_set_self hlt]
  have g3 : σ2[σ.length]? = some (.row sz [] false) := by
    show (_ ++ _)[σ.length]? = _
    rw [List.getElem?_append_right (by simp)]
    simp
  have g4 : ∀ x, x < σ.length → ρ2 x = ρ x := fun x hx => by show (if _ then _ else _) = _; rw [if_neg (by omega)]
  have hS : ∀ x, x < σ.length → Same ρ σ ρ2 σ2 x := by
    intro x hx
    refine ⟨by omega, fun o' h1 h2 => ⟨g4 x hx, ?_⟩⟩
    by_cases hxl : x = l
    · subst hxl
      rw [g2] at h1; cases h1
      exact ⟨_, hl, by simp, rfl⟩
    · rw [g1 x hx hxl] at h1
      exact ⟨o', h1, h2, rfl⟩
  have hI : ∀ b, I b → I b ∧ w.heap[b]? = w.heap[b]? := fun b hb => ⟨hb, rfl⟩
  have cases3 : ∀ x o, σ2[x]? = some o → x = σ.length ∧ o = .row sz [] false ∨ x < σ.length ∧ ∃ o1, σ[x]? = some o1 ∧ (o = .dead ↔ o1 = .dead) ∧ o1.alike o ∧ o1.still = o.still ∧ o1.ld = o.ld := by
    intro x o hx
    have hxl : x < σ2.length := (List.getElem?_eq_some_iff.1 hx).1
    by_cases h1 : x = σ.length
    · subst h1
      rw [g3] at hx; cases hx
      exact .inl ⟨rfl, rfl⟩
    · have h2 : x < σ.length := by omega
      refine .inr ⟨h2, ?_⟩
      by_cases h3 : x = l
      · subst h3
        rw [g2] at hx; cases hx
        exact ⟨_, hl, by simp, rfl, rfl, rfl⟩
      · rw [g1 x h2 h3] at hx
        exact ⟨o, hx, Iff.rfl, rfl, rfl, rfl⟩
  have hfoot : ∀ b, foot ρ2 σ2 b → foot ρ σ b := by
    rintro b ⟨x, o, L, h1, h2, h3, h4⟩
    rcases cases3 x o h1 with ⟨rfl, rfl⟩ | ⟨hx, o1, h5, h6, _⟩
    · simp [ρ2] at h3
    · rw [g4 x hx] at h3
      exact ⟨x, o1, L, h5, fun e => h2 (h6.2 e), h3, h4⟩
  have hO2 : ORel w I ρ2 σ2 := by
    refine ⟨fun x o hx => ?_, fun x y L L' hv hv' hL hL' hb => ?_, fun b hb => hO.flt b (hfoot b hb), fun b hb => ⟨(hO.imm b hb).1, fun h => (hO.imm b hb).2 (hfoot b h)⟩⟩
    · by_cases h1 : x = σ.length
      · subst h1
        rw [g3] at hx; cases hx
        simp only [orel]
        exact .inl ⟨by simp [ρ2], trivial⟩
      · have hxl : x < σ2.length := (List.getElem?_eq_some_iff.1 hx).1
        have h2 : x < σ.length := by omega
        by_cases h3 : x = l
        · subst h3
          rw [g2] at hx; cases hx
          have ho := hO.objs x _ hl
          simp only [orel] at ho ⊢
          obtain ⟨L, C, T, fz, k1, k2, k3, k4, k5, k6⟩ := ho
          refine ⟨L, C, T, fz, (g4 x h2).trans k1, k2, k3, k4, ?_, k6⟩
          have k7 := vrL_all hI hS k5
          obtain ⟨y, hy, hyv⟩ := vrL_get? k5 hi
          have k8 : vr w I ρ2 σ2 (.row σ.length) y := by
            simp only [vr] at hyv ⊢
            refine ⟨k6 y (List.mem_of_getElem? hy), by omega, fun sz' xs mv hx => ?_⟩
            rw [g3] at hx; cases hx
            subst hyv
            exact .inl ⟨rfl, none, rfl⟩
          have k9 := vrL_set k7 i k8
          rwa [show C.toList.set i y = C.toList from by
            apply List.ext_getElem?
            intro j
            by_cases hj : j = i
            · subst hj
              rw [List.getElem?_set_self (List.getElem?_eq_some_iff.1 hy).1, hy]
            · rw [List.getElem?_set_ne (Ne.symm hj)]] at k9
        · rw [g1 x h2 h3] at hx
          by_cases hd : o = .dead
          · subst hd; simp [orel]
          · exact orel_all hI hS (g4 x h2) (fun L hL => rfl) (hO.objs x o hx)
    · obtain ⟨o, h1, h2⟩ := hv
      obtain ⟨o', h1', h2'⟩ := hv'
      rcases cases3 x o h1 with ⟨rfl, rfl⟩ | ⟨hx, o1, h5, h6, _⟩
      · simp [ρ2] at hL
      · rcases cases3 y o' h1' with ⟨rfl, rfl⟩ | ⟨hy, o2, h7, h8, _⟩
        · simp [ρ2] at hL'
        · rw [g4 x hx] at hL
          rw [g4 y hy] at hL'
          exact hO.inj x y L L' ⟨o1, h5, fun e => h2 (h6.2 e)⟩ ⟨o2, h7, fun e => h2' (h8.2 e)⟩ hL hL' hb
  have hE : Ext σ.length w I ρ σ w I ρ2 σ2 := by
    refine ⟨Nat.le_refl _, rfl, rfl, rfl, fun _ _ _ => rfl, fun b hb => hb, fun b hb => .inl hb, fun b hb => .inl (hfoot b hb), by omega, fun x hx ⟨o, h1, h2⟩ => ?_, fun x o' hx h1 h2 => ?_, fun x o hx h1 h2 => ?_⟩
    · rcases cases3 x o h1 with ⟨rfl, rfl⟩ | ⟨hx, o1, h5, h6, _⟩
      · omega
      · exact ⟨o1, h5, fun e => h2 (h6.2 e)⟩
    · rcases cases3 x o' h1 with ⟨rfl, rfl⟩ | ⟨hx, o1, h5, h6, h7, h8, _⟩
      · omega
      · exact ⟨g4 x hx, o1, h5, by rw [h8]; exact h2, h7⟩
    · by_cases hxl : x = l
      · subst hxl
        rw [hl] at h1; cases h1
        exact ⟨_, g2, rfl⟩
      · exact ⟨o, by rw [g1 x hx hxl]; exact h1, rfl⟩
  have hst := hE.stays
  exact (h w I ρ2 a rb ⟨vrL_all hI hS hr.tms, hO2, dfr_stay hst hr.dfs⟩ (rbOf_stay hst hb) (by show n ≤ σ2.length; omega)).mono fun e w' hf => hf.trans (hE.less hn)
end
end Go.Br
