/- The base of these proofs, part Q: a region whose order is drawn, walked in one order. -/
import Derived.Test.YtoelkgbeefoplaaBrP
namespace Go.Br
open Go

theorem ev_put {tm : List V} {d : Option Tmp} {v : V} {x : Operand} (h : ∀ t, d = some t → x ≠ .tmp t) : ev (put tm d v) x = ev tm x := by
  cases d with
  | none => rfl
  | some t =>
    cases x with
    | tmp u =>
      have hne : t ≠ u := fun e => h t rfl (e ▸ rfl)
      simp [ev, put, List.getElem?_set_ne hne]
    | _ => rfl
theorem put_comm {tm : List V} {x y : Option Tmp} {v u : V} (h : ∀ d, x = some d → y ≠ some d) : put (put tm x v) y u = put (put tm y u) x v := by
  cases x with
  | none => rfl
  | some d =>
    cases y with
    | none => rfl
    | some e =>
      have hne : d ≠ e := fun he => h d rfl (he ▸ rfl)
      simp only [put]
      exact List.set_comm _ _ hne
theorem wantA_put {ops : Array Oper} {o : Oper} {tm : List V} {d : Option Tmp} {v : V} (h : ∀ t, d = some t → t ∉ o.looksAt ops) : wantA ops o (put tm d v) = wantA ops o tm := by
  cases d with
  | none => rfl
  | some t =>
    have h1 := h t rfl
    unfold wantA
    cases hg : o.guard with
    | none => rfl
    | some p =>
      obtain ⟨j, want⟩ := p
      simp only []
      cases hd : (ops[j]?).bind (·.dst) with
      | none => rfl
      | some u =>
        have hne : t ≠ u := by
          intro e
          apply h1
          simp [Oper.looksAt, hg, hd, e]
        simp only [put]
        rw [List.getElem?_set_ne hne]
/-- What an operation looks at. -/
def valsOf (tm : List V) (o : Oper) : List V := o.op.operands.toList.map (ev tm)
theorem valsOf_put {ops : Array Oper} {o : Oper} {tm : List V} {d : Option Tmp} {v : V} (h : ∀ t, d = some t → t ∉ o.looksAt ops) : valsOf (put tm d v) o = valsOf tm o := by
  unfold valsOf
  apply List.map_congr_left
  intro x hx
  apply ev_put
  intro t ht e
  subst e
  apply h t ht
  simp only [Oper.looksAt, List.mem_append, List.mem_filterMap]
  left
  exact ⟨_, hx, rfl⟩

theorem partsA_congr {P : Program} {tm tm' : List V} {t : TypeId} : ∀ {ps : List (Nat × Operand)}, (∀ x ∈ ps, ev tm x.2 = ev tm' x.2) → partsA P tm t ps = partsA P tm' t ps
  | [], _ => rfl
  | (i, x) :: ps, h => by
    simp only [partsA]
    rw [h (i, x) (by simp), partsA_congr (ps := ps) fun y hy => h y (by simp [hy])]
theorem mop_congr {P : Program} {tm tm' : List V} {σ : Store} {o : Oper} (h : valsOf tm o = valsOf tm' o) : mop P tm σ o = mop P tm' σ o := by
  have h' : ∀ x ∈ o.op.operands.toList, ev tm x = ev tm' x := List.map_inj_left.1 h
  clear h
  obtain ⟨dst, op, type, pos, after, guard⟩ := o
  cases op <;> simp only [Op.operands] at h'
  case store t x y => simp [mop, storeA, h' x (by simp), h' y (by simp)]
  case box t x => simp [mop, boxA, h' x (by simp)]
  case alloc t => rfl
  case build t ps => simp only [mop, buildA]; rw [partsA_congr (tm' := tm') (fun x hx => h' x.2 (List.mem_map.2 ⟨x, hx, rfl⟩))]
  case buildSlice t l ps => simp only [mop, buildSliceA]; rw [partsA_congr (tm' := tm') (fun x hx => h' x.2 (List.mem_map.2 ⟨x, hx, rfl⟩))]
  case move x => simp [mop, qop, h' x (by simp)]
  case assign x => simp [mop, qop, h' x (by simp)]
  case pick c x y => simp [mop, qop, h' c (by simp), h' x (by simp), h' y (by simp)]
  case extract x i => simp [mop, qop, h' x (by simp)]
  case nilCheck x => simp [mop, qop, h' x (by simp)]
  case binOp op t x y u => simp [mop, qop, h' x (by simp), h' y (by simp)]
  case unOp op t x => simp [mop, qop, h' x (by simp)]
  case convert s t x => simp [mop, qop, h' x (by simp)]
  case fieldAddr t x f => simp [mop, qop, h' x (by simp)]
  case field t x f => simp [mop, qop, h' x (by simp)]
  case load t x => simp [mop, qop, h' x (by simp)]
  case makeFunc f a b =>
    cases f with
    | func g =>
      simp only [mop, qop]
      rw [List.map_congr_left (g := ev tm') (l := a.toList) fun x hx => h' x (by simp; left; simpa using hx), List.map_congr_left (g := ev tm') (l := b.toList) fun x hx => h' x (by simp; right; simpa using hx)]
    | _ => rfl
  case call c =>
    obtain ⟨callee, args, ts⟩ := c
    cases callee with
    | builtin b =>
      simp only [mop, qop]
      rw [List.map_congr_left (g := ev tm') (l := args.toList) fun x hx => h' x (by simp [Call.operands]; simpa using hx)]
    | _ => rfl
  all_goals rfl

section
variable (P : Program) (f : FuncId) (ro : Option Nat) (n : Nat) (k : List Item) (df : List Nat) (Q : AE → Store → Prop) (ops : Array Oper)
/-- AN OPERATION THAT LOOKS AT THESE VALUES MAY BE TAKEN TO YIELD THAT. -/
def Sem (o : Oper) (i : Nat) (vs : List V) (σ : Store) (v : V) (σ' : Store) : Prop :=
  ∀ (rest : List Nat) (tm : List V), valsOf tm o = vs → wantA ops o tm = some true → AW P f ro n (.inRegion ops rest :: k) (put tm o.dst v) σ' df Q → AW P f ro n (.inRegion ops (i :: rest) :: k) tm σ df Q
def Eff (o : Oper) (i : Nat) (tm : List V) (σ : Store) (v : V) (σ' : Store) : Prop :=
  (wantA ops o tm = some false ∧ v = .undef ∧ σ' = σ) ∨ (wantA ops o tm = some true ∧ Sem P f ro n k df Q ops o i (valsOf tm o) σ v σ')
def EffC (c : Nat) (o : Oper) (i : Nat) (tm : List V) (σ : Store) (v : V) (σ' : Store) : Prop :=
  match c with
  | 0 => σ' = σ ∧ ∀ s, Eff P f ro n k df Q ops o i tm s v s
  | 1 => σ' = σ ∧ Eff P f ro n k df Q ops o i tm σ v σ
  | _ => Eff P f ro n k df Q ops o i tm σ v σ'
/-- One operation; 'c': its class: 0: it has nothing to do with the store; 1: it looks at it; 2: it changes it. -/
def StepQ (c : List Nat) (i : Nat) (s s' : List V × Store) : Prop :=
  (∃ o v, ops[i]? = some o ∧ s'.1 = put s.1 o.dst v ∧ EffC P f ro n k df Q ops (c.getD i 2) o i s.1 s.2 v s'.2 ∧ c.getD i 2 ≠ 3) ∨
  (c.getD i 2 = 3 ∧ ∀ rest, AW P f ro n (.inRegion ops rest :: k) s'.1 s'.2 df Q → AW P f ro n (.inRegion ops (i :: rest) :: k) s.1 s.2 df Q)
end

def clash (a b : Nat) : Bool := match a, b with
  | 3, _ => true
  | _, 3 => true
  | 0, _ => false
  | _, 0 => false
  | 1, 1 => false
  | _, _ => true
/-- Have two operations to do with one another? -/
def depB (ops : Array Oper) (c : List Nat) (i j : Nat) : Bool :=
  match ops[i]?, ops[j]? with
  | some x, some y => !(x.apart ops y) || !(y.apart ops x) || clash (c.getD i 2) (c.getD j 2)
  | _, _ => true
theorem clash_symm (a b : Nat) : clash a b = clash b a := by
  unfold clash
  rcases a with _ | _ | _ | _ | a <;> rcases b with _ | _ | _ | _ | b <;> rfl
theorem depB_symm (ops : Array Oper) (c : List Nat) (i j : Nat) : depB ops c i j = depB ops c j i := by
  unfold depB
  cases ops[i]? <;> cases ops[j]? <;> simp [clash_symm, Bool.or_comm]

section
variable {P : Program} {f : FuncId} {ro : Option Nat} {n : Nat} {k : List Item} {df : List Nat} {Q : AE → Store → Prop} {ops : Array Oper}
theorem Eff.put {o : Oper} {i : Nat} {tm : List V} {d : Option Tmp} {u v : V} {σ σ' : Store} (h : ∀ t, d = some t → t ∉ o.looksAt ops) : Eff P f ro n k df Q ops o i (put tm d u) σ v σ' ↔ Eff P f ro n k df Q ops o i tm σ v σ' := by
  unfold Eff
  rw [wantA_put h, valsOf_put h]
theorem stepQ_swap {c : List Nat} (i j : Nat) (hd : depB ops c i j = false) (s a b : List V × Store) (hi : StepQ P f ro n k df Q ops c i s a) (hj : StepQ P f ro n k df Q ops c j a b) :
    ∃ a', StepQ P f ro n k df Q ops c j s a' ∧ StepQ P f ro n k df Q ops c i a' b := by
  have no3 : ∀ a, clash 3 a = true := fun a => rfl
  have no3' : ∀ a, clash a 3 = true := fun a => by rw [clash_symm]; rfl
  rcases hi with hi | ⟨hi3, _⟩
  case inr =>
    exfalso
    unfold depB at hd
    cases hx : ops[i]? with
    | none => simp [hx] at hd
    | some x => cases hy : ops[j]? with
      | none => simp [hx, hy] at hd
      | some y => simp only [hx, hy, hi3, no3, Bool.or_true, Bool.true_eq_false] at hd
  rcases hj with hj | ⟨hj3, _⟩
  case inr =>
    exfalso
    unfold depB at hd
    cases hx : ops[i]? with
    | none => simp [hx] at hd
    | some x => cases hy : ops[j]? with
      | none => simp [hx, hy] at hd
      | some y => simp only [hx, hy, hj3, no3', Bool.or_true, Bool.true_eq_false] at hd
  obtain ⟨x, u, hx, hxa, hxe, hx3⟩ := hi
  obtain ⟨y, v, hy, hya, hye, hy3⟩ := hj
  obtain ⟨tm, σ⟩ := s
  obtain ⟨tm1, σ1⟩ := a
  obtain ⟨tm2, σ2⟩ := b
  simp only [] at hxa hxe hya hye
  subst hxa hya
  unfold depB at hd
  simp only [hx, hy, Bool.or_eq_false_iff, Bool.not_eq_false'] at hd
  obtain ⟨⟨h1, h2⟩, h3⟩ := hd
  obtain ⟨g1, g2, g3⟩ := Oper.apart_spec h1
  have e1 : ∀ σ σ' w, Eff P f ro n k df Q ops y j (Br.put tm x.dst u) σ w σ' ↔ Eff P f ro n k df Q ops y j tm σ w σ' := fun σ σ' w => Eff.put g1
  have e2 : ∀ σ σ' w, Eff P f ro n k df Q ops x i (Br.put tm y.dst v) σ w σ' ↔ Eff P f ro n k df Q ops x i tm σ w σ' := fun σ σ' w => Eff.put g3
  have hc : Br.put (Br.put tm x.dst u) y.dst v = Br.put (Br.put tm y.dst v) x.dst u := put_comm fun d hd => g2 d hd
  have key : ∃ σm, EffC P f ro n k df Q ops (c.getD j 2) y j tm σ v σm ∧ EffC P f ro n k df Q ops (c.getD i 2) x i (Br.put tm y.dst v) σm u σ2 := by
    unfold EffC at *
    generalize c.getD i 2 = ci at *
    generalize c.getD j 2 = cj at *
    have h3' : ∀ a b, a ≠ 3 → b ≠ 3 → clash a b = false → a = 0 ∨ b = 0 ∨ (a = 1 ∧ b = 1) := by
      intro a b ha hb h
      rcases a with _ | _ | _ | _ | a <;> rcases b with _ | _ | _ | _ | b <;> simp_all [clash]
    have h4 := h3' _ _ hx3 hy3 h3
    clear h3 h3' no3 no3' hx3 hy3
    rcases ci with _ | _ | ci <;> rcases cj with _ | _ | cj <;> (try (exfalso; omega)) <;> simp only [e1, e2] at *
    · obtain ⟨rfl, k1⟩ := hxe; obtain ⟨rfl, k2⟩ := hye; exact ⟨_, ⟨rfl, k2⟩, rfl, k1⟩
    · obtain ⟨rfl, k1⟩ := hxe; obtain ⟨rfl, k2⟩ := hye; exact ⟨_, ⟨rfl, k2⟩, rfl, k1⟩
    · obtain ⟨rfl, k1⟩ := hxe; exact ⟨_, hye, rfl, k1⟩
    · obtain ⟨rfl, k1⟩ := hxe; obtain ⟨rfl, k2⟩ := hye; exact ⟨_, ⟨rfl, k2⟩, rfl, k1⟩
    · obtain ⟨rfl, k1⟩ := hxe; obtain ⟨rfl, k2⟩ := hye; exact ⟨_, ⟨rfl, k2⟩, rfl, k1⟩
    · obtain ⟨rfl, k2⟩ := hye; exact ⟨_, ⟨rfl, k2⟩, hxe⟩
  obtain ⟨σm, k1, k2⟩ := key
  exact ⟨(Br.put tm y.dst v, σm), .inl ⟨y, v, hy, rfl, k1, hy3⟩, .inl ⟨x, u, hx, hc, k2, hx3⟩⟩
theorem stepQ_sound {c : List Nat} {i : Nat} {rest : List Nat} {s s' : List V × Store} (h : StepQ P f ro n k df Q ops c i s s') (hn : AW P f ro n (.inRegion ops rest :: k) s'.1 s'.2 df Q) : AW P f ro n (.inRegion ops (i :: rest) :: k) s.1 s.2 df Q := by
  rcases h with ⟨o, v, hi, h1, h2, _⟩ | ⟨_, h⟩
  case inr => exact h rest hn
  have h3 : Eff P f ro n k df Q ops o i s.1 s.2 v s'.2 := by
    unfold EffC at h2
    split at h2
    · rw [h2.1]; exact h2.2 _
    · rw [h2.1]; exact h2.2
    · exact h2
  rw [h1] at hn
  rcases h3 with ⟨h4, rfl, h5⟩ | ⟨h4, h5⟩
  · rw [h5] at hn; exact .opSkip hi h4 hn
  · exact h5 rest s.1 rfl h4 hn
theorem run_sound {c : List Nat} : ∀ {L : List Nat} {s s' : List V × Store}, Run (StepQ P f ro n k df Q ops c) L s s' → AW P f ro n (.inRegion ops [] :: k) s'.1 s'.2 df Q → AW P f ro n (.inRegion ops L :: k) s.1 s.2 df Q
  | [], s, s', h, hn => by subst h; exact hn
  | i :: L, s, s', ⟨s1, h1, h2⟩, hn => stepQ_sound h1 (run_sound h2 hn)

/-- Whatever order is drawn. -/
theorem AW.order {id : Nat} {tm : List V} {σ : Store} (hm : P.follows .mixedOrders = true) (hE : edgesB ops = true) (h : ∀ L, Ord ops L → AW P f ro n (.inRegion ops L :: k) tm σ df Q) : AW P f ro n (.code (.region id ops true) :: k) tm σ df Q := by
  intro w I ρ a rb hr hb hn
  have hI : ∀ b, I b → I b ∧ w.drew.heap[b]? = w.heap[b]? := fun b hb => ⟨hb, rfl⟩
  have hS : ∀ l, l < σ.length → Same ρ σ ρ σ l := fun l hl => ⟨hl, fun o' h1 h2 => ⟨rfl, o', h1, h2, rfl⟩⟩
  have hr' : Rel w.drew I ρ σ tm df a := ⟨vrL_all hI hS hr.tms, ⟨fun l o ho => orel_all hI hS rfl (fun _ _ => rfl) (hr.ors.objs l o ho), hr.ors.inj, hr.ors.flt, hr.ors.imm⟩, hr.dfs⟩
  have hx := Ext.refl w I ρ σ
  have hX : Ext n w I ρ σ w.drew I ρ σ := ⟨Nat.le_refl _, rfl, rfl, rfl, fun _ _ _ => rfl, hx.immI, hx.immN, hx.footN, hn, fun l _ => hx.alive l (by omega), fun l o' hl => hx.fixed l o' (by omega), fun l o hl => hx.stay l o (by omega)⟩
  exact .step (fun cs => st_region_draw) ((h _ (ord_of hm hE _) w.drew I ρ a rb hr' hb hn).mono fun e w' hf => hf.trans hX)
end
end Go.Br
