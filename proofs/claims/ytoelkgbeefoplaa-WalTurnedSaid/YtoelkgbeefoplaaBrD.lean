/- The base of these proofs, part D: more operations that leave memory as it is; loads. -/
import Derived.Test.YtoelkgbeefoplaaBrC
namespace Go.Br
open Go

def liveB (σ : Store) (l : Nat) : Bool := match σ[l]? with | some .dead => false | some _ => true | none => false
theorem live_of {σ : Store} {l : Nat} (h : liveB σ l = true) : live σ l := by
  unfold liveB at h
  cases hs : σ[l]? with
  | none => simp [hs] at h
  | some o => cases o <;> simp_all [live]

/-- Is it a pointer: some says whether it is nil. -/
def nilOf (σ : Store) : V → Option Bool
  | .d (.raw (.pointer none)) => some true
  | .ptr l _ _ => if liveB σ l then some false else none
  | .ep _ _ _ => some false
  | _ => none

section ops
variable {P : Program} {w : World} {I : Nat → Prop} {ρ : LM} {σ : Store}
theorem nilOf_rel {v : V} {x : Value} {b : Bool} (h : nilOf σ v = some b) (hv : vr w I ρ σ v x) : (b = true ∧ x = .pointer none) ∨ (b = false ∧ ∃ a, x = .pointer (some a)) := by
  unfold nilOf at h
  split at h
  · cases h; simp only [vr, Dr] at hv; exact .inl ⟨rfl, hv.1⟩
  · split at h
    · rename_i hl
      cases h
      simp only [vr] at hv
      obtain ⟨L, _, hx⟩ := hv.2.2 (live_of hl)
      exact .inr ⟨rfl, _, hx⟩
    · cases h
  · cases h
    simp only [vr] at hv
    obtain ⟨b, o, hx, _⟩ := hv
    exact .inr ⟨rfl, _, hx⟩
  · cases h

def isPtrT (P : Program) (t : TypeId) : Bool := match P.underlying t with | some (.pointer _) => true | _ => false
def eqRes (op : BinOp) (r : Bool) : Option V := match op with | .eql => some (.d (.bool r)) | .neq => some (.d (.bool (!r))) | _ => none
/-- A pointer against nil. -/
def ptrBin (P : Program) (σ : Store) (op : BinOp) (t : TypeId) (x y : V) : Option V :=
  if isPtrT P t then
    match nilOf σ x, nilOf σ y with
    | some true, some b => eqRes op b
    | some false, some true => eqRes op false
    | _, _ => none
  else none
theorem run_eq_ptr1 (d : Nat) {t el : TypeId} (hu : P.underlying t = some (.pointer el)) (b : Option Addr) : (Op.equalIn (d + 1) t (.pointer none) (.pointer b)).run P w = .ok b.isNone w := by
  simp [Op.equalIn, run_underlying hu]
theorem run_eq_ptr2 (d : Nat) {t el : TypeId} (hu : P.underlying t = some (.pointer el)) (a : Addr) : (Op.equalIn (d + 1) t (.pointer (some a)) (.pointer none)).run P w = .ok false w := by
  simp [Op.equalIn, run_underlying hu]
theorem run_bin_ptr {t el : TypeId} (hu : P.underlying t = some (.pointer el)) (a b : Option Addr) (r : Bool) (h : a = none ∧ r = b.isNone ∨ a ≠ none ∧ b = none ∧ r = false) :
    (binOp .eql t (.pointer a) (.pointer b)).run P w = .ok (.bool r) w ∧ (binOp .neq t (.pointer a) (.pointer b)).run P w = .ok (.bool (!r)) w := by
  have key : (Op.equal t (.pointer a) (.pointer b)).run P w = .ok r w := by
    show (Op.equalIn (9999 + 1) t (.pointer a) (.pointer b)).run P w = _
    rcases h with ⟨rfl, rfl⟩ | ⟨h1, rfl, rfl⟩
    · exact run_eq_ptr1 9999 hu b
    · cases a with
      | none => exact absurd rfl h1
      | some a => exact run_eq_ptr2 9999 hu a
  constructor <;> simp [binOp, key]
theorem ptrBin_ok {op : BinOp} {t ty : TypeId} {x y : Operand} {e : Operand → Value} {o : Oper} {vx vy v : V} (ho : o.op = .binOp op t x y ty) (h : ptrBin P σ op t vx vy = some v)
    (hx : vr w I ρ σ vx (e x)) (hy : vr w I ρ σ vy (e y)) : ∃ z, (execOp e o).run P w = .ok (.value z) w ∧ vr w I ρ σ v z := by
  unfold ptrBin at h
  split at h
  · rename_i hp
    have hu : ∃ el, P.underlying t = some (.pointer el) := by
      unfold isPtrT at hp
      split at hp
      · rename_i el hu; exact ⟨el, hu⟩
      · cases hp
    obtain ⟨el, hu⟩ := hu
    have key : ∀ (a b : Option Addr) (r : Bool), e x = .pointer a → e y = .pointer b → (a = none ∧ r = b.isNone ∨ a ≠ none ∧ b = none ∧ r = false) →
        eqRes op r = some v → ∃ z, (execOp e o).run P w = .ok (.value z) w ∧ vr w I ρ σ v z := by
      intro a b r ha hb hr hv
      obtain ⟨h1, h2⟩ := run_bin_ptr (w := w) hu a b r hr
      cases op <;> simp only [eqRes, reduceCtorEq, Option.some.injEq] at hv <;> subst hv
      · exact ⟨.bool r, by simp [execOp, ho, eqGuard, ha, hb, h1], by simp [vr, Dr]⟩
      · exact ⟨.bool (!r), by simp [execOp, ho, eqGuard, ha, hb, h2], by simp [vr, Dr]⟩
    split at h
    · rename_i b h1 h2
      rcases nilOf_rel h1 hx with ⟨_, hx'⟩ | ⟨hc, _⟩
      · rcases nilOf_rel h2 hy with ⟨hb, hy'⟩ | ⟨hb, a, hy'⟩ <;> subst hb
        · exact key none none true hx' hy' (.inl ⟨rfl, rfl⟩) h
        · exact key none (some a) false hx' hy' (.inl ⟨rfl, rfl⟩) h
      · cases hc
    · rename_i h1 h2
      rcases nilOf_rel h1 hx with ⟨hc, _⟩ | ⟨_, a, hx'⟩
      · cases hc
      · rcases nilOf_rel h2 hy with ⟨_, hy'⟩ | ⟨hb, _⟩
        · exact key (some a) none false hx' hy' (.inr ⟨by simp, rfl, rfl⟩) h
        · cases hb
    · cases h
  · cases h

def unV (op : UnOp) : V → Option V
  | .d (.int k n) => match op with
    | .neg => some (.d (.int k (k.wrap (0 - n))))
    | .xor => some (.d (.int k (k.wrap (BitVec.ofInt k.bits (if k.signed then -1 else k.max) ^^^ BitVec.ofInt k.bits n).toNat)))
    | _ => none
  | .d (.bool b) => match op with | .not => some (.d (.bool (!b))) | _ => none
  | _ => none
theorem unV_ok {op : UnOp} {t : TypeId} {x : Operand} {e : Operand → Value} {o : Oper} {vx v : V} (ho : o.op = .unOp op t x) (h : unV op vx = some v) (hx : vr w I ρ σ vx (e x)) :
    ∃ z, (execOp e o).run P w = .ok (.value z) w ∧ vr w I ρ σ v z := by
  unfold unV at h
  split at h
  · simp only [vr, Dr] at hx
    cases op <;> simp only [reduceCtorEq, Option.some.injEq] at h <;> subst h <;> simp [execOp, ho, hx, Op.unary, Op.intArith, Op.intBits, vr, Dr]
  · simp only [vr, Dr] at hx
    cases op <;> simp only [reduceCtorEq, Option.some.injEq] at h <;> subst h <;> simp [execOp, ho, hx, Op.unary, vr, Dr]
  · cases h

def intT (P : Program) (t : TypeId) : Option IntKind := match P.underlying t with | some (.int k) => some k | _ => none
theorem intT_und {t : TypeId} {k : IntKind} (h : intT P t = some k) : P.underlying t = some (.int k) := by
  unfold intT at h
  split at h
  · cases h; assumption
  · cases h
def convV (P : Program) (s t : TypeId) : V → Option V
  | .d (.int _ n) => match intT P s, intT P t with | some _, some k => some (.d (.int k (k.wrap n))) | _, _ => none
  | _ => none
theorem convV_ok {s t : TypeId} {x : Operand} {e : Operand → Value} {o : Oper} {vx v : V} (ho : o.op = .convert s t x) (h : convV P s t vx = some v) (hx : vr w I ρ σ vx (e x)) :
    ∃ z, (execOp e o).run P w = .ok (.value z) w ∧ vr w I ρ σ v z := by
  unfold convV at h
  split at h
  · simp only [vr, Dr] at hx
    split at h
    · rename_i k1 k2 h1 h2
      cases h
      simp [execOp, ho, hx, convert, run_underlying (intT_und h1), run_underlying (intT_und h2), Conv.intToInt, vr, Dr]
    · cases h
  · cases h

def pickV : V → V → V → Option V
  | .d (.bool true), a, _ => some a
  | .d (.bool false), _, b => some b
  | _, _, _ => none
theorem pickV_ok {c x y : Operand} {e : Operand → Value} {o : Oper} {vc vx vy v : V} (ho : o.op = .pick c x y) (h : pickV vc vx vy = some v) (hc : vr w I ρ σ vc (e c)) (hx : vr w I ρ σ vx (e x)) (hy : vr w I ρ σ vy (e y)) :
    ∃ z, (execOp e o).run P w = .ok (.value z) w ∧ vr w I ρ σ v z := by
  unfold pickV at h
  split at h
  · cases h; simp only [vr, Dr] at hc; exact ⟨_, by simp [execOp, ho, hc, asBool], hx⟩
  · cases h; simp only [vr, Dr] at hc; exact ⟨_, by simp [execOp, ho, hc, asBool], hy⟩
  · cases h
/-- Both sides are truths. -/
theorem pickB_ok {c x y : Operand} {e : Operand → Value} {o : Oper} {b p q : Bool} (ho : o.op = .pick c x y) (hc : vr w I ρ σ (.d (.bool b)) (e c)) (hx : b = true → vr w I ρ σ (.d (.bool p)) (e x)) (hy : b = false → vr w I ρ σ (.d (.bool q)) (e y)) :
    ∃ z, (execOp e o).run P w = .ok (.value z) w ∧ vr w I ρ σ (.d (.bool (cond b p q))) z := by
  simp only [vr, Dr] at hc
  cases b with
  | true => exact ⟨_, by simp [execOp, ho, hc, asBool], hx rfl⟩
  | false => exact ⟨_, by simp [execOp, ho, hc, asBool], hy rfl⟩

def extV (i : Nat) : V → Option V
  | .tuple vs => vs[i]?
  | _ => none
theorem extV_ok {i : Nat} {x : Operand} {e : Operand → Value} {o : Oper} {vx v : V} (ho : o.op = .extract x i) (h : extV i vx = some v) (hx : vr w I ρ σ vx (e x)) :
    ∃ z, (execOp e o).run P w = .ok (.value z) w ∧ vr w I ρ σ v z := by
  unfold extV at h
  split at h
  · simp only [vr] at hx
    obtain ⟨xs, he, hl⟩ := hx
    obtain ⟨z, h1, h2⟩ := vrL_get? hl h
    exact ⟨z, by simp [execOp, ho, he, Instr.extract, h1], h2⟩
  · cases h

def nilV (σ : Store) : V → Option V
  | .ptr l i s => if liveB σ l then some (.ptr l i s) else none
  | .ep sz x s => some (.ep sz x s)
  | .fn (.func f) a b => some (.fn (.func f) a b)
  | .yield l => if liveB σ l then some (.yield l) else none
  | _ => none
theorem nilV_ok {x : Operand} {e : Operand → Value} {o : Oper} {vx v : V} (ho : o.op = .nilCheck x) (h : nilV σ vx = some v) (hx : vr w I ρ σ vx (e x)) :
    ∃ z, (execOp e o).run P w = .ok (.value z) w ∧ vr w I ρ σ v z := by
  unfold nilV at h
  split at h
  · split at h
    · rename_i hl
      cases h
      have hx' := hx
      simp only [vr] at hx
      obtain ⟨L, _, he⟩ := hx.2.2 (live_of hl)
      exact ⟨e x, by simp [execOp, ho, he], hx'⟩
    · cases h
  · cases h
    have hx' := hx
    simp only [vr] at hx
    obtain ⟨b, q, he, _⟩ := hx
    exact ⟨e x, by simp [execOp, ho, he], hx'⟩
  · cases h
    have hx' := hx
    simp only [vr] at hx
    obtain ⟨fs, cs, he, _⟩ := hx
    exact ⟨e x, by simp [execOp, ho, he], hx'⟩
  · split at h
    · rename_i hl
      cases h
      have hx' := hx
      simp only [vr] at hx
      obtain ⟨L, _, he⟩ := hx.2.2 (live_of hl)
      exact ⟨e x, by simp [execOp, ho, he], hx'⟩
    · cases h
  · cases h

/-- A struct's field: where it begins, its type. -/
def fieldOf (P : Program) (t : TypeId) (f : Nat) : Option (Nat × TypeId) :=
  match P.underlying t with
  | some (.struct fs) => match fs[f]? with
    | some g => match P.info? g.type with
      | some i => if i.size = 0 then none else some (g.offset, g.type)
      | none => none
    | none => none
  | _ => none
theorem fieldOf_spec {t : TypeId} {f : Nat} {p : Nat × TypeId} (h : fieldOf P t f = some p) : ∃ fs g i, P.underlying t = some (.struct fs) ∧ fs[f]? = some g ∧ P.info? g.type = some i ∧ i.size ≠ 0 ∧ p = (g.offset, g.type) := by
  unfold fieldOf at h
  split at h
  · split at h
    · split at h
      · split at h
        · cases h
        · cases h; exact ⟨_, _, _, by assumption, by assumption, by assumption, by assumption, rfl⟩
      · cases h
    · cases h
  · cases h
theorem addr_add (b o n : Nat) : (⟨b, o, none⟩ : Addr).add n = ⟨b, o + n, none⟩ := by
  unfold Addr.add; split <;> simp_all

def faV (P : Program) (t : TypeId) (f : Nat) : V → Option V
  | .ptr l i s => (fieldOf P t f).map fun p => .ptr l i (s + p.1)
  | .ep sz x s => (fieldOf P t f).map fun p => .ep sz x (s + p.1)
  | _ => none
theorem faV_ok {t : TypeId} {f : Nat} {x : Operand} {e : Operand → Value} {o : Oper} {vx v : V} (ho : o.op = .fieldAddr t x f) (h : faV P t f vx = some v) (hn : nilOf σ vx = some false) (hx : vr w I ρ σ vx (e x)) :
    ∃ z, (execOp e o).run P w = .ok (.value z) w ∧ vr w I ρ σ v z := by
  unfold faV at h
  split at h
  · simp only [Option.map_eq_some_iff] at h
    obtain ⟨p, hp, rfl⟩ := h
    obtain ⟨fs, g, i, h1, h2, h3, h4, rfl⟩ := fieldOf_spec hp
    rename_i l i0 s
    have hl : liveB σ l = true := by
      simp only [nilOf] at hn; split at hn <;> simp_all
    simp only [vr] at hx
    obtain ⟨L, hL, he⟩ := hx.2.2 (live_of hl)
    refine ⟨.pointer (some ⟨L.b, L.o + i0 * L.sz + s + g.offset, none⟩), ?_, ?_⟩
    · simp [execOp, ho, he, Instr.fieldAt, run_underlying h1, h2, Instr.sureAddr, fieldPlace, sizeOf, typeInfo, h3, h4, addr_add]
    · simp only [vr]
      exact ⟨rfl, hx.2.1, fun _ => ⟨L, hL, by simp [Nat.add_assoc]⟩⟩
  · simp only [Option.map_eq_some_iff] at h
    obtain ⟨p, hp, rfl⟩ := h
    obtain ⟨fs, g, i, h1, h2, h3, h4, rfl⟩ := fieldOf_spec hp
    rename_i sz y s
    simp only [vr] at hx
    obtain ⟨b, q, he, hI, u, h5, h6, h7⟩ := hx
    refine ⟨.pointer (some ⟨b, q + s + g.offset, none⟩), ?_, ?_⟩
    · simp [execOp, ho, he, Instr.fieldAt, run_underlying h1, h2, Instr.sureAddr, fieldPlace, sizeOf, typeInfo, h3, h4, addr_add]
    · simp only [vr]
      exact ⟨b, q, by simp [Nat.add_assoc], hI, u, h5, h6, h7⟩
  · cases h

def fieldV (P : Program) (t : TypeId) (f : Nat) (v : V) : Option V :=
  match v with
  | .d (.agg cs) => (fieldOf P t f).bind fun p => partV P p.2 (cs.map .d) p.1
  | .agg cs => (fieldOf P t f).bind fun p => partV P p.2 cs p.1
  | _ => none
theorem fieldV_ok {t : TypeId} {f : Nat} {x : Operand} {e : Operand → Value} {o : Oper} {vx v : V} (ho : o.op = .field t x f) (h : fieldV P t f vx = some v) (hx : vr w I ρ σ vx (e x)) :
    ∃ z, (execOp e o).run P w = .ok (.value z) w ∧ vr w I ρ σ v z := by
  have key : ∀ (cs : List V) (xs : List Value), e x = .agg xs.toArray → vrL w I ρ σ cs xs → (∀ y ∈ xs, one y) → ((fieldOf P t f).bind fun p => partV P p.2 cs p.1) = some v → ∃ z, (execOp e o).run P w = .ok (.value z) w ∧ vr w I ρ σ v z := by
    intro cs xs he hl ho' h
    simp only [Option.bind_eq_some_iff] at h
    obtain ⟨p, hp, h⟩ := h
    obtain ⟨fs, g, i, h1, h2, h3, h4, rfl⟩ := fieldOf_spec hp
    obtain ⟨z, h5, h6⟩ := part_rel (w := w) (xs := xs.toArray) h (by simpa using hl) (by simpa using ho')
    exact ⟨z, by simp [execOp, ho, he, Instr.field, run_underlying h1, h2, asAgg, h5], h6⟩
  unfold fieldV at h
  split at h
  · simp only [vr, Dr] at hx
    obtain ⟨xs, he, hl⟩ := hx
    obtain ⟨h1, h2⟩ := DrL_vrL (ρ := ρ) (σ := σ) _ _ hl
    exact key _ xs he h1 h2 h
  · simp only [vr] at hx
    obtain ⟨xs, he, hl, h2⟩ := hx
    exact key _ xs he hl h2 h
  · cases h

theorem loadVar_cells {t : TypeId} {cs : List V} {b q s : Nat} {C : List Value} {v : V} (h : partV P t cs s = some v) (hr : vrL w I ρ σ cs C) (ho : ∀ x ∈ C, one x)
    (hc : ∀ j x, C[j]? = some x → w.cell? ⟨b, q + j, none⟩ = some x) : ∃ x, (loadVar t ⟨b, q + s, none⟩).run P w = .ok x w ∧ vr w I ρ σ v x := by
  unfold partV at h
  cases ha : aggOf P t with
  | none => simp [ha] at h
  | some bb =>
    cases bb with
    | some n =>
      simp only [ha, Option.ite_none_right_eq_some, Option.some.injEq] at h
      obtain ⟨hlen, h⟩ := h
      rw [← vrL_len hr] at hlen
      obtain ⟨i, hi, hn⟩ := aggOf_size ha
      have hl : (loadCells ⟨b, q + s, none⟩ ((C.drop s).take n).length).run P w = .ok ((C.drop s).take n).toArray w :=
        run_loadCells_list (P := P) w ⟨b, q + s, none⟩ _ (fun j y hj => by
          rw [addr_add]
          have hj' : C[s + j]? = some y := by
            rw [List.getElem?_take] at hj
            split at hj
            · simpa using hj
            · cases hj
          have := hc (s + j) y hj'
          rw [← this]
          congr 2
          omega)
      have hlt : ((C.drop s).take n).length = n := by simp; omega
      rw [hlt] at hl
      refine ⟨.agg ((C.drop s).take n).toArray, ?_, ?_⟩
      · simp [loadVar, isAgg_run ha, sizeOf, typeInfo, hi, hn, hl]
      · subst h
        exact mkAgg_rel (vrL_take (vrL_drop hr s) n) fun x hx => ho x (List.mem_of_mem_drop (List.mem_of_mem_take hx))
    | none =>
      simp only [ha] at h
      obtain ⟨x, hx, hv⟩ := vrL_get? hr h
      exact ⟨x, by simp [loadVar, isAgg_run ha, hc s x hx], hv⟩

theorem Dr_cells {x : D} {u : Value} (h : Dr w I x u) : ∃ vs, cellsV (.d x) = some vs ∧ vrL w I ρ σ vs u.cells.toList ∧ ∀ c ∈ u.cells.toList, one c := by
  have hc : ∃ vs, cellsV (.d x) = some vs := by cases x <;> exact ⟨_, rfl⟩
  obtain ⟨vs, hc⟩ := hc
  obtain ⟨h1, h2⟩ := cells_rel (ρ := ρ) (σ := σ) hc (by simpa [vr] using h)
  exact ⟨vs, hc, h1, h2⟩
/-- A load out of an element of data. -/
def loadE (P : Program) (t : TypeId) (x : D) (s : Nat) : Option V := (cellsV (.d x)).bind fun cs => partV P t cs s
theorem loadE_ok {t : TypeId} {x : D} {u : Value} {b q s sz : Nat} {v : V} (h : loadE P t x s = some v) (hu : Dr w I x u) (hsz : u.cells.size = sz) (hc : ∀ j, j < sz → w.cell? ⟨b, q + j, none⟩ = u.cells[j]?) :
    ∃ z, (loadVar t ⟨b, q + s, none⟩).run P w = .ok z w ∧ vr w I ρ σ v z := by
  obtain ⟨vs, h1, h2, h3⟩ := Dr_cells (ρ := ρ) (σ := σ) hu
  unfold loadE at h
  rw [h1] at h
  simp only [Option.bind_some] at h
  refine loadVar_cells h h2 h3 fun j y hj => ?_
  have hlt : j < sz := by
    have := (List.getElem?_eq_some_iff.1 hj).1
    simp at this; omega
  rw [hc j hlt]
  simpa using hj
/-- A load. -/
def loadV (P : Program) (σ : Store) (t : TypeId) : V → Option V
  | .ptr l 0 s => match σ[l]? with
    | some (.cells cs) => partV P t cs s
    | _ => none
  | .ep _ x s => loadE P t x s
  | _ => none
theorem loadV_ok {t : TypeId} {x : Operand} {e : Operand → Value} {o : Oper} {vx v : V} (ho : o.op = .load t x) (h : loadV P σ t vx = some v) (hx : vr w I ρ σ vx (e x)) (hO : ORel w I ρ σ) :
    ∃ z, (execOp e o).run P w = .ok (.value z) w ∧ vr w I ρ σ v z := by
  unfold loadV at h
  split at h
  · rename_i l s
    split at h
    · rename_i cs hs
      simp only [vr] at hx
      obtain ⟨L, hL, he⟩ := hx.2.2 ⟨_, hs, by simp⟩
      obtain ⟨L', C, T, fz, hL', h0, hh, _, hr, hone⟩ := hO.objs l _ hs
      rw [hL] at hL'; cases hL'
      obtain ⟨z, h1, h2⟩ := loadVar_cells (w := w) (b := L.b) (q := 0) h hr hone (fun j y hj => by simp [World.cell?, hh]; simpa using hj)
      refine ⟨z, ?_, h2⟩
      simp only [h0, Nat.zero_mul, Nat.add_zero, Nat.zero_add] at he h1
      simp [execOp, ho, he, Instr.loadAt, Instr.sureAddr, h1]
    · cases h
  · rename_i sz y s
    simp only [vr] at hx
    obtain ⟨b, q, he, _, u, h1, h2, h3⟩ := hx
    obtain ⟨z, h4, h5⟩ := loadE_ok (ρ := ρ) (σ := σ) h h1 h2 h3
    exact ⟨z, by simp [execOp, ho, he, Instr.loadAt, Instr.sureAddr, h4], h5⟩
  · cases h

/-- How many there are. -/
def lenV (σ : Store) : V → Option Nat
  | .d (.list _ xs) => some xs.length
  | .nils => some 0
  | .ex _ xs => some xs.length
  | .row l => match σ[l]? with | some (.row _ xs _) => some xs.length | _ => none
  | .sl l _ n _ => match σ[l]? with | some (.row _ _ _) => some n | _ => none
  | _ => none
theorem rowV_slice {l off n : Nat} {x : Value} (h : rowV ρ l off n x) : ∃ a c, x = .slice a n c := by
  rcases h with ⟨rfl, a, rfl⟩ | ⟨L, _, _, rfl⟩
  · exact ⟨a, 0, rfl⟩
  · exact ⟨_, _, rfl⟩
theorem lenV_rel {v : V} {x : Value} {n : Nat} (h : lenV σ v = some n) (hv : vr w I ρ σ v x) : ∃ a c, x = .slice a n c := by
  unfold lenV at h
  split at h
  · cases h; simp only [vr, Dr] at hv; obtain ⟨a, c, rfl, _⟩ := hv; exact ⟨a, c, rfl⟩
  · cases h; simp only [vr] at hv; subst hv; exact ⟨none, 0, rfl⟩
  · cases h; simp only [vr] at hv; obtain ⟨a, rfl, _⟩ := hv; exact ⟨a, _, rfl⟩
  · split at h
    · rename_i hs
      cases h
      simp only [vr] at hv
      exact rowV_slice (hv.2.2 _ _ _ hs)
    · cases h
  · split at h
    · rename_i hs
      cases h
      simp only [vr] at hv
      exact rowV_slice (hv.2.2 _ _ _ hs).2.1
    · cases h
  · cases h
def isSliceT (P : Program) (t : TypeId) : Bool := match P.underlying t with | some (.slice _) => true | _ => false
def isStrT (P : Program) (t : TypeId) : Bool := match P.underlying t with | some .string => true | _ => false
theorem isSliceT_und {t : TypeId} (h : isSliceT P t = true) : ∃ e, P.underlying t = some (.slice e) := by
  unfold isSliceT at h; split at h
  · exact ⟨_, by assumption⟩
  · cases h
theorem isStrT_und {t : TypeId} (h : isStrT P t = true) : P.underlying t = some .string := by
  unfold isStrT at h; split at h
  · assumption
  · cases h
theorem map1 {α β : Type} {f : α → β} {xs : List α} {y : β} (h : xs.map f = [y]) : ∃ x, xs = [x] ∧ f x = y := by
  cases xs with
  | nil => simp at h
  | cons a t => cases t with
    | nil => simp at h; exact ⟨a, rfl, h⟩
    | cons b t => simp at h
theorem map2 {α β : Type} {f : α → β} {xs : List α} {y z : β} (h : xs.map f = [y, z]) : ∃ a b, xs = [a, b] ∧ f a = y ∧ f b = z := by
  cases xs with
  | nil => simp at h
  | cons a t => cases t with
    | nil => simp at h
    | cons b t => cases t with
      | nil => simp at h; exact ⟨a, b, rfl, h.1, h.2⟩
      | cons c t => simp at h
/-- Builtins of numbers alone. -/
def bltV (P : Program) (σ : Store) (b : Builtin) (ts : List TypeId) (vs : List V) : Option V :=
  match b, ts, vs with
  | .len, [t], [.d (.str s)] => if isStrT P t then some (.d (.int .i64 s.size)) else none
  | .len, [t], [v] => if isSliceT P t then (lenV σ v).map fun (n : Nat) => V.d (.int .i64 (n : Int)) else none
  | .max, _, [.d (.int k a), .d (.int _ b)] => some (.d (.int k (if b > a then b else a)))
  | .min, _, [.d (.int k a), .d (.int _ b)] => some (.d (.int k (if b < a then b else a)))
  | _, _, _ => none
theorem bltV_ok {b : Builtin} {xs : List Operand} {ts : List TypeId} {e : Operand → Value} {o : Oper} {v : V} {tm : List V} (ho : o.op = .call { callee := .builtin b, args := xs.toArray, argTypes := ts.toArray })
    (h : bltV P σ b ts (xs.map (ev tm)) = some v) (hx : ∀ x, vr w I ρ σ (ev tm x) (e x)) :
    ∃ z, (execOp e o).run P w = .ok (.value z) w ∧ vr w I ρ σ v z := by
  unfold bltV at h
  split at h
  · rename_i t s hm
    obtain ⟨x, rfl, hm'⟩ := map1 hm
    · have := hx x
      rw [hm'] at this
      simp only [vr, Dr] at this
      simp only [Option.ite_none_right_eq_some, Option.some.injEq] at h
      obtain ⟨ht, rfl⟩ := h
      exact ⟨.int .i64 s.size, by simp [execOp, ho, resolve, invoke, builtin, Builtin.len_, this, run_underlying (isStrT_und ht), goInt], by simp [vr, Dr]⟩
  · rename_i t y _ hm
    obtain ⟨x, rfl, hm'⟩ := map1 hm
    · have hv := hx x
      rw [hm'] at hv
      simp only [Option.ite_none_right_eq_some, Option.map_eq_some_iff] at h
      obtain ⟨ht, n, hn, rfl⟩ := h
      obtain ⟨el, ht⟩ := isSliceT_und ht
      obtain ⟨a, c, hxe⟩ := lenV_rel hn hv
      exact ⟨.int .i64 n, by simp [execOp, ho, resolve, invoke, builtin, Builtin.len_, hxe, run_underlying ht, goInt], by simp [vr, Dr]⟩
  · rename_i k a k' b' hm
    obtain ⟨x, y, rfl, hm1, hm2⟩ := map2 hm
    · have h1 := hx x
      have h2 := hx y
      rw [hm1] at h1; rw [hm2] at h2
      simp only [vr, Dr] at h1 h2
      cases h
      refine ⟨.int k (if b' > a then b' else a), ?_, by simp only [vr, Dr]⟩
      have := fun z : Array TypeId => run_max_int2 (P := P) w z o.type k k' a b'
      simp only [execOp, ho, resolve, invoke, builtin, Sem.run_bind, Sem.run_pure, Result.andThen_ok, List.map_toArray, List.map_cons, List.map_nil, h1, h2, this]
  · rename_i k a k' b' hm
    obtain ⟨x, y, rfl, hm1, hm2⟩ := map2 hm
    · have h1 := hx x
      have h2 := hx y
      rw [hm1] at h1; rw [hm2] at h2
      simp only [vr, Dr] at h1 h2
      cases h
      refine ⟨.int k (if b' < a then b' else a), ?_, by simp only [vr, Dr]⟩
      have := fun z : Array TypeId => run_min_int2 (P := P) w z o.type k k' a b'
      simp only [execOp, ho, resolve, invoke, builtin, Sem.run_bind, Sem.run_pure, Result.andThen_ok, List.map_toArray, List.map_cons, List.map_nil, h1, h2, this]
  · cases h

theorem ev_rel {tm : List V} {e : Operand → Value} (hx : ∀ x, vr w I ρ σ (ev tm x) (e x)) : ∀ xs : List Operand, vrL w I ρ σ (xs.map (ev tm)) (xs.map e)
  | [] => by simp [vrL]
  | x :: xs => by simp only [List.map_cons, vrL]; exact ⟨_, _, rfl, hx x, ev_rel hx xs⟩

/-- Operations that leave memory as it is. -/
def qop (P : Program) (tm : List V) (σ : Store) (o : Op) : Option V :=
  match o with
  | .move x | .assign x => some (ev tm x)
  | .pick c x y => pickV (ev tm c) (ev tm x) (ev tm y)
  | .extract x i => extV i (ev tm x)
  | .nilCheck x => nilV σ (ev tm x)
  | .binOp op t x y _ => match binV P op t (ev tm x) (ev tm y) with | some v => some v | none => ptrBin P σ op t (ev tm x) (ev tm y)
  | .unOp op _ x => unV op (ev tm x)
  | .convert s t x => convV P s t (ev tm x)
  | .fieldAddr t x f => if nilOf σ (ev tm x) = some false then faV P t f (ev tm x) else none
  | .field t x f => fieldV P t f (ev tm x)
  | .load t x => loadV P σ t (ev tm x)
  | .makeFunc (.func f) a b => some (.fn (.func f) (a.toList.map (ev tm)) (b.toList.map (ev tm)))
  | .call { callee := .builtin b, args, argTypes } => bltV P σ b argTypes.toList (args.toList.map (ev tm))
  | _ => none
theorem qop_ok {o : Oper} {e : Operand → Value} {tm : List V} {v : V} (h : qop P tm σ o.op = some v) (hx : ∀ x, vr w I ρ σ (ev tm x) (e x)) (hO : ORel w I ρ σ) :
    ∃ z, (execOp e o).run P w = .ok (.value z) w ∧ vr w I ρ σ v z := by
  unfold qop at h
  split at h
  · rename_i x ho; cases h; exact ⟨e x, by simp [execOp, ho], hx x⟩
  · rename_i x ho; cases h; exact ⟨e x, by simp [execOp, ho], hx x⟩
  · rename_i ho; exact pickV_ok ho h (hx _) (hx _) (hx _)
  · rename_i ho; exact extV_ok ho h (hx _)
  · rename_i ho; exact nilV_ok ho h (hx _)
  · rename_i ho
    split at h
    · rename_i hb; cases h; exact binV_ok ho hb (hx _) (hx _)
    · exact ptrBin_ok ho h (hx _) (hx _)
  · rename_i ho; exact unV_ok ho h (hx _)
  · rename_i ho; exact convV_ok ho h (hx _)
  · rename_i ho
    simp only [Option.ite_none_right_eq_some] at h
    exact faV_ok ho h.2 h.1 (hx _)
  · rename_i ho; exact fieldV_ok ho h (hx _)
  · rename_i ho; exact loadV_ok ho h (hx _) hO
  · rename_i f a b ho
    cases h
    refine ⟨.func (.func f) (a.map e) (b.map e), by simp [execOp, ho, Instr.makeFunc], ?_⟩
    simp only [vr]
    have ha : ∀ q : Array Operand, q.map e = (q.toList.map e).toArray := fun q => by apply Array.ext'; simp
    exact ⟨a.toList.map e, b.toList.map e, by rw [← ha, ← ha], ev_rel hx _, ev_rel hx _⟩
  · rename_i b args ts ho
    exact bltV_ok (xs := args.toList) (ts := ts.toList) (by simpa using ho) h hx
  · cases h
end ops
end Go.Br
