/- The base of these proofs, part C: operations that leave memory as it is. -/
import Derived.Test.YtoelkgbeefoplaaBrB
namespace Go.Br
open Go

/-- A value's cells. -/
def cellsV : V → Option (List V)
  | .d (.agg cs) => some (cs.map .d)
  | .agg vs => some vs
  | .undef | .tuple _ => none
  | v => some [v]

def datas : List V → Option (List D)
  | [] => some []
  | .d x :: vs => (datas vs).map (x :: ·)
  | _ => none
def mkAgg (vs : List V) : V := match datas vs with | some ds => .d (.agg ds) | none => .agg vs

section rel
variable {w : World} {I : Nat → Prop} {ρ : LM} {σ : Store}
theorem DrL_vrL : ∀ (cs : List D) (xs : List Value), DrL w I cs xs → vrL w I ρ σ (cs.map .d) xs ∧ ∀ x ∈ xs, one x
  | [], xs, h => by simp only [DrL] at h; subst h; simp [vrL]
  | c :: cs, xs, h => by
    simp only [DrL] at h
    obtain ⟨v, vs', rfl, h1, h2, h3⟩ := h
    obtain ⟨h4, h5⟩ := DrL_vrL cs vs' h3
    refine ⟨?_, ?_⟩
    · simp only [List.map_cons, vrL, vr]; exact ⟨v, vs', rfl, h2, h4⟩
    · intro x hx
      rcases List.mem_cons.1 hx with rfl | hx
      · exact h1
      · exact h5 x hx
theorem vrL_DrL : ∀ {vs : List V} {ds : List D} {xs : List Value}, datas vs = some ds → vrL w I ρ σ vs xs → (∀ x ∈ xs, one x) → DrL w I ds xs
  | [], ds, xs, h, hr, _ => by
    simp only [datas, Option.some.injEq] at h; subst h
    simp only [vrL] at hr; subst hr; simp [DrL]
  | v :: vs, ds, xs, h, hr, ho => by
    simp only [vrL] at hr
    obtain ⟨x, xs', rfl, h1, h2⟩ := hr
    cases v <;> simp only [datas, Option.map_eq_some_iff, reduceCtorEq] at h
    obtain ⟨ds', h3, rfl⟩ := h
    simp only [DrL]
    exact ⟨x, xs', rfl, ho x (by simp), by simpa [vr] using h1, vrL_DrL h3 h2 fun y hy => ho y (by simp [hy])⟩
theorem cells_rel {v : V} {x : Value} {vs : List V} (h : cellsV v = some vs) (hv : vr w I ρ σ v x) : vrL w I ρ σ vs x.cells.toList ∧ ∀ c ∈ x.cells.toList, one c := by
  cases v with
  | d y =>
    cases y with
    | agg cs =>
      simp only [cellsV, Option.some.injEq] at h; subst h
      simp only [vr, Dr] at hv
      obtain ⟨xs, rfl, h1⟩ := hv
      simpa [Value.cells] using DrL_vrL cs xs h1
    | int k n => simp only [cellsV, Option.some.injEq] at h; subst h; simp only [vr, Dr] at hv; subst hv; simp [vrL, vr, Dr, Value.cells, one, Value.oneCell']
    | bool b => simp only [cellsV, Option.some.injEq] at h; subst h; simp only [vr, Dr] at hv; subst hv; simp [vrL, vr, Dr, Value.cells, one, Value.oneCell']
    | str s => simp only [cellsV, Option.some.injEq] at h; subst h; simp only [vr, Dr] at hv; subst hv; simp [vrL, vr, Dr, Value.cells, one, Value.oneCell']
    | raw y =>
      simp only [cellsV, Option.some.injEq] at h; subst h
      simp only [vr, Dr] at hv
      obtain ⟨rfl, hv⟩ := hv
      cases x <;> simp_all [vrL, vr, Dr, Value.cells, one, Value.oneCell']
    | list sz xs =>
      simp only [cellsV, Option.some.injEq] at h; subst h
      have hv' := hv
      simp only [vr, Dr] at hv
      obtain ⟨a, cap, rfl, _⟩ := hv
      simp [vrL, Value.cells, one, Value.oneCell', hv']
  | agg vs' =>
    simp only [cellsV, Option.some.injEq] at h; subst h
    simp only [vr] at hv
    obtain ⟨xs, rfl, h1, h2⟩ := hv
    simpa [Value.cells] using ⟨h1, h2⟩
  | undef => simp [cellsV] at h
  | tuple _ => simp [cellsV] at h
  | nils => simp only [cellsV, Option.some.injEq] at h; subst h; simp only [vr] at hv; subst hv; simp [vrL, vr, Value.cells, one, Value.oneCell']
  | ex sz xs =>
    simp only [cellsV, Option.some.injEq] at h; subst h
    have hv' := hv
    simp only [vr] at hv
    obtain ⟨a, rfl, _⟩ := hv
    simp [vrL, Value.cells, one, Value.oneCell', hv']
  | ptr l i s => simp only [cellsV, Option.some.injEq] at h; subst h; have hv' := hv; simp only [vr] at hv; cases x <;> simp_all [vrL, Value.cells, one, Value.oneCell']
  | row l => simp only [cellsV, Option.some.injEq] at h; subst h; have hv' := hv; simp only [vr] at hv; cases x <;> simp_all [vrL, Value.cells, one, Value.oneCell']
  | sl l a b => simp only [cellsV, Option.some.injEq] at h; subst h; have hv' := hv; simp only [vr] at hv; cases x <;> simp_all [vrL, Value.cells, one, Value.oneCell']
  | yield l => simp only [cellsV, Option.some.injEq] at h; subst h; have hv' := hv; simp only [vr] at hv; cases x <;> simp_all [vrL, Value.cells, one, Value.oneCell']
  | fn f a b =>
    simp only [cellsV, Option.some.injEq] at h; subst h
    have hv' := hv
    simp only [vr] at hv
    obtain ⟨fs, cs, rfl, _⟩ := hv
    simp [vrL, Value.cells, one, Value.oneCell', hv']
  | ep sz y s =>
    simp only [cellsV, Option.some.injEq] at h; subst h
    have hv' := hv
    simp only [vr] at hv
    obtain ⟨b, o, rfl, _⟩ := hv
    simp [vrL, Value.cells, one, Value.oneCell', hv']
theorem mkAgg_rel {vs : List V} {xs : List Value} (h : vrL w I ρ σ vs xs) (ho : ∀ x ∈ xs, one x) : vr w I ρ σ (mkAgg vs) (.agg xs.toArray) := by
  unfold mkAgg
  split
  · rename_i ds hd
    simp only [vr, Dr]
    exact ⟨xs, rfl, vrL_DrL hd h ho⟩
  · simp only [vr]
    exact ⟨xs, rfl, h, ho⟩
theorem vrL_drop : ∀ {tm : List V} {xs : List Value}, vrL w I ρ σ tm xs → ∀ n, vrL w I ρ σ (tm.drop n) (xs.drop n)
  | [], xs, h, n => by simp only [vrL] at h; subst h; simp [vrL]
  | v :: tm, xs, h, n => by
    have h' := h
    simp only [vrL] at h
    obtain ⟨x, xs', rfl, h1, h2⟩ := h
    cases n with
    | zero => simpa using h'
    | succ n => simpa using vrL_drop h2 n
theorem vrL_take : ∀ {tm : List V} {xs : List Value}, vrL w I ρ σ tm xs → ∀ n, vrL w I ρ σ (tm.take n) (xs.take n)
  | [], xs, h, n => by simp only [vrL] at h; subst h; simp [vrL]
  | v :: tm, xs, h, n => by
    simp only [vrL] at h
    obtain ⟨x, xs', rfl, h1, h2⟩ := h
    cases n with
    | zero => simp [vrL]
    | succ n => simp only [List.take_succ_cons, vrL]; exact ⟨x, _, rfl, h1, vrL_take h2 n⟩
theorem vrL_get? : ∀ {tm : List V} {xs : List Value}, vrL w I ρ σ tm xs → ∀ {i : Nat} {v : V}, tm[i]? = some v → ∃ x, xs[i]? = some x ∧ vr w I ρ σ v x
  | [], xs, h, i, v, hi => by simp at hi
  | u :: tm, xs, h, i, v, hi => by
    simp only [vrL] at h
    obtain ⟨x, xs', rfl, h1, h2⟩ := h
    cases i with
    | zero => simp only [List.getElem?_cons_zero, Option.some.injEq] at hi; subst hi; exact ⟨x, by simp, h1⟩
    | succ i => simp only [List.getElem?_cons_succ] at hi ⊢; exact vrL_get? h2 hi
end rel

/-- How many cells a value of a type has, if that is told by parts. -/
def aggOf (P : Program) (t : TypeId) : Option (Option Nat) :=
  match P.underlying t with
  | some (.struct _) | some (.array _ _) => (P.info? t).map fun i => some i.size
  | some _ => some none
  | none => none

/-- A part of some cells. -/
def partV (P : Program) (t : TypeId) (cs : List V) (off : Nat) : Option V :=
  match aggOf P t with
  | some (some n) => if off + n ≤ cs.length then some (mkAgg ((cs.drop off).take n)) else none
  | some none => cs[off]?
  | none => none

theorem isAgg_run {P : Program} {t : TypeId} {b : Option Nat} (h : aggOf P t = some b) (w : World) : (isAgg t).run P w = .ok b.isSome w := by
  unfold aggOf at h
  cases hu : P.underlying t with
  | none => simp [hu] at h
  | some d =>
    simp only [hu] at h
    unfold isAgg
    rw [Sem.run_bind, run_underlying hu w]
    cases d <;> simp_all <;> (try (subst h; simp)) <;> (obtain ⟨i, _, rfl⟩ := h; simp)
theorem aggOf_size {P : Program} {t : TypeId} {n : Nat} (h : aggOf P t = some (some n)) : ∃ i, P.info? t = some i ∧ i.size = n := by
  unfold aggOf at h
  split at h <;> simp_all

section ops
variable {P : Program} {w : World} {I : Nat → Prop} {ρ : LM} {σ : Store}
theorem part_rel {t : TypeId} {cs : List V} {xs : Array Value} {off : Nat} {v : V} (h : partV P t cs off = some v) (hr : vrL w I ρ σ cs xs.toList) (ho : ∀ x ∈ xs.toList, one x) :
    ∃ x, (part t xs off).run P w = .ok x w ∧ vr w I ρ σ v x := by
  unfold partV at h
  cases ha : aggOf P t with
  | none => simp [ha] at h
  | some b =>
    cases b with
    | some n =>
      simp only [ha, Option.ite_none_right_eq_some, Option.some.injEq] at h
      obtain ⟨_, h⟩ := h
      obtain ⟨i, hi, hn⟩ := aggOf_size ha
      refine ⟨.agg (xs.extract off (off + n)), ?_, ?_⟩
      · simp [part, isAgg_run ha, sizeOf, typeInfo, hi, hn]
      · subst h
        have hl := vrL_take (vrL_drop hr off) n
        have : xs.extract off (off + n) = ((xs.toList.drop off).take n).toArray := by
          apply Array.ext'
          simp [Array.toList_extract, List.extract_eq_take_drop]
        rw [this]
        exact mkAgg_rel hl fun x hx => ho x (List.mem_of_mem_drop (List.mem_of_mem_take hx))
    | none =>
      simp only [ha] at h
      obtain ⟨x, hx, hv⟩ := vrL_get? hr h
      refine ⟨x, ?_, hv⟩
      have hx' : xs[off]? = some x := by simpa using hx
      simp [part, isAgg_run ha, hx']

def intBin (op : BinOp) (k : IntKind) (a b : Int) : Option D :=
  match op with
  | .add => some (.int k (k.wrap (a + b)))
  | .sub => some (.int k (k.wrap (a - b)))
  | .mul => some (.int k (k.wrap (a * b)))
  | .quo => if b = 0 then none else some (.int k (k.wrap (a.tdiv b)))
  | .rem => if b = 0 then none else some (.int k (a.tmod b))
  | .and => some (.int k (k.wrap (BitVec.ofInt k.bits a &&& BitVec.ofInt k.bits b).toNat))
  | .or => some (.int k (k.wrap (BitVec.ofInt k.bits a ||| BitVec.ofInt k.bits b).toNat))
  | .xor => some (.int k (k.wrap (BitVec.ofInt k.bits a ^^^ BitVec.ofInt k.bits b).toNat))
  | .andNot => some (.int k (k.wrap (BitVec.ofInt k.bits a &&& ~~~(BitVec.ofInt k.bits b)).toNat))
  | .eql => some (.bool (a == b))
  | .neq => some (.bool (a != b))
  | .lss => some (.bool (decide (a < b)))
  | .leq => some (.bool (decide (a ≤ b)))
  | .gtr => some (.bool (decide (a > b)))
  | .geq => some (.bool (decide (a ≥ b)))
  | _ => none
theorem intBin_ok {op : BinOp} {k : IntKind} {a b : Int} {r : D} (h : intBin op k a b = some r) (t : TypeId) : ∃ x, (binOp op t (.int k a) (.int k b)).run P w = .ok x w ∧ Dr w I r x := by
  cases op
  case quo => simp only [intBin, Option.ite_none_left_eq_some, Option.some.injEq] at h; obtain ⟨hb, rfl⟩ := h; simp [binOp, Op.intDiv, Dr, hb]
  case rem => simp only [intBin, Option.ite_none_left_eq_some, Option.some.injEq] at h; obtain ⟨hb, rfl⟩ := h; simp [binOp, Op.intDiv, Dr, hb]
  all_goals simp only [intBin, reduceCtorEq, Option.some.injEq] at h
  all_goals
    subst h
    simp [binOp, Op.intArith, Op.intBits, Op.intCmp, Dr]

def intShift (op : BinOp) (k : IntKind) (a b : Int) : Option D :=
  match op with
  | .shl => if b < 0 then none else some (.int k (k.wrap (a * 2 ^ min b.toNat k.bits)))
  | .shr => if b < 0 then none else some (.int k (a.fdiv (2 ^ min b.toNat k.bits)))
  | _ => none
theorem intShift_ok {op : BinOp} {k k' : IntKind} {a b : Int} {r : D} (h : intShift op k a b = some r) (t : TypeId) : ∃ x, (binOp op t (.int k a) (.int k' b)).run P w = .ok x w ∧ Dr w I r x := by
  cases op <;> simp only [intShift, reduceCtorEq, Option.ite_none_left_eq_some, Option.some.injEq] at h <;> obtain ⟨hb, rfl⟩ := h <;>
    simp [binOp, Op.shift, hb, Dr]

def strBin (op : BinOp) (a b : ByteArray) : Option D :=
  match op with
  | .eql => some (.bool (a.toList == b.toList))
  | .neq => some (.bool (!(a.toList == b.toList)))
  | .lss => some (.bool (Op.bytesLess a.toList b.toList))
  | .leq => some (.bool (Op.bytesLess a.toList b.toList || (a.toList == b.toList)))
  | .gtr => some (.bool (!(Op.bytesLess a.toList b.toList || (a.toList == b.toList))))
  | .geq => some (.bool (!(Op.bytesLess a.toList b.toList)))
  | _ => none
theorem strBin_ok {op : BinOp} {a b : ByteArray} {r : D} (h : strBin op a b = some r) (t : TypeId) : ∃ x, (binOp op t (.string a) (.string b)).run P w = .ok x w ∧ Dr w I r x := by
  cases op <;> simp only [strBin, reduceCtorEq, Option.some.injEq] at h <;> subst h <;> simp [binOp, Op.stringOp, Dr]

/-- An operator of two values. -/
def binV (P : Program) (op : BinOp) (t : TypeId) (x y : V) : Option V :=
  match x, y with
  | .d (.int k a), .d (.int k' b) => if k = k' then (match intBin op k a b with | some r => some (.d r) | none => (intShift op k a b).map .d) else (intShift op k a b).map .d
  | .d (.str a), .d (.str b) => (strBin op a b).map .d
  | .d (.bool a), .d (.bool b) => match op, P.underlying t with
    | .eql, some .bool => some (.d (.bool (a == b)))
    | .neq, some .bool => some (.d (.bool (!(a == b))))
    | _, _ => none
  | _, _ => none

theorem binV_ok {op : BinOp} {t ty : TypeId} {x y : Operand} {e : Operand → Value} {o : Oper} {vx vy v : V} (ho : o.op = .binOp op t x y ty) (h : binV P op t vx vy = some v)
    (hx : vr w I ρ σ vx (e x)) (hy : vr w I ρ σ vy (e y)) : ∃ z, (execOp e o).run P w = .ok (.value z) w ∧ vr w I ρ σ v z := by
  have key : ∀ a b, e x = a → e y = b → (∀ z, a ≠ .nilIface ∧ a ≠ .agg z) → (∃ z, (binOp op t a b).run P w = .ok z w ∧ vr w I ρ σ v z) → ∃ z, (execOp e o).run P w = .ok (.value z) w ∧ vr w I ρ σ v z := by
    intro a b ha hb hn ⟨z, h1, h2⟩
    refine ⟨z, ?_, h2⟩
    have hg : (eqGuard op t x y a b).run P w = .ok () w := by
      unfold eqGuard
      have hn1 := fun z => (hn z).1
      have hn2 := fun z => (hn z).2
      cases a <;> simp_all <;> split <;> simp_all
    simp [execOp, ho, ha, hb, hg, h1]
  unfold binV at h
  split at h
  · simp only [vr, Dr] at hx hy
    refine key _ _ hx hy (by simp) ?_
    split at h
    · rename_i hk; subst hk
      split at h
      · rename_i r hr
        obtain ⟨z, h1, h2⟩ := intBin_ok (P := P) (w := w) (I := I) hr t
        cases h
        exact ⟨z, h1, by simpa [vr] using h2⟩
      · simp only [Option.map_eq_some_iff] at h
        obtain ⟨r, hr, rfl⟩ := h
        obtain ⟨z, h1, h2⟩ := intShift_ok (P := P) (w := w) (I := I) hr t
        exact ⟨z, h1, by simpa [vr] using h2⟩
    · simp only [Option.map_eq_some_iff] at h
      obtain ⟨r, hr, rfl⟩ := h
      obtain ⟨z, h1, h2⟩ := intShift_ok (P := P) (w := w) (I := I) hr t
      exact ⟨z, h1, by simpa [vr] using h2⟩
  · simp only [vr, Dr] at hx hy
    refine key _ _ hx hy (by simp) ?_
    simp only [Option.map_eq_some_iff] at h
    obtain ⟨r, hr, rfl⟩ := h
    obtain ⟨z, h1, h2⟩ := strBin_ok (P := P) (w := w) (I := I) hr t
    exact ⟨z, h1, by simpa [vr] using h2⟩
  · simp only [vr, Dr] at hx hy
    refine key _ _ hx hy (by simp) ?_
    split at h
    · rename_i hu
      cases h
      exact ⟨_, run_eql_bool w t _ _ hu, by simp [vr, Dr]⟩
    · rename_i hu
      cases h
      exact ⟨_, run_neq_bool w t _ _ hu, by simp [vr, Dr]⟩
    · cases h
  · cases h
end ops
end Go.Br
