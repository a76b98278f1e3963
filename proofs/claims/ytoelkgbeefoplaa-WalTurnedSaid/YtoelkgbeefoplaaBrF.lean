/- The base of these proofs, part F: stores, new variables, structs and rows; many steps at once. -/
import Derived.Test.YtoelkgbeefoplaaBrE
namespace Go.Br
open Go

section
variable {P : Program} {w w' : World} {I I' : Nat → Prop} {ρ ρ' : LM} {σ σ' : Store}

theorem run_storeCells_th (g o : Nat) (t : TypeId) (fz : Nat × Nat) : ∀ (vs : List Value) (i : Nat) (cur : Array Value) (w : World), w.heap[g]? = some (.cells cur t fz) → thaw fz cur.size → o + i + vs.length ≤ cur.size → (∀ v ∈ vs, v.oneCell' = true) →
    (storeCells ⟨g, o, none⟩ vs i).run P w = .ok () (w.setRow g (cur.toList.take (o + i) ++ vs ++ cur.toList.drop (o + i + vs.length)).toArray)
  | [], i, cur, w, hg, _, _, _ => by
    simp only [storeCells, List.append_nil, List.length_nil, Nat.add_zero, List.take_append_drop, Array.toArray_toList]
    rw [setRow_self w g cur t fz hg]
    rfl
  | v :: rest, i, cur, w, hg, hth, hl, h1 => by
    have hi : o + i < cur.size := by simp at hl; omega
    have hcell : w.cell? ⟨g, o + i, none⟩ = some cur[o + i] := by simp [World.cell?, hg, hi]
    have hfro : w.frozen? ⟨g, o + i, none⟩ = false := by
      have := hth.2 (o + i) (Nat.le_of_lt hi)
      simp only [World.frozen?, hg, Bool.and_eq_false_iff, decide_eq_false_iff_not]
      omega
    have hst : (store ((⟨g, o, none⟩ : Addr).add i) v).run P w = .ok () (w.setRow g (cur.setIfInBounds (o + i) v)) := by
      rw [addr_add, run_store P w _ v _ (h1 v (by simp)), hcell]
      simp [hfro, setCell_eq_setRow w g (o + i) cur t fz v hg]
    have ih := run_storeCells_th g o t fz rest (i + 1) (cur.setIfInBounds (o + i) v) (w.setRow g (cur.setIfInBounds (o + i) v)) (setRow_heap w g cur _ t _ hg) (by simpa using hth) (by simp at hl ⊢; omega) (fun x hx => h1 x (by simp [hx]))
    simp only [storeCells, Sem.run_bind, hst, Result.andThen_ok, ih, setRow_setRow]
    congr 3
    have e := list_seg_step cur.toList (o + i) v rest (by simp at hl ⊢; omega)
    simpa [Array.toList_setIfInBounds, Nat.add_assoc] using e

theorem run_storeVar_th {t T : TypeId} {g s : Nat} {fz : Nat × Nat} {cur : Array Value} {x : Value} (hg : w.heap[g]? = some (.cells cur T fz)) (hth : thaw fz cur.size) (hsz : (P.info? t).map (·.size) = some x.cells.size)
    (hfit : s + x.cells.size ≤ cur.size) (h1 : ∀ v ∈ x.cells.toList, one v) :
    (storeVar t ⟨g, s, none⟩ x).run P w = .ok () (w.setRow g (cur.toList.take s ++ x.cells.toList ++ cur.toList.drop (s + x.cells.size)).toArray) := by
  cases hq : P.info? t with
  | none => simp [hq] at hsz
  | some i =>
    have hs : i.size = x.cells.size := by simpa [hq] using hsz
    have := run_storeCells_th (P := P) g s T fz x.cells.toList 0 cur w hg hth (by simpa using hfit) h1
    simp only [Nat.add_zero, Array.length_toList] at this
    simp [storeVar, sizeOf, typeInfo, hq, hs, this]

def splice {α : Type} (l : List α) (s : Nat) (xs : List α) : List α := l.take s ++ xs ++ l.drop (s + xs.length)

/-- A store into a variable of its own. -/
def storeA (P : Program) (tm : List V) (σ : Store) (t : TypeId) (x y : Operand) : Option Store :=
  match ev tm x, cellsV (co P t (ev tm y)) with
  | .ptr l 0 s, some vs => match σ[l]? with
    | some (.cells cs) => if s + vs.length ≤ cs.length ∧ (P.info? t).map (·.size) = some vs.length then some (σ.set l (.cells (splice cs s vs))) else none
    | _ => none
  | _, _ => none
theorem storeA_ok {tm : List V} {t : TypeId} {x y : Operand} {o : Oper} (ho : o.op = .store t x y) (h : storeA P tm σ t x y = some σ') : OpOk P o tm σ .undef tm σ' := by
  intro w I ρ a hr hO
  unfold storeA at h
  split at h
  · rename_i l s vs hx hy
    split at h
    · rename_i cs hs
      simp only [Option.ite_none_right_eq_some, Option.some.injEq] at h
      obtain ⟨⟨hfit, hsz⟩, rfl⟩ := h
      have hxr := vr_ev hr x
      have hyr := co_rel (P := P) (t := t) (vr_ev hr y)
      obtain ⟨hc, h1⟩ := cells_rel hy hyr
      rw [hx] at hxr
      simp only [vr] at hxr
      obtain ⟨L, hL, he⟩ := hxr.2.2 ⟨_, hs, by simp⟩
      have hob := hO.objs l _ hs
      simp only [orel] at hob
      obtain ⟨L', C, T, fz, hL', h0, hh, hth, hcr, hone⟩ := hob
      rw [hL] at hL'; cases hL'
      have hlen := vrL_len hc
      have hlen2 := vrL_len hcr
      simp only [Array.length_toList] at hlen hlen2
      simp only [h0, Nat.zero_mul, Nat.add_zero, Nat.zero_add] at he
      have hrun := run_storeVar_th (P := P) (t := t) (s := s) (x := a.eval y) hh hth (by rw [hlen]; exact hsz) (by omega) h1
      have hrun' : (execOp a.eval o).run P w = .ok .skip (w.setRow L.b (C.toList.take s ++ (a.eval y).cells.toList ++ C.toList.drop (s + (a.eval y).cells.size)).toArray) := by
        simp only [execOp, ho, he, Instr.storeAt, Instr.sureAddr, Sem.run_bind, Sem.run_pure, Result.andThen_ok, hrun]
      refine ⟨.skip, undef, _, I, ρ, hrun', .inr ⟨rfl, rfl⟩, by simp [vr], ?_, ?_, ?_⟩
      · refine vrL_all (fun b hb => ⟨hb, setRow_other _ _ _ _ fun e => (hO.imm b hb).2 ⟨l, _, L, hs, by simp, hL, e.symm⟩⟩) (same_set hs (by simp) (by simp [O.alike, O.rl])) hr
      · refine hO.upd hs (by simp) hL (by simp [O.alike, O.rl]) (fun b hb => setRow_other _ _ _ _ hb) (by simp) ?_
        simp only [orel]
        refine ⟨L, _, T, fz, hL, h0, setRow_heap _ _ _ _ _ _ hh, ?_, ?_, ?_⟩
        · have : ∀ n, n = C.size → thaw fz n := fun n e => e ▸ hth
          exact this _ (by simp; omega)
        · have hv : vrL (w.setRow L.b (C.toList.take s ++ (a.eval y).cells.toList ++ C.toList.drop (s + (a.eval y).cells.size)).toArray) I ρ (σ.set l (.cells (splice cs s vs))) (splice cs s vs) (C.toList.take s ++ (a.eval y).cells.toList ++ C.toList.drop (s + (a.eval y).cells.size)) := by
            refine vrL_all (w := w) (I := I) (ρ := ρ) (σ := σ) (fun b hb => ⟨hb, setRow_other _ _ _ _ fun e => (hO.imm b hb).2 ⟨l, _, L, hs, by simp, hL, e.symm⟩⟩) (same_set hs (by simp) (by simp [O.alike, O.rl])) ?_
            unfold splice
            rw [hlen]
            exact vrL_append (vrL_append (vrL_take hcr s) hc) (vrL_drop hcr _)
          simpa using hv
        · intro z hz
          simp only [List.mem_append] at hz
          rcases hz with (hz | hz) | hz
          · exact hone z (List.mem_of_mem_take hz)
          · exact h1 z hz
          · exact hone z (List.mem_of_mem_drop hz)
      · exact Ext.upd hs (by simp) hL (fun _ => rfl) (by simp [O.alike, O.rl]) rfl (fun b hb => setRow_other _ _ _ _ hb) (by simp) rfl rfl rfl
    · cases h
  · cases h

/-- Cells in part written anew are still one cell each. -/
theorem one_splice {C : Array Value} {vs : List Value} {i j : Nat} (h : ∀ x ∈ C.toList, one x) (h' : ∀ x ∈ vs, one x) : ∀ x ∈ (C.toList.take i ++ vs ++ C.toList.drop j).toArray.toList, one x := by
  intro x hx
  simp only [List.append_assoc, List.mem_append] at hx
  rcases hx with hx | hx | hx
  · exact h x (List.mem_of_mem_take hx)
  · exact h' x hx
  · exact h x (List.mem_of_mem_drop hx)
theorem thaw_zero (n : Nat) : thaw (0, 0) n := ⟨Nat.le_refl _, fun j _ h => by omega⟩
/-- A new variable with cells. -/
theorem newCells_ok {o : Oper} {tm : List V} {t : TypeId} {vs : List V} {cs : Array Value} {a : Act} (hr : vrL w I ρ σ tm a.tmps.toList) (hO : ORel w I ρ σ) (hv : vrL w I ρ σ vs cs.toList) (h1 : ∀ x ∈ cs.toList, one x)
    (hrun : (execOp a.eval o).run P w = .ok (.value (.pointer (some ⟨w.heap.size, 0, none⟩))) (w.alloc (.cells cs t))) :
    ∃ nx x w' I' ρ', (execOp a.eval o).run P w = .ok nx w' ∧ (nx = .value x ∨ nx = .skip ∧ x = undef) ∧ vr w' I' ρ' (σ ++ [.cells vs]) (.ptr σ.length 0 0) x ∧ vrL w' I' ρ' (σ ++ [.cells vs]) tm a.tmps.toList ∧ ORel w' I' ρ' (σ ++ [.cells vs]) ∧
      Ext σ.length w I ρ σ w' I' ρ' (σ ++ [.cells vs]) := by
  have hI : ∀ b, I b → I b ∧ (w.alloc (.cells cs t)).heap[b]? = w.heap[b]? := fun b hb => ⟨hb, heap_alloc_old _ _ _ (hO.imm b hb).1⟩
  refine ⟨_, _, _, I, (fun x => if x = σ.length then some ⟨w.heap.size, 0, 0, 0⟩ else ρ x), hrun, .inl rfl, ?_, vrL_all hI (same_new _ _) hr, ?_, ?_⟩
  · simp only [vr]
    refine ⟨rfl, by simp, fun _ => ⟨⟨w.heap.size, 0, 0, 0⟩, by simp, by simp⟩⟩
  · refine hO.new _ _ rfl (fun b hb => heap_alloc_old _ _ _ hb) (by simp) ?_
    simp only [orel]
    exact ⟨⟨w.heap.size, 0, 0, 0⟩, cs, t, (0, 0), by simp, rfl, heap_alloc_new _ _, thaw_zero _, vrL_all hI (same_new _ _) hv, h1⟩
  · exact Ext.new _ _ rfl (fun b hb => heap_alloc_old _ _ _ hb) (by simp) rfl rfl rfl

/-- A variable that is boxed. -/
def boxA (P : Program) (tm : List V) (σ : Store) (t : TypeId) (x : Operand) : Option (V × Store) :=
  (cellsV (co P t (ev tm x))).map fun vs => (.ptr σ.length 0 0, σ ++ [.cells vs])
theorem boxA_ok {tm : List V} {t : TypeId} {x : Operand} {o : Oper} {v : V} (ho : o.op = .box t x) (h : boxA P tm σ t x = some (v, σ')) : OpOk P o tm σ v tm σ' := by
  intro w I ρ a hr hO
  simp only [boxA, Option.map_eq_some_iff, Prod.mk.injEq] at h
  obtain ⟨vs, hc, rfl, rfl⟩ := h
  obtain ⟨h1, h2⟩ := cells_rel hc (co_rel (P := P) (t := t) (vr_ev hr x))
  exact newCells_ok (t := t) hr hO h1 h2 (by simp [execOp, ho, Instr.box, newVar, newRow])

/-- The types of a type's cells. -/
def cellTys (P : Program) : Nat → TypeId → List TypeId
  | 0, _ => []
  | d + 1, t => match P.underlying t with
    | some (.struct fs) => fs.toList.flatMap fun f => cellTys P d f.type
    | some (.array n e) => (List.replicate n (cellTys P d e)).flatten
    | _ => [t]
def zip2 (P : Program) : List TypeId → List Value → Option (List V)
  | [], [] => some []
  | t :: ts, x :: xs => if x.oneCell' then (zip2 P ts xs).map (co P t (cst x) :: ·) else none
  | _, _ => none
theorem zip2_rel : ∀ {ts : List TypeId} {xs : List Value} {vs : List V}, zip2 P ts xs = some vs → vrL w I ρ σ vs xs ∧ ∀ x ∈ xs, one x
  | [], [], vs, h => by simp only [zip2, Option.some.injEq] at h; subst h; simp [vrL]
  | t :: ts, x :: xs, vs, h => by
    simp only [zip2, Option.ite_none_right_eq_some, Option.map_eq_some_iff] at h
    obtain ⟨h1, vs', h2, rfl⟩ := h
    obtain ⟨h3, h4⟩ := zip2_rel h2
    refine ⟨?_, ?_⟩
    · simp only [vrL]; exact ⟨x, xs, rfl, co_rel (vr_cst x), h3⟩
    · intro y hy
      rcases List.mem_cons.1 hy with rfl | hy
      · exact h1
      · exact h4 y hy
  | [], _ :: _, _, h => by simp [zip2] at h
  | _ :: _, [], _, h => by simp [zip2] at h
/-- A type's zero value, by cells. -/
def zeroA (P : Program) (t : TypeId) : Option (List V) :=
  match (P.info? t).bind (·.zero) with
  | some z => zip2 P (cellTys P 20 t) z.cells.toList
  | none => none
theorem zeroA_rel {t : TypeId} {vs : List V} (h : zeroA P t = some vs) : ∃ i z, P.info? t = some i ∧ i.zero = some z ∧ vrL w I ρ σ vs z.cells.toList ∧ ∀ x ∈ z.cells.toList, one x := by
  unfold zeroA at h
  split at h
  · rename_i z hz
    simp only [Option.bind_eq_some_iff] at hz
    obtain ⟨i, h1, h2⟩ := hz
    exact ⟨i, z, h1, h2, zip2_rel h⟩
  · cases h
/-- A new variable of a type. -/
def allocA (P : Program) (σ : Store) (t : TypeId) : Option (V × Store) := (zeroA P t).map fun vs => (.ptr σ.length 0 0, σ ++ [.cells vs])
theorem allocA_ok {tm : List V} {t : TypeId} {o : Oper} {v : V} (ho : o.op = .alloc t) (h : allocA P σ t = some (v, σ')) : OpOk P o tm σ v tm σ' := by
  intro w I ρ a hr hO
  simp only [allocA, Option.map_eq_some_iff, Prod.mk.injEq] at h
  obtain ⟨vs, hc, rfl, rfl⟩ := h
  obtain ⟨i, z, h1, h2, h3, h4⟩ := zeroA_rel (w := w) (I := I) (ρ := ρ) (σ := σ) hc
  exact newCells_ok (t := t) hr hO h3 h4 (by simp [execOp, ho, Instr.alloc, zeroValue, typeInfo, h1, h2, newVar, newRow])

/-- Parts that are filled in. -/
def fillA (place : Nat → Option (Nat × Nat)) (cells : List V) : List (Nat × List V) → Option (List V)
  | [] => some cells
  | (i, vs) :: rest => match place i with
    | none => none
    | some (off, size) => if vs.length ≠ size || off + vs.length > cells.length then none else fillA place (splice cells off vs) rest
theorem foldl_set (xs : List Value) : ∀ (cs : Array Value) (off : Nat), off + xs.length ≤ cs.size →
    ((xs.toArray.zipIdx.foldl (fun cs (c, j) => cs.setIfInBounds (off + j) c) cs)).toList = splice cs.toList off xs := by
  intro cs off h
  have key : ∀ (xs : List Value) (k : Nat) (cs : Array Value), off + k + xs.length ≤ cs.size →
      ((xs.zipIdx k).foldl (fun (cs : Array Value) (p : Value × Nat) => cs.setIfInBounds (off + p.2) p.1) cs).toList = splice cs.toList (off + k) xs := by
    intro xs
    induction xs with
    | nil => intro k cs _; simp [splice]
    | cons x xs ih =>
      intro k cs hk
      simp only [List.zipIdx_cons, List.foldl_cons]
      simp only [List.length_cons] at hk
      rw [ih (k + 1) (cs.setIfInBounds (off + k) x) (by simp; omega)]
      have e := list_seg_step cs.toList (off + k) x xs (by simp; omega)
      unfold splice
      simpa [Array.toList_setIfInBounds, Nat.add_assoc] using e
  have := key xs 0 cs (by simpa using h)
  rw [Nat.add_zero] at this
  rw [← this]
  simp
def pr2 (w : World) (I : Nat → Prop) (ρ : LM) (σ : Store) : List (Nat × List V) → List (Nat × Value) → Prop
  | [], qs => qs = []
  | p :: ps, qs => ∃ q qs', qs = q :: qs' ∧ p.1 = q.1 ∧ vrL w I ρ σ p.2 q.2.cells.toList ∧ (∀ x ∈ q.2.cells.toList, one x) ∧ pr2 w I ρ σ ps qs'
theorem fill_rel {place : Nat → Option (Nat × Nat)} : ∀ {ps : List (Nat × List V)} {qs : List (Nat × Value)} {cells vs : List V} {cs : Array Value}, fillA place cells ps = some vs →
    pr2 w I ρ σ ps qs → vrL w I ρ σ cells cs.toList → (∀ x ∈ cs.toList, one x) →
    ∃ ds, Instr.fill place cs qs = some ds ∧ vrL w I ρ σ vs ds.toList ∧ ∀ x ∈ ds.toList, one x
  | [], qs, cells, vs, cs, h, hf, hc, h1 => by
    simp only [pr2] at hf
    subst hf
    simp only [fillA, Option.some.injEq] at h
    subst h
    exact ⟨cs, rfl, hc, h1⟩
  | (i, us) :: ps, qs, cells, vs, cs, h, hf, hc, h1 => by
    simp only [pr2] at hf
    obtain ⟨⟨j, x⟩, qs, rfl, he, hu, h2, hf⟩ := hf
    · simp only at he hu h2
      subst he
      simp only [fillA] at h
      cases hp : place i with
      | none => simp [hp] at h
      | some p =>
        obtain ⟨off, size⟩ := p
        simp only [hp] at h
        split at h
        · cases h
        · rename_i hcond
          have hlen := vrL_len hu
          have hlen2 := vrL_len hc
          simp only [Array.length_toList] at hlen hlen2
          simp at hcond
          have hfold := foldl_set x.cells.toList cs off (by simp; omega)
          simp only [Array.toArray_toList] at hfold
          have := fill_rel (cs := x.cells.zipIdx.foldl (fun cs (c, j) => cs.setIfInBounds (off + j) c) cs) h hf
            (by rw [hfold]; unfold splice; simp only [Array.length_toList]; rw [hlen]; exact vrL_append (vrL_append (vrL_take hc off) hu) (vrL_drop hc _))
            (by
              rw [hfold]
              intro z hz
              unfold splice at hz
              simp only [List.mem_append] at hz
              rcases hz with (hz | hz) | hz
              · exact h1 z (List.mem_of_mem_take hz)
              · exact h2 z hz
              · exact h1 z (List.mem_of_mem_drop hz))
          obtain ⟨ds, g1, g2, g3⟩ := this
          refine ⟨ds, ?_, g2, g3⟩
          simp only [Instr.fill, hp]
          rw [if_neg (by simp; omega)]
          exact g1
end
end Go.Br
