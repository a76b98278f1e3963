/- The base of these proofs, part G: structs, rows of parts, many steps at once, the end of a frame. -/
import Derived.Test.YtoelkgbeefoplaaBrF
import Derived.Great.BuildSlice
namespace Go.Br
open Go

section
variable {P : Program} {w w' : World} {I I' : Nat → Prop} {ρ ρ' : LM} {σ σ' : Store}

def partTy (P : Program) (t : TypeId) (i : Nat) : TypeId :=
  match P.underlying t with
  | some (.struct fs) => match fs[i]? with | some f => f.type | none => 0
  | some (.array _ e) | some (.slice e) => e
  | _ => 0
def partsA (P : Program) (tm : List V) (t : TypeId) : List (Nat × Operand) → Option (List (Nat × List V))
  | [] => some []
  | (i, x) :: ps => match cellsV (co P (partTy P t i) (ev tm x)) with
    | some vs => (partsA P tm t ps).map ((i, vs) :: ·)
    | none => none
theorem partsA_rel {tm : List V} {t : TypeId} {e : Operand → Value} (hx : ∀ x, vr w I ρ σ (ev tm x) (e x)) : ∀ {ps : List (Nat × Operand)} {qs : List (Nat × List V)}, partsA P tm t ps = some qs → pr2 w I ρ σ qs (ps.map fun p => (p.1, e p.2))
  | [], qs, h => by simp only [partsA, Option.some.injEq] at h; subst h; simp [pr2]
  | (i, x) :: ps, qs, h => by
    simp only [partsA] at h
    split at h
    · rename_i vs hc
      simp only [Option.map_eq_some_iff] at h
      obtain ⟨qs', h1, rfl⟩ := h
      obtain ⟨h2, h3⟩ := cells_rel hc (co_rel (hx x))
      simp only [List.map_cons, pr2]
      exact ⟨_, _, rfl, rfl, h2, h3, partsA_rel hx h1⟩
    · cases h

/-- A struct or an array, of parts. -/
def buildA (P : Program) (tm : List V) (t : TypeId) (parts : List (Nat × Operand)) : Option V :=
  match zeroA P t, partsA P tm t parts with
  | some zs, some ps => match P.underlying t with
    | some (.struct fs) => match fs.toList.mapM (fun f => (P.info? f.type).map fun i => (f.offset, i.size)) with
      | some places => (fillA (places.toArray[·]?) zs ps).map mkAgg
      | none => none
    | some (.array _ e) => match P.info? e with
      | some ie => (fillA (fun i => some (i * ie.size, ie.size)) zs ps).map mkAgg
      | none => none
    | _ => none
  | _, _ => none
theorem buildA_ok {tm : List V} {t : TypeId} {parts : Array (Nat × Operand)} {o : Oper} {v : V} (ho : o.op = .build t parts) (h : buildA P tm t parts.toList = some v) : OpOk P o tm σ v tm σ := by
  intro w I ρ a hr hO
  unfold buildA at h
  split at h
  · rename_i zs ps hz hp
    obtain ⟨i, z, h1, h2, h3, h4⟩ := zeroA_rel (w := w) (I := I) (ρ := ρ) (σ := σ) hz
    have hpr := partsA_rel (w := w) (I := I) (ρ := ρ) (σ := σ) (e := a.eval) (fun x => vr_ev hr x) hp
    have hmap : (parts.map fun (i, x) => (i, a.eval x)).toList = parts.toList.map fun p => (p.1, a.eval p.2) := by simp
    have fin : ∀ place vs, fillA place zs ps = some vs → mkAgg vs = v → (∀ ds, Instr.fill place z.cells (parts.toList.map fun p => (p.1, a.eval p.2)) = some ds → P.built t (parts.toList.map fun p => (p.1, a.eval p.2)) = some ds) →
        ∃ nx x w' I' ρ', (execOp a.eval o).run P w = .ok nx w' ∧ (nx = .value x ∨ nx = .skip ∧ x = undef) ∧ vr w' I' ρ' σ v x ∧ vrL w' I' ρ' σ tm a.tmps.toList ∧ ORel w' I' ρ' σ ∧ Ext σ.length w I ρ σ w' I' ρ' σ := by
      intro place vs hf hv hb
      obtain ⟨ds, g1, g2, g3⟩ := fill_rel hf hpr h3 h4
      have hrun := run_build (P := P) w t (parts.map fun (i, x) => (i, a.eval x)) ds (by rw [hmap]; exact hb ds g1)
      refine ⟨_, .agg ds, w, I, ρ, by simp only [execOp, ho, Sem.run_bind, hrun, Result.andThen_ok]; rfl, .inl rfl, ?_, hr, hO, Ext.refl _ _ _ _⟩
      rw [← hv]
      have := mkAgg_rel g2 g3
      simpa using this
    split at h
    · rename_i fs hu
      split at h
      · rename_i places hpl
        simp only [Option.map_eq_some_iff] at h
        obtain ⟨vs, hf, hv⟩ := h
        exact fin _ vs hf hv (fun ds hd => by simp only [Program.built, h1, hu, h2, hpl]; exact hd)
      · cases h
    · rename_i e hu
      split at h
      · rename_i ie hie
        simp only [Option.map_eq_some_iff] at h
        obtain ⟨vs, hf, hv⟩ := h
        exact fin _ vs hf hv (fun ds hd => by simp only [Program.built, h1, hu, h2, hie]; exact hd)
      · cases h
    · cases h
  · cases h

/-- Cells as elements. -/
def chunk : Nat → Option Nat → List V → Option (List D)
  | 0, _, [] => some []
  | 0, _, _ :: _ => none
  | n + 1, none, vs => match vs with
    | .d x :: vs => (chunk n none vs).map (x :: ·)
    | _ => none
  | n + 1, some sz, vs => if sz ≤ vs.length then match datas (vs.take sz) with
      | some ds => (chunk n (some sz) (vs.drop sz)).map (.agg ds :: ·)
      | none => none
    else none
def szOf : Option Nat → Nat
  | none => 1
  | some n => n
theorem chunk_rel {b : Nat} : ∀ {n : Nat} {ag : Option Nat} {vs : List V} {ds : List D} {xs : List Value} {o : Nat}, chunk n ag vs = some ds → vrL w I ρ σ vs xs → (∀ x ∈ xs, one x) → (∀ j, j < xs.length → w.cell? ⟨b, o + j, none⟩ = xs[j]?) →
    DrE w I (szOf ag) b o ds ∧ ds.length = n ∧ xs.length = n * szOf ag
  | 0, ag, vs, ds, xs, o, h, hr, _, _ => by
    cases vs with
    | nil => simp only [chunk, Option.some.injEq] at h; subst h; simp only [vrL] at hr; subst hr; simp [DrE]
    | cons v vs => simp [chunk] at h
  | n + 1, none, vs, ds, xs, o, h, hr, h1, hc => by
    simp only [chunk] at h
    split at h
    · rename_i x vs'
      simp only [Option.map_eq_some_iff] at h
      obtain ⟨ds', h2, rfl⟩ := h
      simp only [vrL, vr] at hr
      obtain ⟨y, xs', rfl, h3, h4⟩ := hr
      obtain ⟨g1, g2, g3⟩ := chunk_rel (b := b) (o := o + 1) h2 h4 (fun z hz => h1 z (by simp [hz])) (fun j hj => by
        have := hc (j + 1) (by simp; omega)
        rw [show o + 1 + j = o + (j + 1) by omega, this]; simp)
      have hone := h1 y (by simp)
      have hy : y.cells = #[y] := by cases y <;> simp_all [Value.cells, one, Value.oneCell']
      refine ⟨?_, by simp [g2], by simp only [List.length_cons, g3, szOf]; omega⟩
      simp only [DrE, szOf]
      refine ⟨⟨y, h3, by simp [hy], fun j hj => ?_⟩, g1⟩
      have : j = 0 := by omega
      subst this
      have := hc 0 (by simp)
      simpa [hy] using this
    · cases h
  | n + 1, some sz, vs, ds, xs, o, h, hr, h1, hc => by
    simp only [chunk, Option.ite_none_right_eq_some] at h
    obtain ⟨hle, h⟩ := h
    split at h
    · rename_i es hes
      simp only [Option.map_eq_some_iff] at h
      obtain ⟨ds', h2, rfl⟩ := h
      have hlen := vrL_len hr
      obtain ⟨g1, g2, g3⟩ := chunk_rel (b := b) (o := o + sz) h2 (vrL_drop hr sz) (fun z hz => h1 z (List.mem_of_mem_drop hz)) (fun j hj => by
        simp at hj
        have := hc (sz + j) (by omega)
        rw [show o + sz + j = o + (sz + j) by omega, this]
        simp)
      simp only [List.length_drop, szOf] at g3
      refine ⟨?_, by simp [g2], by simp only [szOf, Nat.add_mul, Nat.one_mul]; omega⟩
      simp only [DrE, szOf]
      refine ⟨⟨.agg (xs.take sz).toArray, ?_, by simp [Value.cells]; omega, fun j hj => ?_⟩, g1⟩
      · simp only [Dr]
        exact ⟨_, rfl, vrL_DrL hes (vrL_take hr sz) fun z hz => h1 z (List.mem_of_mem_take hz)⟩
      · rw [hc j (by omega)]
        simp [Value.cells, hj]
    · cases h

theorem range_mod (z : List Value) (hz : 0 < z.length) : ∀ n, (List.range (n * z.length)).map (fun i => z.getD (i % z.length) default) = (List.replicate n z).flatten
  | 0 => by simp
  | n + 1 => by
    rw [Nat.add_mul, Nat.one_mul, List.range_add, List.map_append, range_mod z hz n, List.replicate_succ', List.flatten_append]
    congr 1
    simp only [List.map_map, List.flatten_cons, List.flatten_nil, List.append_nil]
    apply List.ext_getElem
    · simp
    · intro i h1 h2
      simp at h1
      simp [Nat.mod_eq_of_lt h1, h1]

/-- A row, of parts. -/
def buildSliceA (P : Program) (tm : List V) (σ : Store) (t : TypeId) (len : Nat) (parts : List (Nat × Operand)) : Option (V × Store) :=
  match P.underlying t with
  | some (.slice e) => match zeroA P e, partsA P tm t parts, aggOf P e with
    | some zs, some ps, some ag => if zs.length = szOf ag ∧ 0 < len ∧ 0 < szOf ag ∧ len * szOf ag ≤ 16777216 ∧ (P.info? e).map (·.size) = some (szOf ag) then
        match fillA (fun i => some (i * szOf ag, szOf ag)) (List.replicate len zs).flatten ps with
        | some vs => (chunk len ag vs).map fun ds => (.row σ.length, σ ++ [.row (szOf ag) ds false])
        | none => none
      else none
    | _, _, _ => none
  | _ => none
theorem vrL_flat {zs : List V} {xs : List Value} (h : vrL w I ρ σ zs xs) : ∀ n, vrL w I ρ σ (List.replicate n zs).flatten (List.replicate n xs).flatten
  | 0 => by simp [vrL]
  | n + 1 => by simp only [List.replicate_succ, List.flatten_cons]; exact vrL_append h (vrL_flat h n)

/-- A new row. -/
theorem newRow_ok {o : Oper} {tm : List V} {t : TypeId} {ds : List D} {cs : Array Value} {a : Act} {sz cap : Nat} (hr : vrL w I ρ σ tm a.tmps.toList) (hO : ORel w I ρ σ) (hcs : cs.size = cap * sz) (hle : ds.length ≤ cap) (hcap : cap ≤ maxLen) (hone : ∀ x ∈ cs.toList, one x)
    (hd : DrE (w'.alloc (.cells cs t)) I sz w'.heap.size 0 ds) (hheap : w'.heap = w.heap) (hos : w'.os = w.os) (htape : w'.tape = w.tape) (hout : w'.output = w.output)
    (hrun : (execOp a.eval o).run P w = .ok (.value (.slice (some ⟨w.heap.size, 0, none⟩) ds.length cap)) (w'.alloc (.cells cs t))) :
    ∃ nx x w' I' ρ', (execOp a.eval o).run P w = .ok nx w' ∧ (nx = .value x ∨ nx = .skip ∧ x = undef) ∧ vr w' I' ρ' (σ ++ [.row sz ds false]) (.row σ.length) x ∧ vrL w' I' ρ' (σ ++ [.row sz ds false]) tm a.tmps.toList ∧ ORel w' I' ρ' (σ ++ [.row sz ds false]) ∧
      Ext σ.length w I ρ σ w' I' ρ' (σ ++ [.row sz ds false]) := by
  have hold : ∀ b, b < w.heap.size → (w'.alloc (.cells cs t)).heap[b]? = w.heap[b]? := fun b hb => by rw [heap_alloc_old _ _ _ (by rw [hheap]; exact hb), hheap]
  have hnew : (w'.alloc (.cells cs t)).heap[w.heap.size]? = some (.cells cs t) := by have := heap_alloc_new w' (.cells cs t); rwa [hheap] at this
  have hsz : (w'.alloc (.cells cs t)).heap.size = w.heap.size + 1 := by simp [hheap]
  have hI : ∀ b, I b → I b ∧ (w'.alloc (.cells cs t)).heap[b]? = w.heap[b]? := fun b hb => ⟨hb, hold b (hO.imm b hb).1⟩
  rw [hheap] at hd
  refine ⟨_, _, _, I, (fun x => if x = σ.length then some ⟨w.heap.size, 0, sz, cap⟩ else ρ x), hrun, .inl rfl, ?_, vrL_all hI (same_new _ _) hr, ?_, ?_⟩
  · simp only [vr]
    refine ⟨rfl, by simp, fun sz' xs' mv' hx => ?_⟩
    simp at hx
    obtain ⟨rfl, rfl, rfl⟩ := hx
    exact .inr ⟨⟨w.heap.size, 0, sz, cap⟩, by simp, by simpa using hle, by simp⟩
  · refine hO.new _ _ rfl hold hsz ?_
    simp only [orel]
    exact .inr ⟨⟨w.heap.size, 0, sz, cap⟩, cs, t, (0, 0), by simp, rfl, hnew, ⟨thaw_zero _, hone⟩, by simp [hcs], hle, hcap, hd⟩
  · exact Ext.new _ _ rfl hold hsz hos htape hout

theorem buildSliceA_ok {tm : List V} {t : TypeId} {len : Nat} {parts : Array (Nat × Operand)} {o : Oper} {v : V} (ho : o.op = .buildSlice t len parts) (h : buildSliceA P tm σ t len parts.toList = some (v, σ')) : OpOk P o tm σ v tm σ' := by
  intro w I ρ a hr hO
  unfold buildSliceA at h
  split at h
  · rename_i e hu
    split at h
    · rename_i zs ps ag hz hp hag
      simp only [Option.ite_none_right_eq_some] at h
      obtain ⟨⟨hzl, hl0, hs0, hbig, hisz⟩, h⟩ := h
      split at h
      · rename_i vs hf
        simp only [Option.map_eq_some_iff, Prod.mk.injEq] at h
        obtain ⟨ds, hch, rfl, rfl⟩ := h
        obtain ⟨ie, z, h1, h2, h3, h4⟩ := zeroA_rel (w := w) (I := I) (ρ := ρ) (σ := σ) hz
        have hpr := partsA_rel (w := w) (I := I) (ρ := ρ) (σ := σ) (e := a.eval) (fun x => vr_ev hr x) hp
        have hzlen := vrL_len h3
        simp only [Array.length_toList] at hzlen
        have hie : ie.size = szOf ag := by simpa [h1] using hisz
        have hinit : ((Array.range (len * ie.size)).map (z.cells[· % z.cells.size]!)).toList = (List.replicate len z.cells.toList).flatten := by
          rw [← range_mod z.cells.toList (by simp; omega) len]
          simp only [Array.toList_map, Array.toList_range, Array.length_toList]
          rw [hie, hzlen, hzl]
          apply List.map_congr_left
          intro i _
          simp [getElem!_def, List.getD]
          cases z.cells[i % szOf ag]? <;> rfl
        obtain ⟨cs, g1, g2, g3⟩ := fill_rel (cs := (Array.range (len * ie.size)).map (z.cells[· % z.cells.size]!)) hf hpr (by rw [hinit]; exact vrL_flat h3 len) (by
          rw [hinit]
          intro x hx
          simp only [List.mem_flatten, List.mem_replicate] at hx
          obtain ⟨l, ⟨_, rfl⟩, hx⟩ := hx
          exact h4 x hx)
        have hmap : (parts.map fun (i, x) => (i, a.eval x)).toList = parts.toList.map fun p => (p.1, a.eval p.2) := by simp
        have hrun := run_buildSlice (P := P) w t e len (parts.map fun (i, x) => (i, a.eval x)) cs ie z hu h1 h2 (by rw [hie]; simp only [gt_iff_lt, Nat.not_lt]; exact hbig) (by rw [hie]; exact Nat.ne_of_gt (Nat.mul_pos hl0 hs0)) (by rw [hmap, hie]; rw [hie] at g1; exact g1)
        have hI : ∀ b, I b → I b ∧ (w.alloc (.cells cs e)).heap[b]? = w.heap[b]? := fun b hb => ⟨hb, heap_alloc_old _ _ _ (hO.imm b hb).1⟩
        obtain ⟨k1, k2, k3⟩ := chunk_rel (w := w.alloc (.cells cs e)) (b := w.heap.size) (o := 0) hch (vrL_up hI vs _ (σ' := σ) (ρ' := ρ) (fun l hl => ⟨vrL_locs vs _ g2 l hl, fun o' h1 h2 => ⟨rfl, o', h1, h2, rfl⟩⟩) g2) g3 (fun j hj => by simp)
        refine newRow_ok (w' := w) (cap := len) (sz := szOf ag) (t := e) (cs := cs) hr hO (by simpa using k3) (by omega) (by have : len ≤ len * szOf ag := Nat.le_mul_of_pos_right _ hs0; simp only [maxLen]; omega) g3 k1 rfl rfl rfl rfl ?_
        simp only [execOp, ho, Sem.run_bind, hrun, Result.andThen_ok, k2]
        rfl
      · cases h
    · cases h
  · cases h
end

/-- Operations, as far as they are carried out without a word. -/
def mop (P : Program) (tm : List V) (σ : Store) (o : Oper) : Option (V × Store) :=
  match o.op with
  | .store t x y => (storeA P tm σ t x y).map fun σ' => (.undef, σ')
  | .box t x => boxA P tm σ t x
  | .alloc t => allocA P σ t
  | .build t parts => (buildA P tm t parts.toList).map fun v => (v, σ)
  | .buildSlice t len parts => buildSliceA P tm σ t len parts.toList
  | op => (qop P tm σ op).map fun v => (v, σ)
theorem mop_ok {P : Program} {tm : List V} {σ σ' : Store} {o : Oper} {v : V} (h : mop P tm σ o = some (v, σ')) : OpOk P o tm σ v tm σ' ∧ Op.isDefer o.op = false := by
  unfold mop at h
  split at h
  · rename_i ho
    simp only [Option.map_eq_some_iff, Prod.mk.injEq] at h
    obtain ⟨s, h1, rfl, rfl⟩ := h
    exact ⟨storeA_ok ho h1, by simp [ho, Op.isDefer]⟩
  · rename_i ho; exact ⟨boxA_ok ho h, by simp [ho, Op.isDefer]⟩
  · rename_i ho; exact ⟨allocA_ok ho h, by simp [ho, Op.isDefer]⟩
  · rename_i ho
    simp only [Option.map_eq_some_iff, Prod.mk.injEq] at h
    obtain ⟨s, h1, rfl, rfl⟩ := h
    exact ⟨buildA_ok ho h1, by simp [ho, Op.isDefer]⟩
  · rename_i ho; exact ⟨buildSliceA_ok ho h, by simp [ho, Op.isDefer]⟩
  · rename_i op _ _ _ _ _
    simp only [Option.map_eq_some_iff, Prod.mk.injEq] at h
    obtain ⟨s, h1, rfl, rfl⟩ := h
    exact ⟨qop_opOk h1, qop_isDefer h1⟩

/-- One step. -/
def mstep (P : Program) (todo : List Item) (tm : List V) (σ : Store) : Option (List Item × List V × Store) :=
  match todo with
  | .code .skip :: k => some (k, tm, σ)
  | .code (.label _) :: k => some (k, tm, σ)
  | .inBlock _ :: k => some (k, tm, σ)
  | .inScope _ :: k => some (k, tm, σ)
  | .code (.seq a b) :: k => some (.code a :: .code b :: k, tm, σ)
  | .code (.block id c) :: k => some (.code c :: .inBlock id :: k, tm, σ)
  | .code (.scope c) :: k => some (.code c :: .inScope c :: k, tm, σ)
  | .code (.loop c) :: k => some (.code c :: .inLoop c :: k, tm, σ)
  | .inLoop c :: k => some (.code c :: .inLoop c :: k, tm, σ)
  | .code (.exit id) :: k => (exitTo id k).map fun k' => (k', tm, σ)
  | .code (.goto l) :: k => (gotoIn l k).map fun k' => (k', tm, σ)
  | .code (.cond c x y) :: k => match ev tm c with
    | .d (.bool true) => some (.code x :: k, tm, σ)
    | .d (.bool false) => some (.code y :: k, tm, σ)
    | _ => none
  | .code (.region _ ops false) :: k => some (.inRegion ops (List.range ops.size) :: k, tm, σ)
  | .inRegion _ [] :: k => some (k, tm, σ)
  | .inRegion ops (i :: r) :: k => match ops[i]? with
    | none => none
    | some o => match wantA ops o tm with
      | some true => (mop P tm σ o).map fun p => (.inRegion ops r :: k, put tm o.dst p.1, p.2)
      | some false => some (.inRegion ops r :: k, put tm o.dst .undef, σ)
      | none => none
  | _ => none
theorem mstep_ok {P : Program} {f : FuncId} {ro : Option Nat} {n : Nat} {todo todo' : List Item} {tm tm' : List V} {σ σ' : Store} {df : List Nat} {Q : AE → Store → Prop} (h : mstep P todo tm σ = some (todo', tm', σ'))
    (hn : AW P f ro n todo' tm' σ' df Q) : AW P f ro n todo tm σ df Q := by
  unfold mstep at h
  split at h
  · cases h; exact .skip hn
  · cases h; exact .label hn
  · cases h; exact .inBlock hn
  · cases h; exact .inScope hn
  · cases h; exact .seq hn
  · cases h; exact .block hn
  · cases h; exact .scope hn
  · cases h; exact .loop hn
  · cases h; exact .inLoop hn
  · simp only [Option.map_eq_some_iff, Prod.mk.injEq] at h
    obtain ⟨k', h1, rfl, rfl, rfl⟩ := h
    exact .exit h1 hn
  · simp only [Option.map_eq_some_iff, Prod.mk.injEq] at h
    obtain ⟨k', h1, rfl, rfl, rfl⟩ := h
    exact .goto h1 hn
  · split at h
    · rename_i hc; cases h; exact .cond hc (fun _ => hn) (fun e => by cases e)
    · rename_i hc; cases h; exact .cond hc (fun e => by cases e) (fun _ => hn)
    · cases h
  · cases h; exact .region hn
  · cases h; exact .regionEnd hn
  · split at h
    · cases h
    · rename_i o hi
      split at h
      · rename_i hw
        simp only [Option.map_eq_some_iff, Prod.mk.injEq] at h
        obtain ⟨p, h1, rfl, rfl, rfl⟩ := h
        obtain ⟨g1, g2⟩ := mop_ok h1
        exact .op hi hw g2 g1 hn
      · rename_i hw
        cases h
        exact .opSkip hi hw hn
      · cases h
  · cases h
/-- Many steps. -/
def msteps (P : Program) : Nat → List Item → List V → Store → Option (List Item × List V × Store)
  | 0, todo, tm, σ => some (todo, tm, σ)
  | n + 1, todo, tm, σ => match mstep P todo tm σ with
    | some (todo', tm', σ') => msteps P n todo' tm' σ'
    | none => none
theorem AW.steps {P : Program} {f : FuncId} {ro : Option Nat} {n : Nat} (m : Nat) : ∀ {todo todo' : List Item} {tm tm' : List V} {σ σ' : Store} {df : List Nat} {Q : AE → Store → Prop}, msteps P m todo tm σ = some (todo', tm', σ') →
    AW P f ro n todo' tm' σ' df Q → AW P f ro n todo tm σ df Q := by
  induction m with
  | zero => intro todo todo' tm tm' σ σ' df Q h hn; cases h; exact hn
  | succ m ih =>
    intro todo todo' tm tm' σ σ' df Q h hn
    simp only [msteps] at h
    split at h
    · rename_i t1 t2 t3 h1
      exact mstep_ok h1 (ih h hn)
    · cases h
end Go.Br
