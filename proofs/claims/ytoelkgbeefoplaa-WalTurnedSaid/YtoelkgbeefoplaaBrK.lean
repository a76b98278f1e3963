/- The base of these proofs, part K: elements of data and of rows; pieces of slices and strings. -/
import Derived.Test.YtoelkgbeefoplaaBrJ
namespace Go.Br
open Go

section
variable (w : World) (I : Nat → Prop)
/-- Elements as cells, one behind the other. -/
def DrN (sz : Nat) : List D → List Value → Prop
  | [], vs => vs = []
  | d :: ds, vs => ∃ v rest, Dr w I d v ∧ v.cells.size = sz ∧ vs = v.cells.toList ++ rest ∧ DrN sz ds rest
end
section
variable {w w' : World} {I I' : Nat → Prop} {ρ ρ' : LM} {σ σ' : Store} {P : Program}
theorem DrN_mono (h : ∀ b, I b → I' b ∧ w'.heap[b]? = w.heap[b]?) {sz : Nat} : ∀ {ds : List D} {vs : List Value}, DrN w I sz ds vs → DrN w' I' sz ds vs
  | [], _, hd => by simpa [DrN] using hd
  | d :: ds, vs, hd => by
    simp only [DrN] at hd ⊢
    obtain ⟨v, rest, h1, h2, h3, h4⟩ := hd
    exact ⟨v, rest, Dr_mono h d v h1, h2, h3, DrN_mono h h4⟩
theorem DrN_len {sz : Nat} : ∀ {ds : List D} {vs : List Value}, DrN w I sz ds vs → vs.length = ds.length * sz
  | [], _, hd => by simp only [DrN] at hd; subst hd; simp
  | d :: ds, vs, hd => by
    simp only [DrN] at hd
    obtain ⟨v, rest, h1, h2, rfl, h4⟩ := hd
    have := DrN_len h4
    simp only [List.length_append, Array.length_toList, List.length_cons, h2, this, Nat.add_mul, Nat.one_mul]
    omega
theorem Dr_one {d : D} {v : Value} (h : Dr w I d v) : ∀ x ∈ v.cells.toList, one x := by
  obtain ⟨vs, _, _, h3⟩ := Dr_cells (ρ := fun _ => none) (σ := []) h
  exact h3
theorem DrN_one {sz : Nat} : ∀ {ds : List D} {vs : List Value}, DrN w I sz ds vs → ∀ x ∈ vs, one x
  | [], _, hd, x, hx => by simp only [DrN] at hd; subst hd; simp at hx
  | d :: ds, vs, hd, x, hx => by
    simp only [DrN] at hd
    obtain ⟨v, rest, h1, h2, rfl, h4⟩ := hd
    rcases List.mem_append.1 hx with hx | hx
    · exact Dr_one h1 x hx
    · exact DrN_one h4 x hx
theorem DrN_append {sz : Nat} : ∀ {ds es : List D} {vs us : List Value}, DrN w I sz ds vs → DrN w I sz es us → DrN w I sz (ds ++ es) (vs ++ us)
  | [], es, vs, us, h1, h2 => by simp only [DrN] at h1; subst h1; simpa using h2
  | d :: ds, es, vs, us, h1, h2 => by
    simp only [DrN] at h1
    obtain ⟨v, rest, g1, g2, rfl, g4⟩ := h1
    simp only [List.cons_append, DrN]
    exact ⟨v, rest ++ us, g1, g2, by simp, DrN_append g4 h2⟩
theorem DrN_drop {sz : Nat} : ∀ {ds : List D} {vs : List Value} (n : Nat), DrN w I sz ds vs → DrN w I sz (ds.drop n) (vs.drop (n * sz))
  | [], vs, n, h => by simp only [DrN] at h; subst h; simp [DrN]
  | d :: ds, vs, 0, h => by simpa using h
  | d :: ds, vs, n + 1, h => by
    simp only [DrN] at h
    obtain ⟨v, rest, g1, g2, rfl, g4⟩ := h
    have := DrN_drop n g4
    have e : (v.cells.toList ++ rest).drop sz = rest := by
      rw [← g2]; exact List.drop_left' (by simp)
    have e2 : (v.cells.toList ++ rest).drop ((n + 1) * sz) = rest.drop (n * sz) := by
      have h3 : (n + 1) * sz = sz + n * sz := by rw [Nat.add_mul]; omega
      rw [h3, ← List.drop_drop, e]
    rw [e2]
    simpa using this
theorem DrN_take {sz : Nat} : ∀ {ds : List D} {vs : List Value} (n : Nat), DrN w I sz ds vs → DrN w I sz (ds.take n) (vs.take (n * sz))
  | [], vs, n, h => by simp only [DrN] at h; subst h; simp [DrN]
  | d :: ds, vs, 0, h => by simp [DrN]
  | d :: ds, vs, n + 1, h => by
    simp only [DrN] at h
    obtain ⟨v, rest, g1, g2, rfl, g4⟩ := h
    have := DrN_take n g4
    simp only [List.take_succ_cons, DrN]
    refine ⟨v, rest.take (n * sz), g1, g2, ?_, this⟩
    rw [Nat.add_mul, Nat.one_mul, Nat.add_comm, List.take_append]
    have e : sz + n * sz - v.cells.toList.length = n * sz := by simp [g2]
    rw [e, List.take_of_length_le (by simp [g2])]
theorem DrE_of_N {sz b : Nat} : ∀ {ds : List D} {vs : List Value} {o : Nat}, DrN w I sz ds vs → (∀ j, j < vs.length → w.cell? ⟨b, o + j, none⟩ = vs[j]?) → DrE w I sz b o ds
  | [], _, _, _, _ => by simp [DrE]
  | d :: ds, vs, o, h, hc => by
    simp only [DrN] at h
    obtain ⟨v, rest, g1, g2, rfl, g4⟩ := h
    simp only [DrE]
    refine ⟨⟨v, g1, g2, fun j hj => ?_⟩, DrE_of_N g4 fun j hj => ?_⟩
    · rw [hc j (by simp; omega), List.getElem?_append_left (by simp; omega)]
      simp
    · have := hc (sz + j) (by simp; omega)
      rw [show o + sz + j = o + (sz + j) by omega, this, List.getElem?_append_right (by simp; omega)]
      congr 1
      simp; omega
theorem DrN_of_E {sz b : Nat} : ∀ {ds : List D} {o : Nat}, DrE w I sz b o ds → ∃ vs, DrN w I sz ds vs ∧ ∀ j, j < vs.length → w.cell? ⟨b, o + j, none⟩ = vs[j]?
  | [], _, _ => ⟨[], by simp [DrN], by simp⟩
  | d :: ds, o, h => by
    simp only [DrE] at h
    obtain ⟨⟨v, g1, g2, g3⟩, g4⟩ := h
    obtain ⟨rest, h1, h2⟩ := DrN_of_E g4
    refine ⟨v.cells.toList ++ rest, ?_, fun j hj => ?_⟩
    · simp only [DrN]; exact ⟨v, rest, g1, g2, rfl, h1⟩
    · by_cases hjs : j < sz
      · rw [g3 j hjs, List.getElem?_append_left (by simp; omega)]; simp
      · have := h2 (j - sz) (by simp at hj; omega)
        rw [show o + sz + (j - sz) = o + j by omega] at this
        rw [this, List.getElem?_append_right (by simp; omega)]
        congr 1; simp; omega
theorem DrE_get {sz b : Nat} : ∀ {ds : List D} {o i : Nat} {d : D}, DrE w I sz b o ds → ds[i]? = some d → ∃ v, Dr w I d v ∧ v.cells.size = sz ∧ ∀ j, j < sz → w.cell? ⟨b, o + i * sz + j, none⟩ = v.cells[j]?
  | [], _, _, _, _, h => by simp at h
  | e :: ds, o, 0, d, h, hi => by
    simp only [DrE] at h
    simp only [List.getElem?_cons_zero, Option.some.injEq] at hi
    subst hi
    obtain ⟨⟨v, g1, g2, g3⟩, _⟩ := h
    exact ⟨v, g1, g2, by simpa using g3⟩
  | e :: ds, o, i + 1, d, h, hi => by
    simp only [DrE] at h
    simp only [List.getElem?_cons_succ] at hi
    obtain ⟨v, g1, g2, g3⟩ := DrE_get h.2 hi
    refine ⟨v, g1, g2, fun j hj => ?_⟩
    rw [← g3 j hj]
    congr 2
    rw [Nat.add_mul]; omega

theorem elemSz_und {t : TypeId} {sz : Nat} (h : elemSz P t = some sz) : ∃ e i, P.underlying t = some (.slice e) ∧ P.info? e = some i ∧ i.size = sz := by
  unfold elemSz at h
  split at h
  · simp only [Option.map_eq_some_iff] at h
    obtain ⟨i, h1, h2⟩ := h
    exact ⟨_, i, by assumption, h1, h2⟩
  · cases h

/-- Data that is a list. -/
def listOf : V → Option (Nat × List D)
  | .d (.list sz xs) => some (sz, xs)
  | .ex sz xs => some (sz, xs)
  | _ => none
theorem listOf_rel {v : V} {x : Value} {sz : Nat} {xs : List D} (h : listOf v = some (sz, xs)) (hv : vr w I ρ σ v x) : Dr w I (.list sz xs) x := by
  unfold listOf at h
  split at h
  · cases h; simpa [vr] using hv
  · cases h; simp only [vr] at hv; obtain ⟨a, rfl, h⟩ := hv; exact h
  · cases h

/-- The address of an element of data. -/
theorem ixData_ok {tm : List V} {t : TypeId} {x i : Operand} {o : Oper} {sz : Nat} {xs : List D} {k : IntKind} {n : Int} {d : D} (ho : o.op = .indexAddr t x i) (hx : listOf (ev tm x) = some (sz, xs)) (hi : ev tm i = .d (.int k n))
    (ht : elemSz P t = some sz) (h0 : 0 ≤ n) (hd : xs[n.toNat]? = some d) : OpOk P o tm σ (.ep sz d 0) tm σ := by
  intro w I ρ a hr hO
  have hxr := listOf_rel hx (vr_ev hr x)
  have hir := vr_ev hr i
  rw [hi] at hir
  simp only [vr, Dr] at hir hxr
  obtain ⟨ad, cap, he, h1, h2, h3⟩ := hxr
  obtain ⟨e, inf, hu, hinf, hsz⟩ := elemSz_und ht
  have hlt : n.toNat < xs.length := (List.getElem?_eq_some_iff.1 hd).1
  rcases h3 with h3 | ⟨b, q, rfl, hI, hE⟩
  · simp [h3] at hlt
  obtain ⟨u, g1, g2, g3⟩ := DrE_get hE hd
  refine ⟨_, .pointer (some ⟨b, q + n.toNat * sz, none⟩), w, I, ρ, ?_, .inl rfl, ?_, hr, hO, Ext.refl _ _ _ _⟩
  · have hcond : 0 ≤ n ∧ n < (xs.length : Int) := ⟨h0, by omega⟩
    simp [execOp, ho, he, hir, Instr.indexAt, asIntOf, run_underlying hu, hcond, sizeOf, typeInfo, hinf, hsz, addr_add]
  · simp only [vr]
    exact ⟨b, q + n.toNat * sz, by simp, hI, u, g1, g2, g3⟩

/-- The address of an element of a row. -/
theorem ixRow_ok {tm : List V} {t : TypeId} {x i : Operand} {o : Oper} {l sz : Nat} {xs : List D} {mv : Bool} {k : IntKind} {n : Int} (ho : o.op = .indexAddr t x i) (hx : ev tm x = .row l) (hi : ev tm i = .d (.int k n))
    (hs : σ[l]? = some (.row sz xs mv)) (ht : elemSz P t = some sz) (h0 : 0 ≤ n) (hn : n.toNat < xs.length) : OpOk P o tm σ (.ptr l n.toNat 0) tm σ := by
  intro w I ρ a hr hO
  have hxr := vr_ev hr x
  have hir := vr_ev hr i
  rw [hx] at hxr
  rw [hi] at hir
  simp only [vr, Dr] at hir hxr
  obtain ⟨e, inf, hu, hinf, hsz⟩ := elemSz_und ht
  have hob := hO.objs l _ hs
  simp only [orel] at hob
  rcases hob with ⟨_, rfl⟩ | ⟨L, C, T, fz, hL, hLs, hh, _⟩
  · simp at hn
  rcases hxr.2.2 _ _ _ hs with ⟨h3, _⟩ | ⟨L', hL', hle, he⟩
  · omega
  rw [hL] at hL'; cases hL'
  refine ⟨_, .pointer (some ⟨L.b, L.o + n.toNat * sz, none⟩), w, I, ρ, ?_, .inl rfl, ?_, hr, hO, Ext.refl _ _ _ _⟩
  · have hcond : 0 ≤ n ∧ n < (xs.length : Int) := ⟨h0, by omega⟩
    simp [execOp, ho, he, hir, Instr.indexAt, asIntOf, run_underlying hu, hcond, sizeOf, typeInfo, hinf, hsz, addr_add]
  · simp only [vr]
    exact ⟨rfl, hxr.2.1, fun _ => ⟨L, hL, by simp [hLs]⟩⟩

/-- A byte of a text. -/
theorem ixStr_ok {tm : List V} {t : TypeId} {x i : Operand} {o : Oper} {s : ByteArray} {k : IntKind} {n : Int} {b : UInt8} (ho : o.op = .index t x i) (hx : ev tm x = .d (.str s)) (hi : ev tm i = .d (.int k n))
    (ht : isStrT P t = true) (h0 : 0 ≤ n) (hb : s[n.toNat]? = some b) : OpOk P o tm σ (.d (.int .u8 b.toNat)) tm σ := by
  intro w I ρ a hr hO
  have hxr := vr_ev hr x
  have hir := vr_ev hr i
  rw [hx] at hxr
  rw [hi] at hir
  simp only [vr, Dr] at hir hxr
  refine ⟨_, .int .u8 b.toNat, w, I, ρ, ?_, .inl rfl, by simp [vr, Dr], hr, hO, Ext.refl _ _ _ _⟩
  simp [execOp, ho, hxr, hir, Instr.index, asIntOf, run_underlying (isStrT_und ht), h0, hb]

/-- A load out of a row. -/
theorem ldRow_ok {tm : List V} {t : TypeId} {x : Operand} {o : Oper} {l i s sz : Nat} {xs : List D} {mv : Bool} {d : D} {v : V} (ho : o.op = .load t x) (hx : ev tm x = .ptr l i s) (hs : σ[l]? = some (.row sz xs mv)) (hd : xs[i]? = some d)
    (hv : loadE P t d s = some v) : OpOk P o tm σ v tm σ := by
  intro w I ρ a hr hO
  have hxr := vr_ev hr x
  rw [hx] at hxr
  simp only [vr] at hxr
  obtain ⟨L, hL, he⟩ := hxr.2.2 ⟨_, hs, by simp⟩
  have hob := hO.objs l _ hs
  simp only [orel] at hob
  rcases hob with ⟨h1, _⟩ | ⟨L', C, T, fz, hL', hLs, hh, hth, hC, hle, hcap, hE⟩
  · rw [hL] at h1; cases h1
  rw [hL] at hL'; cases hL'
  obtain ⟨u, g1, g2, g3⟩ := DrE_get hE hd
  obtain ⟨z, h4, h5⟩ := loadE_ok (ρ := ρ) (σ := σ) (q := L.o + i * sz) (s := s) (b := L.b) hv g1 g2 g3
  rw [hLs] at he
  exact ⟨_, z, w, I, ρ, by simp [execOp, ho, he, Instr.loadAt, Instr.sureAddr, h4], .inl rfl, h5, hr, hO, Ext.refl _ _ _ _⟩

/-- An element, partly written anew. -/
def setD (d : D) (s : Nat) (ys : List D) : Option D :=
  match d with
  | .agg cs => if s + ys.length ≤ cs.length then some (.agg (splice cs s ys)) else none
  | _ => match s, ys with
    | 0, [.agg _] => none
    | 0, [y] => some y
    | _, _ => none
/-- What is stored into an element. -/
def storeE (P : Program) (tm : List V) (t : TypeId) (y : Operand) (d : D) (s : Nat) : Option D :=
  match cellsV (co P t (ev tm y)) with
  | some vs => match datas vs with
    | some ds => if (P.info? t).map (·.size) = some ds.length then setD d s ds else none
    | none => none
  | none => none
end
end Go.Br
