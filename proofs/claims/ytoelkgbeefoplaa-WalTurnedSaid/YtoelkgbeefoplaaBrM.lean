/- The base of these proofs, part M: pieces of slices and texts; append. -/
import Derived.Test.YtoelkgbeefoplaaBrL
namespace Go.Br
open Go

/-- A bound of a slice expression. -/
def Bnd (tm : List V) (o : Option Operand) (l d : Nat) : Prop :=
  match o with
  | none => l = d
  | some x => ∃ k n, ev tm x = .d (.int k n) ∧ 0 ≤ n ∧ n.toNat = l

section
variable {w w' : World} {I I' : Nat → Prop} {ρ ρ' : LM} {σ σ' : Store} {P : Program}
theorem bound_run {tm : List V} {a : Act} (hr : vrL w I ρ σ tm a.tmps.toList) {x : Operand} {k : IntKind} {n : Int} (hx : ev tm x = .d (.int k n)) (h0 : 0 ≤ n) {y : Nat} (hy : n.toNat ≤ y) (c : BoundsCode) : (Instr.sliceBound (a.eval x) y c).run P w = .ok n.toNat w := by
  have := vr_ev hr x
  rw [hx] at this
  simp only [vr, Dr] at this
  have hc : 0 ≤ n ∧ n ≤ (y : Int) := ⟨h0, by omega⟩
  simp [Instr.sliceBound, this, asIntOf, hc]
theorem bounds_run {tm : List V} {a : Act} (hr : vrL w I ρ σ tm a.tmps.toList) {lo hi mx : Option Operand} {b : Bool} {len cap l h m : Nat} (hlo : Bnd tm lo l 0) (hhi : Bnd tm hi h len) (hmx : Bnd tm mx m cap) (h1 : l ≤ h) (h2 : h ≤ m) (h3 : m ≤ cap)
    (hm : mx.isSome = true → hi.isSome = true) : (Instr.sliceBounds b len cap (lo.map a.eval) (hi.map a.eval) (mx.map a.eval)).run P w = .ok (l, h, m) w := by
  unfold Instr.sliceBounds
  cases mx with
  | none =>
    simp only [Bnd] at hmx; subst hmx
    cases hi with
    | none =>
      simp only [Bnd] at hhi; subst hhi
      cases lo with
      | none => simp only [Bnd] at hlo; subst hlo; simp
      | some x =>
        obtain ⟨k, n, g1, g2, rfl⟩ := hlo
        simp [bound_run (P := P) hr g1 g2 h1]
    | some y =>
      obtain ⟨k, n, g1, g2, rfl⟩ := hhi
      cases lo with
      | none => simp only [Bnd] at hlo; subst hlo; simp [bound_run (P := P) hr g1 g2 h2]
      | some x =>
        obtain ⟨k', n', g3, g4, rfl⟩ := hlo
        simp [bound_run (P := P) hr g1 g2 h2, bound_run (P := P) hr g3 g4 h1]
  | some z =>
    obtain ⟨k, n, g1, g2, rfl⟩ := hmx
    cases hi with
    | none => simp at hm
    | some y =>
      obtain ⟨k', n', g3, g4, rfl⟩ := hhi
      cases lo with
      | none => simp only [Bnd] at hlo; subst hlo; simp [bound_run (P := P) hr g1 g2 h3, bound_run (P := P) hr g3 g4 h2]
      | some x =>
        obtain ⟨k2, n2, g5, g6, rfl⟩ := hlo
        simp [bound_run (P := P) hr g1 g2 h3, bound_run (P := P) hr g3 g4 h2, bound_run (P := P) hr g5 g6 h1]

theorem DrE_piece {sz b o l h : Nat} {xs : List D} (hE : DrE w I sz b o xs) : DrE w I sz b (o + l * sz) ((xs.take h).drop l) := by
  obtain ⟨vs, hN, hc⟩ := DrN_of_E hE
  refine DrE_of_N (DrN_drop l (DrN_take h hN)) fun j hj => ?_
  simp only [List.length_drop, List.length_take] at hj
  rw [List.getElem?_drop, List.getElem?_take, if_pos (by omega), ← hc (l * sz + j) (by omega)]
  congr 2; omega

/-- A slice of a slice of data, as it is carried out. -/
theorem slice_run {o : Oper} {a : Act} {t e : TypeId} {x : Operand} {lo hi mx : Option Operand} {inf : TypeInfo} {ad : Option Addr} {len cap l h m : Nat} (ho : o.op = .slice t x lo hi mx) (hu : P.underlying t = some (.slice e)) (hinf : P.info? e = some inf)
    (he : a.eval x = .slice ad len cap) (hb : (Instr.sliceBounds true len cap (lo.map a.eval) (hi.map a.eval) (mx.map a.eval)).run P w = .ok (l, h, m) w) :
    (execOp a.eval o).run P w = .ok (.value (.slice (if m = l then ad else ad.map (·.add (l * inf.size))) (h - l) (m - l))) w := by
  simp [execOp, ho, Instr.sliceAt, Instr.slice, run_underlying hu, he, hb, sizeOf, typeInfo, hinf]

theorem slData_ok {tm : List V} {t : TypeId} {x : Operand} {lo hi : Option Operand} {o : Oper} {sz : Nat} {xs : List D} (l h : Nat) (ho : o.op = .slice t x lo hi none) (hx : listOf (ev tm x) = some (sz, xs)) (ht : elemSz P t = some sz)
    (hlo : Bnd tm lo l 0) (hhi : Bnd tm hi h xs.length) (h1 : l ≤ h) (h2 : h ≤ xs.length) : OpOk P o tm σ (.d (.list sz ((xs.take h).drop l))) tm σ := by
  intro w I ρ a hr hO
  have hxr := listOf_rel hx (vr_ev hr x)
  simp only [Dr] at hxr
  obtain ⟨ad, cap, he, k1, k2, k3⟩ := hxr
  obtain ⟨e, inf, hu, hinf, hsz⟩ := elemSz_und ht
  have hb := bounds_run (P := P) (b := true) (len := xs.length) (cap := cap) (m := cap) hr hlo hhi (mx := none) rfl h1 (Nat.le_trans h2 k1) (Nat.le_refl _) (by simp)
  have hrun := slice_run ho hu hinf he hb
  refine ⟨_, _, w, I, ρ, hrun, .inl rfl, ?_, hr, hO, Ext.refl _ _ _ _⟩
  simp only [vr, Dr]
  have hlen : ((xs.take h).drop l).length = h - l := by simp; omega
  refine ⟨_, cap - l, by rw [hlen], by omega, by omega, ?_⟩
  by_cases hne : l = h
  · exact .inl (List.eq_nil_of_length_eq_zero (by omega))
  rcases k3 with k3 | ⟨b, q, rfl, hI, hE⟩
  · exact .inl (by simp [k3])
  · refine .inr ⟨b, q + l * sz, ?_, hI, DrE_piece hE⟩
    rw [if_neg (by omega)]
    simp [addr_add, hsz]
theorem sl3Data_ok {tm : List V} {t : TypeId} {x y z : Operand} {lo : Option Operand} {o : Oper} {sz : Nat} {xs : List D} (l h : Nat) (ho : o.op = .slice t x lo (some y) (some z)) (hx : listOf (ev tm x) = some (sz, xs)) (ht : elemSz P t = some sz)
    (hlo : Bnd tm lo l 0) (hhi : Bnd tm (some y) h xs.length) (hmx : Bnd tm (some z) h xs.length) (h1 : l ≤ h) (h2 : h ≤ xs.length) : OpOk P o tm σ (.ex sz ((xs.take h).drop l)) tm σ := by
  intro w I ρ a hr hO
  have hxr := listOf_rel hx (vr_ev hr x)
  simp only [Dr] at hxr
  obtain ⟨ad, cap, he, k1, k2, k3⟩ := hxr
  obtain ⟨e, inf, hu, hinf, hsz⟩ := elemSz_und ht
  have hb := bounds_run (P := P) (b := true) (len := xs.length) (cap := cap) (m := h) hr hlo hhi (mx := some z) hmx h1 (Nat.le_refl _) (Nat.le_trans h2 k1) (by simp)
  have hrun := slice_run ho hu hinf he hb
  refine ⟨_, _, w, I, ρ, hrun, .inl rfl, ?_, hr, hO, Ext.refl _ _ _ _⟩
  simp only [vr, Dr]
  have hlen : ((xs.take h).drop l).length = h - l := by simp; omega
  refine ⟨_, by rw [hlen], _, h - l, by rw [hlen], by omega, by omega, ?_⟩
  by_cases hne : l = h
  · exact .inl (List.eq_nil_of_length_eq_zero (by omega))
  rcases k3 with k3 | ⟨b, q, rfl, hI, hE⟩
  · exact .inl (by simp [k3])
  · refine .inr ⟨b, q + l * sz, ?_, hI, DrE_piece hE⟩
    rw [if_neg (by omega)]
    simp [addr_add, hsz]
theorem slRow_ok {tm : List V} {t : TypeId} {x : Operand} {lo hi : Option Operand} {o : Oper} {lc sz : Nat} {xs : List D} {mv : Bool} (l h : Nat) (ho : o.op = .slice t x lo hi none) (hx : ev tm x = .row lc) (hs : σ[lc]? = some (.row sz xs mv)) (ht : elemSz P t = some sz)
    (hlo : Bnd tm lo l 0) (hhi : Bnd tm hi h xs.length) (h1 : l ≤ h) (h2 : h ≤ xs.length) : OpOk P o tm σ (.sl lc l (h - l) none) tm σ := by
  intro w I ρ a hr hO
  have hxr := vr_ev hr x
  rw [hx] at hxr
  simp only [vr] at hxr
  obtain ⟨e, inf, hu, hinf, hsz⟩ := elemSz_und ht
  have hob := hO.objs lc _ hs
  simp only [orel] at hob
  have hmk : ∀ ad cap, a.eval x = .slice ad xs.length cap → xs.length ≤ cap → (∀ v, v = .slice (if cap = l then ad else ad.map (·.add (l * inf.size))) (h - l) (cap - l) → rowV ρ lc l (h - l) v) →
      ∃ nx y w' I' ρ', (execOp a.eval o).run P w = .ok nx w' ∧ (nx = .value y ∨ nx = .skip ∧ y = undef) ∧ vr w' I' ρ' σ (.sl lc l (h - l) none) y ∧ vrL w' I' ρ' σ tm a.tmps.toList ∧ ORel w' I' ρ' σ ∧ Ext σ.length w I ρ σ w' I' ρ' σ := by
    intro ad cap he k1 hv
    have hb := bounds_run (P := P) (b := true) (len := xs.length) (cap := cap) (m := cap) hr hlo hhi (mx := none) rfl h1 (Nat.le_trans h2 k1) (Nat.le_refl _) (by simp)
    have hrun := slice_run ho hu hinf he hb
    refine ⟨_, _, w, I, ρ, hrun, .inl rfl, ?_, hr, hO, Ext.refl _ _ _ _⟩
    simp only [vr]
    refine ⟨rfl, hxr.2.1, fun sz' xs' mv' hx' => ?_⟩
    rw [hs] at hx'; cases hx'
    exact ⟨by omega, hv _ rfl, fun k hk => by cases hk⟩
  rcases hxr.2.2 _ _ _ hs with ⟨h0, ad, he⟩ | ⟨L, hL, hle, he⟩
  · have he2 : a.eval x = .slice ad xs.length 0 := by rw [he, h0]
    refine hmk ad 0 he2 (by omega) fun v hv => .inl ⟨by omega, ?_⟩
    have : l = 0 := by omega
    subst this
    simp at hv
    have : h = 0 := by omega
    subst this
    exact ⟨_, hv⟩
  · rcases hob with ⟨h0, _⟩ | ⟨L', C, T, fz, hL', hLs, _, _, _, hle2, _⟩
    · rw [hL] at h0; cases h0
    rw [hL] at hL'; cases hL'
    refine hmk _ _ he (by omega) fun v hv => ?_
    by_cases hcl : L.cap = l
    · refine .inl ⟨by omega, ?_⟩
      have e1 : h - l = 0 := by omega
      have e2 : L.cap - 0 - l = 0 := by omega
      rw [e1, e2] at hv
      exact ⟨_, hv⟩
    · refine .inr ⟨L, hL, by omega, ?_⟩
      rw [if_neg (by omega)] at hv
      simpa [addr_add, hsz, hLs] using hv
theorem slStr_ok {tm : List V} {t : TypeId} {x : Operand} {lo hi : Option Operand} {o : Oper} {s : ByteArray} (l h : Nat) (ho : o.op = .slice t x lo hi none) (hx : ev tm x = .d (.str s)) (ht : isStrT P t = true)
    (hlo : Bnd tm lo l 0) (hhi : Bnd tm hi h s.size) (h1 : l ≤ h) (h2 : h ≤ s.size) : OpOk P o tm σ (.d (.str (s.extract l h))) tm σ := by
  intro w I ρ a hr hO
  have hxr := vr_ev hr x
  rw [hx] at hxr
  simp only [vr, Dr] at hxr
  have hb := bounds_run (P := P) (b := false) (len := s.size) (cap := s.size) (m := s.size) hr hlo hhi (mx := none) rfl h1 h2 (Nat.le_refl _) (by simp)
  refine ⟨_, .string (s.extract l h), w, I, ρ, ?_, .inl rfl, by simp [vr, Dr], hr, hO, Ext.refl _ _ _ _⟩
  simp only [Option.map_none] at hb
  simp [execOp, ho, Instr.sliceAt, Instr.slice, run_underlying (isStrT_und ht), hxr, hb]

/-- Two texts as one. -/
theorem cat_ok {tm : List V} {t ty : TypeId} {x y : Operand} {o : Oper} {s u : ByteArray} (ho : o.op = .binOp .add t x y ty) (hx : ev tm x = .d (.str s)) (hy : ev tm y = .d (.str u)) (hsz : s.size + u.size ≤ 9223372036854775807) :
    OpOk P o tm σ (.d (.str (s ++ u))) tm σ := by
  intro w I ρ a hr hO
  have hxr := vr_ev hr x
  have hyr := vr_ev hr y
  rw [hx] at hxr
  rw [hy] at hyr
  simp only [vr, Dr] at hxr hyr
  have hmax : ¬ (((s.size + u.size : Nat) : Int) > IntKind.i64.max) := by
    have : IntKind.i64.max = 9223372036854775807 := by decide
    rw [this]; omega
  refine ⟨_, .string (s ++ u), w, I, ρ, ?_, .inl rfl, by simp [vr, Dr], hr, hO, Ext.refl _ _ _ _⟩
  simp only [execOp, ho, hxr, hyr, eqGuard, binOp, Op.stringOp, Sem.run_bind]
  rw [if_neg hmax]
  simp

/-- What may be appended, or copied: its elements. -/
def cont (σ : Store) : V → Option (Nat × List D)
  | .d (.list sz xs) => some (sz, xs)
  | .ex sz xs => some (sz, xs)
  | .row l => match σ[l]? with | some (.row sz xs _) => some (sz, xs) | _ => none
  | .sl l off n _ => match σ[l]? with | some (.row sz xs _) => some (sz, (xs.drop off).take n) | _ => none
  | .d (.str s) => some (1, s.data.toList.map fun b => .int .u8 b.toNat)
  | _ => none
theorem cells_run {L : Loc} {C : Array Value} {T : TypeId} {fz : Nat × Nat} {q : Nat} {vs : List Value} (hh : w.heap[L.b]? = some (.cells C T fz)) (hc : ∀ j, j < vs.length → C[q + j]? = vs[j]?) {w1 : World} (hw : w1.heap = w.heap) :
    (loadCells ⟨L.b, q, none⟩ vs.length).run P w1 = .ok vs.toArray w1 :=
  run_loadCells_list (P := P) w1 ⟨L.b, q, none⟩ vs fun j v hj => by
    rw [addr_add]
    have hlt := (List.getElem?_eq_some_iff.1 hj).1
    simp [World.cell?, hw, hh, hc j hlt, hj]
theorem str_cells (s : ByteArray) : DrN w I 1 (s.data.toList.map fun b => .int .u8 b.toNat) (s.data.toList.map fun b => .int .u8 b.toNat) := by
  generalize s.data.toList = l
  induction l with
  | nil => simp [DrN]
  | cons b l ih => simp only [List.map_cons, DrN]; exact ⟨.int .u8 b.toNat, _, by simp [Dr], rfl, rfl, ih⟩
theorem cont_rel {v : V} {x : Value} {sz : Nat} {ys : List D} (h : cont σ v = some (sz, ys)) (hv : vr w I ρ σ v x) (hO : ORel w I ρ σ) : ∃ news, DrN w I sz ys news ∧ (∀ w1, (Builtin.lenOf x).run P w1 = .ok ys.length w1) ∧
    ∀ w1 : World, w1.heap = w.heap → (Builtin.firstCells sz ys.length x).run P w1 = .ok news.toArray w1 := by
  have hdata : ∀ {sz : Nat} {xs : List D}, Dr w I (.list sz xs) x → ∃ news, DrN w I sz xs news ∧ (∀ w1, (Builtin.lenOf x).run P w1 = .ok xs.length w1) ∧ ∀ w1 : World, w1.heap = w.heap → (Builtin.firstCells sz xs.length x).run P w1 = .ok news.toArray w1 := by
    intro sz xs hd
    simp only [Dr] at hd
    obtain ⟨ad, cap, rfl, k1, k2, k3⟩ := hd
    rcases k3 with rfl | ⟨b, q, rfl, hI, hE⟩
    · refine ⟨[], by simp [DrN], fun w1 => by simp [Builtin.lenOf], fun w1 _ => ?_⟩
      cases ad with
      | none => simp [Builtin.firstCells]
      | some ad => simp [Builtin.firstCells, loadCells, loadCellsFrom]
    · obtain ⟨vs, hN, hc⟩ := DrN_of_E hE
      refine ⟨vs, hN, fun w1 => by simp [Builtin.lenOf], fun w1 hw => ?_⟩
      have hl := DrN_len hN
      simp only [Builtin.firstCells]
      rw [← hl]
      refine run_loadCells_list (P := P) w1 ⟨b, q, none⟩ vs fun j v hj => ?_
      rw [addr_add]
      have hlt := (List.getElem?_eq_some_iff.1 hj).1
      rw [← hj, ← hc j hlt]
      simp [World.cell?, hw]
  have hrow : ∀ {l off n sz : Nat} {xs : List D} {mv : Bool}, σ[l]? = some (.row sz xs mv) → rowV ρ l off n x → off + n ≤ xs.length → ∃ news, DrN w I sz ((xs.drop off).take n) news ∧ (∀ w1, (Builtin.lenOf x).run P w1 = .ok n w1) ∧ ∀ w1 : World, w1.heap = w.heap → (Builtin.firstCells sz n x).run P w1 = .ok news.toArray w1 := by
    intro l off n sz xs mv hs hv hle
    rcases hv with ⟨rfl, ad, rfl⟩ | ⟨L, hL, hle2, rfl⟩
    · refine ⟨[], by simp [DrN], fun w1 => by simp [Builtin.lenOf], fun w1 _ => ?_⟩
      cases ad with
      | none => simp [Builtin.firstCells]
      | some ad => simp [Builtin.firstCells, loadCells, loadCellsFrom]
    · have hob := hO.objs l _ hs
      simp only [orel] at hob
      rcases hob with ⟨h0, _⟩ | ⟨L', C, T, fz, hL', hLs, hh, _, _, _, _, hE⟩
      · rw [hL] at h0; cases h0
      rw [hL] at hL'; cases hL'
      obtain ⟨vs, hN, hc⟩ := DrN_of_E hE
      have hN2 := DrN_take n (DrN_drop off hN)
      refine ⟨_, hN2, fun w1 => by simp [Builtin.lenOf], fun w1 hw => ?_⟩
      have hl := DrN_len hN2
      have hl0 := DrN_len hN
      have hn : ((xs.drop off).take n).length = n := by simp; omega
      rw [hn] at hl
      have hcr := cells_run (P := P) (q := L.o + off * sz) (vs := (vs.drop (off * sz)).take (n * sz)) hh (fun j hj => by
        simp only [List.length_take, List.length_drop] at hj
        rw [List.getElem?_take, if_pos (by omega), List.getElem?_drop, ← hc _ (by omega)]
        simp [World.cell?, hh, Nat.add_assoc]) hw
      rw [hl] at hcr
      simp only [Builtin.firstCells]
      rw [hLs]
      exact hcr
  unfold cont at h
  split at h
  · cases h; simp only [vr] at hv; exact hdata hv
  · cases h; simp only [vr] at hv; obtain ⟨a, rfl, hv⟩ := hv; exact hdata hv
  · split at h
    · rename_i hs
      cases h
      simp only [vr] at hv
      have := hrow hs (hv.2.2 _ _ _ hs) (by omega)
      simpa using this
    · cases h
  · split at h
    · rename_i hs
      cases h
      simp only [vr] at hv
      obtain ⟨g1, g2⟩ := hv.2.2 _ _ _ hs
      have := hrow hs g2.1 g1
      have hn : ∀ (xs : List D) off n, off + n ≤ xs.length → ((xs.drop off).take n).length = n := fun xs off n h => by simp; omega
      rw [hn _ _ _ g1]
      exact this
    · cases h
  · cases h
    simp only [vr, Dr] at hv
    subst hv
    rename_i s
    refine ⟨_, str_cells s, fun w1 => by simp [Builtin.lenOf], fun w1 _ => ?_⟩
    simp only [Builtin.firstCells]
    have : s.extract 0 (s.data.toList.map fun b : UInt8 => D.int .u8 b.toNat).length = s := by simp
    rw [this]
    simp only [Sem.run_pure]
    congr 1
    apply Array.ext'
    simp
  · cases h
end
end Go.Br
