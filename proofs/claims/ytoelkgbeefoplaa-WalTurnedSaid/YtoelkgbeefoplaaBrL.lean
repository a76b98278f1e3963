/- The base of these proofs, part L: stores into rows; pieces of slices and texts; freezing. -/
import Derived.Test.YtoelkgbeefoplaaBrK
namespace Go.Br
open Go

section
variable {w w' : World} {I I' : Nat → Prop} {ρ ρ' : LM} {σ σ' : Store} {P : Program}
theorem DrL_len : ∀ {cs : List D} {xs : List Value}, DrL w I cs xs → xs.length = cs.length
  | [], xs, h => by simp only [DrL] at h; subst h; rfl
  | c :: cs, xs, h => by
    simp only [DrL] at h
    obtain ⟨v, vs', rfl, _, _, h3⟩ := h
    simp [DrL_len h3]
theorem DrL_append : ∀ {cs ds : List D} {xs ys : List Value}, DrL w I cs xs → DrL w I ds ys → DrL w I (cs ++ ds) (xs ++ ys)
  | [], ds, xs, ys, h1, h2 => by simp only [DrL] at h1; subst h1; simpa using h2
  | c :: cs, ds, xs, ys, h1, h2 => by
    simp only [DrL] at h1
    obtain ⟨v, vs', rfl, g1, g2, g3⟩ := h1
    simp only [List.cons_append, DrL]
    exact ⟨v, vs' ++ ys, rfl, g1, g2, DrL_append g3 h2⟩
theorem DrL_take : ∀ {cs : List D} {xs : List Value} (n : Nat), DrL w I cs xs → DrL w I (cs.take n) (xs.take n)
  | [], xs, n, h => by simp only [DrL] at h; subst h; simp [DrL]
  | c :: cs, xs, 0, h => by simp [DrL]
  | c :: cs, xs, n + 1, h => by
    simp only [DrL] at h
    obtain ⟨v, vs', rfl, g1, g2, g3⟩ := h
    simp only [List.take_succ_cons, DrL]
    exact ⟨v, _, rfl, g1, g2, DrL_take n g3⟩
theorem DrL_drop : ∀ {cs : List D} {xs : List Value} (n : Nat), DrL w I cs xs → DrL w I (cs.drop n) (xs.drop n)
  | [], xs, n, h => by simp only [DrL] at h; subst h; simp [DrL]
  | c :: cs, xs, 0, h => by simpa using h
  | c :: cs, xs, n + 1, h => by
    simp only [DrL] at h
    obtain ⟨v, vs', rfl, g1, g2, g3⟩ := h
    simpa using DrL_drop n g3
theorem setD_rel {d d' : D} {s : Nat} {ys : List D} {v : Value} {us : List Value} (h : setD d s ys = some d') (hd : Dr w I d v) (hy : DrL w I ys us) : ∃ v', Dr w I d' v' ∧ v'.cells.toList = splice v.cells.toList s us := by
  have hlen := DrL_len hy
  unfold setD at h
  split at h
  · rename_i cs
    simp only [Option.ite_none_right_eq_some, Option.some.injEq] at h
    obtain ⟨hle, rfl⟩ := h
    simp only [Dr] at hd
    obtain ⟨xs, rfl, hl⟩ := hd
    refine ⟨.agg (splice xs s us).toArray, ?_, by simp [Value.cells]⟩
    simp only [Dr]
    refine ⟨_, rfl, ?_⟩
    unfold splice
    rw [hlen]
    exact DrL_append (DrL_append (DrL_take s hl) hy) (DrL_drop _ hl)
  · rename_i hna
    split at h
    · cases h
    · rename_i y hny
      cases h
      simp only [DrL] at hy
      obtain ⟨u, us', rfl, h1, h2, rfl⟩ := hy
      refine ⟨u, h2, ?_⟩
      have hu : u.cells = #[u] := by cases u <;> simp_all [Value.cells, one, Value.oneCell']
      have hv : v.cells = #[v] := by
        cases d with
        | agg cs => exact absurd rfl (hna cs)
        | int k n => simp only [Dr] at hd; subst hd; rfl
        | bool b => simp only [Dr] at hd; subst hd; rfl
        | str b => simp only [Dr] at hd; subst hd; rfl
        | raw x => simp only [Dr] at hd; obtain ⟨rfl, h9⟩ := hd; cases v <;> simp_all [Value.cells, one, Value.oneCell']
        | list sz xs => simp only [Dr] at hd; obtain ⟨a, c, rfl, _⟩ := hd; rfl
      simp [hu, hv, splice]
    · cases h
theorem DrN_set {sz : Nat} : ∀ {xs : List D} {vs : List Value} {i s : Nat} {d d' : D} {ys : List D} {us : List Value}, DrN w I sz xs vs → xs[i]? = some d → setD d s ys = some d' → DrL w I ys us → s + us.length ≤ sz →
    DrN w I sz (xs.set i d') (splice vs (i * sz + s) us)
  | [], _, _, _, _, _, _, _, _, hi, _, _, _ => by simp at hi
  | e :: xs, vs, 0, s, d, d', ys, us, h, hi, hs, hy, hle => by
    simp only [List.getElem?_cons_zero, Option.some.injEq] at hi
    subst hi
    simp only [DrN] at h
    obtain ⟨v, rest, g1, g2, rfl, g4⟩ := h
    obtain ⟨v', k1, k2⟩ := setD_rel hs g1 hy
    simp only [List.set_cons_zero, DrN]
    refine ⟨v', rest, k1, ?_, ?_, g4⟩
    · have := congrArg List.length k2
      simp [splice] at this
      omega
    · rw [k2]
      unfold splice
      have e1 : s ≤ v.cells.toList.length := by simp; omega
      have e2 : s + us.length ≤ v.cells.toList.length := by simp; omega
      rw [Nat.zero_mul, Nat.zero_add, List.take_append_of_le_length e1, List.drop_append_of_le_length e2]
      simp
  | e :: xs, vs, i + 1, s, d, d', ys, us, h, hi, hs, hy, hle => by
    simp only [List.getElem?_cons_succ] at hi
    simp only [DrN] at h
    obtain ⟨v, rest, g1, g2, rfl, g4⟩ := h
    have ih := DrN_set g4 hi hs hy hle
    simp only [List.set_cons_succ, DrN]
    refine ⟨v, _, g1, g2, ?_, ih⟩
    unfold splice
    have e1 : (i + 1) * sz + s = v.cells.toList.length + (i * sz + s) := by simp [g2, Nat.add_mul]; omega
    rw [e1, List.take_length_add_append, Nat.add_assoc, List.drop_length_add_append]
    simp
theorem setD_len {d d' : D} {s : Nat} {ys : List D} {v : Value} (h : setD d s ys = some d') (hd : Dr w I d v) : s + ys.length ≤ v.cells.size := by
  unfold setD at h
  split at h
  · simp only [Option.ite_none_right_eq_some] at h
    simp only [Dr] at hd
    obtain ⟨xs, rfl, hl⟩ := hd
    have := DrL_len hl
    simp only [Value.cells, List.size_toArray]
    omega
  · rename_i hna
    have hv : v.cells = #[v] := by
      cases d with
      | agg cs => exact absurd rfl (hna cs)
      | int k n => simp only [Dr] at hd; subst hd; rfl
      | bool b => simp only [Dr] at hd; subst hd; rfl
      | str b => simp only [Dr] at hd; subst hd; rfl
      | raw x => simp only [Dr] at hd; obtain ⟨rfl, h9⟩ := hd; cases v <;> simp_all [Value.cells, one, Value.oneCell']
      | list sz xs => simp only [Dr] at hd; obtain ⟨a, c, rfl, _⟩ := hd; rfl
    split at h
    · cases h
    · simp [hv]
    · cases h
/-- A block's cells as they read. -/
theorem row_cells {L : Loc} {C : Array Value} {T : TypeId} {fz : Nat × Nat} {vs : List Value} (hh : w.heap[L.b]? = some (.cells C T fz)) (hc : ∀ j, j < vs.length → w.cell? ⟨L.b, L.o + j, none⟩ = vs[j]?) :
    vs = (C.toList.drop L.o).take vs.length := by
  apply List.ext_getElem?
  intro j
  by_cases hj : j < vs.length
  · rw [← hc j hj]
    simp [World.cell?, hh, hj]
  · rw [List.getElem?_eq_none (by omega), List.getElem?_eq_none (by simp; omega)]

/-- A store into a row. -/
theorem stRow_ok {tm : List V} {t : TypeId} {x y : Operand} {o : Oper} {l i s sz : Nat} {xs : List D} {mv : Bool} {d d' : D} (ho : o.op = .store t x y) (hx : ev tm x = .ptr l i s) (hs : σ[l]? = some (.row sz xs mv)) (hd : xs[i]? = some d)
    (hv : storeE P tm t y d s = some d') : OpOk P o tm σ .undef tm (σ.set l (.row sz (xs.set i d') mv)) := by
  intro w I ρ a hr hO
  have hxr := vr_ev hr x
  rw [hx] at hxr
  simp only [vr] at hxr
  obtain ⟨L, hL, he⟩ := hxr.2.2 ⟨_, hs, by simp⟩
  have hob := hO.objs l _ hs
  simp only [orel] at hob
  rcases hob with ⟨h1, _⟩ | ⟨L', C, T, fz, hL', hLs, hh, hth, hC, hle, hcap, hE⟩
  · rw [hL] at h1; cases h1
  rw [hL] at hL'; cases hL'
  unfold storeE at hv
  split at hv
  · rename_i vs hcv
    split at hv
    · rename_i ds hds
      simp only [Option.ite_none_right_eq_some] at hv
      obtain ⟨hsz, hset⟩ := hv
      obtain ⟨hc, h1⟩ := cells_rel hcv (co_rel (P := P) (t := t) (vr_ev hr y))
      have hDL := vrL_DrL hds hc h1
      have hlen := DrL_len hDL
      simp only [Array.length_toList] at hlen
      obtain ⟨u, g1, g2, _⟩ := DrE_get hE hd
      have hfit := setD_len hset g1
      rw [g2] at hfit
      obtain ⟨vs0, hN, hcell⟩ := DrN_of_E hE
      have hN0 := DrN_len hN
      have hilt : i < xs.length := (List.getElem?_eq_some_iff.1 hd).1
      have hbound : i * sz + sz ≤ xs.length * sz := by
        have := Nat.mul_le_mul_right sz (show i + 1 ≤ xs.length by omega)
        rwa [Nat.add_mul, Nat.one_mul] at this
      have hbound2 : xs.length * sz ≤ L.cap * sz := Nat.mul_le_mul_right _ hle
      have hN2 := DrN_set hN hd hset hDL (by simp only [Array.length_toList]; omega)
      rw [hLs] at he
      have hrun := run_storeVar_th (P := P) (t := t) (g := L.b) (s := L.o + i * sz + s) (x := a.eval y) hh hth.1 (by rw [hlen]; exact hsz) (by omega) h1
      have hrun' : (execOp a.eval o).run P w = .ok .skip (w.setRow L.b (C.toList.take (L.o + i * sz + s) ++ (a.eval y).cells.toList ++ C.toList.drop (L.o + i * sz + s + (a.eval y).cells.size)).toArray) := by
        simp only [execOp, ho, he, Instr.storeAt, Instr.sureAddr, Sem.run_bind, Sem.run_pure, Result.andThen_ok, hrun]
      have hII : ∀ b, I b → I b ∧ (w.setRow L.b (C.toList.take (L.o + i * sz + s) ++ (a.eval y).cells.toList ++ C.toList.drop (L.o + i * sz + s + (a.eval y).cells.size)).toArray).heap[b]? = w.heap[b]? :=
        fun b hb => ⟨hb, setRow_other _ _ _ _ fun e => (hO.imm b hb).2 ⟨l, _, L, hs, by simp, hL, e.symm⟩⟩
      refine ⟨.skip, undef, _, I, ρ, hrun', .inr ⟨rfl, rfl⟩, by simp [vr], ?_, ?_, ?_⟩
      · exact vrL_all hII (same_set hs (by simp) (by simp [O.alike, O.rl])) hr
      · refine hO.upd hs (by simp) hL (by simp [O.alike, O.rl]) (fun b hb => setRow_other _ _ _ _ hb) (by simp) ?_
        simp only [orel]
        refine .inr ⟨L, _, T, fz, hL, hLs, setRow_heap _ _ _ _ _ _ hh, ?_, ?_, by simpa using hle, hcap, ?_⟩
        · have : ∀ n, n = C.size → thaw fz n := fun n e => e ▸ hth.1
          exact ⟨this _ (by simp; omega), one_splice hth.2 h1⟩
        · simp; omega
        · have hvs0 := row_cells hh hcell
          have hsl : (splice vs0 (i * sz + s) (a.eval y).cells.toList).length = vs0.length := by simp [splice]; omega
          refine DrE_of_N (DrN_mono hII hN2) fun j hj => ?_
          rw [hsl] at hj
          have hcs : ∀ q, (w.setRow L.b (C.toList.take (L.o + i * sz + s) ++ (a.eval y).cells.toList ++ C.toList.drop (L.o + i * sz + s + (a.eval y).cells.size)).toArray).cell? ⟨L.b, q, none⟩ =
              (C.toList.take (L.o + i * sz + s) ++ (a.eval y).cells.toList ++ C.toList.drop (L.o + i * sz + s + (a.eval y).cells.size))[q]? := fun q => by
            rw [cell_setRow_same _ _ _ _ _ _ _ hh]; simp
          rw [hcs]
          have key : C.toList.take (L.o + i * sz + s) ++ (a.eval y).cells.toList ++ C.toList.drop (L.o + i * sz + s + (a.eval y).cells.size) = C.toList.take L.o ++ splice (C.toList.drop L.o) (i * sz + s) (a.eval y).cells.toList := by
            unfold splice
            rw [List.drop_drop, ← List.append_assoc, ← List.append_assoc]
            congr 1
            · congr 1
              rw [Nat.add_assoc, List.take_add]
            · congr 1
              simp; omega
          rw [key, List.getElem?_append_right (by simp; omega)]
          have e1 : L.o + j - (C.toList.take L.o).length = j := by simp; omega
          rw [e1]
          -- both splices agree below vs0's length
          have hsp : splice vs0 (i * sz + s) (a.eval y).cells.toList = (splice (C.toList.drop L.o) (i * sz + s) (a.eval y).cells.toList).take vs0.length := by
            conv => lhs; rw [hvs0]
            unfold splice
            rw [List.take_take, List.drop_take, List.take_append, List.take_append, List.take_take]
            simp only [List.length_append, List.length_take, List.length_drop, Array.length_toList]
            have m1 : min (i * sz + s) vs0.length = i * sz + s := by omega
            have m2 : min vs0.length (i * sz + s) = i * sz + s := by omega
            have m3 : min (i * sz + s) (C.size - L.o) = i * sz + s := by omega
            rw [m1, m2, m3, List.take_of_length_le (l := (a.eval y).cells.toList) (by simp; omega)]
          rw [hsp, List.getElem?_take, if_pos hj]
      · exact Ext.upd hs (by simp) hL (fun h => by simpa [O.still] using h) (by simp [O.alike, O.rl]) rfl (fun b hb => setRow_other _ _ _ _ hb) (by simp) rfl rfl rfl
    · cases hv
  · cases hv
end
end Go.Br
