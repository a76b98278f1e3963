/- The base of these proofs, part S: calls: what is lent to a callee that only looks; calls in regions whose order is drawn. -/
import Derived.Test.YtoelkgbeefoplaaBrR
namespace Go.Br
open Go

/-! ### Things that name no row of others -/
mutual
def D.scal : D → Bool
  | .list _ [] => true
  | .list _ _ => false
  | .agg cs => D.scalL cs
  | _ => true
def D.scalL : List D → Bool
  | [] => true
  | d :: ds => d.scal && D.scalL ds
end
mutual
def V.scal : V → Bool
  | V.d x => x.scal
  | .ex _ [] => true
  | .ex _ _ => false
  | .ep _ _ _ => false
  | .fn _ a b => V.scalL a && V.scalL b
  | .tuple vs => V.scalL vs
  | .agg vs => V.scalL vs
  | _ => true
def V.scalL : List V → Bool
  | [] => true
  | v :: vs => v.scal && V.scalL vs
end
def O.scal : O → Bool
  | .cells cs => V.scalL cs
  | .row _ xs _ => D.scalL xs
  | .map es => es.all fun e => e.2.scal
  | .loop _ _ _ tm _ _ _ => V.scalL tm
  | _ => true
section
variable {w : World} {I I' : Nat → Prop} {ρ : LM} {σ : Store}
mutual
theorem Dr_scal : ∀ (d : D) (x : Value), d.scal = true → Dr w I d x → Dr w I' d x
  | .int _ _, x, _, h => by simpa [Dr] using h
  | .bool _, x, _, h => by simpa [Dr] using h
  | .str _, x, _, h => by simpa [Dr] using h
  | .raw _, x, _, h => by simpa [Dr] using h
  | .list _ [], x, _, h => by simpa [Dr] using h
  | .list _ (_ :: _), x, hs, _ => by simp [D.scal] at hs
  | .agg cs, x, hs, h => by
    simp only [Dr, D.scal] at *
    obtain ⟨vs, h1, h2⟩ := h
    exact ⟨vs, h1, DrL_scal cs vs hs h2⟩
theorem DrL_scal : ∀ (ds : List D) (xs : List Value), D.scalL ds = true → DrL w I ds xs → DrL w I' ds xs
  | [], xs, _, h => by simpa [DrL] using h
  | d :: ds, xs, hs, h => by
    simp only [DrL, D.scalL, Bool.and_eq_true] at *
    obtain ⟨v, vs', h1, h2, h3, h4⟩ := h
    exact ⟨v, vs', h1, h2, Dr_scal d v hs.1 h3, DrL_scal ds vs' hs.2 h4⟩
end
theorem DrE_scal {sz b : Nat} : ∀ {o : Nat} {ds : List D}, D.scalL ds = true → DrE w I sz b o ds → DrE w I' sz b o ds
  | _, [], _, _ => by simp [DrE]
  | o, d :: ds, hs, h => by
    simp only [DrE, D.scalL, Bool.and_eq_true] at *
    obtain ⟨⟨v, h1, h2⟩, h3⟩ := h
    exact ⟨⟨v, Dr_scal d v hs.1 h1, h2⟩, DrE_scal hs.2 h3⟩
mutual
theorem vr_scal : ∀ (v : V) (x : Value), v.scal = true → vr w I ρ σ v x → vr w I' ρ σ v x
  | .d d, x, hs, h => by simp only [vr, V.scal] at *; exact Dr_scal d x hs h
  | .undef, x, _, h => by simp [vr]
  | .nils, x, _, h => by simpa [vr] using h
  | .ex _ [], x, _, h => by simpa [vr, Dr] using h
  | .ex _ (_ :: _), x, hs, _ => by simp [V.scal] at hs
  | .ep _ _ _, x, hs, _ => by simp [V.scal] at hs
  | .ptr _ _ _, x, _, h => by simpa [vr] using h
  | .row _, x, _, h => by simpa [vr] using h
  | .sl _ _ _ _, x, _, h => by simpa [vr] using h
  | .yield _, x, _, h => by simpa [vr] using h
  | .fn f a b, x, hs, h => by
    simp only [vr, V.scal, Bool.and_eq_true] at *
    obtain ⟨fs, cs, h1, h2, h3⟩ := h
    exact ⟨fs, cs, h1, vrL_scal a fs hs.1 h2, vrL_scal b cs hs.2 h3⟩
  | .tuple vs, x, hs, h => by
    simp only [vr, V.scal] at *
    obtain ⟨xs, h1, h2⟩ := h
    exact ⟨xs, h1, vrL_scal vs xs hs h2⟩
  | .agg vs, x, hs, h => by
    simp only [vr, V.scal] at *
    obtain ⟨xs, h1, h2, h3⟩ := h
    exact ⟨xs, h1, vrL_scal vs xs hs h2, h3⟩
theorem vrL_scal : ∀ (vs : List V) (xs : List Value), V.scalL vs = true → vrL w I ρ σ vs xs → vrL w I' ρ σ vs xs
  | [], xs, _, h => by simpa [vrL] using h
  | v :: vs, xs, hs, h => by
    simp only [vrL, V.scalL, Bool.and_eq_true] at *
    obtain ⟨x, xs', h1, h2, h3⟩ := h
    exact ⟨x, xs', h1, vr_scal v x hs.1 h2, vrL_scal vs xs' hs.2 h3⟩
end
theorem orel_scal {l : Nat} {o : O} (hs : o.scal = true) (h : orel w I ρ σ l o) : orel w I' ρ σ l o := by
  cases o with
  | dead => simp [orel]
  | defd => simpa [orel] using h
  | cells cs =>
    simp only [orel] at *
    obtain ⟨L, C, T, fz, h1, h2, h3, h4, h5, h6⟩ := h
    exact ⟨L, C, T, fz, h1, h2, h3, h4, vrL_scal _ _ hs h5, h6⟩
  | row sz xs mv =>
    simp only [orel] at *
    rcases h with h | ⟨L, C, T, fz, h1, h2, h3, h4, h5, h6, h7, h8⟩
    · exact .inl h
    · exact .inr ⟨L, C, T, fz, h1, h2, h3, h4, h5, h6, h7, DrE_scal hs h8⟩
  | map es =>
    simp only [orel] at *
    obtain ⟨L, E, n, h1, h2, h3, h4, h5, h6⟩ := h
    refine ⟨L, E, n, h1, h2, h3, h4, fun j e hj => ?_, h6⟩
    obtain ⟨k1, x, k2, k3, k4⟩ := h5 j e hj
    exact ⟨k1, x, k2, k3, Dr_scal _ _ (List.all_eq_true.1 hs x (List.mem_of_getElem? k2)) k4⟩
  | loop st pend fn tm params assign body =>
    simp only [orel] at *
    obtain ⟨L, tmps, db, h1, h2, h3⟩ := h
    exact ⟨L, tmps, db, h1, h2, vrL_scal _ _ hs h3⟩
end

/-! ### What is lent -/
/-- A value, looked at as data. -/
def viewV (σ : Store) : V → Option D
  | .d d => some d
  | .ex sz xs => some (.list sz xs)
  | .row l => match σ[l]? with | some (.row sz xs _) => some (.list sz xs) | _ => none
  | .sl l off n _ => match σ[l]? with | some (.row sz xs _) => some (.list sz ((xs.take (off + n)).drop off)) | _ => none
  | _ => none
def viewL (σ : Store) : List V → Option (List V)
  | [] => some []
  | v :: vs => match viewV σ v with
    | some d => (viewL σ vs).map (.d d :: ·)
    | none => none
section
variable {w : World} {I : Nat → Prop} {ρ : LM} {σ : Store}
/-- All that there is may be lent. -/
def lent (I : Nat → Prop) (ρ : LM) (σ : Store) (b : Nat) : Prop := I b ∨ foot ρ σ b
theorem view_ok {A : V} {d : D} {x : Value} (hO : ORel w I ρ σ) (h : viewV σ A = some d) (hv : vr w I ρ σ A x) : Dr w (lent I ρ σ) d x := by
  have hI : ∀ b, I b → lent I ρ σ b ∧ w.heap[b]? = w.heap[b]? := fun b hb => ⟨.inl hb, rfl⟩
  unfold viewV at h
  split at h
  · cases h; simp only [vr] at hv; exact Dr_mono hI _ _ hv
  · cases h; simp only [vr] at hv; obtain ⟨a, _, hv⟩ := hv; exact Dr_mono hI _ _ hv
  · rename_i l
    split at h
    · rename_i sz xs mv hl
      cases h
      simp only [vr] at hv
      have h3 := hv.2.2 sz xs mv hl
      simp only [Dr]
      rcases h3 with ⟨h4, a, rfl⟩ | ⟨L, hL, h5, rfl⟩
      · refine ⟨a, 0, by rw [h4], by omega, by simp [maxLen], .inl (List.eq_nil_of_length_eq_zero h4)⟩
      · have ho := hO.objs l _ hl
        simp only [orel] at ho
        rcases ho with ⟨h6, h7⟩ | ⟨L', C, T, fz, h1, h2, h3, h4, h6, h7, h8, h9⟩
        · rw [hL] at h6; cases h6
        · rw [hL] at h1; cases h1
          refine ⟨_, L.cap - 0, rfl, by omega, by omega, .inr ⟨L.b, L.o + 0 * L.sz, rfl, .inr ⟨l, _, L, hl, by simp, hL, rfl⟩, ?_⟩⟩
          have : L.o + 0 * L.sz = L.o := by omega
          rw [this]
          exact DrE_mono hI sz L.b rfl _ _ h9
    · cases h
  · rename_i l off len _
    split at h
    · rename_i sz xs mv hl
      cases h
      simp only [vr] at hv
      obtain ⟨h0, h3, _⟩ := hv.2.2 sz xs mv hl
      have hlen : ((xs.take (off + len)).drop off).length = len := by simp; omega
      simp only [Dr]
      rw [hlen]
      rcases h3 with ⟨h4, a, rfl⟩ | ⟨L, hL, h5, rfl⟩
      · refine ⟨a, 0, by rw [h4], by omega, by simp [maxLen], .inl (List.eq_nil_of_length_eq_zero (by rw [hlen]; exact h4))⟩
      · have ho := hO.objs l _ hl
        simp only [orel] at ho
        rcases ho with ⟨h6, h7⟩ | ⟨L', C, T, fz, h1, h2, h3, h4, h6, h7, h8, h9⟩
        · rw [hL] at h6; cases h6
        · rw [hL] at h1; cases h1
          refine ⟨_, L.cap - off, rfl, by omega, by omega, .inr ⟨L.b, L.o + off * L.sz, rfl, .inr ⟨l, _, L, hl, by simp, hL, rfl⟩, ?_⟩⟩
          rw [h2]
          exact DrE_mono hI sz L.b rfl _ _ (DrE_piece h9)
    · cases h
  · cases h
theorem viewL_ok (hO : ORel w I ρ σ) : ∀ {vs ds : List V} {xs : List Value}, viewL σ vs = some ds → vrL w I ρ σ vs xs → vrL w (lent I ρ σ) ρ [] ds xs
  | [], ds, xs, h, hv => by simp only [viewL, Option.some.injEq] at h; subst h; simpa [vrL] using hv
  | v :: vs, ds, xs, h, hv => by
    simp only [viewL] at h
    split at h
    · rename_i d hd
      simp only [Option.map_eq_some_iff] at h
      obtain ⟨es, h1, rfl⟩ := h
      simp only [vrL] at hv ⊢
      obtain ⟨x, xs', h2, h3, h4⟩ := hv
      exact ⟨x, xs', h2, by simp only [vr]; exact view_ok hO hd h3, viewL_ok hO h1 h4⟩
    · cases h
theorem lent_orel (hO : ORel w I ρ σ) : ORel w (lent I ρ σ) ρ [] where
  objs l o h := by simp at h
  inj l l' L L' h := by obtain ⟨o, h, _⟩ := h; simp at h
  flt b h := by obtain ⟨l, o, L, h, _⟩ := h; simp at h
  imm b h := ⟨h.elim (fun h => (hO.imm b h).1) (hO.flt b), fun h => by obtain ⟨l, o, L, h, _⟩ := h; simp at h⟩
end

/-- What is left of a call that only looked at data: what it made lies behind. -/
theorem lend {w w' : World} {I : Nat → Prop} {ρ : LM} {σ : Store} {Q0 : AE → Store → Prop} {e : Ending} (hO : ORel w I ρ σ) (hs : ∀ r σ0, Q0 r σ0 → (∃ v, r = .ret v ∧ v.scal = true) ∧ (σ0.all O.scal && belB σ0.length σ0) = true)
    (h : Fin 0 w (lent I ρ σ) ρ [] Q0 e w') : ∃ v σ0 ρ2 x, Q0 (.ret v) σ0 ∧ e = .returned x ∧ vr w' I ρ2 (σ ++ σ0.map (·.ren (σ.length + ·))) (v.ren (σ.length + ·)) x ∧ ORel w' I ρ2 (σ ++ σ0.map (·.ren (σ.length + ·))) ∧
      Ext σ.length w I ρ σ w' I ρ2 (σ ++ σ0.map (·.ren (σ.length + ·))) ∧ (∀ l, l < σ.length → Same ρ σ ρ2 (σ ++ σ0.map (·.ren (σ.length + ·))) l) ∧ ∀ b, I b → I b ∧ w'.heap[b]? = w.heap[b]? := by
  obtain ⟨I', ρ', σ0, r, hq, hr, hO', hE⟩ := h
  obtain ⟨⟨v, rfl, hsv⟩, hso⟩ := hs r σ0 hq
  simp only [Bool.and_eq_true] at hso
  have hbel := fun (i : Nat) (o : O) (hi : σ0[i]? = some o) => belB_ok hso.2 hi
  obtain ⟨x, hxe, hxv⟩ := hr
  have nof : ∀ b, ¬ foot ρ [] b := fun b ⟨l, o, L, h, _⟩ => by simp at h
  have hold : ∀ b, b < w.heap.size → w'.heap[b]? = w.heap[b]? := fun b hb => hE.old b hb (nof b)
  have hnew : ∀ b, foot ρ' σ0 b → w.heap.size ≤ b := fun b hb => (hE.footN b hb).elim (fun h => absurd h (nof b)) id
  -- the new store
  let ρ2 : LM := fun l => if l < σ.length then ρ l else ρ' (l - σ.length)
  let σ2 : Store := σ ++ σ0.map (·.ren (σ.length + ·))
  have g1 : ∀ l, l < σ.length → σ2[l]? = σ[l]? := fun l hl => List.getElem?_append_left hl
  have g2 : ∀ l, ρ2 (σ.length + l) = ρ' l := fun l => by
    show (if σ.length + l < σ.length then _ else _) = _
    rw [if_neg (by omega)]
    congr 1; omega
  have g3 : ∀ l, l < σ.length → ρ2 l = ρ l := fun l hl => by simp [ρ2, hl]
  have g4 : ∀ l, σ2[σ.length + l]? = (σ0[l]?).map (·.ren (σ.length + ·)) := fun l => by
    show (σ ++ _)[σ.length + l]? = _
    rw [List.getElem?_append_right (by omega)]
    simp
  have hlen : σ.length ≤ σ2.length := by simp [σ2]
  have hS : ∀ l, l < σ.length → Same ρ σ ρ2 σ2 l := fun l hl => ⟨by omega, fun o' h1 h2 => ⟨g3 l hl, o', by rw [← g1 l hl]; exact h1, h2, rfl⟩⟩
  have hI : ∀ b, I b → I b ∧ w'.heap[b]? = w.heap[b]? := fun b hb => ⟨hb, hold b (hO.imm b hb).1⟩
  have hEm : Emb (σ.length + ·) ρ' σ0 ρ2 σ2 := fun i oc hi => ⟨g2 i, oc.ren (σ.length + ·), by rw [g4, hi]; rfl, O.ren_dead, O.ren_alike oc⟩
  have split : ∀ l, l < σ.length ∨ ∃ i, l = σ.length + i := fun l => by
    by_cases h : l < σ.length
    · exact .inl h
    · exact .inr ⟨l - σ.length, by omega⟩
  have hfoot : ∀ b, foot ρ2 σ2 b → foot ρ σ b ∨ foot ρ' σ0 b := by
    rintro b ⟨l, o, L, h1, h2, h3, h4⟩
    rcases split l with hl | ⟨i, rfl⟩
    · exact .inl ⟨l, o, L, by rw [← g1 l hl]; exact h1, h2, by rw [← g3 l hl]; exact h3, h4⟩
    · rw [g4] at h1
      simp only [Option.map_eq_some_iff] at h1
      obtain ⟨oc, h5, rfl⟩ := h1
      exact .inr ⟨i, oc, L, h5, fun e => h2 (O.ren_dead.2 e), by rw [← g2 i]; exact h3, h4⟩
  have hO2 : ORel w' I ρ2 σ2 := by
    refine ⟨fun l o hl => ?_, fun l l' L L' hv hv' hL hL' hb => ?_, fun b hb => ?_, fun b hb => ?_⟩
    · rcases split l with hlt | ⟨i, rfl⟩
      · have hl' : σ[l]? = some o := by rw [← g1 l hlt]; exact hl
        by_cases hd : o = .dead
        · subst hd; simp [orel]
        · exact orel_all hI hS (g3 l hlt) (fun L hL => hold _ (hO.flt _ ⟨l, o, L, hl', hd, hL, rfl⟩)) (hO.objs l o hl')
      · rw [g4] at hl
        simp only [Option.map_eq_some_iff] at hl
        obtain ⟨oc, h5, rfl⟩ := hl
        have h6 := orel_scal (I' := I) (List.all_eq_true.1 hso.1 oc (List.mem_of_getElem? h5)) (hO'.objs i oc h5)
        exact (orel_ren hEm (g2 i) (hbel i oc h5)).2 h6
    · have blk : ∀ l L, live σ2 l → ρ2 l = some L → (l < σ.length ∧ live σ l ∧ ρ l = some L ∧ L.b < w.heap.size) ∨ ∃ i, l = σ.length + i ∧ live σ0 i ∧ ρ' i = some L ∧ w.heap.size ≤ L.b := by
        rintro l L ⟨o, h1, h2⟩ hL
        rcases split l with hlt | ⟨i, rfl⟩
        · have h1' : σ[l]? = some o := by rw [← g1 l hlt]; exact h1
          have hL' : ρ l = some L := by rw [← g3 l hlt]; exact hL
          exact .inl ⟨hlt, ⟨o, h1', h2⟩, hL', hO.flt _ ⟨l, o, L, h1', h2, hL', rfl⟩⟩
        · rw [g4] at h1
          simp only [Option.map_eq_some_iff] at h1
          obtain ⟨oc, h5, rfl⟩ := h1
          have hd : oc ≠ .dead := fun e => h2 (O.ren_dead.2 e)
          have hL' : ρ' i = some L := by rw [← g2 i]; exact hL
          exact .inr ⟨i, rfl, ⟨oc, h5, hd⟩, hL', hnew _ ⟨i, oc, L, h5, hd, hL', rfl⟩⟩
      rcases blk l L hv hL with ⟨k1, k2, k3, k4⟩ | ⟨i, rfl, k2, k3, k4⟩ <;> rcases blk l' L' hv' hL' with ⟨m1, m2, m3, m4⟩ | ⟨i', rfl, m2, m3, m4⟩
      · exact hO.inj l l' L L' k2 m2 k3 m3 hb
      · omega
      · omega
      · rw [hO'.inj i i' L L' k2 m2 k3 m3 hb]
    · rcases hfoot b hb with h | h
      · exact Nat.lt_of_lt_of_le (hO.flt b h) hE.size
      · exact hO'.flt b h
    · refine ⟨Nat.lt_of_lt_of_le (hO.imm b hb).1 hE.size, fun h => ?_⟩
      rcases hfoot b h with h | h
      · exact (hO.imm b hb).2 h
      · have := hnew b h; have := (hO.imm b hb).1; omega
  have hvx : vr w' I ρ2 σ2 (v.ren (σ.length + ·)) x := (vr_ren hEm v x (vr_locs v x hxv)).2 (vr_scal v x hsv hxv)
  refine ⟨v, σ0, ρ2, x, hq, hxe, hvx, hO2, ⟨hE.size, hE.os, hE.tape, hE.output, fun b hb _ => hold b hb, fun b hb => hb, fun b hb => .inl hb, fun b hb => ?_, hlen, fun l hl ⟨o, h1, h2⟩ => ?_, fun l o' hl h1 h2 => ?_, fun l o hl h1 h2 => ?_⟩, hS, hI⟩
  · rcases hfoot b hb with h | h
    · exact .inl h
    · exact .inr (hnew b h)
  · exact ⟨o, by rw [← g1 l hl]; exact h1, h2⟩
  · exact ⟨g3 l hl, o', by rw [← g1 l hl]; exact h1, h2, rfl⟩
  · exact ⟨o, by rw [g1 l hl]; exact h1, rfl⟩
/-- A CALLEE THAT ONLY LOOKS AT DATA MAY LOOK AT ROWS; what it makes lies behind. -/
theorem CallsA.borrow {P : Program} {g : FuncId} {args ds : List V} {σ : Store} {Q0 : AE → Store → Prop} (h : CallsA P g ds [] Q0) (hv : viewL σ args = some ds)
    (hs : ∀ r σ0, Q0 r σ0 → (∃ v, r = .ret v ∧ v.scal = true) ∧ (σ0.all O.scal && belB σ0.length σ0) = true) :
    CallsA P g args σ fun r σ' => ∃ v σ0, Q0 (.ret v) σ0 ∧ r = .ret (v.ren (σ.length + ·)) ∧ σ' = σ ++ σ0.map (·.ren (σ.length + ·)) := by
  intro w I ρ xs hx hO
  refine (h w (lent I ρ σ) ρ xs (viewL_ok hO hv hx) (lent_orel hO)).mono ?_
  intro e w' hf
  obtain ⟨v, σ0, ρ2, x, h1, h2, h3, h4, h5, _⟩ := lend hO hs hf
  exact ⟨I, ρ2, _, _, ⟨v, σ0, h1, rfl, rfl⟩, ⟨x, h2, h3⟩, h4, h5⟩

section
variable {P : Program} {f : FuncId} {ro : Option Nat} {n : Nat} {k : List Item} {df : List Nat} {Q : AE → Store → Prop} {ops : Array Oper} {tm : List V} {σ : Store}
theorem vals_call {o : Oper} {x : Operand} {args : Array Operand} {ts : Array TypeId} {tm tm' : List V} (ho : o.op = .call { callee := .value x, args, argTypes := ts }) (h : valsOf tm' o = valsOf tm o) :
    ev tm' x = ev tm x ∧ args.toList.map (ev tm') = args.toList.map (ev tm) := by
  unfold valsOf at h
  rw [ho] at h
  simp only [Op.operands, Call.operands, Array.toList_append, List.map_append, List.map_cons, List.map_nil] at h
  simpa using h
/-- A CALL THAT ONLY LOOKS: its arguments as data; what it hands back and what it made: 'v' and 'σ0'. -/
theorem sem_look {i : Nat} {o : Oper} {x : Operand} {args : Array Operand} {ts : Array TypeId} {g : FuncId} {fn : Func} {c : Code} {first cap ds : List V} {v : V} {σ0 : Store}
    (hF : Fnc P g fn c) (hc : CallsA P g ds [] fun r σ' => r = .ret v ∧ σ' = σ0) (hi : ops[i]? = some o) (ho : o.op = .call { callee := .value x, args, argTypes := ts }) (hx : ev tm x = .fn (.func g) first cap)
    (hargs : viewL σ (coArgs P fn.params.toList (first ++ args.toList.map (ev tm) ++ cap)) = some ds) (hs : (v.scal && (σ0.all O.scal && belB σ0.length σ0)) = true) :
    Sem P f ro n k df Q ops o i (valsOf tm o) σ (v.ren (σ.length + ·)) (σ ++ σ0.map (·.ren (σ.length + ·))) := by
  intro rest tm' hv hw hk w I ρ a rb hr hb hn
  obtain ⟨e1, e2⟩ := vals_call ho hv
  rw [← e1] at hx
  rw [← e2] at hargs
  simp only [Bool.and_eq_true] at hs
  have hxv := vr_ev hr.tms x
  rw [hx] at hxv
  simp only [vr] at hxv
  obtain ⟨fs, cs, hxe, hfs, hcs⟩ := hxv
  have hev : vrL w I ρ σ (first ++ args.toList.map (ev tm') ++ cap) (fs ++ args.toList.map a.eval ++ cs) := vrL_append (vrL_append hfs (ev_rel (fun y => vr_ev hr.tms y) _)) hcs
  have hcalls := hc w (lent I ρ σ) ρ _ (viewL_ok hr.ors hargs (coArgs_rel hev)) (lent_orel hr.ors)
  refine RunsTo.call hi (wantA_ok hw hr.tms) (by simp [ho, Op.isDefer]) (exec_call ho hxe hF w) (S := fun y w'' => ∃ ρ2, vr w'' I ρ2 (σ ++ σ0.map (·.ren (σ.length + ·))) (v.ren (σ.length + ·)) y ∧ ORel w'' I ρ2 (σ ++ σ0.map (·.ren (σ.length + ·))) ∧
      Ext σ.length w I ρ σ w'' I ρ2 (σ ++ σ0.map (·.ren (σ.length + ·))) ∧ (∀ l, l < σ.length → Same ρ σ ρ2 (σ ++ σ0.map (·.ren (σ.length + ·))) l) ∧ ∀ b, I b → I b ∧ w''.heap[b]? = w.heap[b]?) (hcalls.mono ?_) ?_
  · intro e w'' hf
    obtain ⟨v', σ0', ρ2, y, ⟨h1, h1'⟩, h2, h3, h4, h5, h6, h7⟩ := lend hr.ors (fun r s hrs => ⟨⟨v, hrs.1, hs.1⟩, by rw [hrs.2]; simp only [Bool.and_eq_true]; exact hs.2⟩) hf
    cases h1
    subst h1'
    exact ⟨y, h2, ρ2, h3, h4, h5, h6, h7⟩
  · rintro y w'' ⟨ρ2, h3, h4, h5, h6, h7⟩
    have hst := h5.stays
    have := hk w'' I ρ2 (a.put o.dst y) rb ⟨vrL_put (vrL_all h7 h6 hr.tms) o.dst h3, h4, by rw [put_defers]; exact dfr_stay hst hr.dfs⟩ (rbOf_stay hst hb) (Nat.le_trans hn h5.len)
    exact this.mono fun e w3 hfin => hfin.trans (h5.less hn)

mutual
theorem V.kill_id {p : Nat → Bool} (hp : ∀ l, p l = false) : ∀ v : V, v.kill p = v
  | .d _ => rfl
  | .undef => rfl
  | .nils => rfl
  | .ex _ _ => rfl
  | .ep _ _ _ => rfl
  | .ptr l _ _ => by simp [V.kill, hp]
  | .row l => by simp [V.kill, hp]
  | .sl l _ _ _ => by simp [V.kill, hp]
  | .yield l => by simp [V.kill, hp]
  | .fn f a b => by simp [V.kill, V.killL_id hp a, V.killL_id hp b]
  | .tuple vs => by simp [V.kill, V.killL_id hp vs]
  | .agg vs => by simp [V.kill, V.killL_id hp vs]
theorem V.killL_id {p : Nat → Bool} (hp : ∀ l, p l = false) : ∀ vs : List V, V.killL p vs = vs
  | [] => rfl
  | v :: vs => by simp [V.killL, V.kill_id hp v, V.killL_id hp vs]
end
theorem O.kill_id {p : Nat → Bool} (hp : ∀ l, p l = false) (o : O) : o.kill p = o := by
  cases o <;> simp [O.kill, V.killL_id hp]
mutual
theorem V.ren_none {m : Nat → Nat} : ∀ v : V, v.locs = [] → v.ren m = v
  | .d _, _ => rfl
  | .undef, _ => rfl
  | .nils, _ => rfl
  | .ex _ _, _ => rfl
  | .ep _ _ _, _ => rfl
  | .ptr l _ _, h => by simp [V.locs] at h
  | .row l, h => by simp [V.locs] at h
  | .sl l _ _ _, h => by simp [V.locs] at h
  | .yield l, h => by simp [V.locs] at h
  | .fn f a b, h => by simp only [V.locs, List.append_eq_nil_iff] at h; simp [V.ren, V.renL_none a h.1, V.renL_none b h.2]
  | .tuple vs, h => by simp only [V.locs] at h; simp [V.ren, V.renL_none vs h]
  | .agg vs, h => by simp only [V.locs] at h; simp [V.ren, V.renL_none vs h]
theorem V.renL_none {m : Nat → Nat} : ∀ vs : List V, V.locsL vs = [] → V.renL m vs = vs
  | [], _ => rfl
  | v :: vs, h => by simp only [V.locsL, List.append_eq_nil_iff] at h; simp [V.renL, V.ren_none v h.1, V.renL_none vs h.2]
end
theorem movedB_nil (σ0 : Store) (l : Nat) : movedB [] σ0 l = false := rfl
theorem merge_nil (σ σ0 : Store) : merge σ [] σ0 = σ ++ σ0.map (·.ren (σ.length + ·)) := by
  unfold merge
  have h1 : mp [] σ.length = (σ.length + ·) := by funext i; simp [mp]
  rw [h1]
  congr 1
  apply List.ext_getElem?
  intro l
  simp only [List.getElem?_mapIdx]
  cases σ[l]? with
  | none => rfl
  | some o => simp [O.kill_id (movedB_nil σ0)]
/-- A CALL WITH DATA: whatever the store is. -/
theorem sem_data {i : Nat} {o : Oper} {x : Operand} {args : Array Operand} {ts : Array TypeId} {g : FuncId} {fn : Func} {c : Code} {first cap ds : List V} {v : V} {σ0 : Store}
    (hF : Fnc P g fn c) (hc : CallsA P g ds [] fun r σ' => r = .ret v ∧ σ' = σ0) (hi : ops[i]? = some o) (ho : o.op = .call { callee := .value x, args, argTypes := ts }) (hx : ev tm x = .fn (.func g) first cap)
    (hargs : coArgs P fn.params.toList (first ++ args.toList.map (ev tm) ++ cap) = ds) (hl : (V.locsL ds).isEmpty = true) (σ : Store) :
    Sem P f ro n k df Q ops o i (valsOf tm o) σ (v.ren (σ.length + ·)) (σ ++ σ0.map (·.ren (σ.length + ·))) := by
  intro rest tm' hv hw hk
  have hl' : V.locsL ds = [] := by simpa using hl
  obtain ⟨e1, e2⟩ := vals_call ho hv
  rw [← e1] at hx
  rw [← e2] at hargs
  refine AW.call (m := []) ds [] hF hc hi hw ho hx (by rw [hargs, V.renL_none ds hl']) (by simp [belB, hl']) ⟨rfl, rfl, rfl⟩ ?_
  rintro r σ' ⟨rfl, rfl⟩
  refine ⟨v, rfl, ?_⟩
  have h1 : mp [] σ.length = (σ.length + ·) := by funext i; simp [mp]
  rw [V.killL_id (movedB_nil _), merge_nil, h1]
  exact hk
theorem AW.sem {i : Nat} {rest : List Nat} {o : Oper} {v : V} {σ' : Store} (h : Sem P f ro n k df Q ops o i (valsOf tm o) σ v σ') (hw : wantA ops o tm = some true) (hn : AW P f ro n (.inRegion ops rest :: k) (put tm o.dst v) σ' df Q) :
    AW P f ro n (.inRegion ops (i :: rest) :: k) tm σ df Q := h rest tm rfl hw hn
end
end Go.Br
