/- The base of these proofs, part I: into a callee and out of it. -/
import Derived.Test.YtoelkgbeefoplaaBrH
namespace Go.Br
open Go

section up
variable {w w' : World} {I I' : Nat → Prop} {ρ ρ' : LM} {σ σ' : Store}
/-- A thing that stays as it is, if what it names stays. -/
theorem orel_up (hI : ∀ b, I b → I' b ∧ w'.heap[b]? = w.heap[b]?) {l : Nat} {o : O} (hs : ∀ x ∈ o.locs, Same ρ σ ρ' σ' x) (hρ : ρ' l = ρ l) (hh : ∀ L, ρ l = some L → w'.heap[L.b]? = w.heap[L.b]?) (h : orel w I ρ σ l o) :
    orel w' I' ρ' σ' l o := by
  cases o with
  | dead => simp [orel]
  | cells cs =>
    simp only [orel] at h ⊢
    obtain ⟨L, C, T, fz, h1, h2, h3, h4, h5, h6⟩ := h
    exact ⟨L, C, T, fz, hρ.trans h1, h2, (hh L h1).trans h3, h4, vrL_up hI _ _ hs h5, h6⟩
  | row sz xs mv =>
    simp only [orel] at h ⊢
    rcases h with ⟨h1, h2⟩ | ⟨L, C, T, fz, h1, h2, h3, h4, h5, h6, h7, h8⟩
    · exact .inl ⟨hρ.trans h1, h2⟩
    · exact .inr ⟨L, C, T, fz, hρ.trans h1, h2, (hh L h1).trans h3, h4, h5, h6, h7, DrE_mono hI sz L.b (hh L h1) L.o xs h8⟩
  | map es =>
    simp only [orel] at h ⊢
    obtain ⟨L, E, n, h1, h2, h3, h4, h5, h6⟩ := h
    refine ⟨L, E, n, hρ.trans h1, h2, (hh L h1).trans h3, h4, fun j e hj => ?_, h6⟩
    obtain ⟨g1, x, g2, g3, g4⟩ := h5 j e hj
    exact ⟨g1, x, g2, g3, Dr_mono hI _ _ g4⟩
  | loop st pend fn tm params assign body =>
    simp only [orel] at h ⊢
    obtain ⟨L, tmps, db, h1, h2, h3⟩ := h
    exact ⟨L, tmps, db, hρ.trans h1, (hh L h1).trans h2, vrL_up hI _ _ hs h3⟩
  | defd =>
    simp only [orel] at h ⊢
    obtain ⟨L, h1, h2⟩ := h
    exact ⟨L, hρ.trans h1, (hh L h1).trans h2⟩
end up
theorem O.locs_kill (p : Nat → Bool) (o : O) : ∀ l ∈ (o.kill p).locs, l ∈ o.locs ∧ p l = false := by
  intro l hl
  cases o with
  | cells cs => exact locsL_kill p cs l hl
  | loop a b c tm d e f => exact locsL_kill p tm l hl
  | _ => simp [O.kill, O.locs] at hl

def belB (n : Nat) (σ : Store) : Bool := σ.all fun o => o.locs.all fun l => Nat.blt l n
theorem belB_ok {n : Nat} {σ : Store} (h : belB n σ = true) {i : Nat} {o : O} (hi : σ[i]? = some o) : o.bel n := by
  intro l hl
  have h1 := (List.all_eq_true.1 h) o (List.mem_of_getElem? hi)
  have h2 := (List.all_eq_true.1 h1) l hl
  simpa [Nat.blt_eq] using h2

/-- The callee's locations. -/
def rhoC (m : List Nat) (ρ : LM) : LM := fun i => match m[i]? with | some l => ρ l | none => none
/-- The caller's locations behind a call. -/
def rhoB (m : List Nat) (N : Nat) (ρ ρc' : LM) : LM := fun l => match m.idxOf? l with | some i => ρc' i | none => if l < N then ρ l else ρc' (m.length + (l - N))

section calls
variable {w w' : World} {I I' : Nat → Prop} {ρ ρc' : LM} {σ σc σc' : Store} {m : List Nat}
theorem emb_enter (hw : within σ m σc) : Emb (mp m σ.length) (rhoC m ρ) σc ρ σ := by
  intro i oc hi
  have hlt : i < m.length := by rw [hw.1]; exact (List.getElem?_eq_some_iff.1 hi).1
  have hm : m[i]? = some m[i] := List.getElem?_eq_getElem hlt
  obtain ⟨oc', h1, h2⟩ := within_get hw hm
  rw [hi] at h1; cases h1
  have hmp : mp m σ.length i = m[i] := by simp [mp, hm]
  rw [hmp]
  exact ⟨by simp [rhoC, hm], _, h2, flagged_dead.trans O.ren_dead, O.alike_trans (flagged_alike _ _) (O.ren_alike oc)⟩
theorem orel_enter (hO : ORel w I ρ σ) (hw : within σ m σc) (hb : belB σc.length σc = true) : ORel w I (rhoC m ρ) σc := by
  have hE := emb_enter (ρ := ρ) hw
  have hmi : ∀ i, i < σc.length → m[i]? = some (mp m σ.length i) := fun i hi => by
    have hlt : i < m.length := by rw [hw.1]; exact hi
    simp [mp, List.getElem?_eq_getElem hlt]
  have hfoot : ∀ b, foot (rhoC m ρ) σc b → foot ρ σ b := by
    rintro b ⟨i, oc, L, h1, h2, h3, h4⟩
    have hi := (List.getElem?_eq_some_iff.1 h1).1
    obtain ⟨o, h5, h6⟩ := (hE.live hi).2 ⟨oc, h1, h2⟩
    exact ⟨_, o, L, h5, h6, (hE.rho hi).trans h3, h4⟩
  refine ⟨fun i oc hi => ?_, fun i j L L' hi hj hL hL' e => ?_, fun b h => hO.flt b (hfoot b h), fun b h => ⟨(hO.imm b h).1, fun hf => (hO.imm b h).2 (hfoot b hf)⟩⟩
  · have hlt := (List.getElem?_eq_some_iff.1 hi).1
    obtain ⟨oc', h1, h2⟩ := within_get hw (hmi i hlt)
    rw [hi] at h1; cases h1
    have := hO.objs _ _ h2
    rw [flagged_orel] at this
    exact (orel_ren hE (hE.rho hlt) (belB_ok hb hi)).1 this
  · have h1 := live_lt hi
    have h2 := live_lt hj
    have := hO.inj _ _ L L' ((hE.live h1).2 hi) ((hE.live h2).2 hj) ((hE.rho h1).trans hL) ((hE.rho h2).trans hL') e
    have hi' := hmi i h1
    have hj' := hmi j h2
    rw [← this] at hj'
    have a1 := mem_idx (nodupB_ok hw.2.1) hi'
    have a2 := mem_idx (nodupB_ok hw.2.1) hj'
    rw [a1] at a2
    exact Option.some.inj a2

theorem merge_len : (merge σ m σc').length = σ.length + (σc'.length - m.length) := by simp [merge]
theorem merge_lt {l : Nat} (hl : l < σ.length) : (merge σ m σc')[l]? = some (match m.idxOf? l with
    | some i => flagged σ[l] ((σc'.getD i .dead).ren (mp m σ.length))
    | none => σ[l].kill (movedB m σc')) := by
  unfold merge
  rw [List.getElem?_append_left (by simpa using hl), List.getElem?_mapIdx, List.getElem?_eq_getElem hl]
  rfl
theorem merge_ge {k : Nat} : (merge σ m σc')[σ.length + k]? = (σc'[m.length + k]?).map (·.ren (mp m σ.length)) := by
  unfold merge
  rw [List.getElem?_append_right (by simp)]
  simp

theorem leave (hO : ORel w I ρ σ) (hw : within σ m σc) (hx : Ext σc.length w I (rhoC m ρ) σc w' I' ρc' σc') (hO' : ORel w' I' ρc' σc') :
    Emb (mp m σ.length) ρc' σc' (rhoB m σ.length ρ ρc') (merge σ m σc') ∧ ORel w' I' (rhoB m σ.length ρ ρc') (merge σ m σc') ∧ Ext σ.length w I ρ σ w' I' (rhoB m σ.length ρ ρc') (merge σ m σc') ∧
      (∀ tm xs, vrL w I ρ σ tm xs → vrL w' I' (rhoB m σ.length ρ ρc') (merge σ m σc') (V.killL (movedB m σc') tm) xs) := by
  have hE := emb_enter (ρ := ρ) hw
  have hnd := nodupB_ok hw.2.1
  have hn : m.length ≤ σc'.length := by rw [hw.1]; exact hx.len
  have hmlt : ∀ i l, m[i]? = some l → l < σ.length := fun i l h => by
    obtain ⟨oc, _, h2⟩ := within_get hw h
    exact (List.getElem?_eq_some_iff.1 h2).1
  have hidxN : ∀ k, m.idxOf? (σ.length + k) = none := fun k => by
    cases hq : m.idxOf? (σ.length + k) with
    | none => rfl
    | some i => have := hmlt i _ (idx_mem hq); omega
  have hE' : Emb (mp m σ.length) ρc' σc' (rhoB m σ.length ρ ρc') (merge σ m σc') := by
    intro i oc hi
    by_cases him : i < m.length
    · have hm : m[i]? = some m[i] := List.getElem?_eq_getElem him
      have hid := mem_idx hnd hm
      have hlt := hmlt i _ hm
      have hmp : mp m σ.length i = m[i] := by simp [mp, hm]
      rw [hmp]
      refine ⟨by simp [rhoB, hid], _, merge_lt hlt, ?_⟩
      simp only [hid, List.getD_eq_getElem?_getD, hi, Option.getD_some]
      exact ⟨flagged_dead.trans O.ren_dead, O.alike_trans (flagged_alike _ _) (O.ren_alike oc)⟩
    · have hm : m[i]? = none := by simp; omega
      have hmp : mp m σ.length i = σ.length + (i - m.length) := by simp [mp, hm]
      rw [hmp]
      have hi2 : m.length + (i - m.length) = i := by omega
      exact ⟨by simp only [rhoB, hidxN]; rw [if_neg (by omega)]; congr 1; omega, oc.ren (mp m σ.length), by rw [merge_ge, hi2, hi]; rfl, O.ren_dead, O.ren_alike oc⟩
  have hsplit : ∀ l o', (merge σ m σc')[l]? = some o' → o' ≠ .dead → (∃ i oc', σc'[i]? = some oc' ∧ oc' ≠ .dead ∧ l = mp m σ.length i ∧ rhoB m σ.length ρ ρc' l = ρc' i) ∨
      (l < σ.length ∧ m.idxOf? l = none ∧ ∃ o, σ[l]? = some o ∧ o ≠ .dead ∧ o' = o.kill (movedB m σc') ∧ rhoB m σ.length ρ ρc' l = ρ l) := by
    intro l o' hl hd
    by_cases hlt : l < σ.length
    · rw [merge_lt hlt] at hl
      cases hid : m.idxOf? l with
      | some i =>
        simp only [hid, Option.some.injEq] at hl
        have hm := idx_mem hid
        have him := (List.getElem?_eq_some_iff.1 hm).1
        have hic : i < σc'.length := by omega
        refine .inl ⟨i, _, List.getElem?_eq_getElem hic, ?_, by simp [mp, hm], by simp [rhoB, hid]⟩
        intro e
        apply hd
        rw [← hl, flagged_dead, O.ren_dead]
        simp [hic, e]
      | none =>
        simp only [hid, Option.some.injEq] at hl
        refine .inr ⟨hlt, rfl, _, List.getElem?_eq_getElem hlt, fun e => hd ?_, hl.symm, by simp [rhoB, hid, hlt]⟩
        rw [← hl, e]; rfl
    · have hk : l = σ.length + (l - σ.length) := by omega
      rw [hk, merge_ge] at hl
      simp only [Option.map_eq_some_iff] at hl
      obtain ⟨oc, h1, h2⟩ := hl
      refine .inl ⟨_, oc, h1, fun e => hd ?_, ?_, ?_⟩
      · rw [← h2, e]; rfl
      · have hm : m[m.length + (l - σ.length)]? = none := by simp
        simp only [mp, hm]; omega
      · have := hidxN (l - σ.length)
        rw [← hk] at this
        simp [rhoB, this, hlt]
  have hfootc : ∀ b, foot (rhoC m ρ) σc b → ∃ j o L, m.idxOf? j ≠ none ∧ σ[j]? = some o ∧ o ≠ .dead ∧ ρ j = some L ∧ L.b = b := by
    rintro b ⟨i, oc, L, h1, h2, h3, h4⟩
    have hi := (List.getElem?_eq_some_iff.1 h1).1
    obtain ⟨o, h5, h6⟩ := (hE.live hi).2 ⟨oc, h1, h2⟩
    have him : i < m.length := by rw [hw.1]; exact hi
    have hm : m[i]? = some (mp m σ.length i) := by simp [mp, List.getElem?_eq_getElem him]
    exact ⟨_, o, L, by rw [mem_idx hnd hm]; simp, h5, h6, (hE.rho hi).trans h3, h4⟩
  have hfootc' : ∀ b, foot (rhoC m ρ) σc b → foot ρ σ b := fun b h => by
    obtain ⟨j, o, L, _, h1, h2, h3, h4⟩ := hfootc b h
    exact ⟨j, o, L, h1, h2, h3, h4⟩
  -- a location of the caller's own is not the callee's
  have hnot : ∀ l o L, m.idxOf? l = none → σ[l]? = some o → o ≠ .dead → ρ l = some L → ¬ foot (rhoC m ρ) σc L.b := by
    intro l o L hid h1 h2 h3 hf
    obtain ⟨j, o', L', hj, h4, h5, h6, h7⟩ := hfootc _ hf
    have := hO.inj j l L' L ⟨o', h4, h5⟩ ⟨o, h1, h2⟩ h6 h3 h7
    rw [this] at hj
    exact hj hid
  have hI : ∀ b, I b → I' b ∧ w'.heap[b]? = w.heap[b]? := fun b hb => ⟨hx.immI b hb, hx.old b (hO.imm b hb).1 fun hf => (hO.imm b hb).2 (hfootc' b hf)⟩
  have hS : ∀ x, x < σ.length → movedB m σc' x = false → Same ρ σ (rhoB m σ.length ρ ρc') (merge σ m σc') x := by
    intro x hxl hp
    refine ⟨by rw [merge_len]; omega, fun o' ho' hd => ?_⟩
    rw [merge_lt hxl] at ho'
    cases hid : m.idxOf? x with
    | none =>
      simp only [hid, Option.some.injEq] at ho'
      refine ⟨by simp [rhoB, hid, hxl], _, List.getElem?_eq_getElem hxl, fun e => hd ?_, ?_⟩
      · rw [← ho', e]; rfl
      · rw [← ho']; exact kill_alike _ _
    | some i =>
      simp only [hid, Option.some.injEq] at ho'
      have hm := idx_mem hid
      have him := (List.getElem?_eq_some_iff.1 hm).1
      have hic : i < σc'.length := by omega
      have hig : σc'[i]? = some σc'[i] := List.getElem?_eq_getElem hic
      have hgd : σc'.getD i .dead = σc'[i] := by simp [hic]
      rw [hgd] at ho'
      have hnd' : σc'[i] ≠ .dead := fun e => hd (by rw [← ho', flagged_dead, O.ren_dead]; exact e)
      have hst : σc'[i].still = true := by
        simp only [movedB, hid, hig] at hp
        revert hp hnd'
        cases σc'[i] with
        | row sz xs mv => cases mv <;> simp [O.still]
        | dead => simp
        | _ => simp [O.still]
      obtain ⟨h1, oc, h2, h3, h4⟩ := hx.fixed i _ (by rw [← hw.1]; exact him) hig hst
      obtain ⟨oc2, h5, h6⟩ := within_get hw hm
      rw [h2] at h5; cases h5
      have hoc : oc ≠ .dead := fun e => by rw [e] at h3; simp [O.still] at h3
      refine ⟨by simp only [rhoB, hid]; rw [h1]; simp [rhoC, hm], _, h6, fun e => hoc (O.ren_dead.1 (flagged_dead.1 e)), ?_⟩
      rw [← ho']
      exact O.alike_trans (O.alike_trans (O.alike_trans (flagged_alike _ _) (O.ren_alike oc)) h4) (O.alike_trans (O.alike_ren _) (O.alike_symm (flagged_alike _ _)))
  have hT : ∀ tm xs, vrL w I ρ σ tm xs → vrL w' I' (rhoB m σ.length ρ ρc') (merge σ m σc') (V.killL (movedB m σc') tm) xs := by
    intro tm xs h
    have hk := vrL_kill (movedB m σc') tm xs h
    exact vrL_up hI _ _ (fun l hl => hS l (vrL_locs _ _ hk l hl) (locsL_kill _ _ l hl).2) hk
  have hold : ∀ l o L, m.idxOf? l = none → σ[l]? = some o → o ≠ .dead → ρ l = some L → w'.heap[L.b]? = w.heap[L.b]? := fun l o L h1 h2 h3 h4 =>
    hx.old _ (hO.flt _ ⟨l, o, L, h2, h3, h4, rfl⟩) (hnot l o L h1 h2 h3 h4)
  refine ⟨hE', ⟨fun l o' hl => ?_, fun l l' L L' hl hl' hL hL' e => ?_, fun b hb => ?_, fun b hb => ⟨(hO'.imm b hb).1, fun hf => ?_⟩⟩, ?_, hT⟩
  · by_cases hd : o' = .dead
    · subst hd; simp [orel]
    have hl0 := hl
    rcases hsplit l o' hl hd with ⟨i, oc', h1, h2, h3, h4⟩ | ⟨h1, h2, o, h3, h4, h5, h6⟩
    · have hob := hO'.objs i oc' h1
      have := (orel_ren hE' (by rw [← h3]; exact h4) (orel_bel hob)).2 hob
      rw [← h3] at this
      obtain ⟨o2, h7⟩ : ∃ o2, o' = flagged o2 (oc'.ren (mp m σ.length)) := by
        by_cases hlt : l < σ.length
        · rw [merge_lt hlt] at hl
          cases hid : m.idxOf? l with
          | some i' =>
            have hii : i' = i := by
              have hm := idx_mem hid
              by_cases him : i < m.length
              · have hm2 : m[i]? = some l := by rw [h3]; simp [mp, List.getElem?_eq_getElem him]
                have := mem_idx hnd hm2
                rw [hid] at this
                exact Option.some.inj this
              · exfalso
                have hm2 : m[i]? = none := by simp; omega
                simp only [mp, hm2] at h3
                omega
            subst hii
            simp only [hid, Option.some.injEq, List.getD_eq_getElem?_getD, h1, Option.getD_some] at hl
            exact ⟨_, hl.symm⟩
          | none =>
            exfalso
            by_cases him : i < m.length
            · have hm2 : m[i]? = some l := by rw [h3]; simp [mp, List.getElem?_eq_getElem him]
              have := mem_idx hnd hm2
              rw [hid] at this
              cases this
            · have hm2 : m[i]? = none := by simp; omega
              simp only [mp, hm2] at h3
              omega
        · have hk : l = σ.length + (l - σ.length) := by omega
          rw [hk, merge_ge] at hl
          have him : ¬ i < m.length := fun him => hlt (by rw [h3]; exact hmlt i _ (by simp [mp, List.getElem?_eq_getElem him]))
          have hm2 : m[i]? = none := by simp; omega
          simp only [mp, hm2] at h3
          have hi2 : m.length + (l - σ.length) = i := by omega
          rw [hi2, h1] at hl
          exact ⟨.dead, by simpa [flagged] using hl.symm⟩
      rw [h7, flagged_orel]
      exact this
    · rw [h5]
      have hob := orel_kill (movedB m σc') (hO.objs l o h3)
      refine orel_up hI (fun x hx' => ?_) h6 (fun L hL => hold l o L h2 h3 h4 hL) hob
      obtain ⟨hx1, hx2⟩ := O.locs_kill _ o x hx'
      have hxlt : x < σ.length := orel_bel (hO.objs l o h3) x hx1
      exact hS x hxlt hx2
  · obtain ⟨o, ho, hd⟩ := hl
    obtain ⟨o2, ho2, hd2⟩ := hl'
    rcases hsplit l o ho hd with ⟨i, oc', h1, h2, h3, h4⟩ | ⟨h1, h2, p, h3, h4, h5, h6⟩ <;> rcases hsplit l' o2 ho2 hd2 with ⟨j, oc2, k1, k2, k3, k4⟩ | ⟨k1, k2, q, k3, k4, k5, k6⟩
    · rw [h4] at hL; rw [k4] at hL'
      rw [h3, k3, hO'.inj i j L L' ⟨_, h1, h2⟩ ⟨_, k1, k2⟩ hL hL' e]
    · exfalso
      rw [h4] at hL; rw [k6] at hL'
      rcases hx.footN L.b ⟨i, oc', L, h1, h2, hL, rfl⟩ with hf | hf
      · rw [e] at hf; exact hnot l' q L' k2 k3 k4 hL' hf
      · have := hO.flt L'.b ⟨l', q, L', k3, k4, hL', rfl⟩; omega
    · exfalso
      rw [h6] at hL; rw [k4] at hL'
      rcases hx.footN L'.b ⟨j, oc2, L', k1, k2, hL', rfl⟩ with hf | hf
      · rw [← e] at hf; exact hnot l p L h2 h3 h4 hL hf
      · have := hO.flt L.b ⟨l, p, L, h3, h4, hL, rfl⟩; omega
    · rw [h6] at hL; rw [k6] at hL'
      exact hO.inj l l' L L' ⟨_, h3, h4⟩ ⟨_, k3, k4⟩ hL hL' e
  · obtain ⟨l, o', L, h1, h2, h3, h4⟩ := hb
    rcases hsplit l o' h1 h2 with ⟨i, oc', k1, k2, k3, k4⟩ | ⟨k1, k2, p, k3, k4, k5, k6⟩
    · rw [k4] at h3; exact hO'.flt b ⟨i, oc', L, k1, k2, h3, h4⟩
    · rw [k6] at h3; exact Nat.lt_of_lt_of_le (hO.flt b ⟨l, p, L, k3, k4, h3, h4⟩) hx.size
  · obtain ⟨l, o', L, h1, h2, h3, h4⟩ := hf
    rcases hsplit l o' h1 h2 with ⟨i, oc', k1, k2, k3, k4⟩ | ⟨k1, k2, p, k3, k4, k5, k6⟩
    · rw [k4] at h3; exact (hO'.imm b hb).2 ⟨i, oc', L, k1, k2, h3, h4⟩
    · rw [k6] at h3
      have hfo : foot ρ σ b := ⟨l, p, L, k3, k4, h3, h4⟩
      rcases hx.immN b hb with hq | hq | hq
      · exact (hO.imm b hq).2 hfo
      · rw [← h4] at hq; exact hnot l p L k2 k3 k4 h3 hq
      · have := hO.flt b hfo; omega
  · refine ⟨hx.size, hx.os, hx.tape, hx.output, fun b hb hf => hx.old b hb fun h => hf (hfootc' b h), hx.immI, fun b hb => ?_, fun b hb => ?_, by rw [merge_len]; omega, fun l hl hv => ?_, fun l o' hl ho' hst => ?_, fun l o hl ho hld => ?_⟩
    · rcases hx.immN b hb with hq | hq | hq
      · exact .inl hq
      · exact .inr (.inl (hfootc' b hq))
      · exact .inr (.inr hq)
    · obtain ⟨l, o', L, h1, h2, h3, h4⟩ := hb
      rcases hsplit l o' h1 h2 with ⟨i, oc', k1, k2, k3, k4⟩ | ⟨k1, k2, p, k3, k4, k5, k6⟩
      · rw [k4] at h3
        rcases hx.footN b ⟨i, oc', L, k1, k2, h3, h4⟩ with hq | hq
        · exact .inl (hfootc' b hq)
        · exact .inr hq
      · rw [k6] at h3; exact .inl ⟨l, p, L, k3, k4, h3, h4⟩
    · obtain ⟨o', h1, h2⟩ := hv
      rcases hsplit l o' h1 h2 with ⟨i, oc', k1, k2, k3, k4⟩ | ⟨k1, k2, p, k3, k4, k5, k6⟩
      · by_cases him : i < m.length
        · have hic : i < σc.length := by rw [← hw.1]; exact him
          rw [k3]
          exact (hE.live hic).2 (hx.alive i hic ⟨oc', k1, k2⟩)
        · exfalso
          have hm2 : m[i]? = none := by simp; omega
          simp only [mp, hm2] at k3
          omega
      · exact ⟨p, k3, k4⟩
    · rw [merge_lt hl] at ho'
      cases hid : m.idxOf? l with
      | none =>
        simp only [hid, Option.some.injEq] at ho'
        refine ⟨by simp [rhoB, hid, hl], _, List.getElem?_eq_getElem hl, ?_, ?_⟩
        · rw [← ho', kill_still] at hst; exact hst
        · rw [← ho']; exact kill_alike _ _
      | some i =>
        simp only [hid, Option.some.injEq] at ho'
        have hm := idx_mem hid
        have him := (List.getElem?_eq_some_iff.1 hm).1
        have hic : i < σc'.length := by omega
        have hgd : σc'.getD i .dead = σc'[i] := by simp [hic]
        rw [hgd] at ho'
        have hst' : σc'[i].still = true := by
          have := flagged_still (o := σ[l]) (o' := σc'[i].ren (mp m σ.length)) (by rw [ho']; exact hst)
          rwa [O.ren_still] at this
        obtain ⟨h1, oc, h2, h3, h4⟩ := hx.fixed i _ (by rw [← hw.1]; exact him) (List.getElem?_eq_getElem hic) hst'
        obtain ⟨oc2, h5, h6⟩ := within_get hw hm
        rw [h2] at h5; cases h5
        refine ⟨by simp only [rhoB, hid]; rw [h1]; simp [rhoC, hm], _, h6, ?_, ?_⟩
        · -- the flag was not set
          have hrl : (oc.ren (mp m σ.length)).rl = (σc'[i].ren (mp m σ.length)).rl := O.alike_trans (O.alike_trans (O.ren_alike oc) h4) (O.alike_ren _)
          rw [List.getElem?_eq_getElem hl, Option.some.injEq] at h6
          rw [← h6]
          rw [← ho'] at hst
          have hgd2 : σ.getD l .dead = σ[l] := by simp [hl]
          rw [hgd2] at h6
          by_cases hrow : ∃ sz xs, σ[l] = .row sz xs true
          · exfalso
            obtain ⟨sz, xs, hrow⟩ := hrow
            rw [hrow] at h6 hst
            have h7 : (oc.ren (mp m σ.length)).rl = some xs.length := by
              have := flagged_alike (.row sz xs true) (oc.ren (mp m σ.length))
              unfold O.alike at this
              rw [← this, ← h6]; rfl
            rw [hrl] at h7
            cases hq : σc'[i].ren (mp m σ.length) <;> rw [hq] at h7 hst <;> simp [O.rl, flagged, O.still] at h7 hst
          · have hq : flagged σ[l] (oc.ren (mp m σ.length)) = oc.ren (mp m σ.length) := by
              unfold flagged
              split
              · rename_i sz xs _ _ _ he _
                exact absurd ⟨sz, xs, he⟩ hrow
              · rfl
            rw [h6, hq, O.ren_still]
            exact h3
        · rw [← ho']
          exact O.alike_trans (O.alike_trans (O.alike_trans (flagged_alike _ _) (O.ren_alike oc)) h4) (O.alike_trans (O.alike_ren _) (O.alike_symm (flagged_alike _ _)))
    · cases hid : m.idxOf? l with
      | none =>
        refine ⟨_, merge_lt hl, ?_⟩
        simp only [hid, kill_ld]
        rw [List.getElem?_eq_getElem hl] at ho; cases ho; rfl
      | some i =>
        have hm := idx_mem hid
        obtain ⟨oc, h1, h2⟩ := within_get hw hm
        rw [ho, Option.some.injEq] at h2
        have hld2 : oc.ld = o.ld := by rw [h2, flagged_ld, O.ren_ld]
        have him := (List.getElem?_eq_some_iff.1 hm).1
        obtain ⟨oc', h3, h4⟩ := hx.stay i oc (by rw [← hw.1]; exact him) h1 (by rw [hld2]; exact hld)
        refine ⟨_, merge_lt hl, ?_⟩
        simp only [hid, List.getD_eq_getElem?_getD, h3, Option.getD_some, flagged_ld, O.ren_ld, h4, hld2]
end calls
end Go.Br
