/- The base of these proofs, part U: entering and leaving a loop over a function. -/
import Derived.Test.YtoelkgbeefoplaaBrT
namespace Go.Br
open Go

theorem run_range {P : Program} {w : World} {a : Act} {g : Operand} {l : Nat} {h : FuncId} {fn : Func} {c : Code} {fs cs : List Value} (hx : a.eval g = .func (.func h) fs.toArray cs.toArray) (hF : Fnc P h fn c) :
    ∃ d, (resolve a.eval (rangeCall g l) 0).run P w = .ok d w ∧ (invoke d.target d.args).run P w = .ok (.enter h (fs ++ [Value.func (.yield l) #[] #[]] ++ cs).toArray) w := by
  refine ⟨{ target := .fn (.func h) cs.toArray, args := fs.toArray ++ #[.func (.yield l) #[] #[]] }, ?_, ?_⟩
  · simp only [resolve, hx, Deferred.ofValue, Sem.run_pure]
    congr 1
    simp [Act.eval]
  · simp only [invoke, callFunc, Sem.run_bind, run_program, Result.andThen_ok, hF.get]
    rw [if_neg (by simp [hF.name])]
    simp only [hF.body, Option.isNone_some, Bool.false_eq_true, if_false, Sem.run_pure]
    congr 2
    apply Array.ext'
    simp

section
variable {P : Program} {f : FuncId} {n : Nat} {k : List Item} {df : List Nat} {Q : AE → Store → Prop} {tm : List V} {σ : Store}
theorem AW.endRange {ro : Option Nat} {l : Nat} {st : LoopState} {pend : Option Code} {fn : FuncId} {tml : List V} {ps : Array Tmp} {as bd : Code} (hl : σ[l]? = some (.loop st pend fn tml ps as bd)) (hs : st ≠ .busy)
    (h : AW P f ro n ((pend.map Item.code).toList ++ k) tm (σ.set l (.loop .exhausted pend fn tml ps as bd)) df Q) : ∀ w I ρ a rb, Rel w I ρ σ tm df a → rbOf ρ σ ro rb → n ≤ σ.length → ∀ L, ρ l = some L → RunsTo P f rb (.endRangeFunc L.b :: k) a w (Fin n w I ρ σ Q) := by
  intro w I ρ a rb hr hb hn L' hL'
  obtain ⟨L, r, hL, hh, hs', hp, hO, hE, hI, hS⟩ := loop_upd (st' := .exhausted) (pend' := pend) hr.ors hl
  have hLL : L' = L := by rw [hL] at hL'; exact (Option.some.inj hL').symm
  rw [hLL]
  have hst := hE.stays
  have hrun : (Instr.endLoop L.b).run P w = .ok pend (w.putObj L.b (.loop { r with state := .exhausted, pending := pend })) := by
    rw [run_endLoop hh (by rw [hs']; exact hs), ← hp]
  exact .step (fun cs => st_endRangeFunc hrun) ((h _ I ρ a rb ⟨vrL_all hI hS hr.tms, hO, dfr_stay hst hr.dfs⟩ (rbOf_stay hst hb) (by simp; exact hn)).mono fun e w' hf => hf.trans (hE.less hn))

/-- A LOOP OVER A FUNCTION, in a frame that is no round. -/
theorem AW.rangeFunc {g : Operand} {ps : Array Tmp} {as bd : Code} {h : FuncId} {fn : Func} {c : Code} {first cap : List V} (m : List Nat) (cargs : List V) (σc : Store) {Qc : AE → Store → Prop}
    (hF : Fnc P h fn c) (hc : CallsA P h cargs σc Qc) (hx : ev tm g = .fn (.func h) first cap)
    (hargs : coArgs P fn.params.toList (first ++ [.yield (σ.length + 1)] ++ cap) = V.renL (mp m (σ.length + 2)) cargs) (hbel : (belB σc.length σc && (V.locsL cargs).all fun l => Nat.blt l σc.length) = true)
    (hwi : within (σ ++ [.defd, .loop .ready none f tm ps as bd]) m σc)
    (hk : ∀ r σc', Qc r σc' → ∃ v st pend tml ps' as' bd' fn', r = .ret v ∧ st ≠ .busy ∧ (merge (σ ++ [.defd, .loop .ready none f tm ps as bd]) m σc')[σ.length + 1]? = some (.loop st pend fn' tml ps' as' bd') ∧
      AW P f none n ((pend.map Item.code).toList ++ k) (V.killL (movedB m σc') tm) ((merge (σ ++ [.defd, .loop .ready none f tm ps as bd]) m σc').set (σ.length + 1) (.loop .exhausted pend fn' tml ps' as' bd')) (σ.length :: df) Q) :
    AW P f none n (.code (.rangeFunc g ps as bd) :: k) tm σ df Q := by
  intro w I ρ a rb hr hb hn
  cases hb
  simp only [Bool.and_eq_true] at hbel
  -- the two blocks
  let L1 : Loc := ⟨w.heap.size, 0, 0, 0⟩
  let w1 := w.alloc (.deferred (some []))
  let ρ1 : LM := fun x => if x = σ.length then some L1 else ρ x
  have hO1 : ORel w1 I ρ1 (σ ++ [.defd]) := hr.ors.new L1 .defd rfl (fun b hb => heap_alloc_old _ _ _ hb) (by simp [w1]) (by
    simp only [orel]
    exact ⟨L1, by simp, heap_alloc_new _ _⟩)
  have hE1 : Ext σ.length w I ρ σ w1 I ρ1 (σ ++ [.defd]) := Ext.new L1 .defd rfl (fun b hb => heap_alloc_old _ _ _ hb) (by simp [w1]) rfl rfl rfl
  have hI1 : ∀ b, I b → I b ∧ w1.heap[b]? = w.heap[b]? := fun b hb => ⟨hb, heap_alloc_old _ _ _ (hr.ors.imm b hb).1⟩
  have ht1 : vrL w1 I ρ1 (σ ++ [.defd]) tm a.tmps.toList := vrL_all hI1 (same_new L1 _) hr.tms
  let L2 : Loc := ⟨w1.heap.size, 0, 0, 0⟩
  let R : Loop := { state := .ready, pending := none, fn := f, tmps := a.tmps, params := ps, assign := as, body := bd, defers := w.heap.size }
  let w2 := w1.alloc (.loop R)
  let ρ2 : LM := fun x => if x = (σ ++ [O.defd]).length then some L2 else ρ1 x
  have hI2 : ∀ b, I b → I b ∧ w2.heap[b]? = w1.heap[b]? := fun b hb => ⟨hb, heap_alloc_old _ _ _ (hO1.imm b hb).1⟩
  have ht2 : vrL w2 I ρ2 ((σ ++ [.defd]) ++ [.loop .ready none f tm ps as bd]) tm a.tmps.toList := vrL_all hI2 (same_new L2 _) ht1
  have hO2 : ORel w2 I ρ2 ((σ ++ [.defd]) ++ [.loop .ready none f tm ps as bd]) := hO1.new L2 _ rfl (fun b hb => heap_alloc_old _ _ _ hb) (by simp [w2]) (by
    simp only [orel]
    exact ⟨L2, a.tmps, w.heap.size, by simp, heap_alloc_new _ _, ht2⟩)
  have hE2 : Ext (σ ++ [O.defd]).length w1 I ρ1 (σ ++ [.defd]) w2 I ρ2 ((σ ++ [.defd]) ++ [.loop .ready none f tm ps as bd]) := Ext.new L2 _ rfl (fun b hb => heap_alloc_old _ _ _ hb) (by simp [w2]) rfl rfl rfl
  have hE12 := hE1.trans (hE2.less (by simp))
  have hassoc : (σ ++ [O.defd]) ++ [O.loop .ready none f tm ps as bd] = σ ++ [.defd, .loop .ready none f tm ps as bd] := by simp
  rw [hassoc] at ht2 hO2 hE12
  have hlen : (σ ++ [O.defd, .loop .ready none f tm ps as bd]).length = σ.length + 2 := by simp
  have hdefd : dfr ρ2 (σ ++ [.defd, .loop .ready none f tm ps as bd]) (σ.length :: df) ([{ target := .collected w.heap.size, args := #[] }] ++ a.defers) := by
    refine ⟨L1, a.defers, by simp [ρ2, ρ1], by simp, rfl, dfr_stay hE12.stays hr.dfs⟩
  have hl2 : (σ ++ [O.defd, .loop .ready none f tm ps as bd])[σ.length + 1]? = some (.loop .ready none f tm ps as bd) := by
    rw [List.getElem?_append_right (by omega)]; simp
  -- the call
  rw [← hlen] at hargs
  have hE := emb_enter (ρ := ρ2) hwi
  have hOc := orel_enter hO2 hwi hbel.1
  have hxv := vr_ev hr.tms g
  rw [hx] at hxv
  simp only [vr] at hxv
  obtain ⟨fs, cs, hxe, hfs, hcs⟩ := hxv
  have hS12 : ∀ x, x < σ.length → Same ρ σ ρ2 (σ ++ [.defd, .loop .ready none f tm ps as bd]) x := by
    intro x hx
    refine ⟨by simp; omega, fun o' h1 h2 => ⟨?_, o', ?_, h2, rfl⟩⟩
    · show (if x = (σ ++ [O.defd]).length then _ else if x = σ.length then _ else ρ x) = ρ x
      rw [if_neg (by simp; omega), if_neg (by omega)]
    · rwa [List.getElem?_append_left hx] at h1
  have hI12 : ∀ b, I b → I b ∧ w2.heap[b]? = w.heap[b]? := fun b hb => ⟨hb, (hI2 b hb).2.trans (hI1 b hb).2⟩
  have hyv : vr w2 I ρ2 (σ ++ [.defd, .loop .ready none f tm ps as bd]) (.yield (σ.length + 1)) (.func (.yield w1.heap.size) #[] #[]) := by
    simp only [vr]
    exact ⟨rfl, by simp, fun _ => ⟨L2, by simp [ρ2], rfl⟩⟩
  have hev : vrL w2 I ρ2 (σ ++ [.defd, .loop .ready none f tm ps as bd]) (first ++ [.yield (σ.length + 1)] ++ cap) (fs ++ [.func (.yield w1.heap.size) #[] #[]] ++ cs) :=
    vrL_append (vrL_append (vrL_all hI12 hS12 hfs) (by simp only [vrL]; exact ⟨_, [], rfl, hyv, rfl⟩)) (vrL_all hI12 hS12 hcs)
  have hev2 := coArgs_rel (P := P) (ts := fn.params.toList) hev
  rw [hargs] at hev2
  have hca : ∀ l ∈ V.locsL cargs, l < σc.length := fun l hl => by
    have := (List.all_eq_true.1 hbel.2) l hl
    simpa [Nat.blt_eq] using this
  have hcr := (vrL_ren hE cargs _ hca).1 hev2
  have hcalls := hc w2 I (rhoC m ρ2) _ hcr hOc
  have hent : (Instr.enterLoop f a.tmps ps as bd none).run P w = .ok (w1.heap.size, [{ target := .collected w.heap.size, args := #[] }]) w2 := by
    rw [run_enterLoop_outer]
    simp [w2, w1, R]
  obtain ⟨d, hd1, hd2⟩ := run_range (P := P) (w := w2) (l := w1.heap.size) hxe hF
  refine RunsTo.rangeFunc hent hd1 hd2 (S := fun w'' => ∃ I' ρc' σc' va, Qc (.ret va) σc' ∧ ORel w'' I' ρc' σc' ∧ Ext σc.length w2 I (rhoC m ρ2) σc w'' I' ρc' σc') (hcalls.mono ?_) ?_
  · rintro e w'' ⟨I', ρc', σc', r, h1, h2, h3, h4⟩
    obtain ⟨v, _, _, _, _, _, _, _, rfl, _⟩ := hk r σc' h1
    obtain ⟨y, rfl, h5⟩ := h2
    exact ⟨y, rfl, I', ρc', σc', v, h1, h3, h4⟩
  · rintro w'' ⟨I', ρc', σc', va, h1, h3, h4⟩
    obtain ⟨v, st, pend, tml, ps', as', bd', fn', _, hst, hlp, hnext⟩ := hk _ σc' h1
    obtain ⟨g1, g2, g3, g4⟩ := leave hO2 hwi h4 h3
    have hstay := g3.stays
    have hrel : Rel w'' I' (rhoB m (σ ++ [O.defd, .loop .ready none f tm ps as bd]).length ρ2 ρc') (merge (σ ++ [.defd, .loop .ready none f tm ps as bd]) m σc') (V.killL (movedB m σc') tm) (σ.length :: df) { a with defers := [{ target := .collected w.heap.size, args := #[] }] ++ a.defers } :=
      ⟨g4 tm _ ht2, g2, dfr_stay hstay hdefd⟩
    have hL2 : (rhoB m (σ ++ [O.defd, .loop .ready none f tm ps as bd]).length ρ2 ρc') (σ.length + 1) = some L2 := by
      have := (hstay (σ.length + 1) _ hl2 (by simp [O.ld])).1
      rw [this]
      simp [ρ2]
    have hn2 : n ≤ (merge (σ ++ [.defd, .loop .ready none f tm ps as bd]) m σc').length := Nat.le_trans hn (Nat.le_trans (by simp) g3.len)
    have := AW.endRange (ro := none) hlp hst hnext w'' I' _ _ none hrel rfl hn2 L2 hL2
    exact this.mono fun e w3 hfin => (hfin.trans (g3.less (by simp; omega))).trans (hE12.less hn)
end
end Go.Br
