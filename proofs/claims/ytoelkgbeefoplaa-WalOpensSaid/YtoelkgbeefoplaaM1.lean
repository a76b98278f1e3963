/- Texts of this proof, part 1: BrN, BrO, BrP, BrQ, BrR, BrS, BrT, BrU, BrV, BrW, BrX, BrY, BrZ, BrSl, BrDf. -/
import Derived.AtR
import Derived.Laws.BytesString
import Derived.Laws.Cover3
import Derived.Laws.IdiomCopy
import Derived.Orders
import Derived.RangeFuncIn
import Derived.RangeFuncRecord
import Derived.Test.YtoelkgbeefoplaaM0
set_option linter.unusedSimpArgs false
set_option linter.unusedVariables false
set_option linter.constructorNameAsVariable false
namespace Go.Br
open Go
section
variable {w w' : World} {I I' : Nat → Prop} {ρ ρ' : LM} {σ σ' : Store} {P : Program}
def notIntT (P : Program) (t : TypeId) : Bool := match P.underlying t with | some (.int _) => false | some _ => true | none => false
theorem notIntT_und {t : TypeId} (h : notIntT P t = true) : ∃ d, P.underlying t = some d ∧ ∀ k, d ≠ .int k := by
  unfold notIntT at h
  cases hu : P.underlying t with
  | none => simp [hu] at h
  | some d => refine ⟨d, rfl, fun k e => ?_⟩; subst e; simp [hu] at h
theorem run_app_room {t t2 ty e : TypeId} {i : TypeInfo} (ht : P.underlying t = some (.slice e)) (hi : P.info? e = some i) (h2 : notIntT P t2 = true) {base : Option Addr} {sLen sCap m : Nat} {x : Value} {news : List Value}
    (hlen : (Builtin.lenOf x).run P w = .ok m w) (hx : (Builtin.firstCells i.size m x).run P w = .ok news.toArray w) (hroom : sLen + m ≤ sCap)
    (hst : match base with | some a => (storeCells (a.add (sLen * i.size)) news).run P w = .ok () w' | none => w' = w) :
    (Builtin.append_ #[t, t2] ty #[.slice base sLen sCap, x]).run P w = .ok (.slice base (sLen + m) sCap) w' := by
  obtain ⟨d, hd, hd2⟩ := notIntT_und h2
  unfold Builtin.append_
  cases d <;> first
    | exact absurd rfl (hd2 _)
    | (simp only [List.getElem?_toArray, List.getElem?_cons_zero, List.getElem?_cons_succ, Sem.run_bind, run_underlying ht, run_underlying hd, Result.andThen_ok, sizeOf, typeInfo, run_program, hi, Sem.run_pure, hlen, hroom, if_true, Bool.not_false, hx, Bool.false_eq_true, if_false]
       cases base with
       | none => simp only at hst; subst hst; rfl
       | some ad => simp only at hst; simp only [Sem.run_bind, hst, Result.andThen_ok]; rfl)
theorem run_app_grow {t t2 ty e : TypeId} {i : TypeInfo} {z : Value} (ht : P.underlying t = some (.slice e)) (hi : P.info? e = some i) (hz : i.zero = some z) (h2 : notIntT P t2 = true) {base : Option Addr} {sLen sCap m : Nat} {x : Value} {news olds : List Value}
    (hlen : (Builtin.lenOf x).run P w = .ok m w) (hold : (Builtin.firstCells i.size sLen (.slice base sLen sCap)).run P w.drew = .ok olds.toArray w.drew) (hx : (Builtin.firstCells i.size m x).run P w.drew = .ok news.toArray w.drew) (hroom : sCap < sLen + m)
    (h63 : sLen + m ≤ 9223372036854775807) (hfit : Builtin.nextslicecap (sLen + m) sCap * i.bytes ≤ 281474976710656) :
    (Builtin.append_ #[t, t2] ty #[.slice base sLen sCap, x]).run P w = .ok (.slice (some ⟨w.heap.size, 0, none⟩) (sLen + m) (grownCap w (sLen + m) sCap e))
      (w.drew.alloc (.cells (olds.toArray ++ news.toArray ++ Builtin.zeroCells z.cells (grownCap w (sLen + m) sCap e - (sLen + m))) e)) := by
  obtain ⟨d, hd, hd2⟩ := notIntT_und h2
  have hmax : IntKind.i64.max = 9223372036854775807 := by decide
  have hn1 : ¬ (((sLen + m : Nat) : Int) > IntKind.i64.max ∧ (False ∨ i.bytes = 0)) := by rw [hmax]; omega
  have hn2 : ¬ (sLen + m ≤ sCap) := by omega
  have h48 : (2 : Nat) ^ 48 = 281474976710656 := by decide
  have hn3 : ¬ (Builtin.nextslicecap (sLen + m) sCap * i.bytes > 2 ^ 48) := by rw [h48]; omega
  unfold Builtin.append_
  cases d <;> first
    | exact absurd rfl (hd2 _)
    | (simp only [List.getElem?_toArray, List.getElem?_cons_zero, List.getElem?_cons_succ, Sem.run_bind, run_underlying ht, run_underlying hd, Result.andThen_ok, sizeOf, typeInfo, run_program, hi, Sem.run_pure, hlen, hn2, if_false, Bool.not_false, Bool.false_eq_true, hn1, hn3,
         run_choose, Question.forced, run_askRoom, World.drew_eq, hold, hx, zeroValue, hz, newRow, run_newObj, World.alloc_eq, if_true]
       rfl)
theorem exec_append {o : Oper} {a : Act} {s x : Operand} {t t2 : TypeId} (ho : o.op = .call { callee := .builtin .append, args := #[s, x], argTypes := #[t, t2] }) {v : Value}
    (h : (Builtin.append_ #[t, t2] o.type #[a.eval s, a.eval x]).run P w = .ok v w') : (execOp a.eval o).run P w = .ok (.value v) w' := by
  simp only [execOp, ho, resolve, invoke, builtin, Sem.run_bind, Sem.run_pure, Result.andThen_ok, List.map_toArray, List.map_cons, List.map_nil, h]
def elemW (P : Program) (t : TypeId) : Option (Nat × Nat) :=
  match P.underlying t with
  | some (.slice e) => match P.info? e with
    | some i => match i.zero with
      | some z => if z.cells.size = i.size ∧ (z.cells.toList.all fun x => x.oneCell') = true then some (i.size, i.bytes) else none
      | none => none
    | none => none
  | _ => none
theorem elemW_und {t : TypeId} {sz by' : Nat} (h : elemW P t = some (sz, by')) : ∃ e i z, P.underlying t = some (.slice e) ∧ P.info? e = some i ∧ i.zero = some z ∧ i.size = sz ∧ i.bytes = by' ∧ z.cells.size = sz ∧ ∀ x ∈ z.cells.toList, one x := by
  unfold elemW at h
  split at h
  · split at h
    · split at h
      · simp only [Option.ite_none_right_eq_some, Option.some.injEq, Prod.mk.injEq] at h
        obtain ⟨⟨h1, h4⟩, h2, h3⟩ := h
        exact ⟨_, _, _, by assumption, by assumption, by assumption, h2, h3, by omega, fun x hx => List.all_eq_true.1 h4 x hx⟩
      · cases h
    · cases h
  · cases h
theorem one_app {cs : List Value} {zs : Array Value} (h : ∀ x ∈ cs, one x) (h' : ∀ x ∈ zs.toList, one x) : ∀ x ∈ (cs.toArray ++ zs).toList, one x := by
  intro x hx
  rw [Array.toList_append] at hx
  rcases List.mem_append.1 hx with hx | hx
  · exact h x (by simpa using hx)
  · exact h' x hx
theorem one_zeros {z : Value} (h : ∀ x ∈ z.cells.toList, one x) (n : Nat) : ∀ x ∈ (Builtin.zeroCells z.cells n).toList, one x := by
  intro x hx
  simp only [Builtin.zeroCells, Array.toList_map, List.mem_map, Array.toList_range, List.mem_range] at hx
  obtain ⟨i, hi, rfl⟩ := hx
  have h0 : 0 < z.cells.size := by
    rcases Nat.eq_zero_or_pos z.cells.size with h0 | h0
    · rw [h0] at hi; omega
    · exact h0
  have hlt := Nat.mod_lt i h0
  rw [getElem!_pos z.cells (i % z.cells.size) hlt]
  exact h _ (by simp)
theorem newRow_grown {o : Oper} {tm : List V} {e : TypeId} {ds : List D} {cs : List Value} {zs : Array Value} {a : Act} {sz cap : Nat} (hr : vrL w I ρ σ tm a.tmps.toList) (hO : ORel w I ρ σ) (hN : DrN w I sz ds cs) (hzs : zs.size = (cap - ds.length) * sz) (hle : ds.length ≤ cap) (hcap : cap ≤ maxLen) (hzo : ∀ x ∈ zs.toList, one x)
    (hrun : (execOp a.eval o).run P w = .ok (.value (.slice (some ⟨w.heap.size, 0, none⟩) ds.length cap)) (w.drew.alloc (.cells (cs.toArray ++ zs) e))) :
    ∃ nx x w' I' ρ', (execOp a.eval o).run P w = .ok nx w' ∧ (nx = .value x ∨ nx = .skip ∧ x = undef) ∧ vr w' I' ρ' (σ ++ [.row sz ds false]) (.row σ.length) x ∧ vrL w' I' ρ' (σ ++ [.row sz ds false]) tm a.tmps.toList ∧ ORel w' I' ρ' (σ ++ [.row sz ds false]) ∧
      Ext σ.length w I ρ σ w' I' ρ' (σ ++ [.row sz ds false]) := by
  have hl := DrN_len hN
  refine newRow_ok (w' := w.drew) (cs := cs.toArray ++ zs) (t := e) hr hO ?_ hle hcap (one_app (DrN_one hN) hzo) ?_ rfl rfl rfl rfl hrun
  · simp only [Array.size_append, List.size_toArray, hl, hzs, ← Nat.add_mul]
    congr 1; omega
  · have hI : ∀ b, I b → I b ∧ (w.drew.alloc (.cells (cs.toArray ++ zs) e)).heap[b]? = w.heap[b]? := fun b hb => ⟨hb, heap_alloc_old _ _ _ (hO.imm b hb).1⟩
    refine DrE_of_N (DrN_mono hI hN) fun j hj => ?_
    have : (w.drew.alloc (.cells (cs.toArray ++ zs) e)).cell? ⟨w.drew.heap.size, 0 + j, none⟩ = (cs.toArray ++ zs)[j]? := by
      rw [Nat.zero_add]; exact World.cell?_alloc_new _ _ _ _
    rw [this, Array.getElem?_append_left (by simpa using hj)]
    simp
theorem appEx_ok {tm : List V} {o : Oper} {s x : Operand} {t t2 : TypeId} {sz by' : Nat} {xs ys : List D} (ho : o.op = .call { callee := .builtin .append, args := #[s, x], argTypes := #[t, t2] }) (hs : ev tm s = .ex sz xs) (hx : cont σ (ev tm x) = some (sz, ys))
    (hw : elemW P t = some (sz, by')) (h2 : notIntT P t2 = true) (h0 : 0 < ys.length) (hb : (xs.length + ys.length) * by' ≤ 140737488355328) (h63 : xs.length + ys.length ≤ maxLen) : OpOk P o tm σ (.row σ.length) tm (σ ++ [.row sz (xs ++ ys) false]) := by
  intro w I ρ a hr hO
  obtain ⟨e, i, z, hu, hi, hz, rfl, rfl, hzs, hz1⟩ := elemW_und hw
  have hsr := vr_ev hr s
  have hcs : cont σ (ev tm s) = some (i.size, xs) := by rw [hs]; rfl
  obtain ⟨olds, hNo, _, hfo⟩ := cont_rel (P := P) hcs hsr hO
  rw [hs] at hsr
  simp only [vr] at hsr
  obtain ⟨ad, hsv, _⟩ := hsr
  rw [hsv] at hfo
  obtain ⟨news, hN, hlen, hfc⟩ := cont_rel (P := P) hx (vr_ev hr x) hO
  have hrun := exec_append (a := a) ho (run_app_grow (w := w) (ty := o.type) hu hi hz h2 (base := ad) (sLen := xs.length) (sCap := xs.length) (hlen w) (hfo w.drew rfl) (hfc w.drew rfl) (by omega) (by simp only [maxLen] at h63; omega) (growslice_fits (by omega) hb) |> fun h => by rw [hsv]; exact h)
  have hll : (xs ++ ys).length = xs.length + ys.length := by simp
  have hge := grownCap_ge w (xs.length + ys.length) xs.length e
  refine newRow_grown (cs := olds ++ news) (zs := Builtin.zeroCells z.cells (grownCap w (xs.length + ys.length) xs.length e - (xs.length + ys.length))) (e := e) hr hO (DrN_append hNo hN) ?_ (by rw [hll]; exact hge) (grownCap_le_maxLen w _ _ e h63) (one_zeros hz1 _) ?_
  · rw [size_zeroCells, hzs, hll]
  · rw [hrun, hll]
    congr 3
    apply Array.ext'; simp
theorem map_kill_get {p : Nat → Bool} {x : Nat} : (σ.map (O.kill p))[x]? = (σ[x]?).map (O.kill p) := by simp
theorem ORel.move {l : Nat} {o o' : O} (h : ORel w I ρ σ) (hl : σ[l]? = some o) (ho : o ≠ .dead) (hρ : ∀ x, x ≠ l → ρ' x = ρ x) (hheap : ∀ b, b < w.heap.size → (∀ L, ρ l = some L → L.b ≠ b) → w'.heap[b]? = w.heap[b]?) (hsize : w.heap.size ≤ w'.heap.size)
    (hnew : orel w' I ρ' ((σ.map (O.kill (Nat.beq l))).set l o') l o') (hblk : ∀ L', ρ' l = some L' → L'.b < w'.heap.size ∧ (w.heap.size ≤ L'.b ∨ ∃ L, ρ l = some L ∧ L.b = L'.b)) :
    ORel w' I ρ' ((σ.map (O.kill (Nat.beq l))).set l o') ∧ (∀ tm xs, vrL w I ρ σ tm xs → vrL w' I ρ' ((σ.map (O.kill (Nat.beq l))).set l o') (V.killL (Nat.beq l) tm) xs) := by
  have hlt : l < σ.length := (List.getElem?_eq_some_iff.1 hl).1
  have hget : ∀ x o1, ((σ.map (O.kill (Nat.beq l))).set l o')[x]? = some o1 → x ≠ l → ∃ o2, σ[x]? = some o2 ∧ o1 = o2.kill (Nat.beq l) := by
    intro x o1 hx hne
    rw [getElem?_set_ne hne, map_kill_get, Option.map_eq_some_iff] at hx
    obtain ⟨o2, h1, h2⟩ := hx
    exact ⟨o2, h1, h2.symm⟩
  have hII : ∀ b, I b → I b ∧ w'.heap[b]? = w.heap[b]? := fun b hb => ⟨hb, hheap b (h.imm b hb).1 fun L hL e => (h.imm b hb).2 ⟨l, o, L, hl, ho, hL, e⟩⟩
  have hS : ∀ x, x < σ.length → Nat.beq l x = false → Same ρ σ ρ' ((σ.map (O.kill (Nat.beq l))).set l o') x := by
    intro x hx hb
    have hne : x ≠ l := by rintro rfl; simp at hb
    refine ⟨by simpa using hx, fun o1 h1 h2 => ⟨hρ x hne, ?_⟩⟩
    obtain ⟨o2, h3, rfl⟩ := hget x o1 h1 hne
    exact ⟨o2, h3, fun e => h2 (kill_dead.2 e), kill_alike _ _⟩
  have hlive : ∀ x, live ((σ.map (O.kill (Nat.beq l))).set l o') x → live σ x := by
    rintro x ⟨o1, h1, h2⟩
    by_cases hx : x = l
    · subst hx; exact ⟨o, hl, ho⟩
    · obtain ⟨o2, h3, rfl⟩ := hget x o1 h1 hx
      exact ⟨o2, h3, fun e => h2 (kill_dead.2 e)⟩
  have hother : ∀ x X, x ≠ l → live σ x → ρ x = some X → ∀ L, ρ l = some L → L.b ≠ X.b := fun x X hne hx hX L hL e => hne (h.inj x l X L hx ⟨o, hl, ho⟩ hX hL e.symm)
  refine ⟨⟨fun x o1 hx => ?_, fun x y X Y hx hy hX hY e => ?_, ?_, fun b hb => ⟨Nat.lt_of_lt_of_le (h.imm b hb).1 hsize, ?_⟩⟩, fun tm xs ht => ?_⟩
  · by_cases hxl : x = l
    · subst hxl
      rw [List.getElem?_set_self (by simpa using hlt)] at hx
      cases hx
      exact hnew
    · obtain ⟨o2, h3, rfl⟩ := hget x o1 hx hxl
      by_cases hd : o2 = .dead
      · subst hd; simp [O.kill, orel]
      refine orel_up hII (fun y hy => ?_) (hρ x hxl) (fun X hX => hheap _ (h.flt _ ⟨x, o2, X, h3, hd, hX, rfl⟩) (hother x X hxl ⟨o2, h3, hd⟩ hX)) (orel_kill _ (h.objs x o2 h3))
      obtain ⟨h4, h5⟩ := O.locs_kill _ o2 y hy
      exact hS y (orel_bel (h.objs x o2 h3) y h4) h5
  · have hlx := hlive x hx
    have hly := hlive y hy
    by_cases hxl : x = l
    · by_cases hyl : y = l
      · rw [hxl, hyl]
      · exfalso
        subst hxl
        rw [hρ y hyl] at hY
        obtain ⟨_, hq⟩ := hblk X hX
        obtain ⟨o2, h3, h4⟩ := hly
        rcases hq with hq | ⟨L, hL, hq⟩
        · have := h.flt Y.b ⟨y, o2, Y, h3, h4, hY, rfl⟩; omega
        · exact hother y Y hyl ⟨o2, h3, h4⟩ hY L hL (hq.trans e)
    · by_cases hyl : y = l
      · exfalso
        subst hyl
        rw [hρ x hxl] at hX
        obtain ⟨_, hq⟩ := hblk Y hY
        obtain ⟨o2, h3, h4⟩ := hlx
        rcases hq with hq | ⟨L, hL, hq⟩
        · have := h.flt X.b ⟨x, o2, X, h3, h4, hX, rfl⟩; omega
        · exact hother x X hxl ⟨o2, h3, h4⟩ hX L hL (hq.trans e.symm)
      · rw [hρ x hxl] at hX
        rw [hρ y hyl] at hY
        exact h.inj x y X Y hlx hly hX hY e
  · rintro b ⟨x, o1, X, h1, h2, h3, rfl⟩
    by_cases hxl : x = l
    · subst hxl; exact (hblk X h3).1
    · rw [hρ x hxl] at h3
      obtain ⟨o2, h4, h5⟩ := hlive x ⟨o1, h1, h2⟩
      exact Nat.lt_of_lt_of_le (h.flt _ ⟨x, o2, X, h4, h5, h3, rfl⟩) hsize
  · rintro ⟨x, o1, X, h1, h2, h3, rfl⟩
    by_cases hxl : x = l
    · subst hxl
      rcases (hblk X h3).2 with hq | ⟨L, hL, hq⟩
      · have := (h.imm _ hb).1; omega
      · exact (h.imm _ hb).2 ⟨x, o, L, hl, ho, hL, hq⟩
    · rw [hρ x hxl] at h3
      obtain ⟨o2, h4, h5⟩ := hlive x ⟨o1, h1, h2⟩
      exact (h.imm _ hb).2 ⟨x, o2, X, h4, h5, h3, rfl⟩
  · have hk := vrL_kill (Nat.beq l) tm xs ht
    exact vrL_up hII _ _ (fun y hy => hS y (vrL_locs _ _ hk y hy) (locsL_kill _ _ y hy).2) hk
theorem Ext.move {l : Nat} {o o' : O} (hl : σ[l]? = some o) (ho : o ≠ .dead) (hld : o.ld = 0) (hst : o'.still = false) (hρ : ∀ x, x ≠ l → ρ' x = ρ x) (hheap : ∀ b, b < w.heap.size → (∀ L, ρ l = some L → L.b ≠ b) → w'.heap[b]? = w.heap[b]?) (hsize : w.heap.size ≤ w'.heap.size)
    (hblk : ∀ L', ρ' l = some L' → L'.b < w'.heap.size ∧ (w.heap.size ≤ L'.b ∨ ∃ L, ρ l = some L ∧ L.b = L'.b)) (hos : w'.os = w.os) (htape : w'.tape = w.tape) (hout : w'.output = w.output) :
    Ext σ.length w I ρ σ w' I ρ' ((σ.map (O.kill (Nat.beq l))).set l o') := by
  have hlt : l < σ.length := (List.getElem?_eq_some_iff.1 hl).1
  have hget : ∀ x o1, ((σ.map (O.kill (Nat.beq l))).set l o')[x]? = some o1 → x ≠ l → ∃ o2, σ[x]? = some o2 ∧ o1 = o2.kill (Nat.beq l) := by
    intro x o1 hx hne
    rw [getElem?_set_ne hne, map_kill_get, Option.map_eq_some_iff] at hx
    obtain ⟨o2, h1, h2⟩ := hx
    exact ⟨o2, h1, h2.symm⟩
  refine ⟨hsize, hos, htape, hout, fun b hb hf => hheap b hb fun L hL e => hf ⟨l, o, L, hl, ho, hL, e⟩, fun _ h => h, fun _ h => .inl h, ?_, by simp, ?_, fun x o1 hx h1 h2 => ?_, fun x o1 hx h1 h2 => ?_⟩
  · rintro b ⟨x, o1, X, h1, h2, h3, rfl⟩
    by_cases hxl : x = l
    · subst hxl
      rcases (hblk X h3).2 with hq | ⟨L, hL, hq⟩
      · exact .inr hq
      · exact .inl ⟨x, o, L, hl, ho, hL, hq⟩
    · rw [hρ x hxl] at h3
      obtain ⟨o2, h4, rfl⟩ := hget x o1 h1 hxl
      exact .inl ⟨x, o2, X, h4, fun e => h2 (kill_dead.2 e), h3, rfl⟩
  · rintro x hx ⟨o1, h1, h2⟩
    by_cases hxl : x = l
    · subst hxl; exact ⟨o, hl, ho⟩
    · obtain ⟨o2, h3, rfl⟩ := hget x o1 h1 hxl
      exact ⟨o2, h3, fun e => h2 (kill_dead.2 e)⟩
  · by_cases hxl : x = l
    · subst hxl
      rw [List.getElem?_set_self (by simpa using hlt)] at h1
      cases h1
      rw [hst] at h2; cases h2
    · obtain ⟨o2, h3, rfl⟩ := hget x o1 h1 hxl
      exact ⟨hρ x hxl, o2, h3, by rwa [kill_still] at h2, kill_alike _ _⟩
  · by_cases hxl : x = l
    · subst hxl
      rw [hl] at h1; cases h1
      exact absurd hld h2
    · exact ⟨o1.kill (Nat.beq l), by rw [getElem?_set_ne hxl, map_kill_get, h1]; rfl, kill_ld _ _⟩
theorem appRow_ok {tm : List V} {o : Oper} {s x : Operand} {t t2 : TypeId} {l sz by' : Nat} {xs ys : List D} {mv : Bool} (ho : o.op = .call { callee := .builtin .append, args := #[s, x], argTypes := #[t, t2] }) (hs : ev tm s = .row l) (hl : σ[l]? = some (.row sz xs mv)) (hx : cont σ (ev tm x) = some (sz, ys))
    (hw : elemW P t = some (sz, by')) (h2 : notIntT P t2 = true) (hb : (xs.length + ys.length) * by' ≤ 140737488355328) (h63 : xs.length + ys.length ≤ maxLen) :
    OpOk P o tm σ (.row l) (V.killL (Nat.beq l) tm) ((σ.map (O.kill (Nat.beq l))).set l (.row sz (xs ++ ys) true)) := by
  intro w I ρ a hr hO
  obtain ⟨e, i, z, hu, hi, hz, rfl, rfl, hzs, hz1⟩ := elemW_und hw
  have hlt : l < σ.length := (List.getElem?_eq_some_iff.1 hl).1
  have hsr := vr_ev hr s
  have hcs : cont σ (ev tm s) = some (i.size, xs) := by rw [hs]; simp [cont, hl]
  obtain ⟨olds, hNo, _, hfo⟩ := cont_rel (P := P) hcs hsr hO
  rw [hs] at hsr
  simp only [vr] at hsr
  have hrv := hsr.2.2 _ _ _ hl
  obtain ⟨news, hN, hlen, hfc⟩ := cont_rel (P := P) hx (vr_ev hr x) hO
  have hNN := DrN_append hNo hN
  have hlo := DrN_len hNo
  have hln := DrN_len hN
  have hll : (xs ++ ys).length = xs.length + ys.length := by simp
  have hob := hO.objs l _ hl
  simp only [orel] at hob
  -- what is the same wherever the row comes to lie
  have fin : ∀ (w' : World) (ρ' : LM) (y : Value), (execOp a.eval o).run P w = .ok (.value y) w' → (∀ x, x ≠ l → ρ' x = ρ x) → (∀ b, b < w.heap.size → (∀ L, ρ l = some L → L.b ≠ b) → w'.heap[b]? = w.heap[b]?) → w.heap.size ≤ w'.heap.size →
      orel w' I ρ' ((σ.map (O.kill (Nat.beq l))).set l (.row i.size (xs ++ ys) true)) l (.row i.size (xs ++ ys) true) → (∀ L', ρ' l = some L' → L'.b < w'.heap.size ∧ (w.heap.size ≤ L'.b ∨ ∃ L, ρ l = some L ∧ L.b = L'.b)) →
      rowV ρ' l 0 (xs ++ ys).length y → w'.os = w.os → w'.tape = w.tape → w'.output = w.output →
      ∃ nx x w' I' ρ', (execOp a.eval o).run P w = .ok nx w' ∧ (nx = .value x ∨ nx = .skip ∧ x = undef) ∧ vr w' I' ρ' ((σ.map (O.kill (Nat.beq l))).set l (.row i.size (xs ++ ys) true)) (.row l) x ∧
        vrL w' I' ρ' ((σ.map (O.kill (Nat.beq l))).set l (.row i.size (xs ++ ys) true)) (V.killL (Nat.beq l) tm) a.tmps.toList ∧ ORel w' I' ρ' ((σ.map (O.kill (Nat.beq l))).set l (.row i.size (xs ++ ys) true)) ∧
        Ext σ.length w I ρ σ w' I' ρ' ((σ.map (O.kill (Nat.beq l))).set l (.row i.size (xs ++ ys) true)) := by
    intro w' ρ' y hrun k1 k2 k3 k4 k5 k6 k7 k8 k9
    obtain ⟨g1, g2⟩ := hO.move hl (by simp) k1 k2 k3 k4 k5
    refine ⟨_, y, w', I, ρ', hrun, .inl rfl, ?_, g2 _ _ hr, g1, Ext.move hl (by simp) rfl rfl k1 k2 k3 k5 k7 k8 k9⟩
    simp only [vr]
    refine ⟨?_, by simpa using hlt, fun sz' xs' mv' hx' => ?_⟩
    · obtain ⟨ad, c, rfl⟩ := rowV_slice k6; rfl
    · rw [List.getElem?_set_self (by simpa using hlt)] at hx'
      cases hx'
      exact k6
  have grow : ∀ (base : Option Addr) (cap : Nat), a.eval s = .slice base xs.length cap → cap < xs.length + ys.length →
      ∃ nx x w' I' ρ', (execOp a.eval o).run P w = .ok nx w' ∧ (nx = .value x ∨ nx = .skip ∧ x = undef) ∧ vr w' I' ρ' ((σ.map (O.kill (Nat.beq l))).set l (.row i.size (xs ++ ys) true)) (.row l) x ∧
        vrL w' I' ρ' ((σ.map (O.kill (Nat.beq l))).set l (.row i.size (xs ++ ys) true)) (V.killL (Nat.beq l) tm) a.tmps.toList ∧ ORel w' I' ρ' ((σ.map (O.kill (Nat.beq l))).set l (.row i.size (xs ++ ys) true)) ∧
        Ext σ.length w I ρ σ w' I' ρ' ((σ.map (O.kill (Nat.beq l))).set l (.row i.size (xs ++ ys) true)) := fun base cap hsv hcap => by
    rw [hsv] at hfo
    have hrun := exec_append (a := a) ho (run_app_grow (w := w) (ty := o.type) hu hi hz h2 (base := base) (sLen := xs.length) (sCap := cap) (hlen w) (hfo w.drew rfl) (hfc w.drew rfl) hcap (by simp only [maxLen] at h63; omega) (growslice_fits (by omega) hb) |> fun h => by rw [hsv]; exact h)
    have hge := grownCap_ge w (xs.length + ys.length) cap e
    have hmax := grownCap_le_maxLen w (xs.length + ys.length) cap e h63
    have hcsz : (olds.toArray ++ news.toArray ++ Builtin.zeroCells z.cells (grownCap w (xs.length + ys.length) cap e - (xs.length + ys.length))).size = grownCap w (xs.length + ys.length) cap e * i.size := by
      simp only [Array.size_append, List.size_toArray, hlo, hln, size_zeroCells, hzs, ← Nat.add_mul]
      congr 1; omega
    have hII : ∀ b, I b → I b ∧ (w.drew.alloc (.cells (olds.toArray ++ news.toArray ++ Builtin.zeroCells z.cells (grownCap w (xs.length + ys.length) cap e - (xs.length + ys.length))) e)).heap[b]? = w.heap[b]? := fun b hb => ⟨hb, heap_alloc_old _ _ _ (hO.imm b hb).1⟩
    exact fin _ (fun q => if q = l then some ⟨w.heap.size, 0, i.size, grownCap w (xs.length + ys.length) cap e⟩ else ρ q) _ hrun (fun q hq => by simp [hq]) (fun b hb _ => heap_alloc_old _ _ _ hb) (by simp) (by
      simp only [orel]
      refine .inr ⟨⟨w.heap.size, 0, i.size, grownCap w (xs.length + ys.length) cap e⟩, _, e, (0, 0), by simp, rfl, heap_alloc_new _ _, ⟨thaw_zero _, by
        intro x hx
        rw [Array.toList_append] at hx
        rcases List.mem_append.1 hx with hx | hx
        · rw [Array.toList_append] at hx
          rcases List.mem_append.1 hx with hx | hx
          · exact DrN_one hNo x hx
          · exact DrN_one hN x hx
        · exact one_zeros hz1 _ x hx⟩, by rw [hcsz]; simp, by rw [hll]; exact hge, hmax, ?_⟩
      refine DrE_of_N (DrN_mono hII hNN) fun j hj => ?_
      have : (w.drew.alloc (.cells (olds.toArray ++ news.toArray ++ Builtin.zeroCells z.cells (grownCap w (xs.length + ys.length) cap e - (xs.length + ys.length))) e)).cell? ⟨w.drew.heap.size, 0 + j, none⟩ = (olds.toArray ++ news.toArray ++ Builtin.zeroCells z.cells (grownCap w (xs.length + ys.length) cap e - (xs.length + ys.length)))[j]? := by
        rw [Nat.zero_add]; exact World.cell?_alloc_new _ _ _ _
      refine Eq.trans this ?_
      simp only [List.length_append] at hj
      rw [Array.getElem?_append_left (by simpa using hj)]
      simp) (fun L' hL' => by simp at hL'; subst hL'; exact ⟨by simp, .inl (Nat.le_refl _)⟩) (.inr ⟨⟨w.heap.size, 0, i.size, grownCap w (xs.length + ys.length) cap e⟩, by simp, by rw [hll, Nat.zero_add]; exact hge, by simp [hll]⟩) rfl rfl rfl
  rcases hrv with ⟨h0, ad, hsv⟩ | ⟨L, hL, hle, hsv⟩
  · -- nothing there yet
    have hxs : xs = [] := List.eq_nil_of_length_eq_zero h0
    have hsv' : a.eval s = .slice ad xs.length 0 := by rw [hsv, h0]
    by_cases hm : ys.length = 0
    · have hys : ys = [] := List.eq_nil_of_length_eq_zero hm
      have hnews : news = [] := List.eq_nil_of_length_eq_zero (by rw [hln, hm]; simp)
      have hrun := exec_append (a := a) ho (run_app_room (w := w) (w' := w) (ty := o.type) hu hi h2 (base := ad) (sLen := xs.length) (sCap := 0) (hlen w) (hfc w rfl) (by omega) (by cases ad with
        | none => rfl
        | some ad => simp [hnews, storeCells]) |> fun h => by rw [hsv']; exact h)
      refine fin w ρ _ hrun (fun _ _ => rfl) (fun _ _ _ => rfl) (Nat.le_refl _) ?_ (fun L' hL' => ?_) (.inl ⟨by simp [hxs, hys], ad, by simp [hxs, hys]⟩) rfl rfl rfl
      · simp only [orel]
        rcases hob with ⟨g1, _⟩ | ⟨L, C, T, fz, g1, g2, g3, g4, g5, g6, g7, g8⟩
        · exact .inl ⟨g1, by simp [hxs, hys]⟩
        · exact .inr ⟨L, C, T, fz, g1, g2, g3, g4, g5, by simp [hxs, hys], g7, by simp [hxs, hys, DrE]⟩
      · rcases hob with ⟨g1, _⟩ | ⟨L, C, T, fz, g1, g2, g3, g4, g5, g6, g7, g8⟩
        · rw [hL'] at g1; cases g1
        · rw [hL'] at g1; cases g1
          exact ⟨hO.flt _ ⟨l, _, L', hl, by simp, hL', rfl⟩, .inr ⟨L', hL', rfl⟩⟩
    · exact grow ad 0 hsv' (by omega)
  · rcases hob with ⟨h0, _⟩ | ⟨L', C, T, fz, hL', hLs, hh, hth, hC, hle2, hcap, hE⟩
    · rw [hL] at h0; cases h0
    rw [hL] at hL'; cases hL'
    have hsv' : a.eval s = .slice (some ⟨L.b, L.o, none⟩) xs.length L.cap := by rw [hsv]; simp
    by_cases hroom : xs.length + ys.length ≤ L.cap
    · have hb1 : xs.length * i.size + ys.length * i.size ≤ L.cap * i.size := by rw [← Nat.add_mul]; exact Nat.mul_le_mul_right _ hroom
      have hst := run_storeCells_th (P := P) L.b (L.o + xs.length * i.size) T fz news 0 C w hh hth.1 (by omega) (DrN_one hN)
      simp only [Nat.add_zero] at hst
      have hrun := exec_append (a := a) ho (run_app_room (w := w) (ty := o.type) hu hi h2 (base := some ⟨L.b, L.o, none⟩) (sLen := xs.length) (sCap := L.cap) (hlen w) (hfc w rfl) hroom (by simp only [addr_add]; exact hst) |> fun h => by rw [hsv']; exact h)
      have hII : ∀ b, I b → I b ∧ (w.setRow L.b (C.toList.take (L.o + xs.length * i.size) ++ news ++ C.toList.drop (L.o + xs.length * i.size + news.length)).toArray).heap[b]? = w.heap[b]? :=
        fun b hb => ⟨hb, setRow_other _ _ _ _ fun e => (hO.imm b hb).2 ⟨l, _, L, hl, by simp, hL, e.symm⟩⟩
      refine fin _ ρ _ hrun (fun _ _ => rfl) (fun b _ hb => setRow_other _ _ _ _ fun e => hb L hL e.symm) (by simp) ?_ (fun L' hL' => ?_) (.inr ⟨L, hL, by simpa [hll] using hroom, by simp [hll]⟩) rfl rfl rfl
      · simp only [orel]
        refine .inr ⟨L, _, T, fz, hL, hLs, setRow_heap _ _ _ _ _ _ hh, ?_, ?_, by rw [hll]; exact hroom, hcap, ?_⟩
        · have : ∀ n, n = C.size → thaw fz n := fun n e => e ▸ hth.1
          exact ⟨this _ (by simp; omega), one_splice hth.2 (DrN_one hN)⟩
        · simp; omega
        · refine DrE_of_N (DrN_mono hII hNN) fun j hj => ?_
          rw [cell_setRow_same _ _ _ _ _ _ _ hh]
          simp only [List.length_append] at hj
          obtain ⟨vs0, hN0, hc0⟩ := DrN_of_E hE
          have hvs0l := DrN_len hN0
          have holds : olds = (C.toList.drop L.o).take olds.length := by
            have := hfo w rfl
            rw [hsv'] at this
            simp only [Builtin.firstCells] at this
            have hcr := cells_run (P := P) (w := w) (q := L.o) (vs := (C.toList.drop L.o).take (xs.length * i.size)) hh (fun q hq => by
              simp only [List.length_take, List.length_drop, Array.length_toList] at hq
              rw [List.getElem?_take, if_pos (by omega)]; simp) rfl
            have hlq : ((C.toList.drop L.o).take (xs.length * i.size)).length = xs.length * i.size := by simp; omega
            rw [hlq] at hcr
            rw [hcr] at this
            have h9 := congrArg (fun r => match r with | Result.ok v _ => v.toList | _ => []) this
            simp only at h9
            rw [hlo]; exact h9.symm
          simp only [List.getElem?_toArray]
          by_cases hjo : j < olds.length
          · rw [List.getElem?_append_left (by simp; omega), List.getElem?_append_left (by simp; omega), List.getElem?_append_left hjo, List.getElem?_take, if_pos (by omega)]
            conv => rhs; rw [holds]
            rw [List.getElem?_take, if_pos hjo, List.getElem?_drop]
          · rw [List.getElem?_append_left (by simp; omega), List.getElem?_append_right (by simp; omega), List.getElem?_append_right (by omega)]
            congr 1
            simp only [List.length_take, Array.length_toList]
            omega
      · rw [hL] at hL'; cases hL'
        exact ⟨by have := hO.flt L.b ⟨l, _, L, hl, by simp, hL, rfl⟩; simpa using this, .inr ⟨L, hL, rfl⟩⟩
    · exact grow (some ⟨L.b, L.o, none⟩) L.cap hsv' (by omega)
end
end Go.Br
namespace Go.Br
open Go
mutual
def V.frz (l sz : Nat) (xs : List D) : V → V
  | .row k => if Nat.beq l k then .d (.list sz xs) else .row k
  | .sl k off n c => if Nat.beq l k then .d (.list sz ((xs.drop off).take n)) else .sl k off n c
  | .ptr k i s => if Nat.beq l k then .undef else .ptr k i s
  | .yield k => if Nat.beq l k then .undef else .yield k
  | .map k => if Nat.beq l k then .undef else .map k
  | .fn f a b => .fn f (V.frzL l sz xs a) (V.frzL l sz xs b)
  | .tuple vs => .tuple (V.frzL l sz xs vs)
  | .agg vs => .agg (V.frzL l sz xs vs)
  | .d x => .d x
  | .undef => .undef
  | .nils => .nils
  | .ex sz xs => .ex sz xs
  | .ep sz x s => .ep sz x s
def V.frzL (l sz : Nat) (xs : List D) : List V → List V
  | [] => []
  | v :: vs => V.frz l sz xs v :: V.frzL l sz xs vs
end
def O.frz (l sz : Nat) (xs : List D) : O → O
  | .cells cs => .cells (V.frzL l sz xs cs)
  | .loop a b c tm x e f => .loop a b c (V.frzL l sz xs tm) x e f
  | .dead => .dead
  | .row sz xs mv => .row sz xs mv
  | .map es => .map es
  | .defd => .defd
section frz
variable {w : World} {I : Nat → Prop} {ρ : LM} {σ : Store} {P : Program}
def Iadd (I : Nat → Prop) (ρ : LM) (l : Nat) : Nat → Prop := fun b => I b ∨ ∃ L, ρ l = some L ∧ L.b = b
theorem frz_row {l sz off n : Nat} {xs : List D} {mv : Bool} {x : Value} (hO : ORel w I ρ σ) (hl : σ[l]? = some (.row sz xs mv)) (hr : rowV ρ l off n x) (hle : off + n ≤ xs.length) : Dr w (Iadd I ρ l) (.list sz ((xs.drop off).take n)) x := by
  have hn : ((xs.drop off).take n).length = n := by simp; omega
  have hob := hO.objs l _ hl
  simp only [orel] at hob
  simp only [Dr]
  rcases hr with ⟨rfl, ad, rfl⟩ | ⟨L, hL, hle2, rfl⟩
  · exact ⟨ad, 0, by simp, by simp, Nat.zero_le _, .inl (by simp)⟩
  · rcases hob with ⟨h0, _⟩ | ⟨L', C, T, fz, hL', hLs, hh, _, _, hle3, hcap, hE⟩
    · rw [hL] at h0; cases h0
    rw [hL] at hL'; cases hL'
    refine ⟨_, L.cap - off, by rw [hn], by omega, by omega, .inr ⟨L.b, L.o + off * L.sz, rfl, .inr ⟨L, hL, rfl⟩, ?_⟩⟩
    rw [hLs]
    have hI : ∀ b, I b → Iadd I ρ l b ∧ w.heap[b]? = w.heap[b]? := fun b hb => ⟨.inl hb, rfl⟩
    have hE2 := DrE_mono hI sz L.b rfl L.o xs hE
    have := DrE_piece (l := off) (h := off + n) hE2
    rwa [List.drop_take, Nat.add_sub_cancel_left] at this
mutual
theorem vr_frz {l sz : Nat} {xs : List D} {mv : Bool} (hO : ORel w I ρ σ) (hl : σ[l]? = some (.row sz xs mv)) : ∀ (v : V) (x : Value), vr w I ρ σ v x → vr w (Iadd I ρ l) ρ (σ.set l .dead) (v.frz l sz xs) x
  | .row k, x, h => by
    simp only [V.frz]
    split
    · rename_i hk
      have hk : l = k := by simpa using hk
      subst hk
      simp only [vr] at h ⊢
      have := frz_row hO hl (h.2.2 _ _ _ hl) (by omega)
      simpa using this
    · rename_i hk
      have hk : k ≠ l := by rintro rfl; simp at hk
      simp only [vr] at h ⊢
      exact ⟨h.1, by simpa using h.2.1, fun sz' xs' mv' hx => h.2.2 sz' xs' mv' (by rwa [getElem?_set_ne hk] at hx)⟩
  | .sl k off n c, x, h => by
    simp only [V.frz]
    split
    · rename_i hk
      have hk : l = k := by simpa using hk
      subst hk
      simp only [vr] at h ⊢
      exact frz_row hO hl (h.2.2 _ _ _ hl).2.1 (h.2.2 _ _ _ hl).1
    · rename_i hk
      have hk : k ≠ l := by rintro rfl; simp at hk
      simp only [vr] at h ⊢
      exact ⟨h.1, by simpa using h.2.1, fun sz' xs' mv' hx => h.2.2 sz' xs' mv' (by rwa [getElem?_set_ne hk] at hx)⟩
  | .ptr k i s, x, h => by
    simp only [V.frz]
    split
    · simp [vr]
    · rename_i hk
      have hk : k ≠ l := by rintro rfl; simp at hk
      simp only [vr] at h ⊢
      refine ⟨h.1, by simpa using h.2.1, ?_⟩
      rintro ⟨o, h1, h2⟩
      rw [getElem?_set_ne hk] at h1
      exact h.2.2 ⟨o, h1, h2⟩
  | .yield k, x, h => by
    simp only [V.frz]
    split
    · simp [vr]
    · rename_i hk
      have hk : k ≠ l := by rintro rfl; simp at hk
      simp only [vr] at h ⊢
      refine ⟨h.1, by simpa using h.2.1, ?_⟩
      rintro ⟨o, h1, h2⟩
      rw [getElem?_set_ne hk] at h1
      exact h.2.2 ⟨o, h1, h2⟩
  | .map k, x, h => by
    simp only [V.frz]
    split
    · simp [vr]
    · rename_i hk
      have hk : k ≠ l := by rintro rfl; simp at hk
      simp only [vr] at h ⊢
      refine ⟨h.1, by simpa using h.2.1, ?_⟩
      rintro ⟨o, h1, h2⟩
      rw [getElem?_set_ne hk] at h1
      exact h.2.2 ⟨o, h1, h2⟩
  | .fn f a b, x, h => by
    simp only [V.frz, vr] at h ⊢
    obtain ⟨fs, cs, e, h1, h2⟩ := h
    exact ⟨fs, cs, e, vrL_frz hO hl a fs h1, vrL_frz hO hl b cs h2⟩
  | .tuple vs, x, h => by
    simp only [V.frz, vr] at h ⊢
    obtain ⟨ys, e, h1⟩ := h
    exact ⟨ys, e, vrL_frz hO hl vs ys h1⟩
  | .agg vs, x, h => by
    simp only [V.frz, vr] at h ⊢
    obtain ⟨ys, e, h1, h2⟩ := h
    exact ⟨ys, e, vrL_frz hO hl vs ys h1, h2⟩
  | .d y, x, h => by
    simp only [V.frz, vr] at h ⊢
    exact Dr_mono (fun b hb => ⟨.inl hb, rfl⟩) _ _ h
  | .undef, x, h => by simp [V.frz, vr]
  | .nils, x, h => by simpa [V.frz, vr] using h
  | .ex sz ys, x, h => by
    simp only [V.frz, vr] at h ⊢
    obtain ⟨a, e, h1⟩ := h
    exact ⟨a, e, Dr_mono (fun b hb => ⟨.inl hb, rfl⟩) _ _ h1⟩
  | .ep sz y s, x, h => by
    simp only [V.frz, vr] at h ⊢
    obtain ⟨b, q, e, h1, u, h2, h3, h4⟩ := h
    exact ⟨b, q, e, .inl h1, u, Dr_mono (fun b hb => ⟨.inl hb, rfl⟩) _ _ h2, h3, h4⟩
theorem vrL_frz {l sz : Nat} {xs : List D} {mv : Bool} (hO : ORel w I ρ σ) (hl : σ[l]? = some (.row sz xs mv)) : ∀ (vs : List V) (ys : List Value), vrL w I ρ σ vs ys → vrL w (Iadd I ρ l) ρ (σ.set l .dead) (V.frzL l sz xs vs) ys
  | [], ys, h => by simpa [V.frzL, vrL] using h
  | v :: vs, ys, h => by
    simp only [V.frzL, vrL] at h ⊢
    obtain ⟨y, ys', e, h1, h2⟩ := h
    exact ⟨y, ys', e, vr_frz hO hl v y h1, vrL_frz hO hl vs ys' h2⟩
end
theorem orel_frz {l sz : Nat} {xs : List D} {mv : Bool} (hO : ORel w I ρ σ) (hl : σ[l]? = some (.row sz xs mv)) {k : Nat} {o : O} (h : orel w I ρ σ k o) : orel w (Iadd I ρ l) ρ (σ.set l .dead) k (o.frz l sz xs) := by
  have hI : ∀ b, I b → Iadd I ρ l b ∧ w.heap[b]? = w.heap[b]? := fun b hb => ⟨.inl hb, rfl⟩
  cases o with
  | dead => simp [O.frz, orel]
  | cells cs =>
    simp only [O.frz, orel] at h ⊢
    obtain ⟨L, C, T, fz, h1, h2, h3, h4, h5, h6⟩ := h
    exact ⟨L, C, T, fz, h1, h2, h3, h4, vrL_frz hO hl cs _ h5, h6⟩
  | row sz xs mv =>
    simp only [O.frz, orel] at h ⊢
    rcases h with h | ⟨L, C, T, fz, h1, h2, h3, h4, h5, h6, h7, h8⟩
    · exact .inl h
    · exact .inr ⟨L, C, T, fz, h1, h2, h3, h4, h5, h6, h7, DrE_mono hI _ _ rfl _ _ h8⟩
  | map es =>
    simp only [O.frz, orel] at h ⊢
    obtain ⟨L, E, n, h1, h2, h3, h4, h5, h6⟩ := h
    refine ⟨L, E, n, h1, h2, h3, h4, fun j e hj => ?_, h6⟩
    obtain ⟨g1, x, g2, g3, g4⟩ := h5 j e hj
    exact ⟨g1, x, g2, g3, Dr_mono hI _ _ g4⟩
  | loop st pend fn tm params assign body =>
    simp only [O.frz, orel] at h ⊢
    obtain ⟨L, tmps, db, h1, h2, h3⟩ := h
    exact ⟨L, tmps, db, h1, h2, vrL_frz hO hl tm _ h3⟩
  | defd => simpa [O.frz, orel] using h
theorem frz_dead {l sz : Nat} {xs : List D} {o : O} : o.frz l sz xs = .dead ↔ o = .dead := by cases o <;> simp [O.frz]
theorem frz_still {l sz : Nat} {xs : List D} {o : O} : (o.frz l sz xs).still = o.still := by cases o <;> rfl
theorem frz_rl {l sz : Nat} {xs : List D} (o : O) : o.alike (o.frz l sz xs) := by cases o <;> rfl
theorem frz_ld {l sz : Nat} {xs : List D} {o : O} : (o.frz l sz xs).ld = o.ld := by cases o <;> rfl
end frz
section rules
variable {P : Program} {f : FuncId} {ro : Option Nat} {n : Nat} {k : List Item} {tm tm' : List V} {σ σ' : Store} {df : List Nat} {Q : AE → Store → Prop}
theorem freeze_core {w : World} {I : Nat → Prop} {ρ : LM} {σ : Store} {tm : List V} {a : List Value} {l : Nat} {sz : Nat} {xs : List D} {mv : Bool} (hO : ORel w I ρ σ) (hl : σ[l]? = some (.row sz xs mv)) (hr : vrL w I ρ σ tm a) :
    vrL w (Iadd I ρ l) ρ ((σ.map (O.frz l sz xs)).set l .dead) (V.frzL l sz xs tm) a ∧ ORel w (Iadd I ρ l) ρ ((σ.map (O.frz l sz xs)).set l .dead) ∧ Ext σ.length w I ρ σ w (Iadd I ρ l) ρ ((σ.map (O.frz l sz xs)).set l .dead) ∧ True := by
  have hlt : l < σ.length := (List.getElem?_eq_some_iff.1 hl).1
  have hget : ∀ x o1, ((σ.map (O.frz l sz xs)).set l .dead)[x]? = some o1 → o1 ≠ .dead → x ≠ l ∧ ∃ o2, σ[x]? = some o2 ∧ o2 ≠ .dead ∧ o1 = o2.frz l sz xs := by
    intro x o1 h1 h2
    by_cases hx : x = l
    · subst hx
      rw [List.getElem?_set_self (by simpa using hlt)] at h1
      cases h1; exact absurd rfl h2
    · rw [getElem?_set_ne hx, List.getElem?_map, Option.map_eq_some_iff] at h1
      obtain ⟨o2, h3, rfl⟩ := h1
      exact ⟨hx, o2, h3, fun e => h2 (frz_dead.2 e), rfl⟩
  have hsame : ∀ x, x < σ.length → Same ρ (σ.set l .dead) ρ ((σ.map (O.frz l sz xs)).set l .dead) x := by
    intro x hx
    refine ⟨by simpa using hx, fun o1 h1 h2 => ⟨rfl, ?_⟩⟩
    obtain ⟨hne, o2, h3, h4, rfl⟩ := hget x o1 h1 h2
    exact ⟨o2, by rw [getElem?_set_ne hne]; exact h3, h4, frz_rl o2⟩
  have hII : ∀ b, Iadd I ρ l b → Iadd I ρ l b ∧ w.heap[b]? = w.heap[b]? := fun b hb => ⟨hb, rfl⟩
  have htm := vrL_all hII (fun x hx => hsame x (by simpa using hx)) (vrL_frz hO hl tm _ hr)
  have hlive : ∀ x, live ((σ.map (O.frz l sz xs)).set l .dead) x → x ≠ l ∧ live σ x := by
    rintro x ⟨o1, h1, h2⟩
    obtain ⟨hne, o2, h3, h4, _⟩ := hget x o1 h1 h2
    exact ⟨hne, o2, h3, h4⟩
  have hfoot : ∀ b, foot ρ ((σ.map (O.frz l sz xs)).set l .dead) b → foot ρ σ b := by
    rintro b ⟨x, o1, L, h1, h2, h3, h4⟩
    obtain ⟨_, o2, h5, h6, _⟩ := hget x o1 h1 h2
    exact ⟨x, o2, L, h5, h6, h3, h4⟩
  have hO2 : ORel w (Iadd I ρ l) ρ ((σ.map (O.frz l sz xs)).set l .dead) := by
    refine ⟨fun x o1 h1 => ?_, fun x y X Y hx hy => hO.inj x y X Y (hlive x hx).2 (hlive y hy).2, fun b hb => hO.flt b (hfoot b hb), fun b hb => ?_⟩
    · by_cases hd : o1 = .dead
      · subst hd; simp [orel]
      obtain ⟨hne, o2, h3, h4, rfl⟩ := hget x o1 h1 hd
      have := orel_frz hO hl (hO.objs x o2 h3)
      exact orel_all hII (fun x hx => hsame x (by simpa using hx)) rfl (fun _ _ => rfl) this
    · rcases hb with hb | ⟨L, hL, rfl⟩
      · exact ⟨(hO.imm b hb).1, fun hf => (hO.imm b hb).2 (hfoot b hf)⟩
      · refine ⟨hO.flt _ ⟨l, _, L, hl, by simp, hL, rfl⟩, ?_⟩
        rintro ⟨x, o1, X, h1, h2, h3, h4⟩
        obtain ⟨hne, o2, h5, h6, _⟩ := hget x o1 h1 h2
        exact hne (hO.inj x l X L ⟨o2, h5, h6⟩ ⟨_, hl, by simp⟩ h3 hL h4)
  have hX : Ext σ.length w I ρ σ w (Iadd I ρ l) ρ ((σ.map (O.frz l sz xs)).set l .dead) := by
    refine ⟨Nat.le_refl _, rfl, rfl, rfl, fun _ _ _ => rfl, fun b hb => .inl hb, fun b hb => ?_, fun b hb => .inl (hfoot b hb), by simp, fun x _ hx => (hlive x hx).2, fun x o1 hx h1 h2 => ⟨rfl, ?_⟩, fun x o hx h1 h2 => ?_⟩
    · rcases hb with hb | ⟨L, hL, rfl⟩
      · exact .inl hb
      · exact .inr (.inl ⟨l, _, L, hl, by simp, hL, rfl⟩)
    · obtain ⟨hne, o2, h5, h6, rfl⟩ := hget x o1 h1 (by rintro rfl; simp [O.still] at h2)
      exact ⟨o2, h5, by rwa [frz_still] at h2, frz_rl o2⟩
    · have hne : x ≠ l := by rintro rfl; rw [hl] at h1; cases h1; exact h2 rfl
      exact ⟨o.frz l sz xs, by rw [getElem?_set_ne hne, List.getElem?_map, h1]; rfl, frz_ld⟩
  exact ⟨htm, hO2, hX, trivial⟩
theorem AW.freeze (l : Nat) {sz : Nat} {xs : List D} {mv : Bool} (hl : σ[l]? = some (.row sz xs mv)) (h : AW P f ro n k (V.frzL l sz xs tm) ((σ.map (O.frz l sz xs)).set l .dead) df Q) : AW P f ro n k tm σ df Q := by
  intro w I ρ a rb hr hb hn
  obtain ⟨htm, hO2, hX, _⟩ := freeze_core hr.ors hl hr.tms
  have hst := hX.stays
  have := h w (Iadd I ρ l) ρ a rb ⟨htm, hO2, dfr_stay hst hr.dfs⟩ (rbOf_stay hst hb) (by simpa using hn)
  exact this.mono fun e w' hf => hf.trans (hX.less hn)
theorem AW.coerce (ts : List TypeId) (h : AW P f ro n k (coArgs P ts tm) σ df Q) : AW P f ro n k tm σ df Q :=
  AW.less (fun _ _ _ _ ht => coArgs_rel ht) h
def exact (σ : Store) (m : List Nat) (σ' : Store) : Prop :=
  m.length = σ'.length ∧ nodupB m = true ∧ m.map (fun l => σ[l]?) = σ'.map fun o => some (o.ren (mp m σ.length))
theorem exact_get {m : List Nat} (h : exact σ m σ') {i : Nat} {o : O} (hi : σ'[i]? = some o) : m[i]? = some (mp m σ.length i) ∧ σ[mp m σ.length i]? = some (o.ren (mp m σ.length)) := by
  have hlt : i < m.length := by rw [h.1]; exact (List.getElem?_eq_some_iff.1 hi).1
  have hm : m[i]? = some m[i] := List.getElem?_eq_getElem hlt
  have hmp : mp m σ.length i = m[i] := by simp [mp, hm]
  have := congrArg (fun z => z[i]?) h.2.2
  simp only [List.getElem?_map, hm, hi, Option.map_some, Option.some.injEq] at this
  rw [hmp]
  exact ⟨hm, this⟩
theorem dfr_exact {m : List Nat} {ρ : LM} (he : exact σ m σ') (hE : Emb (mp m σ.length) (rhoC m ρ) σ' ρ σ) : ∀ {df' : List Nat} {ds : List Deferred}, (df'.all fun l => Nat.blt l σ'.length) = true → dfr ρ σ (df'.map (mp m σ.length)) ds → dfr (rhoC m ρ) σ' df' ds
  | [], ds, _, h => by simpa [dfr] using h
  | l :: ls, ds, h2, h1 => by
    simp only [List.map_cons, dfr] at h1 ⊢
    obtain ⟨L, ds', g1, g2, g3, g4⟩ := h1
    simp only [List.all_cons, Bool.and_eq_true] at h2
    have hlt : l < σ'.length := by simpa [Nat.blt_eq] using h2.1
    have hx := (exact_get he (List.getElem?_eq_getElem hlt)).2
    rw [g2] at hx
    refine ⟨L, ds', (hE.rho hlt).symm.trans g1, ?_, g3, dfr_exact he hE h2.2 g4⟩
    rw [List.getElem?_eq_getElem hlt]
    cases hq : σ'[l] <;> rw [hq] at hx <;> simp [O.ren] at hx ⊢
theorem AW.sub (m : List Nat) (tm' : List V) (σ' : Store) (ro' : Option Nat) (df' : List Nat) (he : exact σ m σ') (htm : tm = V.renL (mp m σ.length) tm') (hn' : n ≤ σ'.length ∧ m.take n = List.range n)
    (hbel : (belB σ'.length σ' && (V.locsL tm').all fun l => Nat.blt l σ'.length) = true) (hdf : df = df'.map (mp m σ.length) ∧ (df'.all fun l => Nat.blt l σ'.length) = true) (hro : ro = ro'.map (mp m σ.length) ∧ (ro'.all fun l => Nat.blt l σ'.length) = true)
    (h : AW P f ro' n k tm' σ' df' Q) : AW P f ro n k tm σ df Q := by
  intro w I ρ a rb hr hb hn
  simp only [Bool.and_eq_true] at hbel
  have hO := hr.ors
  have hE : Emb (mp m σ.length) (rhoC m ρ) σ' ρ σ := by
    intro i o hi
    obtain ⟨h1, h2⟩ := exact_get he hi
    exact ⟨by simp [rhoC, h1], _, h2, O.ren_dead, O.ren_alike o⟩
  have hfoot : ∀ b, foot (rhoC m ρ) σ' b → foot ρ σ b := by
    rintro b ⟨i, oc, L, h1, h2, h3, h4⟩
    have hi := (List.getElem?_eq_some_iff.1 h1).1
    obtain ⟨o, h5, h6⟩ := (hE.live hi).2 ⟨oc, h1, h2⟩
    exact ⟨_, o, L, h5, h6, (hE.rho hi).trans h3, h4⟩
  have hO2 : ORel w I (rhoC m ρ) σ' := by
    refine ⟨fun i oc hi => ?_, fun i j L L' hi hj hL hL' e => ?_, fun b h => hO.flt b (hfoot b h), fun b h => ⟨(hO.imm b h).1, fun hf => (hO.imm b h).2 (hfoot b hf)⟩⟩
    · obtain ⟨h1, h2⟩ := exact_get he hi
      exact (orel_ren hE (by simp [rhoC, h1]) (belB_ok hbel.1 hi)).1 (hO.objs _ _ h2)
    · have h1 := live_lt hi
      have h2 := live_lt hj
      have := hO.inj _ _ L L' ((hE.live h1).2 hi) ((hE.live h2).2 hj) ((hE.rho h1).trans hL) ((hE.rho h2).trans hL') e
      have hi' := (exact_get he (List.getElem?_eq_getElem h1)).1
      have hj' := (exact_get he (List.getElem?_eq_getElem h2)).1
      rw [← this] at hj'
      have a1 := mem_idx (nodupB_ok he.2.1) hi'
      have a2 := mem_idx (nodupB_ok he.2.1) hj'
      rw [a1] at a2
      exact Option.some.inj a2
  have hid : ∀ l, l < n → mp m σ.length l = l ∧ rhoC m ρ l = ρ l := by
    intro l hl
    have : (m.take n)[l]? = some l := by rw [hn'.2]; simp [hl]
    rw [List.getElem?_take, if_pos hl] at this
    exact ⟨by simp [mp, this], by simp [rhoC, this]⟩
  have htms : vrL w I (rhoC m ρ) σ' tm' a.tmps.toList := by
    have h1 := hr.tms
    rw [htm] at h1
    exact (vrL_ren hE tm' _ fun l hl => by have := (List.all_eq_true.1 hbel.2) l hl; simpa [Nat.blt_eq] using this).1 h1
  have hds : dfr (rhoC m ρ) σ' df' a.defers := by
    have h1 := hr.dfs
    rw [hdf.1] at h1
    exact dfr_exact he hE hdf.2 h1
  have hrb : rbOf (rhoC m ρ) σ' ro' rb := by
    rw [hro.1] at hb
    cases ro' with
    | none => exact hb
    | some l =>
      obtain ⟨L, o, g1, g2, g3, g4⟩ := hb
      have hlt : l < σ'.length := by simpa [Nat.blt_eq] using hro.2
      have hx := (exact_get he (List.getElem?_eq_getElem hlt)).2
      rw [g2] at hx
      refine ⟨L, σ'[l], (hE.rho hlt).symm.trans g1, List.getElem?_eq_getElem hlt, ?_, g4⟩
      obtain ⟨a1, a2, a3, a4, a5, a6, a7, rfl⟩ := g3
      cases hq : σ'[l] <;> rw [hq] at hx <;> simp [O.ren] at hx
      exact ⟨_, _, _, _, _, _, _, rfl⟩
  have hrun := h w I (rhoC m ρ) a rb ⟨htms, hO2, hds⟩ hrb hn'.1
  refine hrun.mono fun e w' hf => ?_
  obtain ⟨I', ρ', σ2, r, h1, h2, h3, h4⟩ := hf
  refine ⟨I', ρ', σ2, r, h1, h2, h3, ⟨h4.size, h4.os, h4.tape, h4.output, fun b hb hf => h4.old b hb fun h => hf (hfoot b h), h4.immI, fun b hb => ?_, fun b hb => ?_, h4.len, fun l hl hv => ?_, fun l o' hl ho' hst => ?_, fun l o hl ho hld => ?_⟩⟩
  · rcases h4.immN b hb with hq | hq | hq
    · exact .inl hq
    · exact .inr (.inl (hfoot b hq))
    · exact .inr (.inr hq)
  · exact (h4.footN b hb).imp (hfoot b) id
  · have := (hE.live (Nat.lt_of_lt_of_le hl hn'.1)).2 (h4.alive l hl hv)
    rwa [(hid l hl).1] at this
  · obtain ⟨g1, o, g2, g3, g4⟩ := h4.fixed l o' hl ho' hst
    have hx := (exact_get he g2).2
    rw [(hid l hl).1] at hx
    exact ⟨g1.trans (hid l hl).2, _, hx, by rw [O.ren_still]; exact g3, O.alike_trans (O.ren_alike o) g4⟩
  · have hlt : l < σ'.length := Nat.lt_of_lt_of_le hl hn'.1
    have hx := (exact_get he (List.getElem?_eq_getElem hlt)).2
    rw [(hid l hl).1, ho, Option.some.injEq] at hx
    obtain ⟨o', g1, g2⟩ := h4.stay l _ hl (List.getElem?_eq_getElem hlt) (by rw [hx, O.ren_ld] at hld; exact hld)
    exact ⟨o', g1, by rw [g2, hx, O.ren_ld]⟩
end rules
def u8 (b : UInt8) : D := .int .u8 b.toNat
section
variable {P : Program} {tm : List V} {σ : Store}
def isU8s (P : Program) (t : TypeId) : Bool := match P.underlying t with | some (.slice e) => (match P.underlying e with | some (.int .u8) => true | _ => false) | _ => false
theorem isU8s_und {t : TypeId} (h : isU8s P t = true) : ∃ e, P.underlying t = some (.slice e) ∧ P.underlying e = some (.int .u8) := by
  unfold isU8s at h
  split at h
  · split at h
    · exact ⟨_, by assumption, by assumption⟩
    · cases h
  · cases h
theorem foldl_push (bs : List UInt8) : ∀ s : ByteArray, (bs.map fun b => (b.toNat : Int)).foldl (fun r n => r.push (UInt8.ofNat n.toNat)) s = ⟨s.data ++ bs.toArray⟩ := by
  induction bs with
  | nil => intro s; simp
  | cons b bs ih =>
    intro s
    simp only [List.map_cons, List.foldl_cons, Int.toNat_natCast, UInt8.ofNat_toNat]
    rw [ih]
    congr 1
    apply Array.ext'
    simp [ByteArray.push]
theorem cont_slice {w : World} {I : Nat → Prop} {ρ : LM} {v : V} {x : Value} {sz : Nat} {ys : List D} (h : cont σ v = some (sz, ys)) (hns : ∀ z, v ≠ .d (.str z)) (hv : vr w I ρ σ v x) : ∃ ad c, x = .slice ad ys.length c := by
  unfold cont at h
  split at h
  · cases h; exact lenV_rel (σ := σ) (v := .d (.list sz ys)) rfl hv
  · cases h; exact lenV_rel (σ := σ) (v := .ex sz ys) rfl hv
  · split at h
    · rename_i l _ sz' xs mv hσ
      cases h
      exact lenV_rel (σ := σ) (v := .row l) (by simp [lenV, hσ]) hv
    · cases h
  · split at h
    · rename_i l off m c _ sz' xs mv hσ
      cases h
      have hv' := hv
      simp only [vr] at hv
      have := (hv.2.2 _ _ _ hσ).1
      have hm : ((xs.drop off).take m).length = m := by simp; omega
      rw [hm]
      exact lenV_rel (σ := σ) (v := .sl l off m c) (by simp [lenV, hσ]) hv'
    · cases h
  · exact absurd rfl (hns _)
  · cases h
theorem bts_ok {s t : TypeId} {x : Operand} {o : Oper} {bs : List UInt8} (ho : o.op = .convert s t x) (hs : isU8s P s = true) (ht : isStrT P t = true) (hx : cont σ (ev tm x) = some (1, bs.map u8) ∧ (∀ z, ev tm x ≠ .d (.str z)) ∨ ev tm x = .nils ∧ bs = []) :
    OpOk P o tm σ (.d (.str ⟨bs.toArray⟩)) tm σ := by
  intro w I ρ a hr hO
  obtain ⟨e, hu, he⟩ := isU8s_und hs
  have hxr := vr_ev hr x
  refine ⟨_, .string ⟨bs.toArray⟩, w, I, ρ, ?_, .inl rfl, by simp [vr, Dr], hr, hO, Ext.refl _ _ _ _⟩
  have hsl : ∃ ad c, a.eval x = .slice ad bs.length c := by
    rcases hx with ⟨hx, hns⟩ | ⟨hx, rfl⟩
    · have := cont_slice hx hns hxr
      simpa using this
    · rw [hx] at hxr
      simp only [vr] at hxr
      exact ⟨none, 0, hxr⟩
  obtain ⟨ad, c, hv⟩ := hsl
  have hconv : (Conv.bytesToString (.slice ad bs.length c)).run P w = .ok (.string ⟨bs.toArray⟩) w := by
    cases ad with
    | none =>
      have hb : bs = [] := by
        rcases hx with ⟨hx, _⟩ | ⟨_, h⟩
        · obtain ⟨news, h1, h2, h3⟩ := cont_rel (P := P) hx hxr hO
          have := h3 w rfl
          rw [hv] at this
          simp [Builtin.firstCells] at this
          have hl := DrN_len h1
          rw [this] at hl
          simp at hl
          exact List.eq_nil_of_length_eq_zero hl.symm
        · exact h
      subst hb
      simp [Conv.bytesToString]
      rfl
    | some ad =>
      have hload : (loadCells ad bs.length).run P w = .ok ((bs.map fun b => (b.toNat : Int)).map (Value.int .u8)).toArray w := by
        rcases hx with ⟨hx, _⟩ | ⟨hx, _⟩
        · obtain ⟨news, h1, h2, h3⟩ := cont_rel (P := P) hx hxr hO
          have h4 := h3 w rfl
          rw [hv] at h4
          simp only [Builtin.firstCells, List.length_map, Nat.mul_one] at h4
          rw [h4]
          have : news = (bs.map fun b => (b.toNat : Int)).map (Value.int .u8) := by
            clear h2 h3 h4 hx hv hxr
            revert h1
            induction bs generalizing news with
            | nil => intro h1; simpa [DrN] using h1
            | cons b bs ih =>
              intro h1
              simp only [List.map_cons, DrN] at h1
              obtain ⟨v, rest, g1, g2, rfl, g4⟩ := h1
              simp only [u8, Dr] at g1
              subst g1
              simp only [List.map_cons, Value.cells, List.cons_append, List.nil_append]
              rw [ih rest g4]
          rw [this]
        · rw [hx] at hxr
          simp only [vr] at hxr
          rw [hv] at hxr
          cases hxr
      rw [run_bytesToString w ad bs.length c _ hload, foldl_push]
      have he : (ByteArray.empty.data ++ bs.toArray) = bs.toArray := by show (#[] : Array UInt8) ++ bs.toArray = _; simp
      rw [he]
  simp only [execOp, ho, hv, Sem.run_bind, run_convert_bytes_string w s t e ad bs.length c hu he (isStrT_und ht), hconv, Result.andThen_ok]
  rfl
end
end Go.Br
namespace Go.Br
open Go
def ahead (L : List Nat) (i j : Nat) : Prop := L.idxOf i < L.idxOf j
theorem idx_ne {x i : Nat} {L : List Nat} (h : i ≠ x) : (x :: L).idxOf i = L.idxOf i + 1 := by
  have h' : (x == i) = false := by simp; exact fun e => h e.symm
  rw [List.idxOf_cons, h']; rfl
structure Ord (ops : Array Oper) (L : List Nat) : Prop where
  nodup : L.Nodup
  mem : ∀ i, i ∈ L ↔ i < ops.size
  edge : ∀ j ∈ L, ∀ o, ops[j]? = some o → ∀ e ∈ o.after, Region.binds .any e = true → ahead L e.on j
def edgesB (ops : Array Oper) : Bool := (List.range ops.size).all fun i => match ops[i]? with
  | some o => o.after.all fun e => !Region.binds .any e || Nat.blt e.on i
  | none => true
section go
variable {ops : Array Oper}
def unl (ops : Array Oper) (listed : Array Bool) : List Nat := (List.range ops.size).filter fun i => !listed.getD i true
theorem mem_unl {listed : Array Bool} {i : Nat} : i ∈ unl ops listed ↔ i < ops.size ∧ listed.getD i true = false := by
  simp only [unl, List.mem_filter, List.mem_range, Bool.not_eq_true']
theorem getD_set {listed : Array Bool} {i j : Nat} (hi : i < listed.size) (d : Bool) : (listed.setIfInBounds i true).getD j d = if j = i then true else listed.getD j d := by
  by_cases hj : j = i
  · subst hj; simp [Array.getD, hi]
  · simp only [hj, if_false]
    simp only [Array.getD_eq_getD_getElem?, Array.getElem?_setIfInBounds_ne (Ne.symm hj)]
theorem go_ord (hE : edgesB ops = true) : ∀ (fuel t : Nat) (listed : Array Bool), listed.size = ops.size → (unl ops listed).length ≤ fuel →
    (Region.linearise.go .any ops fuel t listed []).Nodup ∧ (∀ i, i ∈ Region.linearise.go .any ops fuel t listed [] ↔ i < ops.size ∧ listed.getD i true = false) ∧
    ∀ j ∈ Region.linearise.go .any ops fuel t listed [], ∀ o, ops[j]? = some o → ∀ e ∈ o.after, Region.binds .any e = true → listed.getD e.on false = true ∨ ahead (Region.linearise.go .any ops fuel t listed []) e.on j := by
  have hedge : ∀ i o e, ops[i]? = some o → e ∈ o.after → Region.binds .any e = true → e.on < i := by
    intro i o e ho he hb
    have hi : i < ops.size := (Array.getElem?_eq_some_iff.1 ho).1
    have h1 := List.all_eq_true.1 hE i (List.mem_range.2 hi)
    rw [ho] at h1
    have h2 := (Array.all_eq_true_iff_forall_mem.1 h1) e he
    simpa [hb] using h2
  intro fuel
  induction fuel with
  | zero =>
    intro t listed hsz hlen
    have hnil : unl ops listed = [] := List.eq_nil_of_length_eq_zero (by omega)
    refine ⟨by simp [Region.linearise.go], fun i => ⟨fun h => by simp [Region.linearise.go] at h, fun ⟨h1, h2⟩ => ?_⟩, fun j hj => by simp [Region.linearise.go] at hj⟩
    have : i ∈ unl ops listed := mem_unl.2 ⟨h1, h2⟩
    rw [hnil] at this; cases this
  | succ fuel ih =>
    intro t listed hsz hlen
    have hgo : Region.linearise.go .any ops (fuel + 1) t listed [] = (match (Region.ready .any ops listed)[t % (Region.ready .any ops listed).length]? with
      | some i => Region.linearise.go .any ops fuel (t / (Region.ready .any ops listed).length) (listed.setIfInBounds i true) [i]
      | none => [].reverse) := rfl
    cases hi : (Region.ready .any ops listed)[t % (Region.ready .any ops listed).length]? with
    | none =>
      have hnil : Region.ready .any ops listed = [] := by
        cases hr : Region.ready .any ops listed with
        | nil => rfl
        | cons x xs =>
          rw [hr] at hi
          have hlt : t % (x :: xs).length < (x :: xs).length := Nat.mod_lt _ (by simp)
          simp at hi
          simp at hlt
          omega
      rw [hgo, hi]
      have hall : ∀ i, i < ops.size → listed.getD i true = true := by
        intro i
        induction i using Nat.strongRecOn with
        | _ i ihi =>
          intro hlt
          cases hl : listed.getD i true with
          | true => rfl
          | false =>
            exfalso
            have hmem : i ∈ Region.ready .any ops listed := by
              unfold Region.ready
              simp only [List.mem_filter, List.mem_range, hlt, hl, true_and, Bool.not_false, Bool.true_and]
              rw [Array.getElem?_eq_getElem hlt]
              simp only [Option.map_some, Option.getD_some]
              rw [Array.all_eq_true_iff_forall_mem]
              intro e he
              cases hb : Region.binds .any e with
              | false => rfl
              | true =>
                have hlt2 := hedge i _ e (Array.getElem?_eq_getElem hlt) he hb
                have h3 := ihi e.on hlt2 (by omega)
                have hb2 : e.on < listed.size := by omega
                simp only [Array.getD_eq_getD_getElem?, Array.getElem?_eq_getElem hb2, Option.getD_some] at h3 ⊢
                simp [h3]
            rw [hnil] at hmem; cases hmem
      refine ⟨by simp, fun i => ⟨fun h => by simp at h, fun ⟨h1, h2⟩ => ?_⟩, fun j hj => by simp at hj⟩
      rw [hall i h1] at h2; cases h2
    | some i =>
      rw [hgo, hi]
      simp only []
      rw [linearise_go_acc, List.reverse_singleton, List.singleton_append]
      have hmem := List.mem_of_getElem? hi
      unfold Region.ready at hmem
      simp only [List.mem_filter, List.mem_range, Bool.and_eq_true, Bool.not_eq_true'] at hmem
      obtain ⟨hlt, hl, haft⟩ := hmem
      have hlt' : i < listed.size := by omega
      have hun : (unl ops (listed.setIfInBounds i true)).length ≤ fuel := by
        have : (unl ops (listed.setIfInBounds i true)).length < (unl ops listed).length := by
          have hsub : unl ops (listed.setIfInBounds i true) = (unl ops listed).filter fun x => x != i := by
            unfold unl
            rw [List.filter_filter]
            apply List.filter_congr
            intro x _
            rw [getD_set hlt']
            by_cases hx : x = i <;> simp [hx]
          rw [hsub]
          apply List.length_filter_lt_length_iff_exists.2
          exact ⟨i, mem_unl.2 ⟨hlt, hl⟩, by simp⟩
        omega
      obtain ⟨n1, n2, n3⟩ := ih (t / (Region.ready .any ops listed).length) (listed.setIfInBounds i true) (by simpa using hsz) hun
      refine ⟨List.nodup_cons.2 ⟨fun hx => ?_, n1⟩, fun x => ?_, fun j hj o ho e he hb => ?_⟩
      · have := ((n2 i).1 hx).2
        rw [getD_set hlt'] at this
        simp at this
      · rw [List.mem_cons, n2 x, getD_set hlt']
        by_cases hx : x = i
        · subst hx; simp [hlt, hl]
        · simp [hx]
      · by_cases hji : j = i
        · subst hji
          left
          rw [ho] at haft
          simp only [Option.map_some, Option.getD_some] at haft
          have := (Array.all_eq_true_iff_forall_mem.1 haft) e he
          simpa [hb] using this
        · have hj' : j ∈ Region.linearise.go .any ops fuel (t / (Region.ready .any ops listed).length) (listed.setIfInBounds i true) [] := by
            rcases List.mem_cons.1 hj with h | h
            · exact absurd h hji
            · exact h
          have hjpos : ((i :: Region.linearise.go .any ops fuel (t / (Region.ready .any ops listed).length) (listed.setIfInBounds i true) []).idxOf j) = (Region.linearise.go .any ops fuel (t / (Region.ready .any ops listed).length) (listed.setIfInBounds i true) []).idxOf j + 1 := by
            exact idx_ne hji
          by_cases hei : e.on = i
          · right
            unfold ahead
            rw [hjpos, hei]
            simp
          · rcases n3 j hj' o ho e he hb with h | h
            · left
              rw [getD_set hlt'] at h
              simpa [hei] using h
            · right
              unfold ahead at h ⊢
              rw [hjpos, idx_ne hei]
              omega
theorem ord_of {mixed : Bool} (hm : mixed = true) (hE : edgesB ops = true) (t : Nat) : Ord ops (Region.schedule mixed ops t) := by
  subst hm
  have h := go_ord hE ops.size t (Array.replicate ops.size false) (by simp) (by
    unfold unl
    exact Nat.le_trans (List.length_filter_le ..) (by simp))
  have he : Region.schedule true ops t = Region.linearise.go .any ops ops.size t (Array.replicate ops.size false) [] := by
    simp [Region.schedule, Region.linearise]
  rw [he]
  have hrep : ∀ i, i < ops.size → ∀ d, (Array.replicate ops.size false).getD i d = false := by
    intro i hi d
    simp [Array.getD_eq_getD_getElem?, hi]
  refine ⟨h.1, fun i => ?_, fun j hj o ho e he2 hb => ?_⟩
  · rw [h.2.1 i]
    constructor
    · exact fun x => x.1
    · exact fun x => ⟨x, hrep i x _⟩
  · rcases h.2.2 j hj o ho e he2 hb with h1 | h1
    · exfalso
      by_cases hx : e.on < ops.size
      · rw [hrep _ hx] at h1; cases h1
      · simp [Array.getD_eq_getD_getElem?, hx] at h1
    · exact h1
end go
section runs
variable {S : Type} (St : Nat → S → S → Prop)
def Run : List Nat → S → S → Prop
  | [], s, s' => s' = s
  | i :: L, s, s' => ∃ s1, St i s s1 ∧ Run L s1 s'
variable {St}
theorem Run.push {dep : Nat → Nat → Bool} (hc : ∀ i j, dep i j = false → ∀ s a b, St i s a → St j a b → ∃ a', St j s a' ∧ St i a' b) {x : Nat} : ∀ (A : List Nat) {B : List Nat} {s a s' : S}, (∀ y ∈ A, dep x y = false) →
    St x s a → Run St (A ++ B) a s' → Run St (A ++ x :: B) s s'
  | [], B, s, a, s', _, h, hr => ⟨a, h, hr⟩
  | y :: A, B, s, a, s', hd, h, hr => by
    obtain ⟨s1, h1, h2⟩ := hr
    obtain ⟨a', h3, h4⟩ := hc x y (hd y (by simp)) s a s1 h h1
    exact ⟨a', h3, Run.push hc A (fun z hz => hd z (by simp [hz])) h4 h2⟩
theorem idx_mid {A B : List Nat} {x i : Nat} (hi : i ≠ x) : (A ++ x :: B).idxOf i = if i ∈ A then (A ++ B).idxOf i else (A ++ B).idxOf i + 1 := by
  rw [List.idxOf_append, List.idxOf_append]
  by_cases h : i ∈ A
  · simp [h]
  · simp only [h, if_false]
    rw [idx_ne hi]
    omega
theorem idx_in {A B : List Nat} {i j : Nat} (hi : i ∈ A) (hj : j ∉ A) : (A ++ B).idxOf i < (A ++ B).idxOf j := by
  rw [List.idxOf_append, List.idxOf_append]
  simp only [hi, hj, if_true, if_false]
  have := List.idxOf_lt_length_iff.2 hi
  omega
theorem Run.turn {dep : Nat → Nat → Bool} (hsym : ∀ i j, dep i j = dep j i) (hc : ∀ i j, dep i j = false → ∀ s a b, St i s a → St j a b → ∃ a', St j s a' ∧ St i a' b) : ∀ (L' L : List Nat) {s s' : S}, L.Nodup → L'.Nodup → (∀ i, i ∈ L ↔ i ∈ L') →
    (∀ i j, i ∈ L → j ∈ L → dep i j = true → ahead L i j → ahead L' i j) → Run St L' s s' → Run St L s s'
  | [], L, s, s', _, _, hm, _, h => by
    have : L = [] := List.eq_nil_iff_forall_not_mem.2 fun x hx => by simpa using (hm x).1 hx
    subst this; exact h
  | x :: L', L, s, s', hn, hn', hm, hd, h => by
    obtain ⟨a, h1, h2⟩ := h
    have hx : x ∈ L := (hm x).2 (by simp)
    obtain ⟨A, B, rfl⟩ := List.append_of_mem hx
    have hn2 : (A ++ B).Nodup ∧ x ∉ A ++ B := by
      rw [List.perm_middle.nodup_iff] at hn
      exact ⟨(List.nodup_cons.1 hn).2, (List.nodup_cons.1 hn).1⟩
    have hxA : x ∉ A := fun hx => hn2.2 (by simp [hx])
    have hne : ∀ i, i ∈ A ++ B → i ≠ x := fun i hi e => hn2.2 (e ▸ hi)
    refine Run.push hc A (fun y hy => ?_) h1 (Run.turn hsym hc L' (A ++ B) hn2.1 (List.nodup_cons.1 hn').2 (fun i => ?_) (fun i j hi hj hdep hij => ?_) h2)
    · cases hdep : dep x y with
      | false => rfl
      | true =>
        exfalso
        have h3 := hd y x (by simp [hy]) hx (by rw [hsym]; exact hdep) (idx_in hy hxA)
        unfold ahead at h3
        simp at h3
    · have h3 := hm i
      simp only [List.mem_append, List.mem_cons] at h3 ⊢
      constructor
      · intro h4
        have h5 : i ≠ x := hne i (by simpa using h4)
        have := h3.1 (by rcases h4 with h4 | h4 <;> simp [h4])
        rcases this with h | h
        · exact absurd h h5
        · exact h
      · intro h4
        have h5 : i ≠ x := fun e => (List.nodup_cons.1 hn').1 (e ▸ h4)
        rcases h3.2 (.inr h4) with h | h | h
        · exact .inl h
        · exact absurd h h5
        · exact .inr h
    · have hix := hne i hi
      have hjx := hne j hj
      have h3 : ahead (A ++ x :: B) i j := by
        unfold ahead at hij ⊢
        rw [idx_mid hix, idx_mid hjx]
        by_cases h4 : i ∈ A
        · simp only [h4, if_true]; split <;> omega
        · by_cases h5 : j ∈ A
          · exfalso
            have := idx_in (B := B) h5 h4
            omega
          · simp only [h4, h5, if_false]; omega
      have h4 := hd i j (by rcases List.mem_append.1 hi with h | h <;> simp [h]) (by rcases List.mem_append.1 hj with h | h <;> simp [h]) hdep h3
      unfold ahead at h4 ⊢
      rw [idx_ne hix, idx_ne hjx] at h4
      omega
end runs
end Go.Br
namespace Go.Br
open Go
theorem ev_put {tm : List V} {d : Option Tmp} {v : V} {x : Operand} (h : ∀ t, d = some t → x ≠ .tmp t) : ev (put tm d v) x = ev tm x := by
  cases d with
  | none => rfl
  | some t =>
    cases x with
    | tmp u =>
      have hne : t ≠ u := fun e => h t rfl (e ▸ rfl)
      simp [ev, put, List.getElem?_set_ne hne]
    | _ => rfl
theorem put_comm {tm : List V} {x y : Option Tmp} {v u : V} (h : ∀ d, x = some d → y ≠ some d) : put (put tm x v) y u = put (put tm y u) x v := by
  cases x with
  | none => rfl
  | some d =>
    cases y with
    | none => rfl
    | some e =>
      have hne : d ≠ e := fun he => h d rfl (he ▸ rfl)
      simp only [put]
      exact List.set_comm _ _ hne
theorem wantA_put {ops : Array Oper} {o : Oper} {tm : List V} {d : Option Tmp} {v : V} (h : ∀ t, d = some t → t ∉ o.looksAt ops) : wantA ops o (put tm d v) = wantA ops o tm := by
  cases d with
  | none => rfl
  | some t =>
    have h1 := h t rfl
    unfold wantA
    cases hg : o.guard with
    | none => rfl
    | some p =>
      obtain ⟨j, want⟩ := p
      simp only []
      cases hd : (ops[j]?).bind (·.dst) with
      | none => rfl
      | some u =>
        have hne : t ≠ u := by
          intro e
          apply h1
          simp [Oper.looksAt, hg, hd, e]
        simp only [put]
        rw [List.getElem?_set_ne hne]
def valsOf (tm : List V) (o : Oper) : List V := o.op.operands.toList.map (ev tm)
theorem valsOf_put {ops : Array Oper} {o : Oper} {tm : List V} {d : Option Tmp} {v : V} (h : ∀ t, d = some t → t ∉ o.looksAt ops) : valsOf (put tm d v) o = valsOf tm o := by
  unfold valsOf
  apply List.map_congr_left
  intro x hx
  apply ev_put
  intro t ht e
  subst e
  apply h t ht
  simp only [Oper.looksAt, List.mem_append, List.mem_filterMap]
  left
  exact ⟨_, hx, rfl⟩
theorem partsA_congr {P : Program} {tm tm' : List V} {t : TypeId} : ∀ {ps : List (Nat × Operand)}, (∀ x ∈ ps, ev tm x.2 = ev tm' x.2) → partsA P tm t ps = partsA P tm' t ps
  | [], _ => rfl
  | (i, x) :: ps, h => by
    simp only [partsA]
    rw [h (i, x) (by simp), partsA_congr (ps := ps) fun y hy => h y (by simp [hy])]
theorem mop_congr {P : Program} {tm tm' : List V} {σ : Store} {o : Oper} (h : valsOf tm o = valsOf tm' o) : mop P tm σ o = mop P tm' σ o := by
  have h' : ∀ x ∈ o.op.operands.toList, ev tm x = ev tm' x := List.map_inj_left.1 h
  clear h
  obtain ⟨dst, op, type, pos, after, guard⟩ := o
  cases op <;> simp only [Op.operands] at h'
  case store t x y => simp [mop, storeA, h' x (by simp), h' y (by simp)]
  case box t x => simp [mop, boxA, h' x (by simp)]
  case alloc t => rfl
  case build t ps => simp only [mop, buildA]; rw [partsA_congr (tm' := tm') (fun x hx => h' x.2 (List.mem_map.2 ⟨x, hx, rfl⟩))]
  case buildSlice t l ps => simp only [mop, buildSliceA]; rw [partsA_congr (tm' := tm') (fun x hx => h' x.2 (List.mem_map.2 ⟨x, hx, rfl⟩))]
  case move x => simp [mop, qop, h' x (by simp)]
  case assign x => simp [mop, qop, h' x (by simp)]
  case pick c x y => simp [mop, qop, h' c (by simp), h' x (by simp), h' y (by simp)]
  case extract x i => simp [mop, qop, h' x (by simp)]
  case nilCheck x => simp [mop, qop, h' x (by simp)]
  case binOp op t x y u => simp [mop, qop, h' x (by simp), h' y (by simp)]
  case unOp op t x => simp [mop, qop, h' x (by simp)]
  case convert s t x => simp [mop, qop, h' x (by simp)]
  case fieldAddr t x f => simp [mop, qop, h' x (by simp)]
  case field t x f => simp [mop, qop, h' x (by simp)]
  case load t x => simp [mop, qop, h' x (by simp)]
  case makeFunc f a b =>
    cases f with
    | func g =>
      simp only [mop, qop]
      rw [List.map_congr_left (g := ev tm') (l := a.toList) fun x hx => h' x (by simp; left; simpa using hx), List.map_congr_left (g := ev tm') (l := b.toList) fun x hx => h' x (by simp; right; simpa using hx)]
    | _ => rfl
  case call c =>
    obtain ⟨callee, args, ts⟩ := c
    cases callee with
    | builtin b =>
      simp only [mop, qop]
      rw [List.map_congr_left (g := ev tm') (l := args.toList) fun x hx => h' x (by simp [Call.operands]; simpa using hx)]
    | _ => rfl
  all_goals rfl
section
variable (P : Program) (f : FuncId) (ro : Option Nat) (n : Nat) (k : List Item) (df : List Nat) (Q : AE → Store → Prop) (ops : Array Oper)
def Sem (o : Oper) (i : Nat) (vs : List V) (σ : Store) (v : V) (σ' : Store) : Prop :=
  ∀ (rest : List Nat) (tm : List V), valsOf tm o = vs → wantA ops o tm = some true → AW P f ro n (.inRegion ops rest :: k) (put tm o.dst v) σ' df Q → AW P f ro n (.inRegion ops (i :: rest) :: k) tm σ df Q
def Eff (o : Oper) (i : Nat) (tm : List V) (σ : Store) (v : V) (σ' : Store) : Prop :=
  (wantA ops o tm = some false ∧ v = .tuple [] ∧ σ' = σ) ∨ (wantA ops o tm = some true ∧ Sem P f ro n k df Q ops o i (valsOf tm o) σ v σ')
def EffC (c : Nat) (o : Oper) (i : Nat) (tm : List V) (σ : Store) (v : V) (σ' : Store) : Prop :=
  match c with
  | 0 => σ' = σ ∧ ∀ s, Eff P f ro n k df Q ops o i tm s v s
  | 1 => σ' = σ ∧ Eff P f ro n k df Q ops o i tm σ v σ
  | _ => Eff P f ro n k df Q ops o i tm σ v σ'
def StepQ (c : List Nat) (i : Nat) (s s' : List V × Store) : Prop :=
  (∃ o v, ops[i]? = some o ∧ s'.1 = put s.1 o.dst v ∧ EffC P f ro n k df Q ops (c.getD i 2) o i s.1 s.2 v s'.2 ∧ c.getD i 2 ≠ 3) ∨
  (c.getD i 2 = 3 ∧ ∀ rest, AW P f ro n (.inRegion ops rest :: k) s'.1 s'.2 df Q → AW P f ro n (.inRegion ops (i :: rest) :: k) s.1 s.2 df Q)
end
def clash (a b : Nat) : Bool := match a, b with
  | 3, _ => true
  | _, 3 => true
  | 0, _ => false
  | _, 0 => false
  | 1, 1 => false
  | _, _ => true
def depB (ops : Array Oper) (c : List Nat) (i j : Nat) : Bool :=
  match ops[i]?, ops[j]? with
  | some x, some y => !(x.apart ops y) || !(y.apart ops x) || clash (c.getD i 2) (c.getD j 2)
  | _, _ => true
theorem clash_symm (a b : Nat) : clash a b = clash b a := by
  unfold clash
  rcases a with _ | _ | _ | _ | a <;> rcases b with _ | _ | _ | _ | b <;> rfl
theorem depB_symm (ops : Array Oper) (c : List Nat) (i j : Nat) : depB ops c i j = depB ops c j i := by
  unfold depB
  cases ops[i]? <;> cases ops[j]? <;> simp [clash_symm, Bool.or_comm]
section
variable {P : Program} {f : FuncId} {ro : Option Nat} {n : Nat} {k : List Item} {df : List Nat} {Q : AE → Store → Prop} {ops : Array Oper}
theorem Eff.put {o : Oper} {i : Nat} {tm : List V} {d : Option Tmp} {u v : V} {σ σ' : Store} (h : ∀ t, d = some t → t ∉ o.looksAt ops) : Eff P f ro n k df Q ops o i (put tm d u) σ v σ' ↔ Eff P f ro n k df Q ops o i tm σ v σ' := by
  unfold Eff
  rw [wantA_put h, valsOf_put h]
theorem stepQ_swap {c : List Nat} (i j : Nat) (hd : depB ops c i j = false) (s a b : List V × Store) (hi : StepQ P f ro n k df Q ops c i s a) (hj : StepQ P f ro n k df Q ops c j a b) :
    ∃ a', StepQ P f ro n k df Q ops c j s a' ∧ StepQ P f ro n k df Q ops c i a' b := by
  have no3 : ∀ a, clash 3 a = true := fun a => rfl
  have no3' : ∀ a, clash a 3 = true := fun a => by rw [clash_symm]; rfl
  rcases hi with hi | ⟨hi3, _⟩
  case inr =>
    exfalso
    unfold depB at hd
    cases hx : ops[i]? with
    | none => simp [hx] at hd
    | some x => cases hy : ops[j]? with
      | none => simp [hx, hy] at hd
      | some y => simp only [hx, hy, hi3, no3, Bool.or_true, Bool.true_eq_false] at hd
  rcases hj with hj | ⟨hj3, _⟩
  case inr =>
    exfalso
    unfold depB at hd
    cases hx : ops[i]? with
    | none => simp [hx] at hd
    | some x => cases hy : ops[j]? with
      | none => simp [hx, hy] at hd
      | some y => simp only [hx, hy, hj3, no3', Bool.or_true, Bool.true_eq_false] at hd
  obtain ⟨x, u, hx, hxa, hxe, hx3⟩ := hi
  obtain ⟨y, v, hy, hya, hye, hy3⟩ := hj
  obtain ⟨tm, σ⟩ := s
  obtain ⟨tm1, σ1⟩ := a
  obtain ⟨tm2, σ2⟩ := b
  simp only [] at hxa hxe hya hye
  subst hxa hya
  unfold depB at hd
  simp only [hx, hy, Bool.or_eq_false_iff, Bool.not_eq_false'] at hd
  obtain ⟨⟨h1, h2⟩, h3⟩ := hd
  obtain ⟨g1, g2, g3⟩ := Oper.apart_spec h1
  have e1 : ∀ σ σ' w, Eff P f ro n k df Q ops y j (Br.put tm x.dst u) σ w σ' ↔ Eff P f ro n k df Q ops y j tm σ w σ' := fun σ σ' w => Eff.put g1
  have e2 : ∀ σ σ' w, Eff P f ro n k df Q ops x i (Br.put tm y.dst v) σ w σ' ↔ Eff P f ro n k df Q ops x i tm σ w σ' := fun σ σ' w => Eff.put g3
  have hc : Br.put (Br.put tm x.dst u) y.dst v = Br.put (Br.put tm y.dst v) x.dst u := put_comm fun d hd => g2 d hd
  have key : ∃ σm, EffC P f ro n k df Q ops (c.getD j 2) y j tm σ v σm ∧ EffC P f ro n k df Q ops (c.getD i 2) x i (Br.put tm y.dst v) σm u σ2 := by
    unfold EffC at *
    generalize c.getD i 2 = ci at *
    generalize c.getD j 2 = cj at *
    have h3' : ∀ a b, a ≠ 3 → b ≠ 3 → clash a b = false → a = 0 ∨ b = 0 ∨ (a = 1 ∧ b = 1) := by
      intro a b ha hb h
      rcases a with _ | _ | _ | _ | a <;> rcases b with _ | _ | _ | _ | b <;> simp_all [clash]
    have h4 := h3' _ _ hx3 hy3 h3
    clear h3 h3' no3 no3' hx3 hy3
    rcases ci with _ | _ | ci <;> rcases cj with _ | _ | cj <;> (try (exfalso; omega)) <;> simp only [e1, e2] at *
    · obtain ⟨rfl, k1⟩ := hxe; obtain ⟨rfl, k2⟩ := hye; exact ⟨_, ⟨rfl, k2⟩, rfl, k1⟩
    · obtain ⟨rfl, k1⟩ := hxe; obtain ⟨rfl, k2⟩ := hye; exact ⟨_, ⟨rfl, k2⟩, rfl, k1⟩
    · obtain ⟨rfl, k1⟩ := hxe; exact ⟨_, hye, rfl, k1⟩
    · obtain ⟨rfl, k1⟩ := hxe; obtain ⟨rfl, k2⟩ := hye; exact ⟨_, ⟨rfl, k2⟩, rfl, k1⟩
    · obtain ⟨rfl, k1⟩ := hxe; obtain ⟨rfl, k2⟩ := hye; exact ⟨_, ⟨rfl, k2⟩, rfl, k1⟩
    · obtain ⟨rfl, k2⟩ := hye; exact ⟨_, ⟨rfl, k2⟩, hxe⟩
  obtain ⟨σm, k1, k2⟩ := key
  exact ⟨(Br.put tm y.dst v, σm), .inl ⟨y, v, hy, rfl, k1, hy3⟩, .inl ⟨x, u, hx, hc, k2, hx3⟩⟩
theorem stepQ_sound {c : List Nat} {i : Nat} {rest : List Nat} {s s' : List V × Store} (h : StepQ P f ro n k df Q ops c i s s') (hn : AW P f ro n (.inRegion ops rest :: k) s'.1 s'.2 df Q) : AW P f ro n (.inRegion ops (i :: rest) :: k) s.1 s.2 df Q := by
  rcases h with ⟨o, v, hi, h1, h2, _⟩ | ⟨_, h⟩
  case inr => exact h rest hn
  have h3 : Eff P f ro n k df Q ops o i s.1 s.2 v s'.2 := by
    unfold EffC at h2
    split at h2
    · rw [h2.1]; exact h2.2 _
    · rw [h2.1]; exact h2.2
    · exact h2
  rw [h1] at hn
  rcases h3 with ⟨h4, rfl, h5⟩ | ⟨h4, h5⟩
  · rw [h5] at hn; exact .opSkip hi h4 hn
  · exact h5 rest s.1 rfl h4 hn
theorem run_sound {c : List Nat} : ∀ {L : List Nat} {s s' : List V × Store}, Run (StepQ P f ro n k df Q ops c) L s s' → AW P f ro n (.inRegion ops [] :: k) s'.1 s'.2 df Q → AW P f ro n (.inRegion ops L :: k) s.1 s.2 df Q
  | [], s, s', h, hn => by subst h; exact hn
  | i :: L, s, s', ⟨s1, h1, h2⟩, hn => stepQ_sound h1 (run_sound h2 hn)
theorem AW.order {id : Nat} {tm : List V} {σ : Store} (hm : P.follows .mixedOrders = true) (hE : edgesB ops = true) (h : ∀ L, Ord ops L → AW P f ro n (.inRegion ops L :: k) tm σ df Q) : AW P f ro n (.code (.region id ops true) :: k) tm σ df Q := by
  intro w I ρ a rb hr hb hn
  have hI : ∀ b, I b → I b ∧ w.drew.heap[b]? = w.heap[b]? := fun b hb => ⟨hb, rfl⟩
  have hS : ∀ l, l < σ.length → Same ρ σ ρ σ l := fun l hl => ⟨hl, fun o' h1 h2 => ⟨rfl, o', h1, h2, rfl⟩⟩
  have hr' : Rel w.drew I ρ σ tm df a := ⟨vrL_all hI hS hr.tms, ⟨fun l o ho => orel_all hI hS rfl (fun _ _ => rfl) (hr.ors.objs l o ho), hr.ors.inj, hr.ors.flt, hr.ors.imm⟩, hr.dfs⟩
  have hx := Ext.refl w I ρ σ
  have hX : Ext n w I ρ σ w.drew I ρ σ := ⟨Nat.le_refl _, rfl, rfl, rfl, fun _ _ _ => rfl, hx.immI, hx.immN, hx.footN, hn, fun l _ => hx.alive l (by omega), fun l o' hl => hx.fixed l o' (by omega), fun l o hl => hx.stay l o (by omega)⟩
  exact .step (fun cs => st_region_draw) ((h _ (ord_of hm hE _) w.drew I ρ a rb hr' hb hn).mono fun e w' hf => hf.trans hX)
end
end Go.Br
namespace Go.Br
open Go
theorem nilOf_empty {v : V} {b : Bool} (h : nilOf [] v = some b) (σ : Store) : nilOf σ v = some b := by
  unfold nilOf at *
  split at h <;> simp_all [liveB]
theorem nilV_empty {v u : V} (h : nilV [] v = some u) (σ : Store) : nilV σ v = some u := by
  unfold nilV at *
  split at h <;> simp_all [liveB]
theorem ptrBin_empty {P : Program} {op : BinOp} {t : TypeId} {x y v : V} (h : ptrBin P [] op t x y = some v) (σ : Store) : ptrBin P σ op t x y = some v := by
  unfold ptrBin at *
  split at h
  · rename_i hp
    simp only [hp, if_true]
    split at h
    · rename_i b h1 h2; rw [nilOf_empty h1 σ, nilOf_empty h2 σ]; exact h
    · rename_i h1 h2; rw [nilOf_empty h1 σ, nilOf_empty h2 σ]; exact h
    · cases h
  · cases h
theorem loadV_empty {P : Program} {t : TypeId} {v u : V} (h : loadV P [] t v = some u) (σ : Store) : loadV P σ t v = some u := by
  unfold loadV at *
  split at h <;> simp_all
theorem lenV_empty {v : V} {n : Nat} (h : lenV [] v = some n) (σ : Store) : lenV σ v = some n := by
  unfold lenV at *
  split at h <;> simp_all
theorem bltV_empty {P : Program} {b : Builtin} {ts : List TypeId} {vs : List V} {v : V} (h : bltV P [] b ts vs = some v) (σ : Store) : bltV P σ b ts vs = some v := by
  unfold bltV at *
  split at h
  · exact h
  · split at h
    · rename_i hs
      simp only [Option.map_eq_some_iff] at h
      obtain ⟨n, h1, h2⟩ := h
      simp only [hs, if_true, lenV_empty h1 σ, Option.map_some, h2]
    · cases h
  · exact h
  · exact h
  · cases h
theorem qop_empty {P : Program} {tm : List V} {o : Op} {v : V} (h : qop P tm [] o = some v) (σ : Store) : qop P tm σ o = some v := by
  unfold qop at *
  split at h <;> first | exact h | exact nilV_empty h σ | exact loadV_empty h σ | exact bltV_empty h σ | skip
  · split at h
    · exact h
    · exact ptrBin_empty h σ
  · split at h
    · rename_i hn; rw [nilOf_empty hn σ]; simpa using h
    · cases h
section
variable {P : Program} {f : FuncId} {ro : Option Nat} {n : Nat} {k : List Item} {df : List Nat} {Q : AE → Store → Prop} {ops : Array Oper}
theorem sem_mop {o : Oper} {i : Nat} {tm : List V} {σ σ' : Store} {v : V} (hi : ops[i]? = some o) (h : mop P tm σ o = some (v, σ')) : Sem P f ro n k df Q ops o i (valsOf tm o) σ v σ' := by
  intro rest tm' hv hw hn
  have h1 : mop P tm' σ o = some (v, σ') := by rw [mop_congr hv]; exact h
  obtain ⟨h2, h3⟩ := mop_ok h1
  exact .op hi hw h3 h2 hn
theorem EffC.up {c : Nat} {o : Oper} {i : Nat} {tm : List V} {σ : Store} {v : V} (h : ∀ s, Eff P f ro n k df Q ops o i tm s v s) : EffC P f ro n k df Q ops c o i tm σ v σ := by
  unfold EffC
  split
  · exact ⟨rfl, h⟩
  · exact ⟨rfl, h σ⟩
  · exact h σ
theorem mop_of_qop {P : Program} {tm : List V} {σ : Store} {o : Oper} {v : V} (h : qop P tm σ o.op = some v) : mop P tm σ o = some (v, σ) := by
  obtain ⟨dst, op, type, pos, after, guard⟩ := o
  unfold mop
  simp only [] at h ⊢
  split
  · simp [qop] at h
  · simp [qop] at h
  · simp [qop] at h
  · simp [qop] at h
  · simp [qop] at h
  · simp [h]
def srun (P : Program) (ops : Array Oper) (c : List Nat) : List Nat → List V → Store → Option (List V × Store)
  | [], tm, σ => some (tm, σ)
  | i :: L, tm, σ => match ops[i]? with
    | none => none
    | some o => match wantA ops o tm with
      | none => none
      | some false => if Nat.beq (c.getD i 2) 3 then none else srun P ops c L (put tm o.dst (.tuple [])) σ
      | some true => match c.getD i 2 with
        | 0 => match qop P tm [] o.op with
          | some v => srun P ops c L (put tm o.dst v) σ
          | none => none
        | 1 => match qop P tm σ o.op with
          | some v => srun P ops c L (put tm o.dst v) σ
          | none => none
        | 3 => none
        | _ => match mop P tm σ o with
          | some p => srun P ops c L (put tm o.dst p.1) p.2
          | none => none
theorem srun_ok {c : List Nat} : ∀ {L : List Nat} {tm tm' : List V} {σ σ' : Store}, srun P ops c L tm σ = some (tm', σ') → Run (StepQ P f ro n k df Q ops c) L (tm, σ) (tm', σ')
  | [], tm, tm', σ, σ', h => by simp only [srun, Option.some.injEq, Prod.mk.injEq] at h; obtain ⟨rfl, rfl⟩ := h; rfl
  | i :: L, tm, tm', σ, σ', h => by
    simp only [srun] at h
    split at h
    · cases h
    · rename_i o hi
      split at h
      · cases h
      · rename_i hw
        split at h
        · cases h
        · rename_i hc3
          exact ⟨(put tm o.dst (.tuple []), σ), .inl ⟨o, .tuple [], hi, rfl, EffC.up fun s => .inl ⟨hw, rfl, rfl⟩, by simpa using hc3⟩, srun_ok h⟩
      · rename_i hw
        split at h
        · rename_i hc
          split at h
          · rename_i v hq
            refine ⟨(put tm o.dst v, σ), .inl ⟨o, v, hi, rfl, EffC.up fun s => .inr ⟨hw, sem_mop hi (mop_of_qop (qop_empty hq s))⟩, by rw [hc]; simp⟩, srun_ok h⟩
          · cases h
        · rename_i hc
          split at h
          · rename_i v hq
            refine ⟨(put tm o.dst v, σ), .inl ⟨o, v, hi, rfl, ?_, by rw [hc]; simp⟩, srun_ok h⟩
            rw [hc]
            exact ⟨rfl, .inr ⟨hw, sem_mop hi (mop_of_qop hq)⟩⟩
          · cases h
        · cases h
        · rename_i hc0 hc1 hc3
          split at h
          · rename_i p hq
            refine ⟨(put tm o.dst p.1, p.2), .inl ⟨o, p.1, hi, rfl, ?_, hc3⟩, srun_ok h⟩
            unfold EffC
            have : Eff P f ro n k df Q ops o i tm σ p.1 p.2 := .inr ⟨hw, sem_mop hi hq⟩
            split
            · exact absurd (by assumption) hc0
            · exact absurd (by assumption) hc1
            · exact this
          · cases h
theorem Run.append {S : Type} {St : Nat → S → S → Prop} : ∀ {A B : List Nat} {s s1 s2 : S}, Run St A s s1 → Run St B s1 s2 → Run St (A ++ B) s s2
  | [], _, _, _, _, h, h' => by cases h; exact h'
  | _ :: _, _, _, _, _, ⟨a, h1, h2⟩, h' => ⟨a, h1, h2.append h'⟩
theorem Run.one {S : Type} {St : Nat → S → S → Prop} {i : Nat} {L : List Nat} {s s1 s2 : S} (h : St i s s1) (h' : Run St L s1 s2) : Run St (i :: L) s s2 := ⟨s1, h, h'⟩
theorem StepQ.pure {c : List Nat} {i : Nat} {o : Oper} {tm : List V} {σ : Store} {v : V} (hi : ops[i]? = some o) (hc3 : c.getD i 2 ≠ 3) (hw : wantA ops o tm = some true) (hd : Op.isDefer o.op = false)
    (h : ∀ s tm', valsOf tm' o = valsOf tm o → OpOk P o tm' s v tm' s) : StepQ P f ro n k df Q ops c i (tm, σ) (put tm o.dst v, σ) :=
  .inl ⟨o, v, hi, rfl, EffC.up fun s => .inr ⟨hw, fun _ tm' hv hw' hn => .op hi hw' hd (h s tm' hv) hn⟩, hc3⟩
theorem StepQ.any {c : List Nat} {i : Nat} {o : Oper} {tm : List V} {σ σ' : Store} {v : V} (hi : ops[i]? = some o) (hc : c.getD i 2 = 2) (hw : wantA ops o tm = some true) (hd : Op.isDefer o.op = false)
    (h : ∀ tm', valsOf tm' o = valsOf tm o → OpOk P o tm' σ v tm' σ') : StepQ P f ro n k df Q ops c i (tm, σ) (put tm o.dst v, σ') :=
  .inl ⟨o, v, hi, rfl, by rw [hc]; exact .inr ⟨hw, fun _ tm' hv hw' hn => .op hi hw' hd (h tm' hv) hn⟩, by rw [hc]; simp⟩
theorem StepQ.sem {c : List Nat} {i : Nat} {o : Oper} {tm : List V} {σ : Store} {v : V} (hi : ops[i]? = some o) (hc3 : c.getD i 2 ≠ 3) (hw : wantA ops o tm = some true)
    (h : ∀ s, Sem P f ro n k df Q ops o i (valsOf tm o) s v s) : StepQ P f ro n k df Q ops c i (tm, σ) (put tm o.dst v, σ) :=
  .inl ⟨o, v, hi, rfl, EffC.up fun s => .inr ⟨hw, h s⟩, hc3⟩
theorem StepQ.all {c : List Nat} {i : Nat} {s s' : List V × Store} (hc : c.getD i 2 = 3) (h : ∀ rest, AW P f ro n (.inRegion ops rest :: k) s'.1 s'.2 df Q → AW P f ro n (.inRegion ops (i :: rest) :: k) s.1 s.2 df Q) : StepQ P f ro n k df Q ops c i s s' := .inr ⟨hc, h⟩
end
def preds (ops : Array Oper) (X : List (Nat × Nat)) (j : Nat) : List Nat :=
  (match ops[j]? with | some o => o.after.toList.filterMap fun e => if Region.binds .any e then some e.on else none | none => []) ++ X.filterMap fun p => if p.2 = j then some p.1 else none
def clos (ops : Array Oper) (X : List (Nat × Nat)) : List Nat → List Nat → List Nat
  | [], B => B
  | j :: L, B => clos ops X L (B.set j ((preds ops X j).foldl (fun m p => m ||| (2 ^ p ||| B.getD p 0)) 0))
theorem preds_ok {ops : Array Oper} {X : List (Nat × Nat)} {L : List Nat} (hL : Ord ops L) (hX : ∀ p ∈ X, ahead L p.1 p.2) {j p : Nat} (hj : j ∈ L) (hp : p ∈ preds ops X j) : ahead L p j := by
  unfold preds at hp
  rcases List.mem_append.1 hp with h | h
  · cases ho : ops[j]? with
    | none => simp [ho] at h
    | some o =>
      simp only [ho, List.mem_filterMap] at h
      obtain ⟨e, he, h2⟩ := h
      split at h2
      · rename_i hb; cases h2; exact hL.edge j hj o ho e (by simpa using he) hb
      · cases h2
  · simp only [List.mem_filterMap] at h
    obtain ⟨q, hq, h2⟩ := h
    split at h2
    · rename_i hb; cases h2; subst hb; exact hX q hq
    · cases h2
theorem fold_ok {L : List Nat} {B : List Nat} (hB : ∀ j i, (B.getD j 0).testBit i = true → ahead L i j) {j : Nat} : ∀ (ps : List Nat) (m : Nat), (∀ p ∈ ps, ahead L p j) → (∀ i, m.testBit i = true → ahead L i j) →
    ∀ i, (ps.foldl (fun m p => m ||| (2 ^ p ||| B.getD p 0)) m).testBit i = true → ahead L i j
  | [], m, _, hm, i, h => hm i h
  | p :: ps, m, hp, hm, i, h => by
    refine fold_ok hB ps _ (fun q hq => hp q (by simp [hq])) (fun x hx => ?_) i h
    simp only [Nat.testBit_or, Bool.or_eq_true, Nat.testBit_two_pow, decide_eq_true_eq] at hx
    rcases hx with hx | hx | hx
    · exact hm x hx
    · subst hx; exact hp _ (by simp)
    · exact Nat.lt_trans (hB p x hx) (hp p (by simp))
theorem clos_ok {ops : Array Oper} {X : List (Nat × Nat)} {L : List Nat} (hL : Ord ops L) (hX : ∀ p ∈ X, ahead L p.1 p.2) : ∀ (M : List Nat) (B : List Nat), (∀ j ∈ M, j ∈ L) → (∀ j i, (B.getD j 0).testBit i = true → ahead L i j) →
    ∀ j i, ((clos ops X M B).getD j 0).testBit i = true → ahead L i j
  | [], B, _, hB => hB
  | x :: M, B, hM, hB => by
    refine clos_ok hL hX M _ (fun j hj => hM j (by simp [hj])) fun j i h => ?_
    by_cases hjx : j = x
    · subst hjx
      by_cases hlt : j < B.length
      · rw [List.getD_eq_getElem?_getD, List.getElem?_set_self hlt, Option.getD_some] at h
        exact fold_ok hB _ 0 (fun p hp => preds_ok hL hX (hM j (by simp)) hp) (fun i h => by simp at h) i h
      · rw [List.set_eq_of_length_le (by omega)] at h
        exact hB j i h
    · rw [List.getD_eq_getElem?_getD, List.getElem?_set_ne (Ne.symm hjx), ← List.getD_eq_getElem?_getD] at h
      exact hB j i h
def pairsAll (p : Nat → Nat → Bool) : List Nat → Bool
  | [] => true
  | a :: L => (L.all (p a)) && pairsAll p L
theorem pairsAll_ok {p : Nat → Nat → Bool} : ∀ {L : List Nat}, pairsAll p L = true → ∀ a b, a ∈ L → b ∈ L → ahead L a b → p a b = true
  | [], _, _, _, ha, _, _ => by cases ha
  | x :: L, h, a, b, ha, hb, hab => by
    simp only [pairsAll, Bool.and_eq_true] at h
    have hbx : b ≠ x := by
      intro e; subst e
      unfold ahead at hab
      simp at hab
    have hb' : b ∈ L := by rcases List.mem_cons.1 hb with e | e; exact absurd e hbx; exact e
    by_cases hax : a = x
    · subst hax; exact List.all_eq_true.1 h.1 b hb'
    · have ha' : a ∈ L := by rcases List.mem_cons.1 ha with e | e; exact absurd e hax; exact e
      refine pairsAll_ok h.2 a b ha' hb' ?_
      unfold ahead at hab ⊢
      rw [idx_ne hax, idx_ne hbx] at hab
      omega
def orderB (ops : Array Oper) (c : List Nat) (X : List (Nat × Nat)) (M : List Nat) : Bool :=
  nodupB M && (M.all fun i => Nat.blt i ops.size) && ((List.range ops.size).all fun i => M.contains i) &&
  (let B := clos ops X M (List.replicate ops.size 0); pairsAll (fun a b => !(depB ops c a b) || (B.getD b 0).testBit a) M)
theorem ahead_or {ops : Array Oper} {L : List Nat} (hL : Ord ops L) (i j : Nat) (hi : i < ops.size) (hj : j < ops.size) (hne : i ≠ j) : ahead L i j ∨ ahead L j i := by
  unfold ahead
  have h1 := (hL.mem i).2 hi
  have h2 := (hL.mem j).2 hj
  have h3 : L.idxOf i ≠ L.idxOf j := by
    intro e
    apply hne
    have e1 := List.getElem_idxOf (List.idxOf_lt_length_iff.2 h1)
    have e2 := List.getElem_idxOf (List.idxOf_lt_length_iff.2 h2)
    rw [← e1, ← e2]
    simp only [e]
  omega
section
variable {P : Program} {f : FuncId} {ro : Option Nat} {n : Nat} {k : List Item} {df : List Nat} {Q : AE → Store → Prop} {ops : Array Oper} {tm : List V} {σ : Store}
theorem AW.among {L : List Nat} (hL : Ord ops L) (c : List Nat) (X : List (Nat × Nat)) (M : List Nat) (hX : ∀ p ∈ X, ahead L p.1 p.2) (hok : orderB ops c X M = true) {s' : List V × Store}
    (hrun : Run (StepQ P f ro n k df Q ops c) M (tm, σ) s') (hn : AW P f ro n (.inRegion ops [] :: k) s'.1 s'.2 df Q) : AW P f ro n (.inRegion ops L :: k) tm σ df Q := by
  unfold orderB at hok
  simp only [Bool.and_eq_true] at hok
  obtain ⟨⟨⟨h1, h2⟩, h3⟩, h4⟩ := hok
  have hM : Ord ops M → True := fun _ => trivial
  have hmem : ∀ i, i ∈ M ↔ i < ops.size := fun i => ⟨fun h => by simpa using List.all_eq_true.1 h2 i h, fun h => by simpa using List.all_eq_true.1 h3 i (List.mem_range.2 h)⟩
  have hmm : ∀ i, i ∈ L ↔ i ∈ M := fun i => (hL.mem i).trans (hmem i).symm
  refine run_sound (Run.turn (dep := depB ops c) (depB_symm ops c) (fun i j hd s a b => stepQ_swap i j hd s a b) M L hL.nodup (nodupB_ok h1) hmm (fun i j hi hj hdep hij => ?_) hrun) hn
  by_cases hlt : ahead M i j
  · exact hlt
  · exfalso
    have hne : i ≠ j := fun e => by subst e; exact Nat.lt_irrefl _ hij
    have h5 : ahead M j i := by
      unfold ahead at hlt ⊢
      have h3 : M.idxOf i ≠ M.idxOf j := by
        intro e
        apply hne
        have e1 := List.getElem_idxOf (List.idxOf_lt_length_iff.2 ((hmm i).1 hi))
        have e2 := List.getElem_idxOf (List.idxOf_lt_length_iff.2 ((hmm j).1 hj))
        rw [← e1, ← e2]
        simp only [e]
      omega
    have h6 := pairsAll_ok h4 j i ((hmm j).1 hj) ((hmm i).1 hi) h5
    rw [depB_symm, hdep] at h6
    simp only [Bool.not_true, Bool.false_or] at h6
    have h7 := clos_ok hL hX M (List.replicate ops.size 0) (fun j hj => (hmm j).2 hj) (fun j i h => by
      rw [List.getD_eq_getElem?_getD, List.getElem?_replicate] at h
      split at h <;> simp at h) i j h6
    exact Nat.lt_asymm hij h7
theorem AW.drawn {id : Nat} (c : List Nat) (M : List Nat) (hm : P.follows .mixedOrders = true) (hok : (edgesB ops && orderB ops c [] M) = true) {s' : List V × Store}
    (hrun : Run (StepQ P f ro n k df Q ops c) M (tm, σ) s') (hn : AW P f ro n k s'.1 s'.2 df Q) : AW P f ro n (.code (.region id ops true) :: k) tm σ df Q := by
  simp only [Bool.and_eq_true] at hok
  exact .order hm hok.1 fun L hL => .among hL c [] M (fun p hp => by cases hp) hok.2 hrun (.regionEnd hn)
end
end Go.Br
namespace Go.Br
open Go
mutual
def D.scal : D → Bool
  | .list _ [] => true
  | .list _ _ => false
  | .agg cs => D.scalL cs
  | _ => true
def D.scalL : List D → Bool
  | [] => true
  | d :: ds => d.scal && D.scalL ds
end
mutual
def V.scal : V → Bool
  | V.d x => x.scal
  | .ex _ [] => true
  | .ex _ _ => false
  | .ep _ _ _ => false
  | .fn _ a b => V.scalL a && V.scalL b
  | .tuple vs => V.scalL vs
  | .agg vs => V.scalL vs
  | _ => true
def V.scalL : List V → Bool
  | [] => true
  | v :: vs => v.scal && V.scalL vs
end
def O.scal : O → Bool
  | .cells cs => V.scalL cs
  | .row _ xs _ => D.scalL xs
  | .map es => es.all fun e => e.2.scal
  | .loop _ _ _ tm _ _ _ => V.scalL tm
  | _ => true
section
variable {w : World} {I I' : Nat → Prop} {ρ : LM} {σ : Store}
mutual
theorem Dr_scal : ∀ (d : D) (x : Value), d.scal = true → Dr w I d x → Dr w I' d x
  | .int _ _, x, _, h => by simpa [Dr] using h
  | .bool _, x, _, h => by simpa [Dr] using h
  | .str _, x, _, h => by simpa [Dr] using h
  | .raw _, x, _, h => by simpa [Dr] using h
  | .list _ [], x, _, h => by simpa [Dr] using h
  | .list _ (_ :: _), x, hs, _ => by simp [D.scal] at hs
  | .agg cs, x, hs, h => by
    simp only [Dr, D.scal] at *
    obtain ⟨vs, h1, h2⟩ := h
    exact ⟨vs, h1, DrL_scal cs vs hs h2⟩
theorem DrL_scal : ∀ (ds : List D) (xs : List Value), D.scalL ds = true → DrL w I ds xs → DrL w I' ds xs
  | [], xs, _, h => by simpa [DrL] using h
  | d :: ds, xs, hs, h => by
    simp only [DrL, D.scalL, Bool.and_eq_true] at *
    obtain ⟨v, vs', h1, h2, h3, h4⟩ := h
    exact ⟨v, vs', h1, h2, Dr_scal d v hs.1 h3, DrL_scal ds vs' hs.2 h4⟩
end
theorem DrE_scal {sz b : Nat} : ∀ {o : Nat} {ds : List D}, D.scalL ds = true → DrE w I sz b o ds → DrE w I' sz b o ds
  | _, [], _, _ => by simp [DrE]
  | o, d :: ds, hs, h => by
    simp only [DrE, D.scalL, Bool.and_eq_true] at *
    obtain ⟨⟨v, h1, h2⟩, h3⟩ := h
    exact ⟨⟨v, Dr_scal d v hs.1 h1, h2⟩, DrE_scal hs.2 h3⟩
mutual
theorem vr_scal : ∀ (v : V) (x : Value), v.scal = true → vr w I ρ σ v x → vr w I' ρ σ v x
  | .d d, x, hs, h => by simp only [vr, V.scal] at *; exact Dr_scal d x hs h
  | .undef, x, _, h => by simp [vr]
  | .nils, x, _, h => by simpa [vr] using h
  | .ex _ [], x, _, h => by simpa [vr, Dr] using h
  | .ex _ (_ :: _), x, hs, _ => by simp [V.scal] at hs
  | .ep _ _ _, x, hs, _ => by simp [V.scal] at hs
  | .ptr _ _ _, x, _, h => by simpa [vr] using h
  | .row _, x, _, h => by simpa [vr] using h
  | .sl _ _ _ _, x, _, h => by simpa [vr] using h
  | .yield _, x, _, h => by simpa [vr] using h
  | .map _, x, _, h => by simpa [vr] using h
  | .fn f a b, x, hs, h => by
    simp only [vr, V.scal, Bool.and_eq_true] at *
    obtain ⟨fs, cs, h1, h2, h3⟩ := h
    exact ⟨fs, cs, h1, vrL_scal a fs hs.1 h2, vrL_scal b cs hs.2 h3⟩
  | .tuple vs, x, hs, h => by
    simp only [vr, V.scal] at *
    obtain ⟨xs, h1, h2⟩ := h
    exact ⟨xs, h1, vrL_scal vs xs hs h2⟩
  | .agg vs, x, hs, h => by
    simp only [vr, V.scal] at *
    obtain ⟨xs, h1, h2, h3⟩ := h
    exact ⟨xs, h1, vrL_scal vs xs hs h2, h3⟩
theorem vrL_scal : ∀ (vs : List V) (xs : List Value), V.scalL vs = true → vrL w I ρ σ vs xs → vrL w I' ρ σ vs xs
  | [], xs, _, h => by simpa [vrL] using h
  | v :: vs, xs, hs, h => by
    simp only [vrL, V.scalL, Bool.and_eq_true] at *
    obtain ⟨x, xs', h1, h2, h3⟩ := h
    exact ⟨x, xs', h1, vr_scal v x hs.1 h2, vrL_scal vs xs' hs.2 h3⟩
end
theorem orel_scal {l : Nat} {o : O} (hs : o.scal = true) (h : orel w I ρ σ l o) : orel w I' ρ σ l o := by
  cases o with
  | dead => simp [orel]
  | defd => simpa [orel] using h
  | cells cs =>
    simp only [orel] at *
    obtain ⟨L, C, T, fz, h1, h2, h3, h4, h5, h6⟩ := h
    exact ⟨L, C, T, fz, h1, h2, h3, h4, vrL_scal _ _ hs h5, h6⟩
  | row sz xs mv =>
    simp only [orel] at *
    rcases h with h | ⟨L, C, T, fz, h1, h2, h3, h4, h5, h6, h7, h8⟩
    · exact .inl h
    · exact .inr ⟨L, C, T, fz, h1, h2, h3, h4, h5, h6, h7, DrE_scal hs h8⟩
  | map es =>
    simp only [orel] at *
    obtain ⟨L, E, n, h1, h2, h3, h4, h5, h6⟩ := h
    refine ⟨L, E, n, h1, h2, h3, h4, fun j e hj => ?_, h6⟩
    obtain ⟨k1, x, k2, k3, k4⟩ := h5 j e hj
    exact ⟨k1, x, k2, k3, Dr_scal _ _ (List.all_eq_true.1 hs x (List.mem_of_getElem? k2)) k4⟩
  | loop st pend fn tm params assign body =>
    simp only [orel] at *
    obtain ⟨L, tmps, db, h1, h2, h3⟩ := h
    exact ⟨L, tmps, db, h1, h2, vrL_scal _ _ hs h3⟩
end
def viewV (σ : Store) : V → Option D
  | .d d => some d
  | .ex sz xs => some (.list sz xs)
  | .row l => match σ[l]? with | some (.row sz xs _) => some (.list sz xs) | _ => none
  | .sl l off n _ => match σ[l]? with | some (.row sz xs _) => some (.list sz ((xs.take (off + n)).drop off)) | _ => none
  | _ => none
def viewL (σ : Store) : List V → Option (List V)
  | [] => some []
  | v :: vs => match viewV σ v with
    | some d => (viewL σ vs).map (.d d :: ·)
    | none => none
section
variable {w : World} {I : Nat → Prop} {ρ : LM} {σ : Store}
def lent (I : Nat → Prop) (ρ : LM) (σ : Store) (b : Nat) : Prop := I b ∨ foot ρ σ b
theorem view_ok {A : V} {d : D} {x : Value} (hO : ORel w I ρ σ) (h : viewV σ A = some d) (hv : vr w I ρ σ A x) : Dr w (lent I ρ σ) d x := by
  have hI : ∀ b, I b → lent I ρ σ b ∧ w.heap[b]? = w.heap[b]? := fun b hb => ⟨.inl hb, rfl⟩
  unfold viewV at h
  split at h
  · cases h; simp only [vr] at hv; exact Dr_mono hI _ _ hv
  · cases h; simp only [vr] at hv; obtain ⟨a, _, hv⟩ := hv; exact Dr_mono hI _ _ hv
  · rename_i l
    split at h
    · rename_i sz xs mv hl
      cases h
      simp only [vr] at hv
      have h3 := hv.2.2 sz xs mv hl
      simp only [Dr]
      rcases h3 with ⟨h4, a, rfl⟩ | ⟨L, hL, h5, rfl⟩
      · refine ⟨a, 0, by rw [h4], by omega, by simp [maxLen], .inl (List.eq_nil_of_length_eq_zero h4)⟩
      · have ho := hO.objs l _ hl
        simp only [orel] at ho
        rcases ho with ⟨h6, h7⟩ | ⟨L', C, T, fz, h1, h2, h3, h4, h6, h7, h8, h9⟩
        · rw [hL] at h6; cases h6
        · rw [hL] at h1; cases h1
          refine ⟨_, L.cap - 0, rfl, by omega, by omega, .inr ⟨L.b, L.o + 0 * L.sz, rfl, .inr ⟨l, _, L, hl, by simp, hL, rfl⟩, ?_⟩⟩
          have : L.o + 0 * L.sz = L.o := by omega
          rw [this]
          exact DrE_mono hI sz L.b rfl _ _ h9
    · cases h
  · rename_i l off len _
    split at h
    · rename_i sz xs mv hl
      cases h
      simp only [vr] at hv
      obtain ⟨h0, h3, _⟩ := hv.2.2 sz xs mv hl
      have hlen : ((xs.take (off + len)).drop off).length = len := by simp; omega
      simp only [Dr]
      rw [hlen]
      rcases h3 with ⟨h4, a, rfl⟩ | ⟨L, hL, h5, rfl⟩
      · refine ⟨a, 0, by rw [h4], by omega, by simp [maxLen], .inl (List.eq_nil_of_length_eq_zero (by rw [hlen]; exact h4))⟩
      · have ho := hO.objs l _ hl
        simp only [orel] at ho
        rcases ho with ⟨h6, h7⟩ | ⟨L', C, T, fz, h1, h2, h3, h4, h6, h7, h8, h9⟩
        · rw [hL] at h6; cases h6
        · rw [hL] at h1; cases h1
          refine ⟨_, L.cap - off, rfl, by omega, by omega, .inr ⟨L.b, L.o + off * L.sz, rfl, .inr ⟨l, _, L, hl, by simp, hL, rfl⟩, ?_⟩⟩
          rw [h2]
          exact DrE_mono hI sz L.b rfl _ _ (DrE_piece h9)
    · cases h
  · cases h
theorem viewL_ok (hO : ORel w I ρ σ) : ∀ {vs ds : List V} {xs : List Value}, viewL σ vs = some ds → vrL w I ρ σ vs xs → vrL w (lent I ρ σ) ρ [] ds xs
  | [], ds, xs, h, hv => by simp only [viewL, Option.some.injEq] at h; subst h; simpa [vrL] using hv
  | v :: vs, ds, xs, h, hv => by
    simp only [viewL] at h
    split at h
    · rename_i d hd
      simp only [Option.map_eq_some_iff] at h
      obtain ⟨es, h1, rfl⟩ := h
      simp only [vrL] at hv ⊢
      obtain ⟨x, xs', h2, h3, h4⟩ := hv
      exact ⟨x, xs', h2, by simp only [vr]; exact view_ok hO hd h3, viewL_ok hO h1 h4⟩
    · cases h
theorem lent_orel (hO : ORel w I ρ σ) : ORel w (lent I ρ σ) ρ [] where
  objs l o h := by simp at h
  inj l l' L L' h := by obtain ⟨o, h, _⟩ := h; simp at h
  flt b h := by obtain ⟨l, o, L, h, _⟩ := h; simp at h
  imm b h := ⟨h.elim (fun h => (hO.imm b h).1) (hO.flt b), fun h => by obtain ⟨l, o, L, h, _⟩ := h; simp at h⟩
end
theorem lend {w w' : World} {I : Nat → Prop} {ρ : LM} {σ : Store} {Q0 : AE → Store → Prop} {e : Ending} (hO : ORel w I ρ σ) (hs : ∀ r σ0, Q0 r σ0 → (∃ v, r = .ret v ∧ v.scal = true) ∧ (σ0.all O.scal && belB σ0.length σ0) = true)
    (h : Fin 0 w (lent I ρ σ) ρ [] Q0 e w') : ∃ v σ0 ρ2 x, Q0 (.ret v) σ0 ∧ e = .returned x ∧ vr w' I ρ2 (σ ++ σ0.map (·.ren (σ.length + ·))) (v.ren (σ.length + ·)) x ∧ ORel w' I ρ2 (σ ++ σ0.map (·.ren (σ.length + ·))) ∧
      Ext σ.length w I ρ σ w' I ρ2 (σ ++ σ0.map (·.ren (σ.length + ·))) ∧ (∀ l, l < σ.length → Same ρ σ ρ2 (σ ++ σ0.map (·.ren (σ.length + ·))) l) ∧ ∀ b, I b → I b ∧ w'.heap[b]? = w.heap[b]? := by
  obtain ⟨I', ρ', σ0, r, hq, hr, hO', hE⟩ := h
  obtain ⟨⟨v, rfl, hsv⟩, hso⟩ := hs r σ0 hq
  simp only [Bool.and_eq_true] at hso
  have hbel := fun (i : Nat) (o : O) (hi : σ0[i]? = some o) => belB_ok hso.2 hi
  obtain ⟨x, hxe, hxv⟩ := hr
  have nof : ∀ b, ¬ foot ρ [] b := fun b ⟨l, o, L, h, _⟩ => by simp at h
  have hold : ∀ b, b < w.heap.size → w'.heap[b]? = w.heap[b]? := fun b hb => hE.old b hb (nof b)
  have hnew : ∀ b, foot ρ' σ0 b → w.heap.size ≤ b := fun b hb => (hE.footN b hb).elim (fun h => absurd h (nof b)) id
  -- the new store
  let ρ2 : LM := fun l => if l < σ.length then ρ l else ρ' (l - σ.length)
  let σ2 : Store := σ ++ σ0.map (·.ren (σ.length + ·))
  have g1 : ∀ l, l < σ.length → σ2[l]? = σ[l]? := fun l hl => List.getElem?_append_left hl
  have g2 : ∀ l, ρ2 (σ.length + l) = ρ' l := fun l => by
    show (if σ.length + l < σ.length then _ else _) = _
    rw [if_neg (by omega)]
    congr 1; omega
  have g3 : ∀ l, l < σ.length → ρ2 l = ρ l := fun l hl => by simp [ρ2, hl]
  have g4 : ∀ l, σ2[σ.length + l]? = (σ0[l]?).map (·.ren (σ.length + ·)) := fun l => by
    show (σ ++ _)[σ.length + l]? = _
    rw [List.getElem?_append_right (by omega)]
    simp
  have hlen : σ.length ≤ σ2.length := by simp [σ2]
  have hS : ∀ l, l < σ.length → Same ρ σ ρ2 σ2 l := fun l hl => ⟨by omega, fun o' h1 h2 => ⟨g3 l hl, o', by rw [← g1 l hl]; exact h1, h2, rfl⟩⟩
  have hI : ∀ b, I b → I b ∧ w'.heap[b]? = w.heap[b]? := fun b hb => ⟨hb, hold b (hO.imm b hb).1⟩
  have hEm : Emb (σ.length + ·) ρ' σ0 ρ2 σ2 := fun i oc hi => ⟨g2 i, oc.ren (σ.length + ·), by rw [g4, hi]; rfl, O.ren_dead, O.ren_alike oc⟩
  have split : ∀ l, l < σ.length ∨ ∃ i, l = σ.length + i := fun l => by
    by_cases h : l < σ.length
    · exact .inl h
    · exact .inr ⟨l - σ.length, by omega⟩
  have hfoot : ∀ b, foot ρ2 σ2 b → foot ρ σ b ∨ foot ρ' σ0 b := by
    rintro b ⟨l, o, L, h1, h2, h3, h4⟩
    rcases split l with hl | ⟨i, rfl⟩
    · exact .inl ⟨l, o, L, by rw [← g1 l hl]; exact h1, h2, by rw [← g3 l hl]; exact h3, h4⟩
    · rw [g4] at h1
      simp only [Option.map_eq_some_iff] at h1
      obtain ⟨oc, h5, rfl⟩ := h1
      exact .inr ⟨i, oc, L, h5, fun e => h2 (O.ren_dead.2 e), by rw [← g2 i]; exact h3, h4⟩
  have hO2 : ORel w' I ρ2 σ2 := by
    refine ⟨fun l o hl => ?_, fun l l' L L' hv hv' hL hL' hb => ?_, fun b hb => ?_, fun b hb => ?_⟩
    · rcases split l with hlt | ⟨i, rfl⟩
      · have hl' : σ[l]? = some o := by rw [← g1 l hlt]; exact hl
        by_cases hd : o = .dead
        · subst hd; simp [orel]
        · exact orel_all hI hS (g3 l hlt) (fun L hL => hold _ (hO.flt _ ⟨l, o, L, hl', hd, hL, rfl⟩)) (hO.objs l o hl')
      · rw [g4] at hl
        simp only [Option.map_eq_some_iff] at hl
        obtain ⟨oc, h5, rfl⟩ := hl
        have h6 := orel_scal (I' := I) (List.all_eq_true.1 hso.1 oc (List.mem_of_getElem? h5)) (hO'.objs i oc h5)
        exact (orel_ren hEm (g2 i) (hbel i oc h5)).2 h6
    · have blk : ∀ l L, live σ2 l → ρ2 l = some L → (l < σ.length ∧ live σ l ∧ ρ l = some L ∧ L.b < w.heap.size) ∨ ∃ i, l = σ.length + i ∧ live σ0 i ∧ ρ' i = some L ∧ w.heap.size ≤ L.b := by
        rintro l L ⟨o, h1, h2⟩ hL
        rcases split l with hlt | ⟨i, rfl⟩
        · have h1' : σ[l]? = some o := by rw [← g1 l hlt]; exact h1
          have hL' : ρ l = some L := by rw [← g3 l hlt]; exact hL
          exact .inl ⟨hlt, ⟨o, h1', h2⟩, hL', hO.flt _ ⟨l, o, L, h1', h2, hL', rfl⟩⟩
        · rw [g4] at h1
          simp only [Option.map_eq_some_iff] at h1
          obtain ⟨oc, h5, rfl⟩ := h1
          have hd : oc ≠ .dead := fun e => h2 (O.ren_dead.2 e)
          have hL' : ρ' i = some L := by rw [← g2 i]; exact hL
          exact .inr ⟨i, rfl, ⟨oc, h5, hd⟩, hL', hnew _ ⟨i, oc, L, h5, hd, hL', rfl⟩⟩
      rcases blk l L hv hL with ⟨k1, k2, k3, k4⟩ | ⟨i, rfl, k2, k3, k4⟩ <;> rcases blk l' L' hv' hL' with ⟨m1, m2, m3, m4⟩ | ⟨i', rfl, m2, m3, m4⟩
      · exact hO.inj l l' L L' k2 m2 k3 m3 hb
      · omega
      · omega
      · rw [hO'.inj i i' L L' k2 m2 k3 m3 hb]
    · rcases hfoot b hb with h | h
      · exact Nat.lt_of_lt_of_le (hO.flt b h) hE.size
      · exact hO'.flt b h
    · refine ⟨Nat.lt_of_lt_of_le (hO.imm b hb).1 hE.size, fun h => ?_⟩
      rcases hfoot b h with h | h
      · exact (hO.imm b hb).2 h
      · have := hnew b h; have := (hO.imm b hb).1; omega
  have hvx : vr w' I ρ2 σ2 (v.ren (σ.length + ·)) x := (vr_ren hEm v x (vr_locs v x hxv)).2 (vr_scal v x hsv hxv)
  refine ⟨v, σ0, ρ2, x, hq, hxe, hvx, hO2, ⟨hE.size, hE.os, hE.tape, hE.output, fun b hb _ => hold b hb, fun b hb => hb, fun b hb => .inl hb, fun b hb => ?_, hlen, fun l hl ⟨o, h1, h2⟩ => ?_, fun l o' hl h1 h2 => ?_, fun l o hl h1 h2 => ?_⟩, hS, hI⟩
  · rcases hfoot b hb with h | h
    · exact .inl h
    · exact .inr (hnew b h)
  · exact ⟨o, by rw [← g1 l hl]; exact h1, h2⟩
  · exact ⟨g3 l hl, o', by rw [← g1 l hl]; exact h1, h2, rfl⟩
  · exact ⟨o, by rw [g1 l hl]; exact h1, rfl⟩
section
variable {P : Program} {f : FuncId} {ro : Option Nat} {n : Nat} {k : List Item} {df : List Nat} {Q : AE → Store → Prop} {ops : Array Oper} {tm : List V} {σ : Store}
theorem vals_call {o : Oper} {x : Operand} {args : Array Operand} {ts : Array TypeId} {tm tm' : List V} (ho : o.op = .call { callee := .value x, args, argTypes := ts }) (h : valsOf tm' o = valsOf tm o) :
    ev tm' x = ev tm x ∧ args.toList.map (ev tm') = args.toList.map (ev tm) := by
  unfold valsOf at h
  rw [ho] at h
  simp only [Op.operands, Call.operands, Array.toList_append, List.map_append, List.map_cons, List.map_nil] at h
  simpa using h
theorem sem_look {i : Nat} {o : Oper} {x : Operand} {args : Array Operand} {ts : Array TypeId} {g : FuncId} {fn : Func} {c : Code} {first cap ds : List V} {v : V} {σ0 : Store}
    (hF : Fnc P g fn c) (hc : CallsA P g ds [] fun r σ' => r = .ret v ∧ σ' = σ0) (hi : ops[i]? = some o) (ho : o.op = .call { callee := .value x, args, argTypes := ts }) (hx : ev tm x = .fn (.func g) first cap)
    (hargs : viewL σ (coArgs P fn.params.toList (first ++ args.toList.map (ev tm) ++ cap)) = some ds) (hs : (v.scal && (σ0.all O.scal && belB σ0.length σ0)) = true) :
    Sem P f ro n k df Q ops o i (valsOf tm o) σ (v.ren (σ.length + ·)) (σ ++ σ0.map (·.ren (σ.length + ·))) := by
  intro rest tm' hv hw hk w I ρ a rb hr hb hn
  obtain ⟨e1, e2⟩ := vals_call ho hv
  rw [← e1] at hx
  rw [← e2] at hargs
  simp only [Bool.and_eq_true] at hs
  have hxv := vr_ev hr.tms x
  rw [hx] at hxv
  simp only [vr] at hxv
  obtain ⟨fs, cs, hxe, hfs, hcs⟩ := hxv
  have hev : vrL w I ρ σ (first ++ args.toList.map (ev tm') ++ cap) (fs ++ args.toList.map a.eval ++ cs) := vrL_append (vrL_append hfs (ev_rel (fun y => vr_ev hr.tms y) _)) hcs
  have hcalls := hc w (lent I ρ σ) ρ _ (viewL_ok hr.ors hargs (coArgs_rel hev)) (lent_orel hr.ors)
  refine RunsTo.call hi (wantA_ok hw hr.tms) (by simp [ho, Op.isDefer]) (exec_call ho hxe hF w) (S := fun y w'' => ∃ ρ2, vr w'' I ρ2 (σ ++ σ0.map (·.ren (σ.length + ·))) (v.ren (σ.length + ·)) y ∧ ORel w'' I ρ2 (σ ++ σ0.map (·.ren (σ.length + ·))) ∧
      Ext σ.length w I ρ σ w'' I ρ2 (σ ++ σ0.map (·.ren (σ.length + ·))) ∧ (∀ l, l < σ.length → Same ρ σ ρ2 (σ ++ σ0.map (·.ren (σ.length + ·))) l) ∧ ∀ b, I b → I b ∧ w''.heap[b]? = w.heap[b]?) (hcalls.mono ?_) ?_
  · intro e w'' hf
    obtain ⟨v', σ0', ρ2, y, ⟨h1, h1'⟩, h2, h3, h4, h5, h6, h7⟩ := lend hr.ors (fun r s hrs => ⟨⟨v, hrs.1, hs.1⟩, by rw [hrs.2]; simp only [Bool.and_eq_true]; exact hs.2⟩) hf
    cases h1
    subst h1'
    exact ⟨y, h2, ρ2, h3, h4, h5, h6, h7⟩
  · rintro y w'' ⟨ρ2, h3, h4, h5, h6, h7⟩
    have hst := h5.stays
    have := hk w'' I ρ2 (a.put o.dst y) rb ⟨vrL_put (vrL_all h7 h6 hr.tms) o.dst h3, h4, by rw [put_defers]; exact dfr_stay hst hr.dfs⟩ (rbOf_stay hst hb) (Nat.le_trans hn h5.len)
    exact this.mono fun e w3 hfin => hfin.trans (h5.less hn)
mutual
theorem V.kill_id {p : Nat → Bool} (hp : ∀ l, p l = false) : ∀ v : V, v.kill p = v
  | .d _ => rfl
  | .undef => rfl
  | .nils => rfl
  | .ex _ _ => rfl
  | .ep _ _ _ => rfl
  | .ptr l _ _ => by simp [V.kill, hp]
  | .row l => by simp [V.kill, hp]
  | .sl l _ _ _ => by simp [V.kill, hp]
  | .yield l => by simp [V.kill, hp]
  | .map l => by simp [V.kill, hp]
  | .fn f a b => by simp [V.kill, V.killL_id hp a, V.killL_id hp b]
  | .tuple vs => by simp [V.kill, V.killL_id hp vs]
  | .agg vs => by simp [V.kill, V.killL_id hp vs]
theorem V.killL_id {p : Nat → Bool} (hp : ∀ l, p l = false) : ∀ vs : List V, V.killL p vs = vs
  | [] => rfl
  | v :: vs => by simp [V.killL, V.kill_id hp v, V.killL_id hp vs]
end
theorem O.kill_id {p : Nat → Bool} (hp : ∀ l, p l = false) (o : O) : o.kill p = o := by
  cases o <;> simp [O.kill, V.killL_id hp]
mutual
theorem V.ren_none {m : Nat → Nat} : ∀ v : V, v.locs = [] → v.ren m = v
  | .d _, _ => rfl
  | .undef, _ => rfl
  | .nils, _ => rfl
  | .ex _ _, _ => rfl
  | .ep _ _ _, _ => rfl
  | .ptr l _ _, h => by simp [V.locs] at h
  | .row l, h => by simp [V.locs] at h
  | .sl l _ _ _, h => by simp [V.locs] at h
  | .yield l, h => by simp [V.locs] at h
  | .map l, h => by simp [V.locs] at h
  | .fn f a b, h => by simp only [V.locs, List.append_eq_nil_iff] at h; simp [V.ren, V.renL_none a h.1, V.renL_none b h.2]
  | .tuple vs, h => by simp only [V.locs] at h; simp [V.ren, V.renL_none vs h]
  | .agg vs, h => by simp only [V.locs] at h; simp [V.ren, V.renL_none vs h]
theorem V.renL_none {m : Nat → Nat} : ∀ vs : List V, V.locsL vs = [] → V.renL m vs = vs
  | [], _ => rfl
  | v :: vs, h => by simp only [V.locsL, List.append_eq_nil_iff] at h; simp [V.renL, V.ren_none v h.1, V.renL_none vs h.2]
end
theorem movedB_nil (σ0 : Store) (l : Nat) : movedB [] σ0 l = false := rfl
theorem merge_nil (σ σ0 : Store) : merge σ [] σ0 = σ ++ σ0.map (·.ren (σ.length + ·)) := by
  unfold merge
  have h1 : mp [] σ.length = (σ.length + ·) := by funext i; simp [mp]
  rw [h1]
  congr 1
  apply List.ext_getElem?
  intro l
  simp only [List.getElem?_mapIdx]
  cases σ[l]? with
  | none => rfl
  | some o => simp [O.kill_id (movedB_nil σ0)]
theorem sem_data {i : Nat} {o : Oper} {x : Operand} {args : Array Operand} {ts : Array TypeId} {g : FuncId} {fn : Func} {c : Code} {first cap ds : List V} {v : V} {σ0 : Store}
    (hF : Fnc P g fn c) (hc : CallsA P g ds [] fun r σ' => r = .ret v ∧ σ' = σ0) (hi : ops[i]? = some o) (ho : o.op = .call { callee := .value x, args, argTypes := ts }) (hx : ev tm x = .fn (.func g) first cap)
    (hargs : coArgs P fn.params.toList (first ++ args.toList.map (ev tm) ++ cap) = ds) (hl : (V.locsL ds).isEmpty = true) (σ : Store) :
    Sem P f ro n k df Q ops o i (valsOf tm o) σ (v.ren (σ.length + ·)) (σ ++ σ0.map (·.ren (σ.length + ·))) := by
  intro rest tm' hv hw hk
  have hl' : V.locsL ds = [] := by simpa using hl
  obtain ⟨e1, e2⟩ := vals_call ho hv
  rw [← e1] at hx
  rw [← e2] at hargs
  refine AW.call (m := []) ds [] hF hc hi hw ho hx (by rw [hargs, V.renL_none ds hl']) (by simp [belB, hl']) ⟨rfl, rfl, rfl⟩ ?_
  rintro r σ' ⟨rfl, rfl⟩
  refine ⟨v, rfl, ?_⟩
  have h1 : mp [] σ.length = (σ.length + ·) := by funext i; simp [mp]
  rw [V.killL_id (movedB_nil _), merge_nil, h1]
  exact hk
theorem AW.sem {i : Nat} {rest : List Nat} {o : Oper} {v : V} {σ' : Store} (h : Sem P f ro n k df Q ops o i (valsOf tm o) σ v σ') (hw : wantA ops o tm = some true) (hn : AW P f ro n (.inRegion ops rest :: k) (put tm o.dst v) σ' df Q) :
    AW P f ro n (.inRegion ops (i :: rest) :: k) tm σ df Q := h rest tm rfl hw hn
end
end Go.Br
namespace Go.Br
open Go
section steps
variable {P : Program} {f : FuncId} {rb : Option Nat} {a : Act} {k : List Item} {cs : List Frame} {w w' : World}
theorem st_beginRound {l : Nat} (hr : (Instr.beginRound l).run P w = .ok () w') : step P (lone (frm f (some l) a (.beginRound :: k)) cs w) = .next (lone (frm f (some l) a k) cs w') :=
  stepR_beginRound (b := frm f (some l) a []) rfl hr
theorem st_endRangeFunc {l : Nat} {jump : Option Code} (h : (Instr.endLoop l).run P w = .ok jump w') : step P (lone (frm f rb a (.endRangeFunc l :: k)) cs w) = .next (lone (frm f rb a ((jump.map Item.code).toList ++ k)) cs w') :=
  stepR_endRangeFunc (b := frm f rb a []) h
theorem st_rangeFunc {g : Operand} {ps : Array Tmp} {assign body : Code} {l : Nat} {mark : List Deferred} {w₁ w₁' w₂ : World} {d : Deferred} {h : FuncId} {args : Array Value}
    (he : (Instr.enterLoop f a.tmps ps assign body rb).run P w = .ok (l, mark) w₁)
    (hres : (resolve a.eval (rangeCall g l) 0).run P w₁ = .ok d w₁') (hinv : (invoke d.target d.args).run P w₁' = .ok (.enter h args) w₂) :
    step P (lone (frm f rb a (.code (.rangeFunc g ps assign body) :: k)) cs w) = .next (lone (Frame.enter P h args .normal) (frm f rb { a with defers := mark ++ a.defers } (.inRangeFunc l :: k) :: cs) w₂) :=
  stepR_rangeFunc (b := frm f rb a []) he hres hinv
theorem RunsTo.rangeFunc {g : Operand} {ps : Array Tmp} {assign body : Code} {l : Nat} {mark : List Deferred} {w₁ w₁' w₂ : World} {d : Deferred} {h : FuncId} {args : Array Value} {R : Ending → World → Prop}
    (he : (Instr.enterLoop f a.tmps ps assign body rb).run P w = .ok (l, mark) w₁)
    (hres : (resolve a.eval (rangeCall g l) 0).run P w₁ = .ok d w₁') (hinv : (invoke d.target d.args).run P w₁' = .ok (.enter h args) w₂) {S : World → Prop}
    (hc : Calls P h args w₂ fun e w'' => ∃ v, e = .returned v ∧ S w'')
    (hk : ∀ w'', S w'' → RunsTo P f rb (.endRangeFunc l :: k) { a with defers := mark ++ a.defers } w'' R) : RunsTo P f rb (.code (.rangeFunc g ps assign body) :: k) a w R := by
  intro cs
  obtain ⟨e, w1, fr, hR, hcomes, _, hleave⟩ := hc (frm f rb { a with defers := mark ++ a.defers } (.inRangeFunc l :: k) :: cs)
  obtain ⟨v, rfl, hS⟩ := hR
  obtain ⟨e2, w2, w3, fr2, h1, h2, h3⟩ := hk w1 hS cs
  exact ⟨e2, w2, w3, fr2, h1, .head (st_rangeFunc he hres hinv) (hcomes.trans (.head (step_leave_returned hleave) h2)), h3⟩
end steps
def mvB (σ : Store) (l : Nat) : Bool := match σ[l]? with | some (.row _ _ true) => true | _ => false
section
variable {w w' : World} {I I' : Nat → Prop} {ρ ρ' : LM} {σ σ' : Store}
theorem behind {tm : List V} {xs : List Value} (hO : ORel w I ρ σ) (hE : Ext σ.length w I ρ σ w' I' ρ' σ') (h : vrL w I ρ σ tm xs) : vrL w' I' ρ' σ' (V.killL (mvB σ') tm) xs := by
  have hI : ∀ b, I b → I' b ∧ w'.heap[b]? = w.heap[b]? := fun b hb => ⟨hE.immI b hb, hE.old b (hO.imm b hb).1 (hO.imm b hb).2⟩
  have hk := vrL_kill (w := w) (I := I) (ρ := ρ) (σ := σ) (mvB σ') tm xs h
  refine vrL_up hI _ xs (fun l hl => ?_) hk
  have hlt := vrL_locs _ xs hk l hl
  refine ⟨Nat.lt_of_lt_of_le hlt hE.len, fun o' h1 h2 => ?_⟩
  have hst : o'.still = true := by
    have hm := (locsL_kill (mvB σ') tm l hl).2
    unfold mvB at hm
    rw [h1] at hm
    cases o' with
    | dead => exact absurd rfl h2
    | row sz xs mv => cases mv <;> simp_all [O.still]
    | _ => rfl
  obtain ⟨h3, o, h4, h5, h6⟩ := hE.fixed l o' hlt h1 hst
  exact ⟨h3, o, h4, fun e => by subst e; simp [O.still] at h5, h6⟩
end
section
variable {P : Program} {f : FuncId} {ro : Option Nat} {n : Nat} {k : List Item} {df : List Nat} {Q : AE → Store → Prop} {ops : Array Oper} {tm : List V} {σ : Store}
theorem putObj_other {w : World} {r b : Nat} {o : Obj} (h : b ≠ r) : (w.putObj r o).heap[b]? = w.heap[b]? := by
  simp [World.putObj, Ne.symm h]
theorem putObj_self {w : World} {r : Nat} {o : Obj} (h : r < w.heap.size) : (w.putObj r o).heap[r]? = some o := by
  simp [World.putObj, h]
theorem loop_upd {w : World} {I : Nat → Prop} {ρ : LM} {l : Nat} {st st' : LoopState} {pend pend' : Option Code} {fn : FuncId} {tml : List V} {ps : Array Tmp} {as bd : Code} (hO : ORel w I ρ σ) (hl : σ[l]? = some (.loop st pend fn tml ps as bd)) :
    ∃ L r, ρ l = some L ∧ w.heap[L.b]? = some (.loop r) ∧ r.state = st ∧ r.pending = pend ∧ ORel (w.putObj L.b (.loop { r with state := st', pending := pend' })) I ρ (σ.set l (.loop st' pend' fn tml ps as bd)) ∧
      Ext σ.length w I ρ σ (w.putObj L.b (.loop { r with state := st', pending := pend' })) I ρ (σ.set l (.loop st' pend' fn tml ps as bd)) ∧
      (∀ b, I b → I b ∧ (w.putObj L.b (.loop { r with state := st', pending := pend' })).heap[b]? = w.heap[b]?) ∧ ∀ x, x < σ.length → Same ρ σ ρ (σ.set l (.loop st' pend' fn tml ps as bd)) x := by
  have ho := hO.objs l _ hl
  simp only [orel] at ho
  obtain ⟨L, tmps, db, hL, hh, ht⟩ := ho
  have hlt : l < σ.length := (List.getElem?_eq_some_iff.1 hl).1
  have hb : L.b < w.heap.size := (Array.getElem?_eq_some_iff.1 hh).1
  have hS : ∀ x, x < σ.length → Same ρ σ ρ (σ.set l (.loop st' pend' fn tml ps as bd)) x := by
    intro x hx
    refine ⟨by simp; exact hx, fun o' h1 h2 => ?_⟩
    by_cases hxl : x = l
    · subst hxl
      rw [List.getElem?_set_self hlt] at h1
      cases h1
      exact ⟨rfl, _, hl, by simp, rfl⟩
    · rw [List.getElem?_set_ne (Ne.symm hxl)] at h1
      exact ⟨rfl, o', h1, h2, rfl⟩
  have hI : ∀ b, I b → I b ∧ (w.putObj L.b (.loop { state := st', pending := pend', fn := fn, tmps := tmps, params := ps, assign := as, body := bd, defers := db })).heap[b]? = w.heap[b]? := fun b hb => ⟨hb, putObj_other fun e => (hO.imm b hb).2 ⟨l, _, L, hl, by simp, hL, e.symm⟩⟩
  refine ⟨L, _, hL, hh, rfl, rfl, ?_, ?_, hI, hS⟩
  · refine hO.upd hl (by simp) hL rfl (fun b hb => putObj_other hb) (by simp) ?_
    simp only [orel]
    exact ⟨L, tmps, db, hL, putObj_self hb, vrL_all hI hS ht⟩
  · exact Ext.upd hl (by simp) hL (fun _ => rfl) rfl rfl (fun b hb => putObj_other hb) (by simp) rfl rfl rfl
theorem AW.beginRound {l : Nat} {pend : Option Code} {fn : FuncId} {tml : List V} {ps : Array Tmp} {as bd : Code} (hl : σ[l]? = some (.loop .ready pend fn tml ps as bd))
    (h : AW P f (some l) n k tm (σ.set l (.loop .busy pend fn tml ps as bd)) df Q) : AW P f (some l) n (.beginRound :: k) tm σ df Q := by
  intro w I ρ a rb hr hb hn
  obtain ⟨L, r, hL, hh, hs, hp, hO, hE, hI, hS⟩ := loop_upd (st' := .busy) (pend' := pend) hr.ors hl
  have hst := hE.stays
  obtain ⟨L', o, hL', _, _, rfl⟩ := hb
  rw [hL] at hL'; cases hL'
  have hrun : (Instr.beginRound L.b).run P w = .ok () (w.putObj L.b (.loop { r with state := .busy, pending := pend })) := by
    rw [run_beginRound hh hs, ← hp]
  exact .step (fun cs => st_beginRound hrun) ((h _ I ρ a (some L.b) ⟨vrL_all hI hS hr.tms, hO, dfr_stay hst hr.dfs⟩ ⟨L, _, hL, List.getElem?_set_self (List.getElem?_eq_some_iff.1 hl).1, ⟨_, _, _, _, _, _, _, rfl⟩, rfl⟩ (by simp; exact hn)).mono fun e w' hf => hf.trans (hE.less hn))
theorem round_end {todo : List Item} {l : Nat} {st : LoopState} {pend : Option Code} {fn : FuncId} {tml : List V} {ps : Array Tmp} {as bd : Code} (jump : Option Code) (hl : σ[l]? = some (.loop st pend fn tml ps as bd))
    (hs : ∀ {a : Act} {lb : Nat} {w w' : World} {c : Frame} {cs : List Frame} {v : Value}, (Instr.endRound lb jump).run P w = .ok v w' → step P (lone (frm f (some lb) a todo) (c :: cs) w) = .next (lone (c.finish v) cs w'))
    (hq : Q (.ret (.d (.bool jump.isNone))) (σ.set l (.loop (if jump.isNone then .ready else .done) jump fn tml ps as bd))) : AW P f (some l) n todo tm σ df Q := by
  intro w I ρ a rb hr hb hn cs
  obtain ⟨L, r, hL, hh, _, _, hO, hE, _, _⟩ := loop_upd (st' := if jump.isNone then .ready else .done) (pend' := jump) hr.ors hl
  obtain ⟨L', o, hL', _, _, rfl⟩ := hb
  rw [hL] at hL'; cases hL'
  refine ⟨.returned (.bool jump.isNone), w, _, frm f (some L.b) a todo, ⟨I, ρ, _, _, hq, ⟨_, rfl, by simp [vr, Dr]⟩, hO, hE.less hn⟩, .refl _ _, fun c cs' => ⟨_, hs (run_endRound jump hh), rfl⟩⟩
theorem AW.roundEnd {l : Nat} {st : LoopState} {pend : Option Code} {fn : FuncId} {tml : List V} {ps : Array Tmp} {as bd : Code} (hl : σ[l]? = some (.loop st pend fn tml ps as bd))
    (hq : Q (.ret (.d (.bool true))) (σ.set l (.loop .ready none fn tml ps as bd))) : AW P f (some l) n [] tm σ df Q :=
  round_end none hl (fun {a lb _ _ _ _ _} h => stepR_round_end (b := frm f (some lb) a []) rfl rfl h) hq
def roundTm (tm : List V) : List Tmp → List V → List V
  | p :: ps, v :: vs => roundTm (tm.set p v) ps vs
  | _, _ => tm
theorem roundTm_rel {w : World} {I : Nat → Prop} {ρ : LM} : ∀ {ps : List Tmp} {vs tm : List V} {xs : List Value} {a : Array Value}, vrL w I ρ σ tm a.toList → vrL w I ρ σ vs xs → vs.length = ps.length →
    vrL w I ρ σ (roundTm tm ps vs) ((ps.zip xs).foldl (fun tmps (t, x) => tmps.setIfInBounds t x) a).toList
  | [], vs, tm, xs, a, h, _, _ => by cases vs <;> simpa [roundTm] using h
  | p :: ps, [], tm, xs, a, h, _, hl => by simp at hl
  | p :: ps, v :: vs, tm, xs, a, h, hv, hl => by
    simp only [vrL] at hv
    obtain ⟨x, xs', rfl, h1, h2⟩ := hv
    simp only [roundTm, List.zip_cons_cons, List.foldl_cons]
    refine roundTm_rel ?_ h2 (by simpa using hl)
    rw [Array.toList_setIfInBounds]
    exact vrL_set h p h1
theorem AW.yield {i : Nat} {rest : List Nat} {o : Oper} {x : Operand} {args : Array Operand} {ts : Array TypeId} {l : Nat} {st : LoopState} {pend : Option Code} {fn : FuncId} {tml : List V} {ps : Array Tmp} {as bd : Code} {Qr : AE → Store → Prop}
    (hi : ops[i]? = some o) (hw : wantA ops o tm = some true) (ho : o.op = .call { callee := .value x, args, argTypes := ts }) (hx : ev tm x = .yield l) (hl : σ[l]? = some (.loop st pend fn tml ps as bd)) (hps : args.size = ps.size)
    (hr : AW P fn (some l) σ.length [.code as, .beginRound, .code bd] (roundTm tml ps.toList (args.toList.map (ev tm))) σ [] Qr)
    (hk : ∀ r σ', Qr r σ' → ∃ v, r = .ret v ∧ AW P f ro n (.inRegion ops rest :: k) (put (V.killL (mvB σ') tm) o.dst v) σ' df Q) : AW P f ro n (.inRegion ops (i :: rest) :: k) tm σ df Q := by
  intro w I ρ a rb hrel hb hn
  have hxv := vr_ev hrel.tms x
  rw [hx] at hxv
  simp only [vr] at hxv
  have hobj := hrel.ors.objs l _ hl
  simp only [orel] at hobj
  obtain ⟨L, tmps, db, hL, hh, ht⟩ := hobj
  obtain ⟨L', hL', hxe⟩ := hxv.2.2 ⟨_, hl, by simp⟩
  rw [hL] at hL'; cases hL'
  have hfold : ∀ (A : Array (Tmp × Value)) (z : Array Value), A.foldl (fun tmps (t, x) => tmps.setIfInBounds t x) z = A.toList.foldl (fun tmps (t, x) => tmps.setIfInBounds t x) z := fun A z => by rw [← Array.foldl_toList]
  have hzip : (ps.zip (#[] ++ args.map a.eval)).toList = ps.toList.zip (args.toList.map a.eval) := by simp
  have hexec : (execOp a.eval o).run P w = .ok (.round L.b fn ((ps.toList.zip (args.toList.map a.eval)).foldl (fun tmps (t, x) => tmps.setIfInBounds t x) tmps) as bd) w := by
    have h1 := run_yield (P := P) hh (args := #[] ++ args.map a.eval) (by simp [hps])
    simp only [execOp, ho, resolve, hxe, Deferred.ofValue, Sem.run_bind, Sem.run_pure, Result.andThen_ok, invoke]
    rw [h1, hfold, hzip]
  have hargs : vrL w I ρ σ (args.toList.map (ev tm)) (args.toList.map a.eval) := ev_rel (fun y => vr_ev hrel.tms y) _
  have hround := hr w I ρ ⟨((ps.toList.zip (args.toList.map a.eval)).foldl (fun tmps (t, x) => tmps.setIfInBounds t x) tmps), []⟩ (some L.b) ⟨roundTm_rel ht hargs (by simp [hps]), hrel.ors, rfl⟩ ⟨L, _, hL, hl, ⟨_, _, _, _, _, _, _, rfl⟩, rfl⟩ (Nat.le_refl _)
  refine RunsTo.round hi (wantA_ok hw hrel.tms) (by simp [ho, Op.isDefer]) hexec (S := fun y w'' => ∃ I' ρ' σ' v, Qr (.ret v) σ' ∧ vr w'' I' ρ' σ' v y ∧ ORel w'' I' ρ' σ' ∧ Ext σ.length w I ρ σ w'' I' ρ' σ') (hround.mono ?_) ?_
  · rintro e w'' ⟨I', ρ', σ', r, h1, h2, h3, h4⟩
    obtain ⟨v, rfl, _⟩ := hk r σ' h1
    obtain ⟨y, rfl, h5⟩ := h2
    exact ⟨y, rfl, I', ρ', σ', v, h1, h5, h3, h4⟩
  · rintro y w'' ⟨I', ρ', σ', va, h1, h2, h3, h4⟩
    obtain ⟨v, hv, hnext⟩ := hk _ σ' h1
    cases hv
    have hst := h4.stays
    have := hnext w'' I' ρ' (a.put o.dst y) rb ⟨vrL_put (behind hrel.ors h4 hrel.tms) o.dst h2, h3, by rw [put_defers]; exact dfr_stay hst hrel.dfs⟩ (rbOf_stay hst hb) (Nat.le_trans hn h4.len)
    exact this.mono fun e w3 hfin => hfin.trans (h4.less hn)
end
end Go.Br
namespace Go.Br
open Go
theorem run_range {P : Program} {w : World} {a : Act} {g : Operand} {l : Nat} {h : FuncId} {fn : Func} {c : Code} {fs cs : List Value} (hx : a.eval g = .func (.func h) fs.toArray cs.toArray) (hF : Fnc P h fn c) :
    ∃ d, (resolve a.eval (rangeCall g l) 0).run P w = .ok d w ∧ (invoke d.target d.args).run P w = .ok (.enter h (fs ++ [Value.func (.yield l) #[] #[]] ++ cs).toArray) w := by
  refine ⟨{ target := .fn (.func h) cs.toArray, args := fs.toArray ++ #[.func (.yield l) #[] #[]] }, ?_, ?_⟩
  · simp only [resolve, hx, Deferred.ofValue, Sem.run_pure]
    congr 1
    simp [Act.eval]
  · simp only [invoke, callFunc, Sem.run_bind, run_program, Result.andThen_ok, hF.get]
    rw [if_neg (by simp [hF.name])]
    simp only [hF.body, Option.isNone_some, Bool.false_eq_true, if_false, Sem.run_pure]
    congr 2
    apply Array.ext'
    simp
section
variable {P : Program} {f : FuncId} {n : Nat} {k : List Item} {df : List Nat} {Q : AE → Store → Prop} {tm : List V} {σ : Store}
theorem AW.endRange {ro : Option Nat} {l : Nat} {st : LoopState} {pend : Option Code} {fn : FuncId} {tml : List V} {ps : Array Tmp} {as bd : Code} (hl : σ[l]? = some (.loop st pend fn tml ps as bd)) (hs : st ≠ .busy)
    (h : AW P f ro n ((pend.map Item.code).toList ++ k) tm (σ.set l (.loop .exhausted pend fn tml ps as bd)) df Q) : ∀ w I ρ a rb, Rel w I ρ σ tm df a → rbOf ρ σ ro rb → n ≤ σ.length → ∀ L, ρ l = some L → RunsTo P f rb (.endRangeFunc L.b :: k) a w (Fin n w I ρ σ Q) := by
  intro w I ρ a rb hr hb hn L' hL'
  obtain ⟨L, r, hL, hh, hs', hp, hO, hE, hI, hS⟩ := loop_upd (st' := .exhausted) (pend' := pend) hr.ors hl
  have hLL : L' = L := by rw [hL] at hL'; exact (Option.some.inj hL').symm
  rw [hLL]
  have hst := hE.stays
  have hrun : (Instr.endLoop L.b).run P w = .ok pend (w.putObj L.b (.loop { r with state := .exhausted, pending := pend })) := by
    rw [run_endLoop hh (by rw [hs']; exact hs), ← hp]
  exact .step (fun cs => st_endRangeFunc hrun) ((h _ I ρ a rb ⟨vrL_all hI hS hr.tms, hO, dfr_stay hst hr.dfs⟩ (rbOf_stay hst hb) (by simp; exact hn)).mono fun e w' hf => hf.trans (hE.less hn))
theorem AW.rangeFunc {g : Operand} {ps : Array Tmp} {as bd : Code} {h : FuncId} {fn : Func} {c : Code} {first cap : List V} (m : List Nat) (cargs : List V) (σc : Store) {Qc : AE → Store → Prop}
    (hF : Fnc P h fn c) (hc : CallsA P h cargs σc Qc) (hx : ev tm g = .fn (.func h) first cap)
    (hargs : coArgs P fn.params.toList (first ++ [.yield (σ.length + 1)] ++ cap) = V.renL (mp m (σ.length + 2)) cargs) (hbel : (belB σc.length σc && (V.locsL cargs).all fun l => Nat.blt l σc.length) = true)
    (hwi : within (σ ++ [.defd, .loop .ready none f tm ps as bd]) m σc)
    (hk : ∀ r σc', Qc r σc' → ∃ v st pend tml ps' as' bd' fn', r = .ret v ∧ st ≠ .busy ∧ (merge (σ ++ [.defd, .loop .ready none f tm ps as bd]) m σc')[σ.length + 1]? = some (.loop st pend fn' tml ps' as' bd') ∧
      AW P f none n ((pend.map Item.code).toList ++ k) (V.killL (movedB m σc') tm) ((merge (σ ++ [.defd, .loop .ready none f tm ps as bd]) m σc').set (σ.length + 1) (.loop .exhausted pend fn' tml ps' as' bd')) (σ.length :: df) Q) :
    AW P f none n (.code (.rangeFunc g ps as bd) :: k) tm σ df Q := by
  intro w I ρ a rb hr hb hn
  cases hb
  simp only [Bool.and_eq_true] at hbel
  -- the two blocks
  let L1 : Loc := ⟨w.heap.size, 0, 0, 0⟩
  let w1 := w.alloc (.deferred (some []))
  let ρ1 : LM := fun x => if x = σ.length then some L1 else ρ x
  have hO1 : ORel w1 I ρ1 (σ ++ [.defd]) := hr.ors.new L1 .defd rfl (fun b hb => heap_alloc_old _ _ _ hb) (by simp [w1]) (by
    simp only [orel]
    exact ⟨L1, by simp, heap_alloc_new _ _⟩)
  have hE1 : Ext σ.length w I ρ σ w1 I ρ1 (σ ++ [.defd]) := Ext.new L1 .defd rfl (fun b hb => heap_alloc_old _ _ _ hb) (by simp [w1]) rfl rfl rfl
  have hI1 : ∀ b, I b → I b ∧ w1.heap[b]? = w.heap[b]? := fun b hb => ⟨hb, heap_alloc_old _ _ _ (hr.ors.imm b hb).1⟩
  have ht1 : vrL w1 I ρ1 (σ ++ [.defd]) tm a.tmps.toList := vrL_all hI1 (same_new L1 _) hr.tms
  let L2 : Loc := ⟨w1.heap.size, 0, 0, 0⟩
  let R : Loop := { state := .ready, pending := none, fn := f, tmps := a.tmps, params := ps, assign := as, body := bd, defers := w.heap.size }
  let w2 := w1.alloc (.loop R)
  let ρ2 : LM := fun x => if x = (σ ++ [O.defd]).length then some L2 else ρ1 x
  have hI2 : ∀ b, I b → I b ∧ w2.heap[b]? = w1.heap[b]? := fun b hb => ⟨hb, heap_alloc_old _ _ _ (hO1.imm b hb).1⟩
  have ht2 : vrL w2 I ρ2 ((σ ++ [.defd]) ++ [.loop .ready none f tm ps as bd]) tm a.tmps.toList := vrL_all hI2 (same_new L2 _) ht1
  have hO2 : ORel w2 I ρ2 ((σ ++ [.defd]) ++ [.loop .ready none f tm ps as bd]) := hO1.new L2 _ rfl (fun b hb => heap_alloc_old _ _ _ hb) (by simp [w2]) (by
    simp only [orel]
    exact ⟨L2, a.tmps, w.heap.size, by simp, heap_alloc_new _ _, ht2⟩)
  have hE2 : Ext (σ ++ [O.defd]).length w1 I ρ1 (σ ++ [.defd]) w2 I ρ2 ((σ ++ [.defd]) ++ [.loop .ready none f tm ps as bd]) := Ext.new L2 _ rfl (fun b hb => heap_alloc_old _ _ _ hb) (by simp [w2]) rfl rfl rfl
  have hE12 := hE1.trans (hE2.less (by simp))
  have hassoc : (σ ++ [O.defd]) ++ [O.loop .ready none f tm ps as bd] = σ ++ [.defd, .loop .ready none f tm ps as bd] := by simp
  rw [hassoc] at ht2 hO2 hE12
  have hlen : (σ ++ [O.defd, .loop .ready none f tm ps as bd]).length = σ.length + 2 := by simp
  have hdefd : dfr ρ2 (σ ++ [.defd, .loop .ready none f tm ps as bd]) (σ.length :: df) ([{ target := .collected w.heap.size, args := #[] }] ++ a.defers) := by
    refine ⟨L1, a.defers, by simp [ρ2, ρ1], by simp, rfl, dfr_stay hE12.stays hr.dfs⟩
  have hl2 : (σ ++ [O.defd, .loop .ready none f tm ps as bd])[σ.length + 1]? = some (.loop .ready none f tm ps as bd) := by
    rw [List.getElem?_append_right (by omega)]; simp
  -- the call
  rw [← hlen] at hargs
  have hE := emb_enter (ρ := ρ2) hwi
  have hOc := orel_enter hO2 hwi hbel.1
  have hxv := vr_ev hr.tms g
  rw [hx] at hxv
  simp only [vr] at hxv
  obtain ⟨fs, cs, hxe, hfs, hcs⟩ := hxv
  have hS12 : ∀ x, x < σ.length → Same ρ σ ρ2 (σ ++ [.defd, .loop .ready none f tm ps as bd]) x := by
    intro x hx
    refine ⟨by simp; omega, fun o' h1 h2 => ⟨?_, o', ?_, h2, rfl⟩⟩
    · show (if x = (σ ++ [O.defd]).length then _ else if x = σ.length then _ else ρ x) = ρ x
      rw [if_neg (by simp; omega), if_neg (by omega)]
    · rwa [List.getElem?_append_left hx] at h1
  have hI12 : ∀ b, I b → I b ∧ w2.heap[b]? = w.heap[b]? := fun b hb => ⟨hb, (hI2 b hb).2.trans (hI1 b hb).2⟩
  have hyv : vr w2 I ρ2 (σ ++ [.defd, .loop .ready none f tm ps as bd]) (.yield (σ.length + 1)) (.func (.yield w1.heap.size) #[] #[]) := by
    simp only [vr]
    exact ⟨rfl, by simp, fun _ => ⟨L2, by simp [ρ2], rfl⟩⟩
  have hev : vrL w2 I ρ2 (σ ++ [.defd, .loop .ready none f tm ps as bd]) (first ++ [.yield (σ.length + 1)] ++ cap) (fs ++ [.func (.yield w1.heap.size) #[] #[]] ++ cs) :=
    vrL_append (vrL_append (vrL_all hI12 hS12 hfs) (by simp only [vrL]; exact ⟨_, [], rfl, hyv, rfl⟩)) (vrL_all hI12 hS12 hcs)
  have hev2 := coArgs_rel (P := P) (ts := fn.params.toList) hev
  rw [hargs] at hev2
  have hca : ∀ l ∈ V.locsL cargs, l < σc.length := fun l hl => by
    have := (List.all_eq_true.1 hbel.2) l hl
    simpa [Nat.blt_eq] using this
  have hcr := (vrL_ren hE cargs _ hca).1 hev2
  have hcalls := hc w2 I (rhoC m ρ2) _ hcr hOc
  have hent : (Instr.enterLoop f a.tmps ps as bd none).run P w = .ok (w1.heap.size, [{ target := .collected w.heap.size, args := #[] }]) w2 := by
    rw [run_enterLoop_outer]
    simp [w2, w1, R]
  obtain ⟨d, hd1, hd2⟩ := run_range (P := P) (w := w2) (l := w1.heap.size) hxe hF
  refine RunsTo.rangeFunc hent hd1 hd2 (S := fun w'' => ∃ I' ρc' σc' va, Qc (.ret va) σc' ∧ ORel w'' I' ρc' σc' ∧ Ext σc.length w2 I (rhoC m ρ2) σc w'' I' ρc' σc') (hcalls.mono ?_) ?_
  · rintro e w'' ⟨I', ρc', σc', r, h1, h2, h3, h4⟩
    obtain ⟨v, _, _, _, _, _, _, _, rfl, _⟩ := hk r σc' h1
    obtain ⟨y, rfl, h5⟩ := h2
    exact ⟨y, rfl, I', ρc', σc', v, h1, h3, h4⟩
  · rintro w'' ⟨I', ρc', σc', va, h1, h3, h4⟩
    obtain ⟨v, st, pend, tml, ps', as', bd', fn', _, hst, hlp, hnext⟩ := hk _ σc' h1
    obtain ⟨g1, g2, g3, g4⟩ := leave hO2 hwi h4 h3
    have hstay := g3.stays
    have hrel : Rel w'' I' (rhoB m (σ ++ [O.defd, .loop .ready none f tm ps as bd]).length ρ2 ρc') (merge (σ ++ [.defd, .loop .ready none f tm ps as bd]) m σc') (V.killL (movedB m σc') tm) (σ.length :: df) { a with defers := [{ target := .collected w.heap.size, args := #[] }] ++ a.defers } :=
      ⟨g4 tm _ ht2, g2, dfr_stay hstay hdefd⟩
    have hL2 : (rhoB m (σ ++ [O.defd, .loop .ready none f tm ps as bd]).length ρ2 ρc') (σ.length + 1) = some L2 := by
      have := (hstay (σ.length + 1) _ hl2 (by simp [O.ld])).1
      rw [this]
      simp [ρ2]
    have hn2 : n ≤ (merge (σ ++ [.defd, .loop .ready none f tm ps as bd]) m σc').length := Nat.le_trans hn (Nat.le_trans (by simp) g3.len)
    have := AW.endRange (ro := none) hlp hst hnext w'' I' _ _ none hrel rfl hn2 L2 hL2
    exact this.mono fun e w3 hfin => (hfin.trans (g3.less (by simp; omega))).trans (hE12.less hn)
end
end Go.Br
namespace Go.Br
open Go
def cgo : Nat → List Bool → List Item → List Item
  | 0, _, t => t
  | n + 1, ch, t => match t with
    | .code .skip :: k => cgo n ch k
    | .code (.label _) :: k => cgo n ch k
    | .inBlock _ :: k => cgo n ch k
    | .inScope _ :: k => cgo n ch k
    | .code (.seq a b) :: k => cgo n ch (.code a :: .code b :: k)
    | .code (.block id c) :: k => cgo n ch (.code c :: .inBlock id :: k)
    | .code (.scope c) :: k => cgo n ch (.code c :: .inScope c :: k)
    | .code (.loop c) :: k => cgo n ch (.code c :: .inLoop c :: k)
    | .inLoop c :: k => cgo n ch (.code c :: .inLoop c :: k)
    | .code (.exit id) :: k => match exitTo id k with | some k' => cgo n ch k' | none => t
    | .code (.goto l) :: k => match gotoIn l k with | some k' => cgo n ch k' | none => t
    | .code (.cond _ x y) :: k => match ch with | true :: ch => cgo n ch (.code x :: k) | false :: ch => cgo n ch (.code y :: k) | [] => t
    | .code (.region _ ops false) :: k => cgo n ch (.inRegion ops (List.range ops.size) :: k)
    | .code (.region _ _ true) :: k => cgo n ch k
    | .code (.rangeFunc ..) :: k => cgo n ch k
    | .inRegion _ [] :: k => cgo n ch k
    | .inRegion ops (_ :: r) :: k => cgo n ch (.inRegion ops r :: k)
    | .beginRound :: k => cgo n ch k
    | _ => t
def mk (n : Nat) (l : List (Nat × V)) : List V := l.foldl (fun t p => t.set p.1 p.2) (List.replicate n .undef)
def keep (l : List Nat) (tm : List V) : List V := tm.mapIdx fun i v => if l.any (Nat.beq i) then v else .undef
def opsOf (T : List Item) : Array Oper := match T with | .inRegion ops _ :: _ => ops | _ => #[]
def ixOf (T : List Item) : Nat := match T with | .inRegion _ (i :: _) :: _ => i | _ => 0
def opOf (T : List Item) : Option Oper := match T with | .inRegion ops (i :: _) :: _ => ops[i]? | _ => none
def tlOf (T : List Item) : List Item := match T with | .inRegion ops (_ :: r) :: k => .inRegion ops r :: k | _ => []
section
variable {P : Program} {f : FuncId} {ro : Option Nat} {n : Nat} {T T' : List Item} {tm tm' : List V} {σ σ' : Store} {df : List Nat} {Q : AE → Store → Prop}
theorem keep_rel {w : World} {I : Nat → Prop} {ρ : LM} {l : List Nat} {xs : List Value} (h : vrL w I ρ σ tm xs) : vrL w I ρ σ (keep l tm) xs := by
  have key : ∀ (p : Nat → Bool) (tm : List V) (xs : List Value), vrL w I ρ σ tm xs → vrL w I ρ σ (tm.mapIdx fun i v => if p i then v else .undef) xs := by
    intro p tm
    induction tm generalizing p with
    | nil => intro xs h; simpa [vrL] using h
    | cons v vs ih =>
      intro xs h
      simp only [vrL] at h
      obtain ⟨x, xs', rfl, h1, h2⟩ := h
      simp only [List.mapIdx_cons, vrL]
      refine ⟨x, xs', rfl, ?_, ih (fun i => p (i + 1)) xs' h2⟩
      split
      · exact h1
      · simp [vr]
  exact key (fun i => l.any (Nat.beq i)) tm xs h
theorem AW.seg (m : Nat) (l : List Nat) (hs : (msteps P m T tm σ).map (fun s => (s.1, keep l s.2.1, s.2.2)) = some (T', tm', σ')) (h : AW P f ro n T' tm' σ' df Q) : AW P f ro n T tm σ df Q := by
  simp only [Option.map_eq_some_iff, Prod.mk.injEq] at hs
  obtain ⟨⟨t1, t2, t3⟩, h1, rfl, rfl, rfl⟩ := hs
  exact AW.steps m h1 (AW.less (fun _ _ _ _ hr => keep_rel hr) h)
theorem AW.opH {o : Oper} {v : V} (ho : opOf T = some o) (hw : wantA (opsOf T) o tm = some true) (hd : Op.isDefer o.op = false) (hT : tlOf T = T') (hok : OpOk P o tm σ v tm' σ') (h : AW P f ro n T' (put tm' o.dst v) σ' df Q) : AW P f ro n T tm σ df Q := by
  subst hT
  unfold opOf at ho
  split at ho
  · rename_i ops i r k
    exact .op ho hw hd hok h
  · cases ho
theorem AW.semH {o : Oper} {v : V} (ho : opOf T = some o) (hw : wantA (opsOf T) o tm = some true) (hT : tlOf T = T') (hs : ∀ k, Sem P f ro n k df Q (opsOf T) o (ixOf T) (valsOf tm o) σ v σ') (h : AW P f ro n T' (put tm o.dst v) σ' df Q) : AW P f ro n T tm σ df Q := by
  subst hT
  unfold opOf at ho
  split at ho
  · rename_i ops i r k
    exact .sem (hs k) hw h
  · cases ho
def condOf (T : List Item) : Operand := match T with | .code (.cond c _ _) :: _ => c | _ => .global 0
def isCond (T : List Item) : Bool := match T with | .code (.cond _ _ _) :: _ => true | _ => false
theorem AW.ifH {T1 T2 : List Item} {b : Bool} (ht : isCond T = true) (hc : ev tm (condOf T) = .d (.bool b)) (hT1 : cgo 1 [true] T = T1) (hT2 : cgo 1 [false] T = T2) (h1 : b = true → AW P f ro n T1 tm σ df Q) (h2 : b = false → AW P f ro n T2 tm σ df Q) : AW P f ro n T tm σ df Q := by
  subst hT1 hT2
  unfold isCond at ht
  split at ht
  · exact .cond hc h1 h2
  · cases ht
theorem AW.as (ht : tm = tm') (hs : σ = σ') (h : AW P f ro n T tm' σ' df Q) : AW P f ro n T tm σ df Q := by subst ht hs; exact h
def isDraw (T : List Item) : Bool := match T with | .code (.region _ _ true) :: _ => true | _ => false
def drawOf (T : List Item) : Array Oper := match T with | .code (.region _ ops true) :: _ => ops | _ => #[]
theorem AW.drawH (c : List Nat) (M : List Nat) (hm : P.follows .mixedOrders = true) (ht : isDraw T = true) (hok : (edgesB (drawOf T) && orderB (drawOf T) c [] M) = true) (hT : cgo 1 [] T = T')
    (hrun : ∀ k, Run (StepQ P f ro n k df Q (drawOf T) c) M (tm, σ) (tm', σ')) (h : AW P f ro n T' tm' σ' df Q) : AW P f ro n T tm σ df Q := by
  subst hT
  unfold isDraw at ht
  split at ht
  · exact .drawn c M hm hok (hrun _) h
  · cases ht
end
end Go.Br
namespace Go.Br
open Go
def iadd (k : IntKind) (a b : Int) : Int := k.wrap (a + b)
def isub (k : IntKind) (a b : Int) : Int := k.wrap (a - b)
def iquo (k : IntKind) (a b : Int) : Int := k.wrap (a.tdiv b)
def irem (a b : Int) : Int := a.tmod b
def iand (k : IntKind) (a b : Int) : Int := k.wrap (BitVec.ofInt k.bits a &&& BitVec.ofInt k.bits b).toNat
def ior (k : IntKind) (a b : Int) : Int := k.wrap (BitVec.ofInt k.bits a ||| BitVec.ofInt k.bits b).toNat
def ixor (k : IntKind) (a b : Int) : Int := k.wrap (BitVec.ofInt k.bits a ^^^ BitVec.ofInt k.bits b).toNat
def ishl (k : IntKind) (a b : Int) : Int := k.wrap (a * 2 ^ min b.toNat k.bits)
def ishr (k : IntKind) (a b : Int) : Int := a.fdiv (2 ^ min b.toNat k.bits)
def ineg (k : IntKind) (a : Int) : Int := k.wrap (0 - a)
def inot (k : IntKind) (a : Int) : Int := k.wrap (BitVec.ofInt k.bits (if k.signed then -1 else k.max) ^^^ BitVec.ofInt k.bits a).toNat
def iconv (k : IntKind) (a : Int) : Int := k.wrap a
theorem wrap_i64 {n : Int} (h : -9223372036854775808 ≤ n) (h' : n < 9223372036854775808) : IntKind.i64.wrap n = n := by
  simp only [IntKind.wrap, IntKind.bits, IntKind.signed, Bool.true_and]
  split <;> simp_all <;> omega
theorem iadd_i64 {a b : Int} (h : -9223372036854775808 ≤ a + b) (h' : a + b < 9223372036854775808) : iadd .i64 a b = a + b := wrap_i64 h h'
theorem isub_i64 {a b : Int} (h : -9223372036854775808 ≤ a - b) (h' : a - b < 9223372036854775808) : isub .i64 a b = a - b := wrap_i64 h h'
theorem wrap_u32 (n : Nat) : IntKind.u32.wrap (n : Int) = ((BitVec.ofNat 32 n).toNat : Int) := by
  simp [IntKind.wrap, IntKind.bits, IntKind.signed]
theorem wrap_u32' (x : Int) : IntKind.u32.wrap x = ((BitVec.ofInt 32 x).toNat : Int) := by
  simp [IntKind.wrap, IntKind.bits, IntKind.signed, BitVec.toNat_ofInt]
  omega
section
variable (x y : BitVec 32)
theorem ofInt_toNat : BitVec.ofInt 32 (x.toNat : Int) = x := by simp
theorem iand_u32 : iand .u32 (x.toNat : Int) (y.toNat : Int) = ((x &&& y).toNat : Int) := by
  show IntKind.u32.wrap (BitVec.ofInt 32 (x.toNat : Int) &&& BitVec.ofInt 32 (y.toNat : Int)).toNat = _
  rw [ofInt_toNat, ofInt_toNat, wrap_u32]; simp
theorem ior_u32 : ior .u32 (x.toNat : Int) (y.toNat : Int) = ((x ||| y).toNat : Int) := by
  show IntKind.u32.wrap (BitVec.ofInt 32 (x.toNat : Int) ||| BitVec.ofInt 32 (y.toNat : Int)).toNat = _
  rw [ofInt_toNat, ofInt_toNat, wrap_u32]; simp
theorem ixor_u32 : ixor .u32 (x.toNat : Int) (y.toNat : Int) = ((x ^^^ y).toNat : Int) := by
  show IntKind.u32.wrap (BitVec.ofInt 32 (x.toNat : Int) ^^^ BitVec.ofInt 32 (y.toNat : Int)).toNat = _
  rw [ofInt_toNat, ofInt_toNat, wrap_u32]; simp
theorem inot_u32 : inot .u32 (x.toNat : Int) = ((~~~x).toNat : Int) := by
  show IntKind.u32.wrap (BitVec.ofInt 32 (4294967295 : Int) ^^^ BitVec.ofInt 32 (x.toNat : Int)).toNat = _
  rw [ofInt_toNat, wrap_u32]
  have : BitVec.ofInt 32 4294967295 = BitVec.allOnes 32 := by decide
  rw [this, BitVec.allOnes_xor]; simp; omega
theorem ineg_u32 : ineg .u32 (x.toNat : Int) = ((-x).toNat : Int) := by
  show IntKind.u32.wrap (0 - (x.toNat : Int)) = _
  rw [wrap_u32']
  congr 1
  have : BitVec.ofInt 32 (0 - (x.toNat : Int)) = -x := by
    apply BitVec.eq_of_toInt_eq
    rw [BitVec.toInt_ofInt, BitVec.toInt_neg, BitVec.toInt_eq_toNat_bmod]
    simp
  rw [this]
theorem ishr_u32 (n : Nat) : ishr .u32 (x.toNat : Int) (n : Int) = ((x >>> n).toNat : Int) := by
  show Int.fdiv (x.toNat : Int) (2 ^ min (n : Int).toNat 32) = _
  have h1 : ((2 : Int) ^ min (n : Int).toNat 32) = ((2 ^ min n 32 : Nat) : Int) := by simp
  rw [h1, Int.fdiv_eq_ediv_of_nonneg _ (Int.natCast_nonneg _), ← Int.natCast_ediv]
  congr 1
  rw [BitVec.toNat_ushiftRight, Nat.shiftRight_eq_div_pow]
  by_cases hn : n ≤ 32
  · rw [Nat.min_eq_left hn]
  · rw [Nat.min_eq_right (by omega)]
    have h2 : x.toNat < 2 ^ 32 := x.isLt
    rw [Nat.div_eq_of_lt h2, Nat.div_eq_of_lt (Nat.lt_of_lt_of_le h2 (Nat.pow_le_pow_right (by omega) (by omega)))]
end
theorem iconv_u8_u32 (b : UInt8) : iconv .u32 (b.toNat : Int) = ((b.toBitVec.zeroExtend 32).toNat : Int) := by
  show IntKind.u32.wrap _ = _
  rw [wrap_u32]
  simp
def isRet (T : List Item) : Bool := match T with | .code .ret :: _ => true | [] => true | _ => false
theorem AW.retH {P : Program} {f : FuncId} {n : Nat} {T : List Item} {tm : List V} {σ : Store} {Q : AE → Store → Prop} {fn : Func} {c : Code} {v : V} (hF : Fnc P f fn c) (hT : isRet T = true) (hres : resA P fn tm σ = some v) (hq : Q (.ret v) σ) : AW P f none n T tm σ [] Q := by
  unfold isRet at hT
  split at hT
  · exact .ret hF ⟨rfl, rfl⟩ hres hq
  · exact .fin hF ⟨rfl, rfl⟩ hres hq
  · cases hT
theorem CallsA.start {P : Program} {g : FuncId} {fn : Func} {c : Code} {args : List V} {σ : Store} {Q : AE → Store → Prop} (hF : Fnc P g fn c) {tm : List V} (ht : args ++ List.replicate (fn.ntmps - args.length) .undef = tm) (h : AW P g none σ.length (cgo 0 [] [.code c]) tm σ [] Q) : CallsA P g args σ Q :=
  CallsA.of hF.get hF.body (by rw [ht]; exact h)
theorem u8s_get {bs : List UInt8} {i : Nat} (h : i < bs.length) : (bs.map u8)[((i : Nat) : Int).toNat]? = some (u8 bs[i]) := by simp [h]
def Pure (P : Program) (g : FuncId) (args : List V) (v : V) : Prop := CallsA P g args [] fun r σ' => r = .ret v ∧ σ' = []
end Go.Br
namespace Go.Br
open Go
section
variable {P : Program} {f : FuncId} {ro : Option Nat} {n : Nat} {k : List Item} {T T' : List Item} {tm tm' : List V} {σ σ' : Store} {df : List Nat} {Q : AE → Store → Prop} {ops : Array Oper}
def OpAny (P : Program) (o : Oper) (tm : List V) (σ : Store) (W : V → Prop) : Prop :=
  ∀ (w : World) (I : Nat → Prop) (ρ : LM) (a : Act), vrL w I ρ σ tm a.tmps.toList → ORel w I ρ σ → ∃ x v, (execOp a.eval o).run P w = .ok (.value x) w ∧ vr w I ρ σ v x ∧ W v
theorem AW.opAny {i : Nat} {rest : List Nat} {o : Oper} {W : V → Prop} (hi : ops[i]? = some o) (hw : wantA ops o tm = some true) (hd : Op.isDefer o.op = false) (hok : OpAny P o tm σ W)
    (h : ∀ v, W v → AW P f ro n (.inRegion ops rest :: k) (put tm o.dst v) σ df Q) : AW P f ro n (.inRegion ops (i :: rest) :: k) tm σ df Q := by
  intro w I ρ a rb hr hb hn
  obtain ⟨x, v, h1, h2, h3⟩ := hok w I ρ a hr.tms hr.ors
  exact .step (fun cs => st_op_value hi (wantA_ok hw hr.tms) hd h1) (h v h3 w I ρ (a.put o.dst x) rb ⟨vrL_put hr.tms o.dst h2, hr.ors, by rw [put_defers]; exact hr.dfs⟩ hb hn)
theorem AW.anyH {o : Oper} {W : V → Prop} (ho : opOf T = some o) (hw : wantA (opsOf T) o tm = some true) (hd : Op.isDefer o.op = false) (hT : tlOf T = T') (hok : OpAny P o tm σ W)
    (h : ∀ v, W v → AW P f ro n T' (put tm o.dst v) σ df Q) : AW P f ro n T tm σ df Q := by
  subst hT
  unfold opOf at ho
  split at ho
  · rename_i ops i r k
    exact .opAny ho hw hd hok h
  · cases ho
theorem run_eql_slice_nil' {w : World} {t e : TypeId} (a : Option Addr) (l c : Nat) (h : P.underlying t = some (.slice e)) : (binOp .eql t (.slice a l c) (.slice none 0 0)).run P w = .ok (.bool a.isNone) w := by
  simp only [binOp]
  simp [run_equal_slice_nil w t e a l c h]
theorem nilEq_ok {o : Oper} {x y : Operand} {t ty : TypeId} {sz : Nat} {xs : List D} {neg : Bool} (ho : o.op = .binOp (if neg then .neq else .eql) t x y ty) (ht : isSliceT P t = true) (hx : listOf (ev tm x) = some (sz, xs)) (hy : ev tm y = .nils) :
    OpAny P o tm σ fun v => ∃ b : Bool, v = .d (.bool (b != neg)) ∧ (b = true → xs = []) := by
  intro w I ρ a hr hO
  obtain ⟨e, hu⟩ := isSliceT_und ht
  have hxr := listOf_rel hx (vr_ev hr x)
  have hyr := vr_ev hr y
  rw [hy] at hyr
  simp only [vr] at hyr
  simp only [Dr] at hxr
  obtain ⟨ad, cap, hxe, h1, h2, h3⟩ := hxr
  refine ⟨.bool (ad.isNone != neg), .d (.bool (ad.isNone != neg)), ?_, by simp [vr, Dr], ad.isNone, rfl, fun hb => ?_⟩
  · have hg : (eqGuard (if neg then .neq else .eql) t x y (a.eval x) (a.eval y)).run P w = .ok () w := by
      rw [hxe, hyr]
      unfold eqGuard
      cases neg <;> simp
    cases neg
    · have := run_eql_slice_nil' (P := P) (w := w) ad xs.length cap hu
      simp only [Bool.false_eq_true, if_false] at ho hg
      rw [hxe, hyr] at hg
      simp only [execOp, ho, hxe, hyr, Sem.run_bind, hg, Result.andThen_ok, this, Sem.run_pure]
      simp
    · have := run_neq_slice_nil (P := P) w t e ad xs.length cap hu
      simp only [if_true] at ho hg
      rw [hxe, hyr] at hg
      simp only [execOp, ho, hxe, hyr, Sem.run_bind, hg, Result.andThen_ok, this, Sem.run_pure]
      simp
  · rcases h3 with h3 | ⟨b, o', rfl, _⟩
    · exact h3
    · simp at hb
theorem appNone_ok {o : Oper} {s x : Operand} {t t2 : TypeId} {sz by' : Nat} {xs : List D} (ho : o.op = .call { callee := .builtin .append, args := #[s, x], argTypes := #[t, t2] }) (hs : ev tm s = .ex sz xs) (hx : cont σ (ev tm x) = some (sz, []))
    (hw : elemW P t = some (sz, by')) (h2 : notIntT P t2 = true) : OpOk P o tm σ (.ex sz xs) tm σ := by
  intro w I ρ a hr hO
  obtain ⟨e, i, z, hu, hi, hz, rfl, rfl, hzs⟩ := elemW_und hw
  have hsr := vr_ev hr s
  rw [hs] at hsr
  have hsr0 := hsr
  simp only [vr] at hsr
  obtain ⟨ad, hsv, _⟩ := hsr
  obtain ⟨news, hN, hlen, hfc⟩ := cont_rel (P := P) hx (vr_ev hr x) hO
  have hnews : news = [] := by
    simp only [DrN] at hN
    exact hN
  subst hnews
  have hst : ∀ ad : Option Addr, match ad with | some a => (storeCells (a.add (xs.length * i.size)) []).run P w = .ok () w | none => w = w := by
    intro ad
    cases ad with
    | none => rfl
    | some a => simp [storeCells]
  have hrun := exec_append (a := a) ho (run_app_room (w := w) (w' := w) (ty := o.type) hu hi h2 (base := ad) (sLen := xs.length) (sCap := xs.length) (hlen w) (hfc w rfl) (by simp) (hst ad) |> fun h => by rw [hsv]; exact h)
  refine ⟨_, .slice ad xs.length xs.length, w, I, ρ, by simpa using hrun, .inl rfl, ?_, hr, hO, Ext.refl _ _ _ _⟩
  rw [hsv] at hsr0
  exact hsr0
theorem vals_at {o : Oper} {xs : List Operand} (hx : o.op.operands.toList = xs) (h : valsOf tm' o = valsOf tm o) : ∀ x ∈ xs, ev tm' x = ev tm x := by
  unfold valsOf at h
  rw [hx] at h
  exact List.map_inj_left.1 h
theorem StepQ.rule {c : List Nat} {i : Nat} {o : Oper} {v : V} (xs : List Operand) (hi : ops[i]? = some o) (hc3 : Nat.beq (c.getD i 2) 3 = false) (hw : wantA ops o tm = some true) (hd : Op.isDefer o.op = false) (hx : o.op.operands.toList = xs)
    (h : ∀ s tm', (∀ x ∈ xs, ev tm' x = ev tm x) → OpOk P o tm' s v tm' s) : StepQ P f ro n k df Q ops c i (tm, σ) (put tm o.dst v, σ) :=
  .pure hi (fun e => by rw [e] at hc3; exact absurd hc3 (by decide)) hw hd fun s tm' hv => h s tm' (vals_at hx hv)
theorem StepQ.data {c : List Nat} {i : Nat} {o : Oper} {v : V} (hi : ops[i]? = some o) (hc3 : Nat.beq (c.getD i 2) 3 = false) (hw : wantA ops o tm = some true)
    (h : ∀ s, Sem P f ro n k df Q ops o i (valsOf tm o) s v s) : StepQ P f ro n k df Q ops c i (tm, σ) (put tm o.dst v, σ) := .sem hi (fun e => by rw [e] at hc3; exact absurd hc3 (by decide)) hw h
theorem sem_data0 {i : Nat} {o : Oper} {x : Operand} {args : Array Operand} {ts : Array TypeId} {g : FuncId} {fn : Func} {c : Code} {first cap ds : List V} {v : V}
    (hF : Fnc P g fn c) (hc : CallsA P g ds [] fun r σ' => r = .ret v ∧ σ' = []) (hi : ops[i]? = some o) (ho : o.op = .call { callee := .value x, args, argTypes := ts }) (hx : ev tm x = .fn (.func g) first cap)
    (hargs : coArgs P fn.params.toList (first ++ args.toList.map (ev tm) ++ cap) = ds) (hl : (V.locsL ds).isEmpty = true) (hv : v.locs.isEmpty = true) (σ : Store) :
    Sem P f ro n k df Q ops o i (valsOf tm o) σ v σ := by
  have h := sem_data (P := P) (f := f) (ro := ro) (n := n) (k := k) (df := df) (Q := Q) hF hc hi ho hx hargs hl σ
  rw [V.ren_none v (by simpa using hv)] at h
  simpa using h
theorem build0_ok {o : Oper} {t e : TypeId} {sz sz' : Nat} (ho : o.op = .buildSlice t 0 #[]) (hu : P.underlying t = some (.slice e)) (hi : (P.info? e).map (·.size) = some sz') : OpOk P o tm σ (.ex sz []) tm σ := by
  intro w I ρ a hr hO
  have hrun : (execOp a.eval o).run P w = .ok (.value (.slice (some ⟨w.heap.size, 0, none⟩) 0 0)) (w.alloc (.cells #[] e)) := by
    simp only [Option.map_eq_some_iff] at hi
    obtain ⟨ie, hi, _⟩ := hi
    simp [execOp, ho, Instr.buildSlice, run_underlying hu, sizeOf, typeInfo, hi, Instr.fill, newRow]
    have h0 : ∀ g : Nat → Value, Array.map g (Array.range 0) = #[] := fun g => by apply Array.eq_empty_of_size_eq_zero; simp
    rw [h0]
  have hI : ∀ b, I b → I b ∧ (w.alloc (.cells #[] e)).heap[b]? = w.heap[b]? := fun b hb => ⟨hb, heap_alloc_old _ _ _ (hO.imm b hb).1⟩
  have hS : ∀ l, l < σ.length → Same ρ σ ρ σ l := fun l hl => ⟨hl, fun o' h1 h2 => ⟨rfl, o', h1, h2, rfl⟩⟩
  have hx := Ext.refl w I ρ σ
  refine ⟨_, _, _, I, ρ, hrun, .inl rfl, ?_, vrL_all hI hS hr, ⟨fun l o hl => ?_, hO.inj, fun b hb => ?_, fun b hb => ?_⟩, ⟨by simp, rfl, rfl, rfl, fun b hb _ => heap_alloc_old _ _ _ hb, hx.immI, hx.immN, hx.footN, Nat.le_refl _, hx.alive, hx.fixed, hx.stay⟩⟩
  · simp only [vr, Dr, List.length_nil]
    exact ⟨_, rfl, _, 0, rfl, by omega, by simp [maxLen], .inl trivial⟩
  · by_cases hd : o = .dead
    · subst hd; simp [orel]
    · exact orel_all hI hS rfl (fun L hL => heap_alloc_old _ _ _ (hO.flt _ ⟨l, o, L, hl, hd, hL, rfl⟩)) (hO.objs l o hl)
  · have := hO.flt b hb; simp; omega
  · have := (hO.imm b hb).1
    exact ⟨by simp; omega, (hO.imm b hb).2⟩
theorem AW.virt (l i sz : Nat) {cs : List V} (hl : σ[l]? = some (.cells cs)) (hi : cs[i]? = some .nils) (h : AW P f ro n T tm (σ.set l (.cells (cs.set i (.row σ.length))) ++ [.row sz [] false]) df Q) : AW P f ro n T tm σ df Q := by
  intro w I ρ a rb hr hb hn
  have hO := hr.ors
  have hlt : l < σ.length := (List.getElem?_eq_some_iff.1 hl).1
  let σ2 : Store := σ.set l (.cells (cs.set i (.row σ.length))) ++ [.row sz [] false]
  let ρ2 : LM := fun x => if x = σ.length then none else ρ x
  have hlen : σ2.length = σ.length + 1 := by simp [σ2]
  have g1 : ∀ x, x < σ.length → x ≠ l → σ2[x]? = σ[x]? := fun x hx hxl => by
    show (_ ++ _)[x]? = _
    rw [List.getElem?_append_left (by simp; exact hx), List.getElem?_set_ne (Ne.symm hxl)]
  have g2 : σ2[l]? = some (.cells (cs.set i (.row σ.length))) := by
    show (_ ++ _)[l]? = _
    rw [List.getElem?_append_left (by simp; exact hlt), List.getElem?_set_self hlt]
  have g3 : σ2[σ.length]? = some (.row sz [] false) := by
    show (_ ++ _)[σ.length]? = _
    rw [List.getElem?_append_right (by simp)]
    simp
  have g4 : ∀ x, x < σ.length → ρ2 x = ρ x := fun x hx => by show (if _ then _ else _) = _; rw [if_neg (by omega)]
  have hS : ∀ x, x < σ.length → Same ρ σ ρ2 σ2 x := by
    intro x hx
    refine ⟨by omega, fun o' h1 h2 => ⟨g4 x hx, ?_⟩⟩
    by_cases hxl : x = l
    · subst hxl
      rw [g2] at h1; cases h1
      exact ⟨_, hl, by simp, rfl⟩
    · rw [g1 x hx hxl] at h1
      exact ⟨o', h1, h2, rfl⟩
  have hI : ∀ b, I b → I b ∧ w.heap[b]? = w.heap[b]? := fun b hb => ⟨hb, rfl⟩
  have cases3 : ∀ x o, σ2[x]? = some o → x = σ.length ∧ o = .row sz [] false ∨ x < σ.length ∧ ∃ o1, σ[x]? = some o1 ∧ (o = .dead ↔ o1 = .dead) ∧ o1.alike o ∧ o1.still = o.still ∧ o1.ld = o.ld := by
    intro x o hx
    have hxl : x < σ2.length := (List.getElem?_eq_some_iff.1 hx).1
    by_cases h1 : x = σ.length
    · subst h1
      rw [g3] at hx; cases hx
      exact .inl ⟨rfl, rfl⟩
    · have h2 : x < σ.length := by omega
      refine .inr ⟨h2, ?_⟩
      by_cases h3 : x = l
      · subst h3
        rw [g2] at hx; cases hx
        exact ⟨_, hl, by simp, rfl, rfl, rfl⟩
      · rw [g1 x h2 h3] at hx
        exact ⟨o, hx, Iff.rfl, rfl, rfl, rfl⟩
  have hfoot : ∀ b, foot ρ2 σ2 b → foot ρ σ b := by
    rintro b ⟨x, o, L, h1, h2, h3, h4⟩
    rcases cases3 x o h1 with ⟨rfl, rfl⟩ | ⟨hx, o1, h5, h6, _⟩
    · simp [ρ2] at h3
    · rw [g4 x hx] at h3
      exact ⟨x, o1, L, h5, fun e => h2 (h6.2 e), h3, h4⟩
  have hO2 : ORel w I ρ2 σ2 := by
    refine ⟨fun x o hx => ?_, fun x y L L' hv hv' hL hL' hb => ?_, fun b hb => hO.flt b (hfoot b hb), fun b hb => ⟨(hO.imm b hb).1, fun h => (hO.imm b hb).2 (hfoot b h)⟩⟩
    · by_cases h1 : x = σ.length
      · subst h1
        rw [g3] at hx; cases hx
        simp only [orel]
        exact .inl ⟨by simp [ρ2], trivial⟩
      · have hxl : x < σ2.length := (List.getElem?_eq_some_iff.1 hx).1
        have h2 : x < σ.length := by omega
        by_cases h3 : x = l
        · subst h3
          rw [g2] at hx; cases hx
          have ho := hO.objs x _ hl
          simp only [orel] at ho ⊢
          obtain ⟨L, C, T, fz, k1, k2, k3, k4, k5, k6⟩ := ho
          refine ⟨L, C, T, fz, (g4 x h2).trans k1, k2, k3, k4, ?_, k6⟩
          have k7 := vrL_all hI hS k5
          obtain ⟨y, hy, hyv⟩ := vrL_get? k5 hi
          have k8 : vr w I ρ2 σ2 (.row σ.length) y := by
            simp only [vr] at hyv ⊢
            refine ⟨k6 y (List.mem_of_getElem? hy), by omega, fun sz' xs mv hx => ?_⟩
            rw [g3] at hx; cases hx
            subst hyv
            exact .inl ⟨rfl, none, rfl⟩
          have k9 := vrL_set k7 i k8
          rwa [show C.toList.set i y = C.toList from by
            apply List.ext_getElem?
            intro j
            by_cases hj : j = i
            · subst hj
              rw [List.getElem?_set_self (List.getElem?_eq_some_iff.1 hy).1, hy]
            · rw [List.getElem?_set_ne (Ne.symm hj)]] at k9
        · rw [g1 x h2 h3] at hx
          by_cases hd : o = .dead
          · subst hd; simp [orel]
          · exact orel_all hI hS (g4 x h2) (fun L hL => rfl) (hO.objs x o hx)
    · obtain ⟨o, h1, h2⟩ := hv
      obtain ⟨o', h1', h2'⟩ := hv'
      rcases cases3 x o h1 with ⟨rfl, rfl⟩ | ⟨hx, o1, h5, h6, _⟩
      · simp [ρ2] at hL
      · rcases cases3 y o' h1' with ⟨rfl, rfl⟩ | ⟨hy, o2, h7, h8, _⟩
        · simp [ρ2] at hL'
        · rw [g4 x hx] at hL
          rw [g4 y hy] at hL'
          exact hO.inj x y L L' ⟨o1, h5, fun e => h2 (h6.2 e)⟩ ⟨o2, h7, fun e => h2' (h8.2 e)⟩ hL hL' hb
  have hE : Ext σ.length w I ρ σ w I ρ2 σ2 := by
    refine ⟨Nat.le_refl _, rfl, rfl, rfl, fun _ _ _ => rfl, fun b hb => hb, fun b hb => .inl hb, fun b hb => .inl (hfoot b hb), by omega, fun x hx ⟨o, h1, h2⟩ => ?_, fun x o' hx h1 h2 => ?_, fun x o hx h1 h2 => ?_⟩
    · rcases cases3 x o h1 with ⟨rfl, rfl⟩ | ⟨hx, o1, h5, h6, _⟩
      · omega
      · exact ⟨o1, h5, fun e => h2 (h6.2 e)⟩
    · rcases cases3 x o' h1 with ⟨rfl, rfl⟩ | ⟨hx, o1, h5, h6, h7, h8, _⟩
      · omega
      · exact ⟨g4 x hx, o1, h5, by rw [h8]; exact h2, h7⟩
    · by_cases hxl : x = l
      · subst hxl
        rw [hl] at h1; cases h1
        exact ⟨_, g2, rfl⟩
      · exact ⟨o, by rw [g1 x hx hxl]; exact h1, rfl⟩
  have hst := hE.stays
  exact (h w I ρ2 a rb ⟨vrL_all hI hS hr.tms, hO2, dfr_stay hst hr.dfs⟩ (rbOf_stay hst hb) (by show n ≤ σ2.length; omega)).mono fun e w' hf => hf.trans (hE.less hn)
theorem AW.virtX (l i sz : Nat) {cs : List V} (hl : σ[l]? = some (.cells cs)) (hi : cs[i]? = some (.ex sz [])) (h : AW P f ro n T tm (σ.set l (.cells (cs.set i (.row σ.length))) ++ [.row sz [] false]) df Q) : AW P f ro n T tm σ df Q := by
  intro w I ρ a rb hr hb hn
  have hO := hr.ors
  have hlt : l < σ.length := (List.getElem?_eq_some_iff.1 hl).1
  let σ2 : Store := σ.set l (.cells (cs.set i (.row σ.length))) ++ [.row sz [] false]
  let ρ2 : LM := fun x => if x = σ.length then none else ρ x
  have hlen : σ2.length = σ.length + 1 := by simp [σ2]
  have g1 : ∀ x, x < σ.length → x ≠ l → σ2[x]? = σ[x]? := fun x hx hxl => by
    show (_ ++ _)[x]? = _
    rw [List.getElem?_append_left (by simp; exact hx), List.getElem?_set_ne (Ne.symm hxl)]
  have g2 : σ2[l]? = some (.cells (cs.set i (.row σ.length))) := by
    show (_ ++ _)[l]? = _
    rw [List.getElem?_append_left (by simp; exact hlt), List.getElem?_set_self hlt]
  have g3 : σ2[σ.length]? = some (.row sz [] false) := by
    show (_ ++ _)[σ.length]? = _
    rw [List.getElem?_append_right (by simp)]
    simp
  have g4 : ∀ x, x < σ.length → ρ2 x = ρ x := fun x hx => by show (if _ then _ else _) = _; rw [if_neg (by omega)]
  have hS : ∀ x, x < σ.length → Same ρ σ ρ2 σ2 x := by
    intro x hx
    refine ⟨by omega, fun o' h1 h2 => ⟨g4 x hx, ?_⟩⟩
    by_cases hxl : x = l
    · subst hxl
      rw [g2] at h1; cases h1
      exact ⟨_, hl, by simp, rfl⟩
    · rw [g1 x hx hxl] at h1
      exact ⟨o', h1, h2, rfl⟩
  have hI : ∀ b, I b → I b ∧ w.heap[b]? = w.heap[b]? := fun b hb => ⟨hb, rfl⟩
  have cases3 : ∀ x o, σ2[x]? = some o → x = σ.length ∧ o = .row sz [] false ∨ x < σ.length ∧ ∃ o1, σ[x]? = some o1 ∧ (o = .dead ↔ o1 = .dead) ∧ o1.alike o ∧ o1.still = o.still ∧ o1.ld = o.ld := by
    intro x o hx
    have hxl : x < σ2.length := (List.getElem?_eq_some_iff.1 hx).1
    by_cases h1 : x = σ.length
    · subst h1
      rw [g3] at hx; cases hx
      exact .inl ⟨rfl, rfl⟩
    · have h2 : x < σ.length := by omega
      refine .inr ⟨h2, ?_⟩
      by_cases h3 : x = l
      · subst h3
        rw [g2] at hx; cases hx
        exact ⟨_, hl, by simp, rfl, rfl, rfl⟩
      · rw [g1 x h2 h3] at hx
        exact ⟨o, hx, Iff.rfl, rfl, rfl, rfl⟩
  have hfoot : ∀ b, foot ρ2 σ2 b → foot ρ σ b := by
    rintro b ⟨x, o, L, h1, h2, h3, h4⟩
    rcases cases3 x o h1 with ⟨rfl, rfl⟩ | ⟨hx, o1, h5, h6, _⟩
    · simp [ρ2] at h3
    · rw [g4 x hx] at h3
      exact ⟨x, o1, L, h5, fun e => h2 (h6.2 e), h3, h4⟩
  have hO2 : ORel w I ρ2 σ2 := by
    refine ⟨fun x o hx => ?_, fun x y L L' hv hv' hL hL' hb => ?_, fun b hb => hO.flt b (hfoot b hb), fun b hb => ⟨(hO.imm b hb).1, fun h => (hO.imm b hb).2 (hfoot b h)⟩⟩
    · by_cases h1 : x = σ.length
      · subst h1
        rw [g3] at hx; cases hx
        simp only [orel]
        exact .inl ⟨by simp [ρ2], trivial⟩
      · have hxl : x < σ2.length := (List.getElem?_eq_some_iff.1 hx).1
        have h2 : x < σ.length := by omega
        by_cases h3 : x = l
        · subst h3
          rw [g2] at hx; cases hx
          have ho := hO.objs x _ hl
          simp only [orel] at ho ⊢
          obtain ⟨L, C, T, fz, k1, k2, k3, k4, k5, k6⟩ := ho
          refine ⟨L, C, T, fz, (g4 x h2).trans k1, k2, k3, k4, ?_, k6⟩
          have k7 := vrL_all hI hS k5
          obtain ⟨y, hy, hyv⟩ := vrL_get? k5 hi
          have k8 : vr w I ρ2 σ2 (.row σ.length) y := by
            simp only [vr] at hyv ⊢
            refine ⟨k6 y (List.mem_of_getElem? hy), by omega, fun sz' xs mv hx => ?_⟩
            rw [g3] at hx; cases hx
            obtain ⟨ad, hyv, _⟩ := hyv
            exact .inl ⟨rfl, ad, hyv⟩
          have k9 := vrL_set k7 i k8
          rwa [show C.toList.set i y = C.toList from by
            apply List.ext_getElem?
            intro j
            by_cases hj : j = i
            · subst hj
              rw [List.getElem?_set_self (List.getElem?_eq_some_iff.1 hy).1, hy]
            · rw [List.getElem?_set_ne (Ne.symm hj)]] at k9
        · rw [g1 x h2 h3] at hx
          by_cases hd : o = .dead
          · subst hd; simp [orel]
          · exact orel_all hI hS (g4 x h2) (fun L hL => rfl) (hO.objs x o hx)
    · obtain ⟨o, h1, h2⟩ := hv
      obtain ⟨o', h1', h2'⟩ := hv'
      rcases cases3 x o h1 with ⟨rfl, rfl⟩ | ⟨hx, o1, h5, h6, _⟩
      · simp [ρ2] at hL
      · rcases cases3 y o' h1' with ⟨rfl, rfl⟩ | ⟨hy, o2, h7, h8, _⟩
        · simp [ρ2] at hL'
        · rw [g4 x hx] at hL
          rw [g4 y hy] at hL'
          exact hO.inj x y L L' ⟨o1, h5, fun e => h2 (h6.2 e)⟩ ⟨o2, h7, fun e => h2' (h8.2 e)⟩ hL hL' hb
  have hE : Ext σ.length w I ρ σ w I ρ2 σ2 := by
    refine ⟨Nat.le_refl _, rfl, rfl, rfl, fun _ _ _ => rfl, fun b hb => hb, fun b hb => .inl hb, fun b hb => .inl (hfoot b hb), by omega, fun x hx ⟨o, h1, h2⟩ => ?_, fun x o' hx h1 h2 => ?_, fun x o hx h1 h2 => ?_⟩
    · rcases cases3 x o h1 with ⟨rfl, rfl⟩ | ⟨hx, o1, h5, h6, _⟩
      · omega
      · exact ⟨o1, h5, fun e => h2 (h6.2 e)⟩
    · rcases cases3 x o' h1 with ⟨rfl, rfl⟩ | ⟨hx, o1, h5, h6, h7, h8, _⟩
      · omega
      · exact ⟨g4 x hx, o1, h5, by rw [h8]; exact h2, h7⟩
    · by_cases hxl : x = l
      · subst hxl
        rw [hl] at h1; cases h1
        exact ⟨_, g2, rfl⟩
      · exact ⟨o, by rw [g1 x hx hxl]; exact h1, rfl⟩
  have hst := hE.stays
  exact (h w I ρ2 a rb ⟨vrL_all hI hS hr.tms, hO2, dfr_stay hst hr.dfs⟩ (rbOf_stay hst hb) (by show n ≤ σ2.length; omega)).mono fun e w' hf => hf.trans (hE.less hn)
end
end Go.Br
namespace Go.Br
open Go
section
variable {P : Program} {f : FuncId} {ro : Option Nat} {n : Nat} {k : List Item} {T T' : List Item} {tm tm' : List V} {σ σ' : Store} {df : List Nat} {Q : AE → Store → Prop} {ops : Array Oper}
def isBegin (T : List Item) : Bool := match T with | .beginRound :: _ => true | _ => false
theorem AW.beginH {l : Nat} {pend : Option Code} {fn : FuncId} {tml : List V} {ps : Array Tmp} {as bd : Code} (hb : isBegin T = true) (hT : cgo 1 [] T = T') (hl : σ[l]? = some (.loop .ready pend fn tml ps as bd))
    (h : AW P f (some l) n T' tm (σ.set l (.loop .busy pend fn tml ps as bd)) df Q) : AW P f (some l) n T tm σ df Q := by
  subst hT
  unfold isBegin at hb
  split at hb
  · exact .beginRound hl h
  · cases hb
theorem AW.roundEndH {l : Nat} {st : LoopState} {pend : Option Code} {fn : FuncId} {tml : List V} {ps : Array Tmp} {as bd : Code} (hT : T = []) (hl : σ[l]? = some (.loop st pend fn tml ps as bd))
    (hq : Q (.ret (.d (.bool true))) (σ.set l (.loop .ready none fn tml ps as bd))) : AW P f (some l) n T tm σ df Q := by
  subst hT; exact .roundEnd hl hq
def rfG (T : List Item) : Operand := match T with | .code (.rangeFunc g _ _ _) :: _ => g | _ => .global 0
def rfPs (T : List Item) : Array Tmp := match T with | .code (.rangeFunc _ ps _ _) :: _ => ps | _ => #[]
def rfAs (T : List Item) : Code := match T with | .code (.rangeFunc _ _ as _) :: _ => as | _ => .skip
def rfBd (T : List Item) : Code := match T with | .code (.rangeFunc _ _ _ bd) :: _ => bd | _ => .skip
def isRange (T : List Item) : Bool := match T with | .code (.rangeFunc ..) :: _ => true | _ => false
def lp (T : List Item) (f : FuncId) (tm : List V) (st : LoopState) : O := .loop st none f tm (rfPs T) (rfAs T) (rfBd T)
theorem AW.rangeH {h : FuncId} {fn : Func} {c : Code} {first cap : List V} (m : List Nat) (cargs : List V) (σc : Store) {Qc : AE → Store → Prop}
    (hF : Fnc P h fn c) (ht : isRange T = true) (hT : cgo 1 [] T = T') (hx : ev tm (rfG T) = .fn (.func h) first cap) (hc : CallsA P h cargs σc Qc)
    (hargs : coArgs P fn.params.toList (first ++ [.yield (σ.length + 1)] ++ cap) = V.renL (mp m (σ.length + 2)) cargs) (hbel : (belB σc.length σc && (V.locsL cargs).all fun l => Nat.blt l σc.length) = true)
    (hwi : within (σ ++ [.defd, lp T f tm .ready]) m σc)
    (hk : ∀ r σc', Qc r σc' → ∃ v st tml ps' as' bd' fn', r = .ret v ∧ st ≠ .busy ∧ (merge (σ ++ [.defd, lp T f tm .ready]) m σc')[σ.length + 1]? = some (.loop st none fn' tml ps' as' bd') ∧
      AW P f none n T' (V.killL (movedB m σc') tm) ((merge (σ ++ [.defd, lp T f tm .ready]) m σc').set (σ.length + 1) (.loop .exhausted none fn' tml ps' as' bd')) (σ.length :: df) Q) :
    AW P f none n T tm σ df Q := by
  subst hT
  unfold isRange at ht
  split at ht
  · refine AW.rangeFunc m cargs σc hF hc hx hargs hbel hwi fun r σc' hq => ?_
    obtain ⟨v, st, tml, ps', as', bd', fn', h1, h2, h3, h4⟩ := hk r σc' hq
    exact ⟨v, st, none, tml, ps', as', bd', fn', h1, h2, h3, h4⟩
  · cases ht
theorem AW.yieldH {o : Oper} {x : Operand} {args : Array Operand} {ts : Array TypeId} {l : Nat} {st : LoopState} {pend : Option Code} {fn : FuncId} {tml : List V} {ps : Array Tmp} {as bd : Code} {Qr : AE → Store → Prop} {R : List Item}
    (hi : opOf T = some o) (hw : wantA (opsOf T) o tm = some true) (ho : o.op = .call { callee := .value x, args, argTypes := ts }) (hT : tlOf T = T') (hx : ev tm x = .yield l) (hl : σ[l]? = some (.loop st pend fn tml ps as bd)) (hps : args.size = ps.size)
    (hR : [.code as, .beginRound, .code bd] = R) (hr : AW P fn (some l) σ.length R (roundTm tml ps.toList (args.toList.map (ev tm))) σ [] Qr)
    (hk : ∀ r σ', Qr r σ' → ∃ v, r = .ret v ∧ AW P f ro n T' (put (V.killL (mvB σ') tm) o.dst v) σ' df Q) : AW P f ro n T tm σ df Q := by
  subst hT hR
  unfold opOf at hi
  split at hi
  · rename_i ops i r k
    exact .yield hi hw ho hx hl hps hr hk
  · cases hi
theorem AW.retD {fn : Func} {c : Code} {v : V} (hF : Fnc P f fn c) (hT : isRet T = true) (hd : nodupB df = true ∧ (df.all fun l => Nat.ble n l) = true) (hs : df.foldl (fun s l => s.set l .dead) σ = σ') (hres : resA P fn tm σ' = some v) (hq : Q (.ret v) σ') : AW P f none n T tm σ df Q := by
  subst hs
  unfold isRet at hT
  split at hT
  · exact .ret hF hd hres hq
  · exact .fin hF hd hres hq
  · cases hT
theorem AW.draw2H (c : List Nat) (a b : Nat) (M1 M2 : List Nat) (hm : P.follows .mixedOrders = true) (ht : isDraw T = true)
    (hok : (edgesB (drawOf T) && orderB (drawOf T) c [(a, b)] M1 && orderB (drawOf T) c [(b, a)] M2 && Nat.blt a (drawOf T).size && Nat.blt b (drawOf T).size && !(Nat.beq a b)) = true) (hT : cgo 1 [] T = T')
    (run1 : ∀ k, Run (StepQ P f ro n k df Q (drawOf T) c) M1 (tm, σ) (tm', σ')) (run2 : ∀ k, Run (StepQ P f ro n k df Q (drawOf T) c) M2 (tm, σ) (tm', σ')) (h : AW P f ro n T' tm' σ' df Q) : AW P f ro n T tm σ df Q := by
  subst hT
  simp only [Bool.and_eq_true, Nat.blt_eq, Bool.not_eq_true'] at hok
  obtain ⟨⟨⟨⟨⟨h1, h2⟩, h3⟩, h4⟩, h5⟩, h6⟩ := hok
  have hne : a ≠ b := fun e => by subst e; simp at h6
  unfold isDraw at ht
  split at ht
  · refine .order hm h1 fun L hL => ?_
    rcases ahead_or hL a b h4 h5 hne with hh | hh
    · exact .among hL c [(a, b)] M1 (fun p hp => by simp at hp; subst hp; exact hh) h2 (run1 _) (.regionEnd h)
    · exact .among hL c [(b, a)] M2 (fun p hp => by simp at hp; subst hp; exact hh) h3 (run2 _) (.regionEnd h)
  · cases ht
theorem AW.beginL {T0 : List Item} {l : Nat} {fn : FuncId} {tml : List V} (hb : isBegin T = true) (hT : cgo 1 [] T = T') (hl : σ[l]? = some (lp T0 fn tml .ready)) (hs : σ.set l (lp T0 fn tml .busy) = σ')
    (h : AW P f (some l) n T' tm σ' df Q) : AW P f (some l) n T tm σ df Q := by
  subst hs; exact .beginH hb hT hl h
theorem AW.roundEndL {T0 : List Item} {l : Nat} {fn : FuncId} {tml : List V} {st : LoopState} (hT : T = []) (hl : σ[l]? = some (lp T0 fn tml st)) (hs : σ.set l (lp T0 fn tml .ready) = σ')
    (hq : Q (.ret (.d (.bool true))) σ') : AW P f (some l) n T tm σ df Q := by
  subst hs; exact .roundEndH hT hl hq
theorem AW.yieldL {T0 : List Item} {o : Oper} {x : Operand} {args : Array Operand} {ts : Array TypeId} {l : Nat} {st : LoopState} {fn : FuncId} {tml tmr : List V} {Qr : AE → Store → Prop} {R : List Item}
    (hi : opOf T = some o) (hw : wantA (opsOf T) o tm = some true) (ho : o.op = .call { callee := .value x, args, argTypes := ts }) (hT : tlOf T = T') (hx : ev tm x = .yield l) (hl : σ[l]? = some (lp T0 fn tml st)) (hps : args.size = (rfPs T0).size)
    (hR : [.code (rfAs T0), .beginRound, .code (rfBd T0)] = R) (htm : roundTm tml (rfPs T0).toList (args.toList.map (ev tm)) = tmr) {N : Nat} (hN : σ.length = N) (hr : AW P fn (some l) N R tmr σ [] Qr)
    (hk : ∀ r σ', Qr r σ' → ∃ v, r = .ret v ∧ AW P f ro n T' (put (V.killL (mvB σ') tm) o.dst v) σ' df Q) : AW P f ro n T tm σ df Q := by
  subst htm hN
  exact .yieldH hi hw ho hT hx hl hps hR hr hk
theorem CallsA.pure {g : FuncId} {args : List V} {v : V} (h : CallsA P g args [] fun r _ => r = .ret v) (hl : v.locs = []) : Pure P g args v := by
  intro w I ρ xs hx hO
  refine (h w I ρ xs hx hO).mono ?_
  rintro e w' ⟨I', ρ', σ', r, rfl, ⟨x, he, hv⟩, hO', hE⟩
  refine ⟨I', ρ', [], _, ⟨rfl, rfl⟩, ⟨x, he, vr_up (fun b hb => ⟨hb, rfl⟩) v x (fun l hl' => by rw [hl] at hl'; cases hl') hv⟩, ⟨fun l o h => by simp at h, fun l l' L L' h => by obtain ⟨o, h, _⟩ := h; simp at h, fun b h => by obtain ⟨l, o, L, h, _⟩ := h; simp at h, fun b hb => ⟨(hO'.imm b hb).1, fun h => by obtain ⟨l, o, L, h, _⟩ := h; simp at h⟩⟩, ?_⟩
  exact ⟨hE.size, hE.os, hE.tape, hE.output, hE.old, hE.immI, hE.immN, fun b h => by obtain ⟨l, o, L, h, _⟩ := h; simp at h, Nat.le_refl _, fun l hl => by simp at hl, fun l o' hl => by simp at hl, fun l o hl => by simp at hl⟩
theorem allocNil_ok {o : Oper} {t : TypeId} (ho : o.op = .alloc t) (hz : (P.info? t).bind (·.zero) = some (.slice none 0 0)) : OpOk P o tm σ (.ptr σ.length 0 0) tm (σ ++ [.cells [.nils]]) := by
  intro w I ρ a hr hO
  cases hi : P.info? t with
  | none => simp [hi] at hz
  | some i =>
    rw [hi, Option.bind_some] at hz
    have hc : (Value.slice none 0 0).cells = #[.slice none 0 0] := rfl
    exact newCells_ok (t := t) (cs := #[.slice none 0 0]) hr hO (by simp [vrL, vr]) (by simp [one, Value.oneCell']) (by simp [execOp, ho, Instr.alloc, zeroValue, typeInfo, hi, hz, newVar, newRow, hc])
theorem AW.virtT (i sz : Nat) (hi : tm[i]? = some .nils) (h : AW P f ro n T (tm.set i (.row σ.length)) (σ ++ [.row sz [] false]) df Q) : AW P f ro n T tm σ df Q := by
  intro w I ρ a rb hr hb hn
  have hO := hr.ors
  let σ2 : Store := σ ++ [.row sz [] false]
  let ρ2 : LM := fun x => if x = σ.length then none else ρ x
  have hlen : σ2.length = σ.length + 1 := by simp [σ2]
  have g1 : ∀ x, x < σ.length → σ2[x]? = σ[x]? := fun x hx => List.getElem?_append_left hx
  have g3 : σ2[σ.length]? = some (.row sz [] false) := by
    show (_ ++ _)[σ.length]? = _
    rw [List.getElem?_append_right (by omega)]
    simp
  have g4 : ∀ x, x < σ.length → ρ2 x = ρ x := fun x hx => by show (if _ then _ else _) = _; rw [if_neg (by omega)]
  have hS : ∀ x, x < σ.length → Same ρ σ ρ2 σ2 x := fun x hx => ⟨by omega, fun o' h1 h2 => ⟨g4 x hx, o', by rw [← g1 x hx]; exact h1, h2, rfl⟩⟩
  have hI : ∀ b, I b → I b ∧ w.heap[b]? = w.heap[b]? := fun b hb => ⟨hb, rfl⟩
  have cases3 : ∀ x o, σ2[x]? = some o → x = σ.length ∧ o = .row sz [] false ∨ x < σ.length ∧ σ[x]? = some o := by
    intro x o hx
    have hxl : x < σ2.length := (List.getElem?_eq_some_iff.1 hx).1
    by_cases h1 : x = σ.length
    · subst h1
      rw [g3] at hx; cases hx
      exact .inl ⟨rfl, rfl⟩
    · have h2 : x < σ.length := by omega
      exact .inr ⟨h2, by rw [← g1 x h2]; exact hx⟩
  have hfoot : ∀ b, foot ρ2 σ2 b → foot ρ σ b := by
    rintro b ⟨x, o, L, h1, h2, h3, h4⟩
    rcases cases3 x o h1 with ⟨rfl, rfl⟩ | ⟨hx, h5⟩
    · simp [ρ2] at h3
    · rw [g4 x hx] at h3
      exact ⟨x, o, L, h5, h2, h3, h4⟩
  have hO2 : ORel w I ρ2 σ2 := by
    refine ⟨fun x o hx => ?_, fun x y L L' hv hv' hL hL' hb => ?_, fun b hb => hO.flt b (hfoot b hb), fun b hb => ⟨(hO.imm b hb).1, fun h => (hO.imm b hb).2 (hfoot b h)⟩⟩
    · rcases cases3 x o hx with ⟨rfl, rfl⟩ | ⟨h2, h5⟩
      · simp only [orel]
        exact .inl ⟨by simp [ρ2], trivial⟩
      · by_cases hd : o = .dead
        · subst hd; simp [orel]
        · exact orel_all hI hS (g4 x h2) (fun L hL => rfl) (hO.objs x o h5)
    · obtain ⟨o, h1, h2⟩ := hv
      obtain ⟨o', h1', h2'⟩ := hv'
      rcases cases3 x o h1 with ⟨rfl, rfl⟩ | ⟨hx, h5⟩
      · simp [ρ2] at hL
      · rcases cases3 y o' h1' with ⟨rfl, rfl⟩ | ⟨hy, h7⟩
        · simp [ρ2] at hL'
        · rw [g4 x hx] at hL
          rw [g4 y hy] at hL'
          exact hO.inj x y L L' ⟨o, h5, h2⟩ ⟨o', h7, h2'⟩ hL hL' hb
  have hE : Ext σ.length w I ρ σ w I ρ2 σ2 := by
    refine ⟨Nat.le_refl _, rfl, rfl, rfl, fun _ _ _ => rfl, fun b hb => hb, fun b hb => .inl hb, fun b hb => .inl (hfoot b hb), by omega, fun x hx ⟨o, h1, h2⟩ => ?_, fun x o' hx h1 h2 => ?_, fun x o hx h1 h2 => ?_⟩
    · exact ⟨o, by rw [← g1 x hx]; exact h1, h2⟩
    · exact ⟨g4 x hx, o', by rw [← g1 x hx]; exact h1, h2, rfl⟩
    · exact ⟨o, by rw [g1 x hx]; exact h1, rfl⟩
  have hst := hE.stays
  obtain ⟨y, hy, hyv⟩ := vrL_get? hr.tms hi
  have k8 : vr w I ρ2 σ2 (.row σ.length) y := by
    simp only [vr] at hyv ⊢
    subst hyv
    refine ⟨rfl, by omega, fun sz' xs mv hx => ?_⟩
    rw [g3] at hx; cases hx
    exact .inl ⟨rfl, none, rfl⟩
  have k9 := vrL_set (vrL_all hI hS hr.tms) i k8
  rw [show a.tmps.toList.set i y = a.tmps.toList from by
    apply List.ext_getElem?
    intro j
    by_cases hj : j = i
    · subst hj
      rw [List.getElem?_set_self (List.getElem?_eq_some_iff.1 hy).1, hy]
    · rw [List.getElem?_set_ne (Ne.symm hj)]] at k9
  exact (h w I ρ2 a rb ⟨k9, hO2, dfr_stay hst hr.dfs⟩ (rbOf_stay hst hb) (by show n ≤ σ2.length; omega)).mono fun e w' hf => hf.trans (hE.less hn)
theorem CallsA.view {g : FuncId} {args : List V} {v : V} {d : D} {σ0 : Store} (h : CallsA P g args [] fun r σ' => r = .ret v ∧ σ' = σ0) (hv : viewV σ0 v = some d) : Pure P g args (.d d) := by
  intro w I ρ xs hx hO
  refine (h w I ρ xs hx hO).mono ?_
  rintro e w' ⟨I', ρ', σ', r, ⟨rfl, rfl⟩, ⟨x, he, hx'⟩, hO', hE⟩
  refine ⟨lent I' ρ' σ', ρ', [], _, ⟨rfl, rfl⟩, ⟨x, he, by simp only [vr]; exact view_ok hO' hv hx'⟩, lent_orel hO', ?_⟩
  refine ⟨hE.size, hE.os, hE.tape, hE.output, hE.old, fun b hb => .inl (hE.immI b hb), fun b hb => ?_, fun b h => by obtain ⟨l, o, L, h, _⟩ := h; simp at h, Nat.le_refl _, fun l hl => by simp at hl, fun l o' hl => by simp at hl, fun l o hl => by simp at hl⟩
  rcases hb with hb | hb
  · exact hE.immN b hb
  · rcases hE.footN b hb with h | h
    · exact .inr (.inl h)
    · exact .inr (.inr h)
theorem freeze_self {w : World} {g : Nat} {C : Array Value} {T : TypeId} {fz : Nat × Nat} (h : w.heap[g]? = some (.cells C T fz)) (m k : Nat) (hk : k ≠ 0) :
    (w.freeze ⟨g, m, none⟩ k).heap[g]? = some (.cells C T (if fz.1 == fz.2 then (m, m + k) else (min fz.1 m, max fz.2 (m + k)))) := by
  obtain ⟨lo, hi⟩ := fz
  have hlt : g < w.heap.size := (Array.getElem?_eq_some_iff.1 h).1
  simp only [World.freeze, hk, if_false]
  rw [Array.getElem?_modify, if_pos rfl, h]
  rfl
theorem freeze_other {w : World} {g b : Nat} (h : b ≠ g) (m k : Nat) : (w.freeze ⟨g, m, none⟩ k).heap[b]? = w.heap[b]? := by
  unfold World.freeze
  split
  · rfl
  · simp only []
    rw [Array.getElem?_modify, if_neg (Ne.symm h)]
theorem freeze_size {w : World} {a : Addr} {k : Nat} : (w.freeze a k).heap.size = w.heap.size := by
  unfold World.freeze; split <;> simp
theorem freeze_rest {w : World} {a : Addr} {k : Nat} : (w.freeze a k).os = w.os ∧ (w.freeze a k).tape = w.tape ∧ (w.freeze a k).output = w.output := by
  unfold World.freeze; split <;> exact ⟨rfl, rfl, rfl⟩
section cell
variable {w w' : World} {I : Nat → Prop} {ρ : LM} {σ : Store}
mutual
theorem Dr_cell (h : ∀ b, I b → ∀ o, w'.cell? ⟨b, o, none⟩ = w.cell? ⟨b, o, none⟩) : ∀ d v, Dr w I d v → Dr w' I d v
  | .int _ _, _, hd => by simpa [Dr] using hd
  | .bool _, _, hd => by simpa [Dr] using hd
  | .str _, _, hd => by simpa [Dr] using hd
  | .raw _, _, hd => by simpa [Dr] using hd
  | .agg cs, v, hd => by
    simp only [Dr] at hd ⊢
    obtain ⟨vs, hv, hl⟩ := hd
    exact ⟨vs, hv, DrL_cell h cs vs hl⟩
  | .list sz xs, v, hd => by
    simp only [Dr] at hd ⊢
    obtain ⟨a, cap, hv, h1, h2, h3⟩ := hd
    refine ⟨a, cap, hv, h1, h2, h3.imp id ?_⟩
    rintro ⟨b, o, ha, hI, hE⟩
    exact ⟨b, o, ha, hI, DrE_cell h sz b (h b hI) o xs hE⟩
theorem DrL_cell (h : ∀ b, I b → ∀ o, w'.cell? ⟨b, o, none⟩ = w.cell? ⟨b, o, none⟩) : ∀ ds vs, DrL w I ds vs → DrL w' I ds vs
  | [], vs, hd => by simpa [DrL] using hd
  | d :: ds, vs, hd => by
    simp only [DrL] at hd ⊢
    obtain ⟨v, vs', hv, h1, h2, h3⟩ := hd
    exact ⟨v, vs', hv, h1, Dr_cell h d v h2, DrL_cell h ds vs' h3⟩
theorem DrE_cell (h : ∀ b, I b → ∀ o, w'.cell? ⟨b, o, none⟩ = w.cell? ⟨b, o, none⟩) (sz b : Nat) (hb : ∀ o, w'.cell? ⟨b, o, none⟩ = w.cell? ⟨b, o, none⟩) : ∀ o ds, DrE w I sz b o ds → DrE w' I sz b o ds
  | _, [], _ => by simp [DrE]
  | o, d :: ds, hd => by
    simp only [DrE] at hd ⊢
    obtain ⟨⟨v, h1, h2, h3⟩, h4⟩ := hd
    exact ⟨⟨v, Dr_cell h d v h1, h2, fun j hj => by rw [hb]; exact h3 j hj⟩, DrE_cell h sz b hb (o + sz) ds h4⟩
end
mutual
theorem vr_cell (h : ∀ b, I b → ∀ o, w'.cell? ⟨b, o, none⟩ = w.cell? ⟨b, o, none⟩) : ∀ (v : V) (x : Value), vr w I ρ σ v x → vr w' I ρ σ v x
  | .d d, x, hv => by simp only [vr] at *; exact Dr_cell h d x hv
  | .undef, x, _ => by simp [vr]
  | .nils, x, hv => by simpa [vr] using hv
  | .ex sz xs, x, hv => by
    simp only [vr] at *
    obtain ⟨a, h1, h2⟩ := hv
    exact ⟨a, h1, Dr_cell h _ _ h2⟩
  | .ep sz y s, x, hv => by
    simp only [vr] at *
    obtain ⟨b, o, h1, h2, u, h3, h4, h5⟩ := hv
    exact ⟨b, o, h1, h2, u, Dr_cell h _ _ h3, h4, fun j hj => by rw [h b h2]; exact h5 j hj⟩
  | .ptr _ _ _, x, hv => by simpa [vr] using hv
  | .row _, x, hv => by simpa [vr] using hv
  | .sl _ _ _ _, x, hv => by simpa [vr] using hv
  | .yield _, x, hv => by simpa [vr] using hv
  | .map _, x, hv => by simpa [vr] using hv
  | .fn f a b, x, hv => by
    simp only [vr] at *
    obtain ⟨fs, cs, e, h1, h2⟩ := hv
    exact ⟨fs, cs, e, vrL_cell h a fs h1, vrL_cell h b cs h2⟩
  | .tuple vs, x, hv => by
    simp only [vr] at *
    obtain ⟨xs, e, h1⟩ := hv
    exact ⟨xs, e, vrL_cell h vs xs h1⟩
  | .agg vs, x, hv => by
    simp only [vr] at *
    obtain ⟨xs, e, h1, h2⟩ := hv
    exact ⟨xs, e, vrL_cell h vs xs h1, h2⟩
theorem vrL_cell (h : ∀ b, I b → ∀ o, w'.cell? ⟨b, o, none⟩ = w.cell? ⟨b, o, none⟩) : ∀ (vs : List V) (xs : List Value), vrL w I ρ σ vs xs → vrL w' I ρ σ vs xs
  | [], xs, hv => by simpa [vrL] using hv
  | v :: vs, xs, hv => by
    simp only [vrL] at *
    obtain ⟨x, xs', e, h1, h2⟩ := hv
    exact ⟨x, xs', e, vr_cell h v x h1, vrL_cell h vs xs' h2⟩
end
theorem orel_cell (h : ∀ b, I b → ∀ o, w'.cell? ⟨b, o, none⟩ = w.cell? ⟨b, o, none⟩) {l : Nat} {o : O} (hh : ∀ L, ρ l = some L → w'.heap[L.b]? = w.heap[L.b]?) (ho : orel w I ρ σ l o) : orel w' I ρ σ l o := by
  cases o with
  | dead => simp [orel]
  | cells cs =>
    simp only [orel] at *
    obtain ⟨L, C, T, fz, h1, h2, h3, h4, h5, h6⟩ := ho
    exact ⟨L, C, T, fz, h1, h2, by rw [hh L h1]; exact h3, h4, vrL_cell h _ _ h5, h6⟩
  | row sz xs mv =>
    simp only [orel] at *
    rcases ho with ho | ⟨L, C, T, fz, h1, h2, h3, h4, h5, h6, h7, h8⟩
    · exact .inl ho
    · refine .inr ⟨L, C, T, fz, h1, h2, by rw [hh L h1]; exact h3, h4, h5, h6, h7, ?_⟩
      exact DrE_cell h sz L.b (fun o => by simp only [World.cell?, hh L h1]) _ _ h8
  | map es =>
    simp only [orel] at *
    obtain ⟨L, E, n, h1, h2, h3, h4, h5, h6⟩ := ho
    refine ⟨L, E, n, h1, h2, by rw [hh L h1]; exact h3, h4, fun j e hj => ?_, h6⟩
    obtain ⟨g1, x, g2, g3, g4⟩ := h5 j e hj
    exact ⟨g1, x, g2, g3, Dr_cell h _ _ g4⟩
  | loop st pend fn tm params assign body =>
    simp only [orel] at *
    obtain ⟨L, tmps, db, h1, h2, h3⟩ := ho
    exact ⟨L, tmps, db, h1, by rw [hh L h1]; exact h2, vrL_cell h _ _ h3⟩
  | defd =>
    simp only [orel] at *
    obtain ⟨L, h1, h2⟩ := ho
    exact ⟨L, h1, by rw [hh L h1]; exact h2⟩
end cell
theorem AW.conv {i : Nat} {rest : List Nat} {ops : Array Oper} {o : Oper} {t e : TypeId} {x : Operand} {l sz : Nat} {xs : List D} {mv : Bool} {k : List Item} (hi : ops[i]? = some o) (hw : wantA ops o tm = some true) (ho : o.op = .convert t t x) (hu : P.underlying t = some (.slice e)) (he : P.underlying e = some (.int .u8)) (hx : ev tm x = .row l) (hl : σ[l]? = some (.row sz xs mv)) (h0 : 0 < xs.length)
    (h : AW P f ro n (.inRegion ops rest :: k) (put (V.frzL l sz xs tm) o.dst (.d (.list sz xs))) ((σ.map (O.frz l sz xs)).set l .dead) df Q) : AW P f ro n (.inRegion ops (i :: rest) :: k) tm σ df Q := by
  intro w I ρ a rb hr hb hn
  have hO := hr.ors
  have hxr := vr_ev hr.tms x
  rw [hx] at hxr
  have hxr0 := hxr
  simp only [vr] at hxr
  have hrv := hxr.2.2 _ _ _ hl
  have hob := hO.objs l _ hl
  simp only [orel] at hob
  rcases hob with ⟨_, hnil⟩ | ⟨L, C, T, fz, hL, hsz, hh, hth, hC, hle, hcap, hE⟩
  · rw [hnil] at h0; simp at h0
  rcases hrv with ⟨hz, _⟩ | ⟨L', hL', hoff, hv⟩
  · omega
  rw [hL] at hL'; cases hL'
  have hlt : l < σ.length := (List.getElem?_eq_some_iff.1 hl).1
  let w' := w.freeze ⟨L.b, C.size, none⟩ 1
  have hrun : (execOp a.eval o).run P w = .ok (.value (a.eval x)) w' := by
    have hm : (markStringish ⟨L.b, L.o + 0 * L.sz, none⟩).run P w = .ok () w' := by
      simp only [markStringish, shape, Sem.run_bind, Sem.run, World.shape?, hh, Result.andThen]
      rfl
    simp only [execOp, ho, convert, Sem.run_bind, run_underlying hu, Result.andThen_ok, hv, beq_self_eq_true, run_underlying he, hm, Sem.run_pure]
  -- first it is laid to rest
  obtain ⟨htm, hO2, hX, hfx⟩ := freeze_core (w := w) hO hl hr.tms
  have hxd : Dr w (Iadd I ρ l) (.list sz xs) (a.eval x) := by
    have := vr_frz hO hl _ _ hxr0
    simp only [V.frz, Nat.beq_refl, if_true, vr] at this
    exact this
  -- then it is marked
  have hc : ∀ b o, w'.cell? ⟨b, o, none⟩ = w.cell? ⟨b, o, none⟩ := by
    intro b o
    by_cases hb : b = L.b
    · subst hb
      simp only [World.cell?, hh, w', freeze_self hh C.size 1 (by omega)]
    · simp only [World.cell?, w', freeze_other hb]
  have hc' : ∀ b, Iadd I ρ l b → ∀ o, w'.cell? ⟨b, o, none⟩ = w.cell? ⟨b, o, none⟩ := fun b _ o => hc b o
  have hfoot : ∀ b, foot ρ ((σ.map (O.frz l sz xs)).set l .dead) b → b ≠ L.b := fun b hb e => (hO2.imm b (.inr ⟨L, hL, e.symm⟩)).2 hb
  have hO3 : ORel w' (Iadd I ρ l) ρ ((σ.map (O.frz l sz xs)).set l .dead) := by
    refine ⟨fun y o1 h1 => ?_, hO2.inj, fun b hb => ?_, fun b hb => ?_⟩
    · by_cases hd : o1 = .dead
      · subst hd; simp [orel]
      · exact orel_cell hc' (fun X hX => freeze_other (hfoot _ ⟨y, o1, X, h1, hd, hX, rfl⟩) _ _) (hO2.objs y o1 h1)
    · have := hO2.flt b hb; rw [show w'.heap.size = w.heap.size from freeze_size]; exact this
    · have := hO2.imm b hb; rw [show w'.heap.size = w.heap.size from freeze_size]; exact this
  have hX3 : Ext σ.length w I ρ σ w' (Iadd I ρ l) ρ ((σ.map (O.frz l sz xs)).set l .dead) := by
    refine ⟨by rw [show w'.heap.size = w.heap.size from freeze_size]; exact Nat.le_refl _, freeze_rest.1, freeze_rest.2.1, freeze_rest.2.2, fun b hb hf => freeze_other (fun e => hf ⟨l, _, L, hl, by simp, hL, e.symm⟩) _ _, hX.immI, hX.immN, hX.footN, hX.len, hX.alive, hX.fixed, hX.stay⟩
  have hst := hX3.stays
  have := h w' (Iadd I ρ l) ρ (a.put o.dst (a.eval x)) rb ⟨vrL_put (vrL_cell hc' _ _ htm) o.dst (by simp only [vr]; exact Dr_cell hc' _ _ hxd), hO3, by rw [put_defers]; exact dfr_stay hst hr.dfs⟩ (rbOf_stay hst hb) (by simpa using hn)
  refine .step (fun cs => st_op_value hi (wantA_ok hw hr.tms) (by simp [ho, Op.isDefer]) hrun) (this.mono fun e w' hf => hf.trans (hX3.less hn))
theorem AW.convH {o : Oper} {t e : TypeId} {x : Operand} {l sz : Nat} {xs : List D} {mv : Bool} (ho : opOf T = some o) (hw : wantA (opsOf T) o tm = some true) (hT : tlOf T = T') (hop : o.op = .convert t t x) (hu : P.underlying t = some (.slice e)) (he : P.underlying e = some (.int .u8)) (hx : ev tm x = .row l) (hl : σ[l]? = some (.row sz xs mv)) (h0 : 0 < xs.length)
    (h : AW P f ro n T' (put (V.frzL l sz xs tm) o.dst (.d (.list sz xs))) ((σ.map (O.frz l sz xs)).set l .dead) df Q) : AW P f ro n T tm σ df Q := by
  subst hT
  unfold opOf at ho
  split at ho
  · exact .conv ho hw hop hu he hx hl h0 h
  · cases ho
end
end Go.Br
namespace Go.Br
open Go
theorem get_some {α : Type} {l : List α} {i : Nat} (h : i < l.length) : ∃ y, l[i]? = some y := ⟨l[i], List.getElem?_eq_getElem h⟩
theorem map_get {α β : Type} {l : List α} {g : α → β} {i : Nat} {y : α} (h : l[i]? = some y) : (l.map g)[i]? = some (g y) := by simp [h]
theorem str_get {s : ByteArray} {i : Nat} (h : i < s.size) : ∃ y, s[i]? = some y := ⟨s[i], by simp [h]⟩
section
variable {P : Program} {f : FuncId} {ro : Option Nat} {n : Nat} {T T' : List Item} {tm tm' : List V} {σ σ' : Store} {df : List Nat} {Q : AE → Store → Prop}
theorem AW.at (hT : T = T') (h : AW P f ro n T' tm σ df Q) : AW P f ro n T tm σ df Q := by subst hT; exact h
theorem AW.keeps (l : List Nat) (ht : keep l tm = tm') (h : AW P f ro n T tm' σ df Q) : AW P f ro n T tm σ df Q :=
  AW.seg 0 l (T' := T) (tm' := tm') (σ' := σ) (by show some (T, keep l tm, σ) = _; rw [ht]) h
theorem AW.callH {o : Oper} {x : Operand} {args : Array Operand} {ts : Array TypeId} {g : FuncId} {fn : Func} {c : Code} {first cap : List V} (m : List Nat) (cargs : List V) (σc : Store) {Qc : AE → Store → Prop}
    (hF : Fnc P g fn c) (hc : CallsA P g cargs σc Qc) (ho : opOf T = some o) (hw : wantA (opsOf T) o tm = some true) (hT : tlOf T = T') (hop : o.op = .call { callee := .value x, args, argTypes := ts }) (hx : ev tm x = .fn (.func g) first cap)
    (hargs : coArgs P fn.params.toList (first ++ args.toList.map (ev tm) ++ cap) = V.renL (mp m σ.length) cargs) (hbel : (belB σc.length σc && (V.locsL cargs).all fun l => Nat.blt l σc.length) = true) (hwi : within σ m σc)
    (hk : ∀ r σc', Qc r σc' → ∃ v, r = .ret v ∧ AW P f ro n T' (put (V.killL (movedB m σc') tm) o.dst (v.ren (mp m σ.length))) (merge σ m σc') df Q) : AW P f ro n T tm σ df Q := by
  subst hT
  unfold opOf at ho
  split at ho
  · exact .call m cargs σc hF hc ho hw hop hx hargs hbel hwi hk
  · cases ho
theorem bnd_some {o : Operand} {k : IntKind} {i : Int} {l d : Nat} (h : ev tm o = .d (.int k i)) (h0 : 0 ≤ i) (hl : i.toNat = l) : Bnd tm (some o) l d := ⟨k, i, h, h0, hl⟩
end
end Go.Br
namespace Go.Br
open Go
section
variable {P : Program} {f : FuncId} {ro : Option Nat} {n : Nat} {T T' : List Item} {tm tm' : List V} {σ σ' : Store} {df : List Nat} {Q : AE → Store → Prop}
end
theorem ahead_or' {ops : Array Oper} {L : List Nat} (hL : Ord ops L) (i j : Nat) (h : (Nat.blt i ops.size && Nat.blt j ops.size && !(Nat.beq i j)) = true) : ahead L i j ∨ ahead L j i := by
  simp only [Bool.and_eq_true, Nat.blt_eq, Bool.not_eq_true'] at h
  obtain ⟨⟨h1, h2⟩, h3⟩ := h
  exact ahead_or hL i j h1 h2 fun e => by subst e; simp at h3
end Go.Br
namespace Go.Br
open Go
end Go.Br
namespace Go.Br
open Go
end Go.Br
namespace Go.Br
open Go
section
variable {P : Program} {f : FuncId} {ro : Option Nat} {n : Nat} {k : List Item} {df : List Nat} {Q : AE → Store → Prop} {ops : Array Oper}
theorem Run.as {L : List Nat} {c : List Nat} {tm tm' : List V} {σ σ' : Store} {s : List V × Store} (ht : tm = tm') (hs : σ = σ') (h : Run (StepQ P f ro n k df Q ops c) L (tm', σ') s) : Run (StepQ P f ro n k df Q ops c) L (tm, σ) s := by subst ht hs; exact h
end
end Go.Br
namespace Go.Br
open Go
theorem wrap_u64s {n : Int} (h : 0 ≤ n) (h' : n < 18446744073709551616) : IntKind.u64.wrap n = n := by
  simp only [IntKind.wrap, IntKind.bits, IntKind.signed, Bool.false_and]
  simp_all <;> omega
theorem wrap_u32s {n : Int} (h : 0 ≤ n) (h' : n < 4294967296) : IntKind.u32.wrap n = n := by
  simp only [IntKind.wrap, IntKind.bits, IntKind.signed, Bool.false_and]
  simp_all <;> omega
theorem wrap_u8s {n : Int} (h : 0 ≤ n) (h' : n < 256) : IntKind.u8.wrap n = n := by
  simp only [IntKind.wrap, IntKind.bits, IntKind.signed, Bool.false_and]
  simp_all <;> omega
theorem wrap_i32s {n : Int} (h : -2147483648 ≤ n) (h' : n < 2147483648) : IntKind.i32.wrap n = n := by
  simp only [IntKind.wrap, IntKind.bits, IntKind.signed, Bool.true_and]
  split <;> simp_all <;> omega
theorem irem_n (a b : Nat) : irem (a : Int) (b : Int) = ((a % b : Nat) : Int) := (Int.ofNat_tmod a b).symm
theorem iquo_n {k : IntKind} (a b : Nat) : iquo k (a : Int) (b : Int) = k.wrap ((a / b : Nat) : Int) := by show k.wrap ((a : Int).tdiv b) = _; rw [← Int.ofNat_tdiv]
theorem tdiv_nn {a b : Int} (h : 0 ≤ a) : a.tdiv b = a / b := Int.tdiv_eq_ediv_of_nonneg h
theorem tmod_nn {a b : Int} (h : 0 ≤ a) : a.tmod b = a % b := Int.tmod_eq_emod_of_nonneg h
end Go.Br
namespace Go.Br
open Go
section
variable {w w' : World} {I I' : Nat → Prop} {ρ ρ' : LM} {σ σ' : Store} {P : Program}
end
end Go.Br
namespace Go.Br
open Go
section
variable {w w' : World} {I I' : Nat → Prop} {ρ ρ' : LM} {σ σ' : Store} {P : Program}
theorem row_moved {n l sz : Nat} {xs xs' : List D} {mv : Bool} (hO : ORel w I ρ σ) (hl : σ[l]? = some (.row sz xs mv)) (L' : Loc) {C' : Array Value} {T' : TypeId} {fz' : Nat × Nat} (hsz : L'.sz = sz) (hh : w'.heap[L'.b]? = some (.cells C' T' fz')) (hth : thawR fz' C')
    (hC : C'.size = L'.o + L'.cap * sz) (hle : xs'.length ≤ L'.cap) (hcap : L'.cap ≤ maxLen) (hE : DrE w' I sz L'.b L'.o xs') (hheap : ∀ b, b < w.heap.size → (∀ L, ρ l = some L → L.b ≠ b) → w'.heap[b]? = w.heap[b]?) (hsize : w.heap.size ≤ w'.heap.size)
    (hnew : w.heap.size ≤ L'.b ∨ ∃ L, ρ l = some L ∧ L.b = L'.b) (hos : w'.os = w.os) (htape : w'.tape = w.tape) (hout : w'.output = w.output) (hn : n ≤ σ.length) :
    Fin n w I ρ σ (fun r σ' => r = .ret (.row l) ∧ σ' = (σ.map (O.kill (Nat.beq l))).set l (.row sz xs' true)) (.returned (.slice (some ⟨L'.b, L'.o, none⟩) xs'.length L'.cap)) w' := by
  have hlt : l < σ.length := (List.getElem?_eq_some_iff.1 hl).1
  let ρ' : LM := fun x => if x = l then some L' else ρ x
  have hρ : ∀ x, x ≠ l → ρ' x = ρ x := fun x hx => by simp [ρ', hx]
  have hρl : ρ' l = some L' := by simp [ρ']
  have hor : orel w' I ρ' ((σ.map (O.kill (Nat.beq l))).set l (.row sz xs' true)) l (.row sz xs' true) := by
    simp only [orel]
    exact .inr ⟨L', C', T', fz', hρl, hsz, hh, hth, hC, hle, hcap, hE⟩
  obtain ⟨g1, g2⟩ := hO.move hl (by simp) hρ hheap hsize hor (fun K hK => by
    rw [hρl] at hK; cases hK
    refine ⟨(Array.getElem?_eq_some_iff.1 hh).1, hnew⟩)
  have hx := Ext.move (I := I) hl (by simp) rfl (o' := .row sz xs' true) rfl hρ hheap hsize (fun K hK => by
    rw [hρl] at hK; cases hK
    exact ⟨(Array.getElem?_eq_some_iff.1 hh).1, hnew⟩) hos htape hout
  refine ⟨I, ρ', _, .ret (.row l), ⟨rfl, rfl⟩, ⟨_, rfl, ?_⟩, g1, hx.less hn⟩
  simp only [vr]
  refine ⟨rfl, by simpa using hlt, fun sz' xs'' mv' hx' => ?_⟩
  rw [List.getElem?_set_self (by simpa using hlt)] at hx'
  cases hx'
  exact .inr ⟨L', hρl, by omega, by simp⟩
theorem setCells_setRow {b : Nat} {T : TypeId} {fz : Nat × Nat} : ∀ (vs : List Value) (o : Nat) (C : Array Value) (w : World), w.heap[b]? = some (.cells C T fz) → o + vs.length ≤ C.size →
    w.setCells b o vs = w.setRow b (C.toList.take o ++ vs ++ C.toList.drop (o + vs.length)).toArray
  | [], o, C, w, h, _ => by
    simp only [World.setCells, List.append_nil, List.length_nil, Nat.add_zero, List.take_append_drop, Array.toArray_toList]
    rw [setRow_self w b C T fz h]
  | v :: vs, o, C, w, h, hl => by
    have hi : o < C.size := by simp at hl; omega
    have e1 : w.setCell ⟨b, o, none⟩ v = w.setRow b (C.setIfInBounds o v) := setCell_eq_setRow w b o C T fz v h
    have ih := setCells_setRow vs (o + 1) (C.setIfInBounds o v) (w.setRow b (C.setIfInBounds o v)) (setRow_heap w b C _ T _ h) (by simp at hl ⊢; omega)
    rw [World.setCells, e1, ih, setRow_setRow]
    congr 2
    have e := list_seg_step C.toList o v vs (by simp at hl ⊢; omega)
    simpa [Array.toList_setIfInBounds, Nat.add_assoc] using e
end
end Go.Br
namespace Go.Br
open Go
section
variable {P : Program} {σ : Store}
end
end Go.Br
namespace Go.Br
open Go
structure FP where
  r : List Nat
  w : List Nat
  k : List Nat
  out : List Nat
  m : List Nat
  lv : List Nat
  u : Bool
  g : Bool
def inK (k : List Nat) (l : Nat) : Bool := k.any (Nat.beq l)
theorem inK_iff {k : List Nat} {l : Nat} : inK k l = true ↔ l ∈ k := by
  simp only [inK, List.any_eq_true, Nat.beq_eq]
  exact ⟨fun ⟨x, h, e⟩ => e ▸ h, fun h => ⟨l, h, rfl⟩⟩
def patch (U : List (Nat × O)) (σ : Store) : Store := U.foldl (fun s p => s.set p.1 p.2) σ
def effT (k : List Nat) (d : Option Tmp) (v : V) (tm : List V) : List V := put (V.killL (inK k) tm) d v
def effS (k : List Nat) (U : List (Nat × O)) (σ : Store) : Store := patch U (σ.map (O.kill (inK k)))
mutual
def V.full : V → Bool
  | .undef => false
  | .fn _ a b => V.fullL a && V.fullL b
  | .tuple vs | .agg vs => V.fullL vs
  | _ => true
def V.fullL : List V → Bool
  | [] => true
  | v :: vs => V.full v && V.fullL vs
end
def O.full : O → Bool
  | .cells cs => V.fullL cs
  | .loop _ _ _ tm _ _ _ => V.fullL tm
  | _ => true
theorem V.killL_map {p : Nat → Bool} : ∀ vs : List V, V.killL p vs = vs.map (V.kill p)
  | [] => rfl
  | v :: vs => by rw [V.killL, V.killL_map vs]; rfl
mutual
theorem V.kill_off {p : Nat → Bool} : ∀ v : V, (∀ l ∈ v.locs, p l = false) → v.kill p = v
  | .d _, _ => rfl
  | .undef, _ => rfl
  | .nils, _ => rfl
  | .ex _ _, _ => rfl
  | .ep _ _ _, _ => rfl
  | .ptr l _ _, h => by simp [V.kill, h l (by simp [V.locs])]
  | .row l, h => by simp [V.kill, h l (by simp [V.locs])]
  | .sl l _ _ _, h => by simp [V.kill, h l (by simp [V.locs])]
  | .yield l, h => by simp [V.kill, h l (by simp [V.locs])]
  | .map l, h => by simp [V.kill, h l (by simp [V.locs])]
  | .fn _ a b, h => by rw [V.kill, V.killL_off a fun l hl => h l (by simp [V.locs, hl]), V.killL_off b fun l hl => h l (by simp [V.locs, hl])]
  | .tuple vs, h => by rw [V.kill, V.killL_off vs fun l hl => h l (by simpa [V.locs] using hl)]
  | .agg vs, h => by rw [V.kill, V.killL_off vs fun l hl => h l (by simpa [V.locs] using hl)]
theorem V.killL_off {p : Nat → Bool} : ∀ vs : List V, (∀ l ∈ V.locsL vs, p l = false) → V.killL p vs = vs
  | [], _ => rfl
  | v :: vs, h => by rw [V.killL, V.kill_off v fun l hl => h l (by simp [V.locsL, hl]), V.killL_off vs fun l hl => h l (by simp [V.locsL, hl])]
end
theorem O.kill_off {p : Nat → Bool} (o : O) (h : ∀ l ∈ o.locs, p l = false) : o.kill p = o := by
  cases o with
  | cells cs => rw [O.kill, V.killL_off cs h]
  | loop a b c tm x e f => rw [O.kill, V.killL_off tm h]
  | _ => rfl
mutual
theorem V.kill_full {p : Nat → Bool} : ∀ v : V, (v.kill p).full = true → v.kill p = v
  | .d _, _ => rfl
  | .undef, _ => rfl
  | .nils, _ => rfl
  | .ex _ _, _ => rfl
  | .ep _ _ _, _ => rfl
  | .ptr l _ _, h => by cases hp : p l <;> simp [V.kill, hp, V.full] at h ⊢
  | .row l, h => by cases hp : p l <;> simp [V.kill, hp, V.full] at h ⊢
  | .sl l _ _ _, h => by cases hp : p l <;> simp [V.kill, hp, V.full] at h ⊢
  | .yield l, h => by cases hp : p l <;> simp [V.kill, hp, V.full] at h ⊢
  | .map l, h => by cases hp : p l <;> simp [V.kill, hp, V.full] at h ⊢
  | .fn _ a b, h => by
    simp only [V.kill, V.full, Bool.and_eq_true] at h
    rw [V.kill, V.killL_full a h.1, V.killL_full b h.2]
  | .tuple vs, h => by
    simp only [V.kill, V.full] at h
    rw [V.kill, V.killL_full vs h]
  | .agg vs, h => by
    simp only [V.kill, V.full] at h
    rw [V.kill, V.killL_full vs h]
theorem V.killL_full {p : Nat → Bool} : ∀ vs : List V, V.fullL (V.killL p vs) = true → V.killL p vs = vs
  | [], _ => rfl
  | v :: vs, h => by
    simp only [V.killL, V.fullL, Bool.and_eq_true] at h
    rw [V.killL, V.kill_full v h.1, V.killL_full vs h.2]
end
theorem O.kill_full {p : Nat → Bool} (o : O) (h : (o.kill p).full = true) : o.kill p = o := by
  cases o with
  | cells cs => rw [O.kill, V.killL_full cs (by simpa [O.kill, O.full] using h)]
  | loop a b c tm x e f => rw [O.kill, V.killL_full tm (by simpa [O.kill, O.full] using h)]
  | _ => rfl
mutual
theorem V.kill_comm {p q : Nat → Bool} : ∀ v : V, (v.kill p).kill q = (v.kill q).kill p
  | .d _ => rfl
  | .undef => rfl
  | .nils => rfl
  | .ex _ _ => rfl
  | .ep _ _ _ => rfl
  | .ptr l _ _ => by cases hp : p l <;> cases hq : q l <;> simp [V.kill, hp, hq]
  | .row l => by cases hp : p l <;> cases hq : q l <;> simp [V.kill, hp, hq]
  | .sl l _ _ _ => by cases hp : p l <;> cases hq : q l <;> simp [V.kill, hp, hq]
  | .yield l => by cases hp : p l <;> cases hq : q l <;> simp [V.kill, hp, hq]
  | .map l => by cases hp : p l <;> cases hq : q l <;> simp [V.kill, hp, hq]
  | .fn _ a b => by simp only [V.kill]; rw [V.killL_comm a, V.killL_comm b]
  | .tuple vs => by simp only [V.kill]; rw [V.killL_comm vs]
  | .agg vs => by simp only [V.kill]; rw [V.killL_comm vs]
theorem V.killL_comm {p q : Nat → Bool} : ∀ vs : List V, V.killL q (V.killL p vs) = V.killL p (V.killL q vs)
  | [] => rfl
  | v :: vs => by simp only [V.killL]; rw [V.kill_comm v, V.killL_comm vs]
end
theorem O.kill_comm {p q : Nat → Bool} (o : O) : (o.kill p).kill q = (o.kill q).kill p := by
  cases o with
  | cells cs => simp only [O.kill]; rw [V.killL_comm]
  | loop a b c tm x e f => simp only [O.kill]; rw [V.killL_comm]
  | _ => rfl
theorem killL_put {p : Nat → Bool} {tm : List V} {d : Option Tmp} {v : V} : V.killL p (put tm d v) = put (V.killL p tm) d (v.kill p) := by
  cases d with
  | none => rfl
  | some t => simp only [put, V.killL_map, List.map_set]
theorem ev_kill {p : Nat → Bool} {tm : List V} {x : Operand} : ev (V.killL p tm) x = (ev tm x).kill p := by
  cases x with
  | tmp t =>
    simp only [ev, V.killL_map, List.getD_eq_getElem?_getD, List.getElem?_map]
    cases tm[t]? <;> rfl
  | const c =>
    simp only [ev]
    unfold cst
    split <;> rfl
  | _ => rfl
theorem valsOf_kill {p : Nat → Bool} {tm : List V} {o : Oper} : valsOf (V.killL p tm) o = V.killL p (valsOf tm o) := by
  unfold valsOf
  rw [V.killL_map (List.map _ _), List.map_map]
  exact List.map_congr_left fun x _ => ev_kill
theorem patch_length : ∀ (U : List (Nat × O)) (σ : Store), (patch U σ).length = σ.length
  | [], _ => rfl
  | p :: U, σ => by show (patch U (σ.set p.1 p.2)).length = _; rw [patch_length U, List.length_set]
theorem effS_length (k : List Nat) (U : List (Nat × O)) (σ : Store) : (effS k U σ).length = σ.length := by rw [effS, patch_length, List.length_map]
theorem patch_off : ∀ (U : List (Nat × O)) (σ : Store) (l : Nat), (∀ p ∈ U, p.1 ≠ l) → (patch U σ)[l]? = σ[l]?
  | [], _, _, _ => rfl
  | p :: U, σ, l, h => by
    show (patch U (σ.set p.1 p.2))[l]? = _
    rw [patch_off U _ l fun q hq => h q (by simp [hq]), List.getElem?_set_ne (h p (by simp))]
theorem patch_set : ∀ (U : List (Nat × O)) (σ : Store) (l : Nat) (o : O), (∀ p ∈ U, p.1 ≠ l) → patch U (σ.set l o) = (patch U σ).set l o
  | [], _, _, _, _ => rfl
  | p :: U, σ, l, o, h => by
    show patch U ((σ.set l o).set p.1 p.2) = (patch U (σ.set p.1 p.2)).set l o
    rw [List.set_comm _ _ (Ne.symm (h p (by simp))), patch_set U _ l o fun q hq => h q (by simp [hq])]
theorem patch_comm : ∀ (U W : List (Nat × O)) (σ : Store), (∀ p ∈ U, ∀ q ∈ W, p.1 ≠ q.1) → patch U (patch W σ) = patch W (patch U σ)
  | U, [], σ, _ => rfl
  | U, q :: W, σ, h => by
    show patch U (patch W (σ.set q.1 q.2)) = patch W ((patch U σ).set q.1 q.2)
    rw [patch_comm U W _ fun p hp x hx => h p hp x (by simp [hx]), patch_set U σ q.1 q.2 fun p hp => h p hp q (by simp)]
theorem patch_map {g : O → O} : ∀ (U : List (Nat × O)) (σ : Store), (∀ p ∈ U, g p.2 = p.2) → (patch U σ).map g = patch U (σ.map g)
  | [], _, _ => rfl
  | p :: U, σ, h => by
    show (patch U (σ.set p.1 p.2)).map g = patch U ((σ.map g).set p.1 p.2)
    rw [patch_map U _ fun q hq => h q (by simp [hq]), List.map_set, h p (by simp)]
theorem effT_comm {k1 k2 : List Nat} {d1 d2 : Option Tmp} {v1 v2 : V} {tm : List V} (h1 : ∀ l ∈ v1.locs, inK k2 l = false) (h2 : ∀ l ∈ v2.locs, inK k1 l = false) (hd : ∀ d, d1 = some d → d2 ≠ some d) :
    effT k2 d2 v2 (effT k1 d1 v1 tm) = effT k1 d1 v1 (effT k2 d2 v2 tm) := by
  unfold effT
  rw [killL_put, killL_put, V.kill_off v1 h1, V.kill_off v2 h2, V.killL_comm, put_comm hd]
theorem effS_comm {k1 k2 : List Nat} {U1 U2 : List (Nat × O)} {σ : Store} (h1 : ∀ p ∈ U1, ∀ l ∈ p.2.locs, inK k2 l = false) (h2 : ∀ p ∈ U2, ∀ l ∈ p.2.locs, inK k1 l = false) (hd : ∀ p ∈ U1, ∀ q ∈ U2, p.1 ≠ q.1) :
    effS k2 U2 (effS k1 U1 σ) = effS k1 U1 (effS k2 U2 σ) := by
  unfold effS
  rw [patch_map U1 _ fun p hp => O.kill_off p.2 (h1 p hp), patch_map U2 _ fun p hp => O.kill_off p.2 (h2 p hp), patch_comm U2 U1 _ fun p hp q hq e => hd q hq p hp e.symm]
  congr 2
  simp only [List.map_map]
  exact List.map_congr_left fun o _ => O.kill_comm o
theorem wantA_kill {ops : Array Oper} {o : Oper} {p : Nat → Bool} {tm : List V} : wantA ops o (V.killL p tm) = wantA ops o tm := by
  unfold wantA
  cases o.guard with
  | none => rfl
  | some g =>
    obtain ⟨j, want⟩ := g
    simp only []
    cases (ops[j]?).bind (·.dst) with
    | none => rfl
    | some d =>
      simp only [V.killL_map, List.getElem?_map]
      cases tm[d]? with
      | none => rfl
      | some v =>
        cases v with
        | d x => rfl
        | ptr l i s => simp only [Option.map_some, V.kill]; cases p l <;> rfl
        | row l => simp only [Option.map_some, V.kill]; cases p l <;> rfl
        | sl l a b c => simp only [Option.map_some, V.kill]; cases p l <;> rfl
        | yield l => simp only [Option.map_some, V.kill]; cases p l <;> rfl
        | map l => simp only [Option.map_some, V.kill]; cases p l <;> rfl
        | tuple vs => cases vs <;> rfl
        | _ => rfl
section
variable (P : Program) (f : FuncId) (ro : Option Nat) (n : Nat) (k : List Item) (df : List Nat) (Q : AE → Store → Prop) (ops : Array Oper)
def O.isDead : O → Bool
  | .dead => true
  | _ => false
def noFP : FP := ⟨[], [], [], [], [], [], false, true⟩
structure OkF (fp : FP) (tm : List V) (σ : Store) (o : Oper) (v : V) (U : List (Nat × O)) : Prop where
  uw : ∀ p ∈ U, p.1 ∈ fp.w
  vo : ∀ l ∈ v.locs, l ∈ fp.out
  uo : ∀ p ∈ U, ∀ l ∈ p.2.locs, l ∈ fp.out
  vl : ∀ l ∈ V.locsL (valsOf tm o), l ∈ fp.m
  lw : ∀ l ∈ fp.w, liveB σ l = true
  ul : ∀ p ∈ U, p.2.isDead = false
  ll : ∀ l ∈ fp.lv, liveB σ l = true
  om : ∀ l ∈ fp.r, ∀ ob, σ[l]? = some ob → ∀ x ∈ ob.locs, x ∈ fp.m
  fu : fp.u = true → V.fullL (valsOf tm o) = true ∧ ∀ l ∈ fp.r, ∀ ob, σ[l]? = some ob → ob.full = true
def Rob (fp : FP) (i : Nat) (tm : List V) (σ : Store) (o : Oper) (v : V) (U : List (Nat × O)) : Prop :=
  ∀ (rest : List Nat) (tm2 : List V) (σ2 : Store), valsOf tm2 o = valsOf tm o → wantA ops o tm2 = some true → σ2.length = σ.length → (∀ l ∈ fp.r, σ2[l]? = σ[l]?) → (∀ l ∈ fp.lv, liveB σ2 l = true) →
    AW P f ro n (.inRegion ops rest :: k) (effT fp.k o.dst v tm2) (effS fp.k U σ2) df Q → AW P f ro n (.inRegion ops (i :: rest) :: k) tm2 σ2 df Q
def StepF (F : List FP) (i : Nat) (s s' : List V × Store) : Prop :=
  ∃ o, ops[i]? = some o ∧
    ((F.getD i noFP).g = true ∧ (∀ rest, AW P f ro n (.inRegion ops rest :: k) s'.1 s'.2 df Q → AW P f ro n (.inRegion ops (i :: rest) :: k) s.1 s.2 df Q) ∨
     (F.getD i noFP).g = false ∧ wantA ops o s.1 = some false ∧ s' = (put s.1 o.dst (.tuple []), s.2) ∨
     (F.getD i noFP).g = false ∧ wantA ops o s.1 = some true ∧ ∃ v U, s' = (effT (F.getD i noFP).k o.dst v s.1, effS (F.getD i noFP).k U s.2) ∧ OkF (F.getD i noFP) s.1 s.2 o v U ∧ Rob P f ro n k df Q ops (F.getD i noFP) i s.1 s.2 o v U)
end
def meet (a b : List Nat) : Bool := a.any fun x => b.any (Nat.beq x)
theorem meet_no {a b : List Nat} (h : meet a b = false) {l : Nat} (h1 : l ∈ a) (h2 : l ∈ b) : False := by
  simp only [meet, List.any_eq_false] at h
  have := h l h1
  simp only [Bool.not_eq_true, List.any_eq_false] at this
  exact absurd (this l h2) (by rw [Nat.beq_refl]; simp)
def fpB (a b : FP) : Bool := a.g || b.g || meet a.w b.r || meet b.w a.r || meet a.k b.out || meet a.k b.m || meet b.k a.out || meet b.k a.m || (!a.k.isEmpty && !b.u) || (!b.k.isEmpty && !a.u)
def fpOk (a : FP) : Bool := (a.w.all fun l => a.r.any (Nat.beq l)) && (a.k.all fun l => a.w.any (Nat.beq l))
def depF (ops : Array Oper) (F : List FP) (i j : Nat) : Bool :=
  match ops[i]?, ops[j]? with
  | some x, some y => !(x.apart ops y) || !(y.apart ops x) || fpB (F.getD i noFP) (F.getD j noFP)
  | _, _ => true
theorem fpB_symm (a b : FP) : fpB a b = fpB b a := by
  unfold fpB
  generalize meet a.w b.r = x1
  generalize meet b.w a.r = x2
  generalize meet a.k b.out = x3
  generalize meet a.k b.m = x4
  generalize meet b.k a.out = x5
  generalize meet b.k a.m = x6
  generalize (!a.k.isEmpty && !b.u) = x7
  generalize (!b.k.isEmpty && !a.u) = x8
  cases a.g <;> cases b.g <;> cases x1 <;> cases x2 <;> cases x3 <;> cases x4 <;> cases x5 <;> cases x6 <;> cases x7 <;> cases x8 <;> rfl
theorem depF_symm (ops : Array Oper) (F : List FP) (i j : Nat) : depF ops F i j = depF ops F j i := by
  unfold depF
  cases ops[i]? <;> cases ops[j]? <;> simp [fpB_symm, Bool.or_comm]
theorem effT_nil {d : Option Tmp} {v : V} {tm : List V} : effT [] d v tm = put tm d v := by
  unfold effT; rw [V.killL_id (p := inK []) fun l => rfl]
theorem effS_nil {σ : Store} : effS [] [] σ = σ := by
  unfold effS
  show σ.map _ = σ
  rw [List.map_congr_left (g := id) fun o _ => O.kill_id (p := inK []) (fun l => rfl) o]
  simp
section
variable {P : Program} {f : FuncId} {ro : Option Nat} {n : Nat} {k : List Item} {df : List Nat} {Q : AE → Store → Prop} {ops : Array Oper}
theorem look_through {a b : FP} (hab : fpB a b = false) {x y : Oper} {tm : List V} {σ : Store} {v u : V} {U W : List (Nat × O)} (hd : ∀ t, x.dst = some t → t ∉ y.looksAt ops)
    (hx : OkF a tm σ x v U) (hy : OkF b (effT a.k x.dst v tm) (effS a.k U σ) y u W) :
    valsOf (effT a.k x.dst v tm) y = valsOf tm y ∧ ∀ l ∈ b.r, (effS a.k U σ)[l]? = σ[l]? := by
  simp only [fpB, Bool.or_eq_false_iff] at hab
  obtain ⟨⟨⟨⟨⟨⟨⟨⟨⟨_, _⟩, h1⟩, h2⟩, h3⟩, h4⟩, h5⟩, h6⟩, h7⟩, h8⟩ := hab
  have e1 : valsOf (effT a.k x.dst v tm) y = V.killL (inK a.k) (valsOf tm y) := by
    rw [effT, valsOf_put hd, valsOf_kill]
  have e2 : ∀ l ∈ b.r, (effS a.k U σ)[l]? = (σ[l]?).map (O.kill (inK a.k)) := fun l hl => by
    rw [effS, patch_off _ _ _ fun p hp e => meet_no h1 (hx.uw p hp) (e ▸ hl), List.getElem?_map]
  by_cases hk : a.k = []
  · rw [hk] at e1 e2
    refine ⟨by rw [hk, e1, V.killL_id (p := inK []) fun l => rfl], fun l hl => ?_⟩
    rw [hk, e2 l hl]
    cases σ[l]? with
    | none => rfl
    | some o => rw [Option.map_some, O.kill_id (p := inK []) fun l => rfl]
  · have hu : b.u = true := by
      have : a.k.isEmpty = false := by simpa using hk
      rw [this] at h7
      simpa using h7
    obtain ⟨g1, g2⟩ := hy.fu hu
    rw [e1] at g1
    refine ⟨by rw [e1, V.killL_full _ g1], fun l hl => ?_⟩
    rw [e2 l hl]
    cases hs : σ[l]? with
    | none => rfl
    | some o =>
      have := g2 l hl (o.kill (inK a.k)) (by rw [e2 l hl, hs]; rfl)
      rw [Option.map_some, O.kill_full o this]
theorem OkF.through {b : FP} {y : Oper} {tm : List V} {σ : Store} {u : V} {W : List (Nat × O)} {tm' : List V} {σ' : Store} (hy : OkF b tm' σ' y u W) (hv : valsOf tm' y = valsOf tm y) (hs : ∀ l ∈ b.r, σ'[l]? = σ[l]?) (hl : ∀ l, liveB σ' l = true → liveB σ l = true) : OkF b tm σ y u W :=
  ⟨hy.uw, hy.vo, hy.uo, by rw [← hv]; exact hy.vl, fun l h => hl l (hy.lw l h), hy.ul, fun l h => hl l (hy.ll l h), fun l hl ob h => hy.om l hl ob (by rw [hs l hl]; exact h), fun h => by
    obtain ⟨g1, g2⟩ := hy.fu h
    exact ⟨by rw [← hv]; exact g1, fun l hl ob h' => g2 l hl ob (by rw [hs l hl]; exact h')⟩⟩
theorem kill_isDead {p : Nat → Bool} {o : O} : (o.kill p).isDead = o.isDead := by cases o <;> rfl
theorem liveB_iff {σ : Store} {l : Nat} : liveB σ l = true ↔ ∃ o, σ[l]? = some o ∧ o.isDead = false := by
  unfold liveB
  cases h : σ[l]? with
  | none => simp
  | some o => cases o <;> simp [O.isDead]
theorem patch_live : ∀ (U : List (Nat × O)) (σ : Store), (∀ p ∈ U, p.2.isDead = false) → ∀ l, liveB σ l = true → liveB (patch U σ) l = true
  | [], _, _, _, h => h
  | p :: U, σ, hU, l, h => by
    show liveB (patch U (σ.set p.1 p.2)) l = true
    refine patch_live U _ (fun q hq => hU q (by simp [hq])) l ?_
    obtain ⟨o, h1, h2⟩ := liveB_iff.1 h
    by_cases hl : p.1 = l
    · subst hl
      exact liveB_iff.2 ⟨p.2, by rw [List.getElem?_set_self (List.getElem?_eq_some_iff.1 h1).1], hU p (by simp)⟩
    · exact liveB_iff.2 ⟨o, by rw [List.getElem?_set_ne hl]; exact h1, h2⟩
theorem effS_live {k : List Nat} {U : List (Nat × O)} {σ : Store} (hU : ∀ p ∈ U, p.2.isDead = false) {l : Nat} (h : liveB σ l = true) : liveB (effS k U σ) l = true := by
  refine patch_live U _ hU l ?_
  obtain ⟨o, h1, h2⟩ := liveB_iff.1 h
  exact liveB_iff.2 ⟨o.kill (inK k), by rw [List.getElem?_map, h1]; rfl, by rw [kill_isDead]; exact h2⟩
theorem effS_lived {fp : FP} {tm : List V} {σ : Store} {o : Oper} {v : V} {U : List (Nat × O)} (hO : OkF fp tm σ o v U) {l : Nat} (h : liveB (effS fp.k U σ) l = true) : liveB σ l = true := by
  by_cases hl : ∃ p ∈ U, p.1 = l
  · obtain ⟨p, hp, rfl⟩ := hl
    exact hO.lw p.1 (hO.uw p hp)
  · obtain ⟨o', h1, h2⟩ := liveB_iff.1 h
    rw [effS, patch_off _ _ _ fun p hp e => hl ⟨p, hp, e⟩, List.getElem?_map, Option.map_eq_some_iff] at h1
    obtain ⟨o2, h3, rfl⟩ := h1
    exact liveB_iff.2 ⟨o2, h3, by rw [kill_isDead] at h2; exact h2⟩
theorem in_all {a b : List Nat} (h : (a.all fun l => b.any (Nat.beq l)) = true) {l : Nat} (hl : l ∈ a) : l ∈ b := inK_iff.1 (List.all_eq_true.1 h l hl)
theorem look_ahead {a b : FP} (hab : fpB a b = false) {x y : Oper} {tm : List V} {σ : Store} {v u : V} {U W : List (Nat × O)} (hd : ∀ t, y.dst = some t → t ∉ x.looksAt ops) (hx : OkF a tm σ x v U) (hW : ∀ p ∈ W, p.1 ∈ b.w) :
    valsOf (effT b.k y.dst u tm) x = valsOf tm x ∧ ∀ l ∈ a.r, (effS b.k W σ)[l]? = σ[l]? := by
  simp only [fpB, Bool.or_eq_false_iff] at hab
  obtain ⟨⟨⟨⟨⟨⟨⟨⟨⟨_, _⟩, h1⟩, h2⟩, h3⟩, h4⟩, h5⟩, h6⟩, h7⟩, h8⟩ := hab
  have off : ∀ l, l ∉ b.k → inK b.k l = false := fun l hl => by
    cases h : inK b.k l with
    | false => rfl
    | true => exact absurd (inK_iff.1 h) hl
  refine ⟨?_, fun l hl => ?_⟩
  · rw [effT, valsOf_put hd, valsOf_kill]
    exact V.killL_off _ fun l hl => off l fun h => meet_no h6 h (hx.vl l hl)
  · rw [effS, patch_off _ _ _ fun p hp e => meet_no h2 (hW p hp) (e ▸ hl), List.getElem?_map]
    cases hs : σ[l]? with
    | none => rfl
    | some o =>
      rw [Option.map_some, O.kill_off o fun z hz => off z fun h => meet_no h6 h (hx.om l hl o hs z hz)]
theorem stepF_swap {F : List FP} (hF : (F.all fpOk) = true) (i j : Nat) (hd : depF ops F i j = false) (s a b : List V × Store) (hi : StepF P f ro n k df Q ops F i s a) (hj : StepF P f ro n k df Q ops F j a b) :
    ∃ a', StepF P f ro n k df Q ops F j s a' ∧ StepF P f ro n k df Q ops F i a' b := by
  obtain ⟨x, hx, hi⟩ := hi
  obtain ⟨y, hy, hj⟩ := hj
  unfold depF at hd
  simp only [hx, hy, Bool.or_eq_false_iff, Bool.not_eq_false'] at hd
  obtain ⟨⟨d1, d2⟩, hfp⟩ := hd
  obtain ⟨g1, g2, g3⟩ := Oper.apart_spec d1
  have hok : ∀ i, (F.getD i noFP).g = false → fpOk (F.getD i noFP) = true := fun i hg => by
    rw [List.getD_eq_getElem?_getD] at hg ⊢
    cases hq : F[i]? with
    | none => rw [hq] at hg; cases hg
    | some p => exact List.all_eq_true.1 hF p (List.mem_of_getElem? hq)
  have hg12 : (F.getD i noFP).g = false ∧ (F.getD j noFP).g = false := by
    have := hfp
    simp only [fpB, Bool.or_eq_false_iff] at this
    exact this.1.1.1.1.1.1.1.1
  have hoki := hok i hg12.1
  have hokj := hok j hg12.2
  have hfp' := hfp
  rw [fpB_symm] at hfp'
  generalize hA : F.getD i noFP = A at *
  generalize hB : F.getD j noFP = B at *
  have offA : ∀ l, l ∉ A.k → inK A.k l = false := fun l hl => by
    cases h : inK A.k l with
    | false => rfl
    | true => exact absurd (inK_iff.1 h) hl
  have offB : ∀ l, l ∉ B.k → inK B.k l = false := fun l hl => by
    cases h : inK B.k l with
    | false => rfl
    | true => exact absurd (inK_iff.1 h) hl
  have hm := hfp
  simp only [fpB, Bool.or_eq_false_iff] at hm
  obtain ⟨⟨⟨⟨⟨⟨⟨⟨⟨_, _⟩, m1⟩, m2⟩, m3⟩, m4⟩, m5⟩, m6⟩, m7⟩, m8⟩ := hm
  have hwr : ∀ l ∈ B.w, l ∈ B.r := fun l hl => by
    simp only [fpOk, Bool.and_eq_true] at hokj
    exact in_all hokj.1 hl
  obtain ⟨tm, σ⟩ := s
  rcases hi with ⟨hg, _⟩ | ⟨_, hwi, rfl⟩ | ⟨_, hwi, v, U, rfl, hOi, hRi⟩
  · rw [hg12.1] at hg; cases hg
  · rcases hj with ⟨hg, _⟩ | ⟨_, hwj, rfl⟩ | ⟨_, hwj, u, W, rfl, hOj, hRj⟩
    · rw [hg12.2] at hg; cases hg
    · simp only [] at hwi hwj ⊢
      rw [wantA_put g1] at hwj
      exact ⟨(put tm y.dst (.tuple []), σ), ⟨y, hy, .inr (.inl ⟨hB ▸ hg12.2, hwj, rfl⟩)⟩, ⟨x, hx, .inr (.inl ⟨hA ▸ hg12.1, by rw [wantA_put g3]; exact hwi, by rw [put_comm fun d hd => g2 d hd]⟩)⟩⟩
    · simp only [] at hwi hwj hOj hRj ⊢
      rw [wantA_put g1] at hwj
      have hv := valsOf_put (tm := tm) (v := .tuple []) g1
      have hO2 : OkF B tm σ y u W := OkF.through hOj hv (fun l _ => rfl) fun l h => h
      refine ⟨(effT B.k y.dst u tm, effS B.k W σ), ⟨y, hy, .inr (.inr ⟨hB ▸ hg12.2, hwj, u, W, by rw [hB], by rw [hB]; exact hO2, by rw [hB]; exact fun rest tm2 σ2 e1 e2 e3 e4 e5 => hRj rest tm2 σ2 (e1.trans hv.symm) e2 e3 e4 e5⟩)⟩, ⟨x, hx, .inr (.inl ⟨hA ▸ hg12.1, ?_, ?_⟩)⟩⟩
      · simp only [effT]; rw [wantA_put g3, wantA_kill]; exact hwi
      · simp only [effT]
        rw [killL_put, put_comm fun d hd => g2 d hd]
        rfl
  · rcases hj with ⟨hg, _⟩ | ⟨_, hwj, rfl⟩ | ⟨_, hwj, u, W, rfl, hOj, hRj⟩
    · rw [hg12.2] at hg; cases hg
    · simp only [effT] at hwi hwj ⊢
      rw [wantA_put g1, wantA_kill] at hwj
      have hv := valsOf_put (tm := tm) (v := .tuple []) g3
      have hO2 : OkF A (put tm y.dst (.tuple [])) σ x v U := OkF.through hOi hv.symm (fun l _ => rfl) fun l h => h
      refine ⟨(put tm y.dst (.tuple []), σ), ⟨y, hy, .inr (.inl ⟨hB ▸ hg12.2, hwj, rfl⟩)⟩, ⟨x, hx, .inr (.inr ⟨hA ▸ hg12.1, by rw [wantA_put g3]; exact hwi, v, U, ?_, by rw [hA]; exact hO2, by rw [hA]; exact fun rest tm2 σ2 e1 e2 e3 e4 e5 => hRi rest tm2 σ2 (e1.trans hv) e2 e3 e4 e5⟩)⟩⟩
      rw [hA]
      simp only [effT]
      rw [killL_put, put_comm fun d hd => g2 d hd]
      rfl
    · simp only [] at hwi hwj hOi hRi hOj hRj ⊢
      obtain ⟨l1, l2⟩ := look_through hfp g1 hOi hOj
      have hO2 : OkF B tm σ y u W := OkF.through hOj l1 l2 fun l h => effS_lived hOi h
      obtain ⟨l3, l4⟩ := look_ahead (y := y) (u := u) hfp g3 hOi hO2.uw
      have hwj2 : wantA ops y tm = some true := by
        rw [effT, wantA_put g1, wantA_kill] at hwj; exact hwj
      refine ⟨(effT B.k y.dst u tm, effS B.k W σ), ⟨y, hy, .inr (.inr ⟨hB ▸ hg12.2, hwj2, u, W, by rw [hB], by rw [hB]; exact hO2, ?_⟩)⟩, ⟨x, hx, .inr (.inr ⟨hA ▸ hg12.1, ?_, v, U, ?_, ?_, ?_⟩)⟩⟩
      · rw [hB]
        intro rest tm2 σ2 e1 e2 e3 e4 e5
        exact hRj rest tm2 σ2 (e1.trans l1.symm) e2 (by rw [e3, effS_length]) (fun l hl => by rw [e4 l hl, l2 l hl]) e5
      · simp only [effT]; rw [wantA_put g3, wantA_kill]; exact hwi
      · rw [hA]
        refine Prod.ext ?_ ?_
        · exact effT_comm (fun l hl => offB l fun h => meet_no m5 h (hOi.vo l hl)) (fun l hl => offA l fun h => meet_no m3 h (hO2.vo l hl)) fun d hd => g2 d hd
        · exact effS_comm (fun p hp l hl => offB l fun h => meet_no m5 h (hOi.uo p hp l hl)) (fun p hp l hl => offA l fun h => meet_no m3 h (hO2.uo p hp l hl)) fun p hp q hq e => meet_no m1 (hOi.uw p hp) (e ▸ hwr _ (hO2.uw q hq))
      · rw [hA]
        exact OkF.through hOi l3.symm (fun l hl => (l4 l hl).symm) fun l h => effS_live hO2.ul h
      · rw [hA]
        intro rest tm2 σ2 e1 e2 e3 e4 e5
        exact hRi rest tm2 σ2 (e1.trans l3) e2 (by rw [e3, effS_length]) (fun l hl => by rw [e4 l hl, l4 l hl]) e5
theorem stepF_sound {F : List FP} {i : Nat} {rest : List Nat} {s s' : List V × Store} (h : StepF P f ro n k df Q ops F i s s') (hn : AW P f ro n (.inRegion ops rest :: k) s'.1 s'.2 df Q) : AW P f ro n (.inRegion ops (i :: rest) :: k) s.1 s.2 df Q := by
  obtain ⟨o, hi, ⟨_, h⟩ | ⟨_, hw, rfl⟩ | ⟨_, hw, v, U, rfl, hO, hR⟩⟩ := h
  · exact h rest hn
  · exact .opSkip hi hw hn
  · exact hR rest s.1 s.2 rfl hw rfl (fun _ _ => rfl) hO.ll hn
theorem runF_sound {F : List FP} : ∀ {L : List Nat} {s s' : List V × Store}, Run (StepF P f ro n k df Q ops F) L s s' → AW P f ro n (.inRegion ops [] :: k) s'.1 s'.2 df Q → AW P f ro n (.inRegion ops L :: k) s.1 s.2 df Q
  | [], s, s', h, hn => by subst h; exact hn
  | i :: L, s, s', ⟨s1, h1, h2⟩, hn => stepF_sound h1 (runF_sound h2 hn)
end
end Go.Br
