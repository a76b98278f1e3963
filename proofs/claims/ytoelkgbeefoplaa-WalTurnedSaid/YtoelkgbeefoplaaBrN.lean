/- The base of these proofs, part N: append. -/
import Derived.Test.YtoelkgbeefoplaaBrM
namespace Go.Br
open Go

section
variable {w w' : World} {I I' : Nat → Prop} {ρ ρ' : LM} {σ σ' : Store} {P : Program}
def notIntT (P : Program) (t : TypeId) : Bool := match P.underlying t with | some (.int _) => false | some _ => true | none => false
theorem notIntT_und {t : TypeId} (h : notIntT P t = true) : ∃ d, P.underlying t = some d ∧ ∀ k, d ≠ .int k := by
  unfold notIntT at h
  cases hu : P.underlying t with
  | none => simp [hu] at h
  | some d => refine ⟨d, rfl, fun k e => ?_⟩; subst e; simp [hu] at h

theorem run_app_room {t t2 ty e : TypeId} {i : TypeInfo} (ht : P.underlying t = some (.slice e)) (hi : P.info? e = some i) (h2 : notIntT P t2 = true) {base : Option Addr} {sLen sCap m : Nat} {x : Value} {news : List Value}
    (hlen : (Builtin.lenOf x).run P w = .ok m w) (hx : (Builtin.firstCells i.size m x).run P w = .ok news.toArray w) (hroom : sLen + m ≤ sCap)
    (hst : match base with | some a => (storeCells (a.add (sLen * i.size)) news).run P w = .ok () w' | none => w' = w) :
    (Builtin.append_ #[t, t2] ty #[.slice base sLen sCap, x]).run P w = .ok (.slice base (sLen + m) sCap) w' := by
  obtain ⟨d, hd, hd2⟩ := notIntT_und h2
  unfold Builtin.append_
  cases d <;> first
    | exact absurd rfl (hd2 _)
    | (simp only [List.getElem?_toArray, List.getElem?_cons_zero, List.getElem?_cons_succ, Sem.run_bind, run_underlying ht, run_underlying hd, Result.andThen_ok, sizeOf, typeInfo, run_program, hi, Sem.run_pure, hlen, hroom, if_true, Bool.not_false, hx, Bool.false_eq_true, if_false]
       cases base with
       | none => simp only at hst; subst hst; rfl
       | some ad => simp only at hst; simp only [Sem.run_bind, hst, Result.andThen_ok]; rfl)
theorem run_app_grow {t t2 ty e : TypeId} {i : TypeInfo} {z : Value} (ht : P.underlying t = some (.slice e)) (hi : P.info? e = some i) (hz : i.zero = some z) (h2 : notIntT P t2 = true) {base : Option Addr} {sLen sCap m : Nat} {x : Value} {news olds : List Value}
    (hlen : (Builtin.lenOf x).run P w = .ok m w) (hold : (Builtin.firstCells i.size sLen (.slice base sLen sCap)).run P w.drew = .ok olds.toArray w.drew) (hx : (Builtin.firstCells i.size m x).run P w.drew = .ok news.toArray w.drew) (hroom : sCap < sLen + m)
    (h63 : sLen + m ≤ 9223372036854775807) (hfit : Builtin.nextslicecap (sLen + m) sCap * i.bytes ≤ 281474976710656) :
    (Builtin.append_ #[t, t2] ty #[.slice base sLen sCap, x]).run P w = .ok (.slice (some ⟨w.heap.size, 0, none⟩) (sLen + m) (grownCap w (sLen + m) sCap e))
      (w.drew.alloc (.cells (olds.toArray ++ news.toArray ++ Builtin.zeroCells z.cells (grownCap w (sLen + m) sCap e - (sLen + m))) e)) := by
  obtain ⟨d, hd, hd2⟩ := notIntT_und h2
  have hmax : IntKind.i64.max = 9223372036854775807 := by decide
  have hn1 : ¬ (((sLen + m : Nat) : Int) > IntKind.i64.max ∧ (False ∨ i.bytes = 0)) := by rw [hmax]; omega
  have hn2 : ¬ (sLen + m ≤ sCap) := by omega
  have h48 : (2 : Nat) ^ 48 = 281474976710656 := by decide
  have hn3 : ¬ (Builtin.nextslicecap (sLen + m) sCap * i.bytes > 2 ^ 48) := by rw [h48]; omega
  unfold Builtin.append_
  cases d <;> first
    | exact absurd rfl (hd2 _)
    | (simp only [List.getElem?_toArray, List.getElem?_cons_zero, List.getElem?_cons_succ, Sem.run_bind, run_underlying ht, run_underlying hd, Result.andThen_ok, sizeOf, typeInfo, run_program, hi, Sem.run_pure, hlen, hn2, if_false, Bool.not_false, Bool.false_eq_true, hn1, hn3,
         run_choose, Question.forced, run_askRoom, World.drew_eq, hold, hx, zeroValue, hz, newRow, run_newObj, World.alloc_eq, if_true]
       rfl)
theorem exec_append {o : Oper} {a : Act} {s x : Operand} {t t2 : TypeId} (ho : o.op = .call { callee := .builtin .append, args := #[s, x], argTypes := #[t, t2] }) {v : Value}
    (h : (Builtin.append_ #[t, t2] o.type #[a.eval s, a.eval x]).run P w = .ok v w') : (execOp a.eval o).run P w = .ok (.value v) w' := by
  simp only [execOp, ho, resolve, invoke, builtin, Sem.run_bind, Sem.run_pure, Result.andThen_ok, List.map_toArray, List.map_cons, List.map_nil, h]

/-- How wide a slice's elements are: cells, bytes. -/
def elemW (P : Program) (t : TypeId) : Option (Nat × Nat) :=
  match P.underlying t with
  | some (.slice e) => match P.info? e with
    | some i => match i.zero with
      | some z => if z.cells.size = i.size ∧ (z.cells.toList.all fun x => x.oneCell') = true then some (i.size, i.bytes) else none
      | none => none
    | none => none
  | _ => none
theorem elemW_und {t : TypeId} {sz by' : Nat} (h : elemW P t = some (sz, by')) : ∃ e i z, P.underlying t = some (.slice e) ∧ P.info? e = some i ∧ i.zero = some z ∧ i.size = sz ∧ i.bytes = by' ∧ z.cells.size = sz ∧ ∀ x ∈ z.cells.toList, one x := by
  unfold elemW at h
  split at h
  · split at h
    · split at h
      · simp only [Option.ite_none_right_eq_some, Option.some.injEq, Prod.mk.injEq] at h
        obtain ⟨⟨h1, h4⟩, h2, h3⟩ := h
        exact ⟨_, _, _, by assumption, by assumption, by assumption, h2, h3, by omega, fun x hx => List.all_eq_true.1 h4 x hx⟩
      · cases h
    · cases h
  · cases h

theorem one_app {cs : List Value} {zs : Array Value} (h : ∀ x ∈ cs, one x) (h' : ∀ x ∈ zs.toList, one x) : ∀ x ∈ (cs.toArray ++ zs).toList, one x := by
  intro x hx
  rw [Array.toList_append] at hx
  rcases List.mem_append.1 hx with hx | hx
  · exact h x (by simpa using hx)
  · exact h' x hx
theorem one_zeros {z : Value} (h : ∀ x ∈ z.cells.toList, one x) (n : Nat) : ∀ x ∈ (Builtin.zeroCells z.cells n).toList, one x := by
  intro x hx
  simp only [Builtin.zeroCells, Array.toList_map, List.mem_map, Array.toList_range, List.mem_range] at hx
  obtain ⟨i, hi, rfl⟩ := hx
  have h0 : 0 < z.cells.size := by
    rcases Nat.eq_zero_or_pos z.cells.size with h0 | h0
    · rw [h0] at hi; omega
    · exact h0
  have hlt := Nat.mod_lt i h0
  rw [getElem!_pos z.cells (i % z.cells.size) hlt]
  exact h _ (by simp)
/-- A new row out of cells in a new block behind a draw. -/
theorem newRow_grown {o : Oper} {tm : List V} {e : TypeId} {ds : List D} {cs : List Value} {zs : Array Value} {a : Act} {sz cap : Nat} (hr : vrL w I ρ σ tm a.tmps.toList) (hO : ORel w I ρ σ) (hN : DrN w I sz ds cs) (hzs : zs.size = (cap - ds.length) * sz) (hle : ds.length ≤ cap) (hcap : cap ≤ maxLen) (hzo : ∀ x ∈ zs.toList, one x)
    (hrun : (execOp a.eval o).run P w = .ok (.value (.slice (some ⟨w.heap.size, 0, none⟩) ds.length cap)) (w.drew.alloc (.cells (cs.toArray ++ zs) e))) :
    ∃ nx x w' I' ρ', (execOp a.eval o).run P w = .ok nx w' ∧ (nx = .value x ∨ nx = .skip ∧ x = undef) ∧ vr w' I' ρ' (σ ++ [.row sz ds false]) (.row σ.length) x ∧ vrL w' I' ρ' (σ ++ [.row sz ds false]) tm a.tmps.toList ∧ ORel w' I' ρ' (σ ++ [.row sz ds false]) ∧
      Ext σ.length w I ρ σ w' I' ρ' (σ ++ [.row sz ds false]) := by
  have hl := DrN_len hN
  refine newRow_ok (w' := w.drew) (cs := cs.toArray ++ zs) (t := e) hr hO ?_ hle hcap (one_app (DrN_one hN) hzo) ?_ rfl rfl rfl rfl hrun
  · simp only [Array.size_append, List.size_toArray, hl, hzs, ← Nat.add_mul]
    congr 1; omega
  · have hI : ∀ b, I b → I b ∧ (w.drew.alloc (.cells (cs.toArray ++ zs) e)).heap[b]? = w.heap[b]? := fun b hb => ⟨hb, heap_alloc_old _ _ _ (hO.imm b hb).1⟩
    refine DrE_of_N (DrN_mono hI hN) fun j hj => ?_
    have : (w.drew.alloc (.cells (cs.toArray ++ zs) e)).cell? ⟨w.drew.heap.size, 0 + j, none⟩ = (cs.toArray ++ zs)[j]? := by
      rw [Nat.zero_add]; exact World.cell?_alloc_new _ _ _ _
    rw [this, Array.getElem?_append_left (by simpa using hj)]
    simp

/-- append onto nothing. -/
theorem appNil_ok {tm : List V} {o : Oper} {s x : Operand} {t t2 : TypeId} {sz by' : Nat} {ys : List D} (ho : o.op = .call { callee := .builtin .append, args := #[s, x], argTypes := #[t, t2] }) (hs : ev tm s = .nils) (hx : cont σ (ev tm x) = some (sz, ys))
    (hw : elemW P t = some (sz, by')) (h2 : notIntT P t2 = true) (h0 : 0 < ys.length) (hb : ys.length * by' ≤ 140737488355328) (h63 : ys.length ≤ maxLen) : OpOk P o tm σ (.row σ.length) tm (σ ++ [.row sz ys false]) := by
  intro w I ρ a hr hO
  obtain ⟨e, i, z, hu, hi, hz, rfl, rfl, hzs, hz1⟩ := elemW_und hw
  have hsr := vr_ev hr s
  rw [hs] at hsr
  simp only [vr] at hsr
  obtain ⟨news, hN, hlen, hfc⟩ := cont_rel (P := P) hx (vr_ev hr x) hO
  have hrun := exec_append (a := a) ho (run_app_grow (w := w) (ty := o.type) hu hi hz h2 (base := none) (sLen := 0) (sCap := 0) (olds := []) (hlen w) (by simp [Builtin.firstCells]) (hfc w.drew rfl) (by omega) (by simp only [maxLen] at h63; omega) (growslice_fits (by omega) (by rw [Nat.zero_add]; exact hb)) |> fun h => by rw [hsr]; exact h)
  simp only [Nat.zero_add] at hrun
  have hge := grownCap_ge w ys.length 0 e
  refine newRow_grown (cs := news) (zs := Builtin.zeroCells z.cells (grownCap w ys.length 0 e - ys.length)) (e := e) hr hO hN ?_ hge (grownCap_le_maxLen w _ _ e h63) (one_zeros hz1 _) ?_
  · rw [size_zeroCells, hzs]
  · rw [hrun]
    congr 3
    apply Array.ext'; simp
/-- append onto data whose room is used up. -/
theorem appEx_ok {tm : List V} {o : Oper} {s x : Operand} {t t2 : TypeId} {sz by' : Nat} {xs ys : List D} (ho : o.op = .call { callee := .builtin .append, args := #[s, x], argTypes := #[t, t2] }) (hs : ev tm s = .ex sz xs) (hx : cont σ (ev tm x) = some (sz, ys))
    (hw : elemW P t = some (sz, by')) (h2 : notIntT P t2 = true) (h0 : 0 < ys.length) (hb : (xs.length + ys.length) * by' ≤ 140737488355328) (h63 : xs.length + ys.length ≤ maxLen) : OpOk P o tm σ (.row σ.length) tm (σ ++ [.row sz (xs ++ ys) false]) := by
  intro w I ρ a hr hO
  obtain ⟨e, i, z, hu, hi, hz, rfl, rfl, hzs, hz1⟩ := elemW_und hw
  have hsr := vr_ev hr s
  have hcs : cont σ (ev tm s) = some (i.size, xs) := by rw [hs]; rfl
  obtain ⟨olds, hNo, _, hfo⟩ := cont_rel (P := P) hcs hsr hO
  rw [hs] at hsr
  simp only [vr] at hsr
  obtain ⟨ad, hsv, _⟩ := hsr
  rw [hsv] at hfo
  obtain ⟨news, hN, hlen, hfc⟩ := cont_rel (P := P) hx (vr_ev hr x) hO
  have hrun := exec_append (a := a) ho (run_app_grow (w := w) (ty := o.type) hu hi hz h2 (base := ad) (sLen := xs.length) (sCap := xs.length) (hlen w) (hfo w.drew rfl) (hfc w.drew rfl) (by omega) (by simp only [maxLen] at h63; omega) (growslice_fits (by omega) hb) |> fun h => by rw [hsv]; exact h)
  have hll : (xs ++ ys).length = xs.length + ys.length := by simp
  have hge := grownCap_ge w (xs.length + ys.length) xs.length e
  refine newRow_grown (cs := olds ++ news) (zs := Builtin.zeroCells z.cells (grownCap w (xs.length + ys.length) xs.length e - (xs.length + ys.length))) (e := e) hr hO (DrN_append hNo hN) ?_ (by rw [hll]; exact hge) (grownCap_le_maxLen w _ _ e h63) (one_zeros hz1 _) ?_
  · rw [size_zeroCells, hzs, hll]
  · rw [hrun, hll]
    congr 3
    apply Array.ext'; simp

theorem map_kill_get {p : Nat → Bool} {x : Nat} : (σ.map (O.kill p))[x]? = (σ[x]?).map (O.kill p) := by simp
/-- A row that is written, or that moves to a new block. -/
theorem ORel.move {l : Nat} {o o' : O} (h : ORel w I ρ σ) (hl : σ[l]? = some o) (ho : o ≠ .dead) (hρ : ∀ x, x ≠ l → ρ' x = ρ x) (hheap : ∀ b, b < w.heap.size → (∀ L, ρ l = some L → L.b ≠ b) → w'.heap[b]? = w.heap[b]?) (hsize : w.heap.size ≤ w'.heap.size)
    (hnew : orel w' I ρ' ((σ.map (O.kill (Nat.beq l))).set l o') l o') (hblk : ∀ L', ρ' l = some L' → L'.b < w'.heap.size ∧ (w.heap.size ≤ L'.b ∨ ∃ L, ρ l = some L ∧ L.b = L'.b)) :
    ORel w' I ρ' ((σ.map (O.kill (Nat.beq l))).set l o') ∧ (∀ tm xs, vrL w I ρ σ tm xs → vrL w' I ρ' ((σ.map (O.kill (Nat.beq l))).set l o') (V.killL (Nat.beq l) tm) xs) := by
  have hlt : l < σ.length := (List.getElem?_eq_some_iff.1 hl).1
  have hget : ∀ x o1, ((σ.map (O.kill (Nat.beq l))).set l o')[x]? = some o1 → x ≠ l → ∃ o2, σ[x]? = some o2 ∧ o1 = o2.kill (Nat.beq l) := by
    intro x o1 hx hne
    rw [getElem?_set_ne hne, map_kill_get, Option.map_eq_some_iff] at hx
    obtain ⟨o2, h1, h2⟩ := hx
    exact ⟨o2, h1, h2.symm⟩
  have hII : ∀ b, I b → I b ∧ w'.heap[b]? = w.heap[b]? := fun b hb => ⟨hb, hheap b (h.imm b hb).1 fun L hL e => (h.imm b hb).2 ⟨l, o, L, hl, ho, hL, e⟩⟩
  have hS : ∀ x, x < σ.length → Nat.beq l x = false → Same ρ σ ρ' ((σ.map (O.kill (Nat.beq l))).set l o') x := by
    intro x hx hb
    have hne : x ≠ l := by rintro rfl; simp at hb
    refine ⟨by simpa using hx, fun o1 h1 h2 => ⟨hρ x hne, ?_⟩⟩
    obtain ⟨o2, h3, rfl⟩ := hget x o1 h1 hne
    exact ⟨o2, h3, fun e => h2 (kill_dead.2 e), kill_alike _ _⟩
  have hlive : ∀ x, live ((σ.map (O.kill (Nat.beq l))).set l o') x → live σ x := by
    rintro x ⟨o1, h1, h2⟩
    by_cases hx : x = l
    · subst hx; exact ⟨o, hl, ho⟩
    · obtain ⟨o2, h3, rfl⟩ := hget x o1 h1 hx
      exact ⟨o2, h3, fun e => h2 (kill_dead.2 e)⟩
  have hother : ∀ x X, x ≠ l → live σ x → ρ x = some X → ∀ L, ρ l = some L → L.b ≠ X.b := fun x X hne hx hX L hL e => hne (h.inj x l X L hx ⟨o, hl, ho⟩ hX hL e.symm)
  refine ⟨⟨fun x o1 hx => ?_, fun x y X Y hx hy hX hY e => ?_, ?_, fun b hb => ⟨Nat.lt_of_lt_of_le (h.imm b hb).1 hsize, ?_⟩⟩, fun tm xs ht => ?_⟩
  · by_cases hxl : x = l
    · subst hxl
      rw [List.getElem?_set_self (by simpa using hlt)] at hx
      cases hx
      exact hnew
    · obtain ⟨o2, h3, rfl⟩ := hget x o1 hx hxl
      by_cases hd : o2 = .dead
      · subst hd; simp [O.kill, orel]
      refine orel_up hII (fun y hy => ?_) (hρ x hxl) (fun X hX => hheap _ (h.flt _ ⟨x, o2, X, h3, hd, hX, rfl⟩) (hother x X hxl ⟨o2, h3, hd⟩ hX)) (orel_kill _ (h.objs x o2 h3))
      obtain ⟨h4, h5⟩ := O.locs_kill _ o2 y hy
      exact hS y (orel_bel (h.objs x o2 h3) y h4) h5
  · have hlx := hlive x hx
    have hly := hlive y hy
    by_cases hxl : x = l
    · by_cases hyl : y = l
      · rw [hxl, hyl]
      · exfalso
        subst hxl
        rw [hρ y hyl] at hY
        obtain ⟨_, hq⟩ := hblk X hX
        obtain ⟨o2, h3, h4⟩ := hly
        rcases hq with hq | ⟨L, hL, hq⟩
        · have := h.flt Y.b ⟨y, o2, Y, h3, h4, hY, rfl⟩; omega
        · exact hother y Y hyl ⟨o2, h3, h4⟩ hY L hL (hq.trans e)
    · by_cases hyl : y = l
      · exfalso
        subst hyl
        rw [hρ x hxl] at hX
        obtain ⟨_, hq⟩ := hblk Y hY
        obtain ⟨o2, h3, h4⟩ := hlx
        rcases hq with hq | ⟨L, hL, hq⟩
        · have := h.flt X.b ⟨x, o2, X, h3, h4, hX, rfl⟩; omega
        · exact hother x X hxl ⟨o2, h3, h4⟩ hX L hL (hq.trans e.symm)
      · rw [hρ x hxl] at hX
        rw [hρ y hyl] at hY
        exact h.inj x y X Y hlx hly hX hY e
  · rintro b ⟨x, o1, X, h1, h2, h3, rfl⟩
    by_cases hxl : x = l
    · subst hxl; exact (hblk X h3).1
    · rw [hρ x hxl] at h3
      obtain ⟨o2, h4, h5⟩ := hlive x ⟨o1, h1, h2⟩
      exact Nat.lt_of_lt_of_le (h.flt _ ⟨x, o2, X, h4, h5, h3, rfl⟩) hsize
  · rintro ⟨x, o1, X, h1, h2, h3, rfl⟩
    by_cases hxl : x = l
    · subst hxl
      rcases (hblk X h3).2 with hq | ⟨L, hL, hq⟩
      · have := (h.imm _ hb).1; omega
      · exact (h.imm _ hb).2 ⟨x, o, L, hl, ho, hL, hq⟩
    · rw [hρ x hxl] at h3
      obtain ⟨o2, h4, h5⟩ := hlive x ⟨o1, h1, h2⟩
      exact (h.imm _ hb).2 ⟨x, o2, X, h4, h5, h3, rfl⟩
  · have hk := vrL_kill (Nat.beq l) tm xs ht
    exact vrL_up hII _ _ (fun y hy => hS y (vrL_locs _ _ hk y hy) (locsL_kill _ _ y hy).2) hk
theorem Ext.move {l : Nat} {o o' : O} (hl : σ[l]? = some o) (ho : o ≠ .dead) (hld : o.ld = 0) (hst : o'.still = false) (hρ : ∀ x, x ≠ l → ρ' x = ρ x) (hheap : ∀ b, b < w.heap.size → (∀ L, ρ l = some L → L.b ≠ b) → w'.heap[b]? = w.heap[b]?) (hsize : w.heap.size ≤ w'.heap.size)
    (hblk : ∀ L', ρ' l = some L' → L'.b < w'.heap.size ∧ (w.heap.size ≤ L'.b ∨ ∃ L, ρ l = some L ∧ L.b = L'.b)) (hos : w'.os = w.os) (htape : w'.tape = w.tape) (hout : w'.output = w.output) :
    Ext σ.length w I ρ σ w' I ρ' ((σ.map (O.kill (Nat.beq l))).set l o') := by
  have hlt : l < σ.length := (List.getElem?_eq_some_iff.1 hl).1
  have hget : ∀ x o1, ((σ.map (O.kill (Nat.beq l))).set l o')[x]? = some o1 → x ≠ l → ∃ o2, σ[x]? = some o2 ∧ o1 = o2.kill (Nat.beq l) := by
    intro x o1 hx hne
    rw [getElem?_set_ne hne, map_kill_get, Option.map_eq_some_iff] at hx
    obtain ⟨o2, h1, h2⟩ := hx
    exact ⟨o2, h1, h2.symm⟩
  refine ⟨hsize, hos, htape, hout, fun b hb hf => hheap b hb fun L hL e => hf ⟨l, o, L, hl, ho, hL, e⟩, fun _ h => h, fun _ h => .inl h, ?_, by simp, ?_, fun x o1 hx h1 h2 => ?_, fun x o1 hx h1 h2 => ?_⟩
  · rintro b ⟨x, o1, X, h1, h2, h3, rfl⟩
    by_cases hxl : x = l
    · subst hxl
      rcases (hblk X h3).2 with hq | ⟨L, hL, hq⟩
      · exact .inr hq
      · exact .inl ⟨x, o, L, hl, ho, hL, hq⟩
    · rw [hρ x hxl] at h3
      obtain ⟨o2, h4, rfl⟩ := hget x o1 h1 hxl
      exact .inl ⟨x, o2, X, h4, fun e => h2 (kill_dead.2 e), h3, rfl⟩
  · rintro x hx ⟨o1, h1, h2⟩
    by_cases hxl : x = l
    · subst hxl; exact ⟨o, hl, ho⟩
    · obtain ⟨o2, h3, rfl⟩ := hget x o1 h1 hxl
      exact ⟨o2, h3, fun e => h2 (kill_dead.2 e)⟩
  · by_cases hxl : x = l
    · subst hxl
      rw [List.getElem?_set_self (by simpa using hlt)] at h1
      cases h1
      rw [hst] at h2; cases h2
    · obtain ⟨o2, h3, rfl⟩ := hget x o1 h1 hxl
      exact ⟨hρ x hxl, o2, h3, by rwa [kill_still] at h2, kill_alike _ _⟩
  · by_cases hxl : x = l
    · subst hxl
      rw [hl] at h1; cases h1
      exact absurd hld h2
    · exact ⟨o1.kill (Nat.beq l), by rw [getElem?_set_ne hxl, map_kill_get, h1]; rfl, kill_ld _ _⟩

/-- append onto a row. -/
theorem appRow_ok {tm : List V} {o : Oper} {s x : Operand} {t t2 : TypeId} {l sz by' : Nat} {xs ys : List D} {mv : Bool} (ho : o.op = .call { callee := .builtin .append, args := #[s, x], argTypes := #[t, t2] }) (hs : ev tm s = .row l) (hl : σ[l]? = some (.row sz xs mv)) (hx : cont σ (ev tm x) = some (sz, ys))
    (hw : elemW P t = some (sz, by')) (h2 : notIntT P t2 = true) (hb : (xs.length + ys.length) * by' ≤ 140737488355328) (h63 : xs.length + ys.length ≤ maxLen) :
    OpOk P o tm σ (.row l) (V.killL (Nat.beq l) tm) ((σ.map (O.kill (Nat.beq l))).set l (.row sz (xs ++ ys) true)) := by
  intro w I ρ a hr hO
  obtain ⟨e, i, z, hu, hi, hz, rfl, rfl, hzs, hz1⟩ := elemW_und hw
  have hlt : l < σ.length := (List.getElem?_eq_some_iff.1 hl).1
  have hsr := vr_ev hr s
  have hcs : cont σ (ev tm s) = some (i.size, xs) := by rw [hs]; simp [cont, hl]
  obtain ⟨olds, hNo, _, hfo⟩ := cont_rel (P := P) hcs hsr hO
  rw [hs] at hsr
  simp only [vr] at hsr
  have hrv := hsr.2.2 _ _ _ hl
  obtain ⟨news, hN, hlen, hfc⟩ := cont_rel (P := P) hx (vr_ev hr x) hO
  have hNN := DrN_append hNo hN
  have hlo := DrN_len hNo
  have hln := DrN_len hN
  have hll : (xs ++ ys).length = xs.length + ys.length := by simp
  have hob := hO.objs l _ hl
  simp only [orel] at hob
  -- what is the same wherever the row comes to lie
  have fin : ∀ (w' : World) (ρ' : LM) (y : Value), (execOp a.eval o).run P w = .ok (.value y) w' → (∀ x, x ≠ l → ρ' x = ρ x) → (∀ b, b < w.heap.size → (∀ L, ρ l = some L → L.b ≠ b) → w'.heap[b]? = w.heap[b]?) → w.heap.size ≤ w'.heap.size →
      orel w' I ρ' ((σ.map (O.kill (Nat.beq l))).set l (.row i.size (xs ++ ys) true)) l (.row i.size (xs ++ ys) true) → (∀ L', ρ' l = some L' → L'.b < w'.heap.size ∧ (w.heap.size ≤ L'.b ∨ ∃ L, ρ l = some L ∧ L.b = L'.b)) →
      rowV ρ' l 0 (xs ++ ys).length y → w'.os = w.os → w'.tape = w.tape → w'.output = w.output →
      ∃ nx x w' I' ρ', (execOp a.eval o).run P w = .ok nx w' ∧ (nx = .value x ∨ nx = .skip ∧ x = undef) ∧ vr w' I' ρ' ((σ.map (O.kill (Nat.beq l))).set l (.row i.size (xs ++ ys) true)) (.row l) x ∧
        vrL w' I' ρ' ((σ.map (O.kill (Nat.beq l))).set l (.row i.size (xs ++ ys) true)) (V.killL (Nat.beq l) tm) a.tmps.toList ∧ ORel w' I' ρ' ((σ.map (O.kill (Nat.beq l))).set l (.row i.size (xs ++ ys) true)) ∧
        Ext σ.length w I ρ σ w' I' ρ' ((σ.map (O.kill (Nat.beq l))).set l (.row i.size (xs ++ ys) true)) := by
    intro w' ρ' y hrun k1 k2 k3 k4 k5 k6 k7 k8 k9
    obtain ⟨g1, g2⟩ := hO.move hl (by simp) k1 k2 k3 k4 k5
    refine ⟨_, y, w', I, ρ', hrun, .inl rfl, ?_, g2 _ _ hr, g1, Ext.move hl (by simp) rfl rfl k1 k2 k3 k5 k7 k8 k9⟩
    simp only [vr]
    refine ⟨?_, by simpa using hlt, fun sz' xs' mv' hx' => ?_⟩
    · obtain ⟨ad, c, rfl⟩ := rowV_slice k6; rfl
    · rw [List.getElem?_set_self (by simpa using hlt)] at hx'
      cases hx'
      exact k6
  have grow : ∀ (base : Option Addr) (cap : Nat), a.eval s = .slice base xs.length cap → cap < xs.length + ys.length →
      ∃ nx x w' I' ρ', (execOp a.eval o).run P w = .ok nx w' ∧ (nx = .value x ∨ nx = .skip ∧ x = undef) ∧ vr w' I' ρ' ((σ.map (O.kill (Nat.beq l))).set l (.row i.size (xs ++ ys) true)) (.row l) x ∧
        vrL w' I' ρ' ((σ.map (O.kill (Nat.beq l))).set l (.row i.size (xs ++ ys) true)) (V.killL (Nat.beq l) tm) a.tmps.toList ∧ ORel w' I' ρ' ((σ.map (O.kill (Nat.beq l))).set l (.row i.size (xs ++ ys) true)) ∧
        Ext σ.length w I ρ σ w' I' ρ' ((σ.map (O.kill (Nat.beq l))).set l (.row i.size (xs ++ ys) true)) := fun base cap hsv hcap => by
    rw [hsv] at hfo
    have hrun := exec_append (a := a) ho (run_app_grow (w := w) (ty := o.type) hu hi hz h2 (base := base) (sLen := xs.length) (sCap := cap) (hlen w) (hfo w.drew rfl) (hfc w.drew rfl) hcap (by simp only [maxLen] at h63; omega) (growslice_fits (by omega) hb) |> fun h => by rw [hsv]; exact h)
    have hge := grownCap_ge w (xs.length + ys.length) cap e
    have hmax := grownCap_le_maxLen w (xs.length + ys.length) cap e h63
    have hcsz : (olds.toArray ++ news.toArray ++ Builtin.zeroCells z.cells (grownCap w (xs.length + ys.length) cap e - (xs.length + ys.length))).size = grownCap w (xs.length + ys.length) cap e * i.size := by
      simp only [Array.size_append, List.size_toArray, hlo, hln, size_zeroCells, hzs, ← Nat.add_mul]
      congr 1; omega
    have hII : ∀ b, I b → I b ∧ (w.drew.alloc (.cells (olds.toArray ++ news.toArray ++ Builtin.zeroCells z.cells (grownCap w (xs.length + ys.length) cap e - (xs.length + ys.length))) e)).heap[b]? = w.heap[b]? := fun b hb => ⟨hb, heap_alloc_old _ _ _ (hO.imm b hb).1⟩
    exact fin _ (fun q => if q = l then some ⟨w.heap.size, 0, i.size, grownCap w (xs.length + ys.length) cap e⟩ else ρ q) _ hrun (fun q hq => by simp [hq]) (fun b hb _ => heap_alloc_old _ _ _ hb) (by simp) (by
      simp only [orel]
      refine .inr ⟨⟨w.heap.size, 0, i.size, grownCap w (xs.length + ys.length) cap e⟩, _, e, (0, 0), by simp, rfl, heap_alloc_new _ _, ⟨thaw_zero _, by
        intro x hx
        rw [Array.toList_append] at hx
        rcases List.mem_append.1 hx with hx | hx
        · rw [Array.toList_append] at hx
          rcases List.mem_append.1 hx with hx | hx
          · exact DrN_one hNo x hx
          · exact DrN_one hN x hx
        · exact one_zeros hz1 _ x hx⟩, by rw [hcsz]; simp, by rw [hll]; exact hge, hmax, ?_⟩
      refine DrE_of_N (DrN_mono hII hNN) fun j hj => ?_
      have : (w.drew.alloc (.cells (olds.toArray ++ news.toArray ++ Builtin.zeroCells z.cells (grownCap w (xs.length + ys.length) cap e - (xs.length + ys.length))) e)).cell? ⟨w.drew.heap.size, 0 + j, none⟩ = (olds.toArray ++ news.toArray ++ Builtin.zeroCells z.cells (grownCap w (xs.length + ys.length) cap e - (xs.length + ys.length)))[j]? := by
        rw [Nat.zero_add]; exact World.cell?_alloc_new _ _ _ _
      refine Eq.trans this ?_
      simp only [List.length_append] at hj
      rw [Array.getElem?_append_left (by simpa using hj)]
      simp) (fun L' hL' => by simp at hL'; subst hL'; exact ⟨by simp, .inl (Nat.le_refl _)⟩) (.inr ⟨⟨w.heap.size, 0, i.size, grownCap w (xs.length + ys.length) cap e⟩, by simp, by rw [hll, Nat.zero_add]; exact hge, by simp [hll]⟩) rfl rfl rfl
  rcases hrv with ⟨h0, ad, hsv⟩ | ⟨L, hL, hle, hsv⟩
  · -- nothing there yet
    have hxs : xs = [] := List.eq_nil_of_length_eq_zero h0
    have hsv' : a.eval s = .slice ad xs.length 0 := by rw [hsv, h0]
    by_cases hm : ys.length = 0
    · have hys : ys = [] := List.eq_nil_of_length_eq_zero hm
      have hnews : news = [] := List.eq_nil_of_length_eq_zero (by rw [hln, hm]; simp)
      have hrun := exec_append (a := a) ho (run_app_room (w := w) (w' := w) (ty := o.type) hu hi h2 (base := ad) (sLen := xs.length) (sCap := 0) (hlen w) (hfc w rfl) (by omega) (by cases ad with
        | none => rfl
        | some ad => simp [hnews, storeCells]) |> fun h => by rw [hsv']; exact h)
      refine fin w ρ _ hrun (fun _ _ => rfl) (fun _ _ _ => rfl) (Nat.le_refl _) ?_ (fun L' hL' => ?_) (.inl ⟨by simp [hxs, hys], ad, by simp [hxs, hys]⟩) rfl rfl rfl
      · simp only [orel]
        rcases hob with ⟨g1, _⟩ | ⟨L, C, T, fz, g1, g2, g3, g4, g5, g6, g7, g8⟩
        · exact .inl ⟨g1, by simp [hxs, hys]⟩
        · exact .inr ⟨L, C, T, fz, g1, g2, g3, g4, g5, by simp [hxs, hys], g7, by simp [hxs, hys, DrE]⟩
      · rcases hob with ⟨g1, _⟩ | ⟨L, C, T, fz, g1, g2, g3, g4, g5, g6, g7, g8⟩
        · rw [hL'] at g1; cases g1
        · rw [hL'] at g1; cases g1
          exact ⟨hO.flt _ ⟨l, _, L', hl, by simp, hL', rfl⟩, .inr ⟨L', hL', rfl⟩⟩
    · exact grow ad 0 hsv' (by omega)
  · rcases hob with ⟨h0, _⟩ | ⟨L', C, T, fz, hL', hLs, hh, hth, hC, hle2, hcap, hE⟩
    · rw [hL] at h0; cases h0
    rw [hL] at hL'; cases hL'
    have hsv' : a.eval s = .slice (some ⟨L.b, L.o, none⟩) xs.length L.cap := by rw [hsv]; simp
    by_cases hroom : xs.length + ys.length ≤ L.cap
    · have hb1 : xs.length * i.size + ys.length * i.size ≤ L.cap * i.size := by rw [← Nat.add_mul]; exact Nat.mul_le_mul_right _ hroom
      have hst := run_storeCells_th (P := P) L.b (L.o + xs.length * i.size) T fz news 0 C w hh hth.1 (by omega) (DrN_one hN)
      simp only [Nat.add_zero] at hst
      have hrun := exec_append (a := a) ho (run_app_room (w := w) (ty := o.type) hu hi h2 (base := some ⟨L.b, L.o, none⟩) (sLen := xs.length) (sCap := L.cap) (hlen w) (hfc w rfl) hroom (by simp only [addr_add]; exact hst) |> fun h => by rw [hsv']; exact h)
      have hII : ∀ b, I b → I b ∧ (w.setRow L.b (C.toList.take (L.o + xs.length * i.size) ++ news ++ C.toList.drop (L.o + xs.length * i.size + news.length)).toArray).heap[b]? = w.heap[b]? :=
        fun b hb => ⟨hb, setRow_other _ _ _ _ fun e => (hO.imm b hb).2 ⟨l, _, L, hl, by simp, hL, e.symm⟩⟩
      refine fin _ ρ _ hrun (fun _ _ => rfl) (fun b _ hb => setRow_other _ _ _ _ fun e => hb L hL e.symm) (by simp) ?_ (fun L' hL' => ?_) (.inr ⟨L, hL, by simpa [hll] using hroom, by simp [hll]⟩) rfl rfl rfl
      · simp only [orel]
        refine .inr ⟨L, _, T, fz, hL, hLs, setRow_heap _ _ _ _ _ _ hh, ?_, ?_, by rw [hll]; exact hroom, hcap, ?_⟩
        · have : ∀ n, n = C.size → thaw fz n := fun n e => e ▸ hth.1
          exact ⟨this _ (by simp; omega), one_splice hth.2 (DrN_one hN)⟩
        · simp; omega
        · refine DrE_of_N (DrN_mono hII hNN) fun j hj => ?_
          rw [cell_setRow_same _ _ _ _ _ _ _ hh]
          simp only [List.length_append] at hj
          obtain ⟨vs0, hN0, hc0⟩ := DrN_of_E hE
          have hvs0l := DrN_len hN0
          have holds : olds = (C.toList.drop L.o).take olds.length := by
            have := hfo w rfl
            rw [hsv'] at this
            simp only [Builtin.firstCells] at this
            have hcr := cells_run (P := P) (w := w) (q := L.o) (vs := (C.toList.drop L.o).take (xs.length * i.size)) hh (fun q hq => by
              simp only [List.length_take, List.length_drop, Array.length_toList] at hq
              rw [List.getElem?_take, if_pos (by omega)]; simp) rfl
            have hlq : ((C.toList.drop L.o).take (xs.length * i.size)).length = xs.length * i.size := by simp; omega
            rw [hlq] at hcr
            rw [hcr] at this
            have h9 := congrArg (fun r => match r with | Result.ok v _ => v.toList | _ => []) this
            simp only at h9
            rw [hlo]; exact h9.symm
          simp only [List.getElem?_toArray]
          by_cases hjo : j < olds.length
          · rw [List.getElem?_append_left (by simp; omega), List.getElem?_append_left (by simp; omega), List.getElem?_append_left hjo, List.getElem?_take, if_pos (by omega)]
            conv => rhs; rw [holds]
            rw [List.getElem?_take, if_pos hjo, List.getElem?_drop]
          · rw [List.getElem?_append_left (by simp; omega), List.getElem?_append_right (by simp; omega), List.getElem?_append_right (by omega)]
            congr 1
            simp only [List.length_take, Array.length_toList]
            omega
      · rw [hL] at hL'; cases hL'
        exact ⟨by have := hO.flt L.b ⟨l, _, L, hl, by simp, hL, rfl⟩; simpa using this, .inr ⟨L, hL, rfl⟩⟩
    · exact grow (some ⟨L.b, L.o, none⟩) L.cap hsv' (by omega)
end
end Go.Br
