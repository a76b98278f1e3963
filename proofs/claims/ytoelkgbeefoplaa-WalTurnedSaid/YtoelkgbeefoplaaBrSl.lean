/- The base of these proofs: parts of rows: their room, what is written into them, what is copied. -/
import Derived.Test.YtoelkgbeefoplaaBrZ
import Derived.Laws.IdiomCopy
namespace Go.Br
open Go

section
variable {w w' : World} {I I' : Nat → Prop} {ρ ρ' : LM} {σ σ' : Store} {P : Program}

/-- A row, in part written anew in its place. -/
theorem row_write {l off sz : Nat} {L : Loc} {C : Array Value} {T : TypeId} {fz : Nat × Nat} {xs ys : List D} {mv : Bool} {news : List Value} (hO : ORel w I ρ σ) (hl : σ[l]? = some (.row sz xs mv)) (hL : ρ l = some L) (hh : w.heap[L.b]? = some (.cells C T fz))
    (hN : DrN w I sz ys news) (hoff : off + ys.length ≤ xs.length) :
    ∃ w', (storeCells ⟨L.b, L.o + off * sz, none⟩ news).run P w = .ok () w' ∧ w'.heap.size = w.heap.size ∧ w'.os = w.os ∧ w'.tape = w.tape ∧ w'.output = w.output ∧ (∀ b, b ≠ L.b → w'.heap[b]? = w.heap[b]?) ∧ (∀ b, I b → I b ∧ w'.heap[b]? = w.heap[b]?) ∧
      ORel w' I ρ (σ.set l (.row sz (xs.take off ++ ys ++ xs.drop (off + ys.length)) mv)) ∧ Ext σ.length w I ρ σ w' I ρ (σ.set l (.row sz (xs.take off ++ ys ++ xs.drop (off + ys.length)) mv)) ∧
      (∀ x, x < σ.length → Same ρ σ ρ (σ.set l (.row sz (xs.take off ++ ys ++ xs.drop (off + ys.length)) mv)) x) := by
  have hob := hO.objs l _ hl
  simp only [orel] at hob
  rcases hob with ⟨h0, _⟩ | ⟨L', C', T', fz', hL', hLs, hh', hth, hC, hle2, hcap, hE⟩
  · rw [hL] at h0; cases h0
  rw [hL] at hL'; cases hL'
  rw [hh] at hh'; cases hh'
  obtain ⟨vs0, hN0, hc0⟩ := DrN_of_E hE
  have hv0 := DrN_len hN0
  have hln := DrN_len hN
  have hb1 : off * sz + ys.length * sz ≤ xs.length * sz := by rw [← Nat.add_mul]; exact Nat.mul_le_mul_right _ hoff
  have hb2 : xs.length * sz ≤ L.cap * sz := Nat.mul_le_mul_right _ hle2
  have hst := run_storeCells_th (P := P) L.b (L.o + off * sz) T fz news 0 C w hh hth.1 (by omega) (DrN_one hN)
  simp only [Nat.add_zero] at hst
  have hNN := DrN_append (DrN_append (DrN_take off hN0) hN) (DrN_drop (off + ys.length) hN0)
  have hII : ∀ b, I b → I b ∧ (w.setRow L.b (C.toList.take (L.o + off * sz) ++ news ++ C.toList.drop (L.o + off * sz + news.length)).toArray).heap[b]? = w.heap[b]? :=
    fun b hb => ⟨hb, setRow_other _ _ _ _ fun e => (hO.imm b hb).2 ⟨l, _, L, hl, by simp, hL, e.symm⟩⟩
  have hlen : (xs.take off ++ ys ++ xs.drop (off + ys.length)).length = xs.length := by simp; omega
  have hal : (O.row sz xs mv).alike (.row sz (xs.take off ++ ys ++ xs.drop (off + ys.length)) mv) := by show some xs.length = some _; rw [hlen]
  refine ⟨_, hst, by simp, rfl, rfl, rfl, fun b hb => setRow_other _ _ _ _ hb, hII, ?_, ?_, same_set hl (by simp) hal⟩
  · refine hO.upd hl (by simp) hL hal (fun b hb => setRow_other _ _ _ _ hb) (by simp) ?_
    simp only [orel]
    refine .inr ⟨L, _, T, fz, hL, hLs, setRow_heap _ _ _ _ _ _ hh, ?_, ?_, by rw [hlen]; exact hle2, hcap, ?_⟩
    · have : ∀ n, n = C.size → thaw fz n := fun n e => e ▸ hth.1
      exact ⟨this _ (by simp; omega), one_splice hth.2 (DrN_one hN)⟩
    · simp; omega
    · refine DrE_of_N (DrN_mono hII hNN) fun j hj => ?_
      rw [cell_setRow_same _ _ _ _ _ _ _ hh]
      simp only [List.length_append, List.length_take, List.length_drop] at hj
      have hcell : ∀ q, q < vs0.length → vs0[q]? = C.toList[L.o + q]? := fun q hq => by
        rw [← hc0 q hq]; simp [World.cell?, hh]
      simp only [List.getElem?_toArray]
      have e1 : (off + ys.length) * sz = off * sz + news.length := by rw [Nat.add_mul, hln]
      by_cases h1 : j < off * sz
      · rw [List.getElem?_append_left (by simp; omega), List.getElem?_append_left (by simp; omega), List.getElem?_append_left (by simp; omega), List.getElem?_append_left (by simp; omega),
          List.getElem?_take, if_pos (by omega), List.getElem?_take, if_pos (by omega), hcell j (by omega)]
      · by_cases h2 : j < off * sz + news.length
        · rw [List.getElem?_append_left (by simp; omega), List.getElem?_append_right (by simp; omega), List.getElem?_append_left (by simp; omega), List.getElem?_append_right (by simp; omega)]
          congr 1
          simp only [List.length_take, Array.length_toList]
          omega
        · rw [List.getElem?_append_right (by simp; omega), List.getElem?_append_right (by simp; omega), List.getElem?_drop, List.getElem?_drop, hcell _ (by simp; omega)]
          congr 1
          simp only [List.length_append, List.length_take, Array.length_toList]
          omega
  · exact Ext.upd hl (by simp) hL (fun h => by simpa [O.still] using h) hal rfl (fun b hb => setRow_other _ _ _ _ hb) (by simp) rfl rfl rfl

/-- What a part of a row is. -/
theorem sl_cases {l off len : Nat} {c : Option Nat} {sz : Nat} {xs : List D} {mv : Bool} {v : Value} (hO : ORel w I ρ σ) (hl : σ[l]? = some (.row sz xs mv)) (h : vr w I ρ σ (.sl l off len c) v) :
    off + len ≤ xs.length ∧ ((len = 0 ∧ ∃ a, v = .slice a 0 0) ∨ ∃ L C T fz, ρ l = some L ∧ L.sz = sz ∧ w.heap[L.b]? = some (.cells C T fz) ∧ off + len ≤ L.cap ∧ xs.length ≤ L.cap ∧ v = .slice (some ⟨L.b, L.o + off * sz, none⟩) len (L.cap - off)) ∧ ∀ k, c = some k → ∃ a n, v = .slice a n k := by
  simp only [vr] at h
  obtain ⟨h1, h2, h3⟩ := h.2.2 _ _ _ hl
  refine ⟨h1, ?_, h3⟩
  rcases h2 with h2 | ⟨L, hL, hle, he⟩
  · exact .inl h2
  · have hob := hO.objs l _ hl
    simp only [orel] at hob
    rcases hob with ⟨h0, _⟩ | ⟨L', C', T', fz', hL', hLs, hh', hth, hC, hle2, hcap, hE⟩
    · rw [hL] at h0; cases h0
    rw [hL] at hL'; cases hL'
    exact .inr ⟨L, C', T', fz', hL, hLs, hh', hle, hle2, by rw [he, hLs]⟩

/-- A part of a part of a row. -/
theorem slSl_ok {tm : List V} {t : TypeId} {x : Operand} {lo hi : Option Operand} {o : Oper} {lc sz off len : Nat} {c : Option Nat} {xs : List D} {mv : Bool} (l h : Nat) (ho : o.op = .slice t x lo hi none) (hx : ev tm x = .sl lc off len c) (hs : σ[lc]? = some (.row sz xs mv)) (ht : elemSz P t = some sz)
    (hlo : Bnd tm lo l 0) (hhi : Bnd tm hi h len) (h1 : l ≤ h) (h2 : off + h ≤ xs.length) (h3 : h ≤ len ∨ ∃ k, c = some k ∧ h ≤ k) : OpOk P o tm σ (.sl lc (off + l) (h - l) (c.map (· - l))) tm σ := by
  intro w I ρ a hr hO
  have hxr := vr_ev hr x
  rw [hx] at hxr
  have hx0 := hxr
  simp only [vr] at hx0
  obtain ⟨e, inf, hu, hinf, hsz⟩ := elemSz_und ht
  obtain ⟨g1, g2, g3⟩ := sl_cases hO hs hxr
  have hmk : ∀ ad cap, a.eval x = .slice ad len cap → h ≤ cap → len ≤ cap → (∀ v, v = .slice (if cap = l then ad else ad.map (·.add (l * inf.size))) (h - l) (cap - l) → rowV ρ lc (off + l) (h - l) v) →
      ∃ nx y w' I' ρ', (execOp a.eval o).run P w = .ok nx w' ∧ (nx = .value y ∨ nx = .skip ∧ y = undef) ∧ vr w' I' ρ' σ (.sl lc (off + l) (h - l) (c.map (· - l))) y ∧ vrL w' I' ρ' σ tm a.tmps.toList ∧ ORel w' I' ρ' σ ∧ Ext σ.length w I ρ σ w' I' ρ' σ := by
    intro ad cap he k1 k2 hv
    have hb := bounds_run (P := P) (b := true) (len := len) (cap := cap) (m := cap) hr hlo hhi (mx := none) rfl h1 k1 (Nat.le_refl _) (by simp)
    have hrun := slice_run ho hu hinf he hb
    refine ⟨_, _, w, I, ρ, hrun, .inl rfl, ?_, hr, hO, Ext.refl _ _ _ _⟩
    simp only [vr]
    refine ⟨rfl, hx0.2.1, fun sz' xs' mv' hx' => ?_⟩
    rw [hs] at hx'; cases hx'
    refine ⟨by omega, hv _ rfl, fun k hk => ?_⟩
    simp only [Option.map_eq_some_iff] at hk
    obtain ⟨k', rfl, rfl⟩ := hk
    obtain ⟨a', n', e'⟩ := g3 k' rfl
    rw [he] at e'
    cases e'
    exact ⟨_, _, rfl⟩
  rcases g2 with ⟨h0, ad, he⟩ | ⟨L, C, T, fz, hL, hLs, hh, hle, hle2, he⟩
  · have hz : h = 0 := by
      rcases h3 with h3 | ⟨k, rfl, h3⟩
      · omega
      · obtain ⟨a', n', e'⟩ := g3 k rfl
        rw [he] at e'; cases e'; omega
    subst h0
    refine hmk ad 0 he (by omega) (by omega) fun v hv => .inl ⟨by omega, ?_⟩
    have : l = 0 := by omega
    subst this hz
    simp at hv
    exact ⟨_, hv⟩
  · have hk : h ≤ L.cap - off := by omega
    refine hmk _ _ he hk (by omega) fun v hv => ?_
    by_cases hcl : L.cap - off = l
    · refine .inl ⟨by omega, ?_⟩
      have e1 : h - l = 0 := by omega
      have e2 : L.cap - off - l = 0 := by omega
      rw [e1, e2] at hv
      exact ⟨_, hv⟩
    · refine .inr ⟨L, hL, by omega, ?_⟩
      rw [if_neg hcl] at hv
      rw [hv]
      simp only [Option.map_some, addr_add, hsz, hLs, Nat.add_mul, Nat.sub_sub, Nat.add_assoc]

def isStrV : V → Bool
  | .d (.str _) => true
  | _ => false
/-- The content of a place for copies. -/
def dstOf (σ : Store) : V → Option (Nat × Nat × Nat)
  | .row l => match σ[l]? with | some (.row _ xs _) => some (l, 0, xs.length) | _ => none
  | .sl l off n _ => some (l, off, n)
  | _ => none
theorem exec_copy {o : Oper} {a : Act} {s x : Operand} {t t2 : TypeId} (ho : o.op = .call { callee := .builtin .copy, args := #[s, x], argTypes := #[t, t2] }) {v : Value} {w w' : World}
    (h : (Builtin.copy_ #[t, t2] o.type #[a.eval s, a.eval x]).run P w = .ok v w') : (execOp a.eval o).run P w = .ok (.value v) w' := by
  simp [execOp, ho, resolve, invoke, builtin, h]
theorem DrN_takeN {sz : Nat} {ds : List D} {vs : List Value} (n : Nat) (h : DrN w I sz ds vs) : DrN w I sz (ds.take n) (vs.take (n * sz)) := DrN_take n h
theorem load_same {b : Addr} {v : Value} {w1 : World} (h : (load b).run P w = .ok v w1) : w1 = w := by
  rw [run_load] at h
  split at h
  · cases h; rfl
  · split at h
    · cases h; rfl
    · cases h
theorem loadFrom_inv {b : Addr} : ∀ (n i : Nat) (acc : Array Value) {r : Array Value} {w1 : World}, (loadCellsFrom b i n acc).run P w = .ok r w1 → ∃ vs : List Value, vs.length = n ∧ r = acc ++ vs.toArray ∧ ∀ m, m ≤ n → (loadCellsFrom b i m acc).run P w = .ok (acc ++ (vs.take m).toArray) w
  | 0, i, acc, r, w1, h => by
    simp only [loadCellsFrom, Sem.run_pure, Result.ok.injEq] at h
    refine ⟨[], rfl, by simp [h.1], fun m hm => ?_⟩
    obtain rfl : m = 0 := by omega
    simp [loadCellsFrom]
  | n + 1, i, acc, r, w1, h => by
    simp only [loadCellsFrom, Sem.run_bind] at h
    cases hl : (load (b.add i)).run P w with
    | halt e w2 => simp [hl] at h
    | ok v w2 =>
      have e := load_same hl
      rw [e] at hl
      simp only [hl, Result.andThen_ok] at h
      obtain ⟨vs, h1, h2, h3⟩ := loadFrom_inv n (i + 1) (acc.push v) h
      refine ⟨v :: vs, by simp [h1], by simp [h2], fun m hm => ?_⟩
      cases m with
      | zero => simp [loadCellsFrom]
      | succ m =>
        simp only [loadCellsFrom, Sem.run_bind, hl, Result.andThen_ok, h3 m (by omega)]
        simp
theorem firstCells_take {sz n m : Nat} {x : Value} {news : List Value} (hx : (match x with | .string _ => true | _ => false) = false) (h : (Builtin.firstCells sz n x).run P w = .ok news.toArray w) (hl : news.length = n * sz) (hm : m ≤ n) : (Builtin.firstCells sz m x).run P w = .ok (news.take (m * sz)).toArray w := by
  cases x with
  | slice ad ln cp =>
    cases ad with
    | none =>
      simp only [Builtin.firstCells, Sem.run_pure, Result.ok.injEq, and_true] at h ⊢
      have : news = [] := by cases news <;> simp_all
      subst this; simp
    | some b =>
      simp only [Builtin.firstCells, loadCells] at h ⊢
      obtain ⟨vs, h1, h2, h3⟩ := loadFrom_inv _ _ _ h
      have := h3 (m * sz) (Nat.mul_le_mul_right _ hm)
      simp only [Array.empty_append] at h2 this
      have h4 : news = vs := by have := congrArg Array.toList h2; simpa using this
      rw [h4]; exact this
  | string s =>
    cases hx
  | _ => simp [Builtin.firstCells] at h
/-- copy. -/
theorem copy_ok {tm : List V} {o : Oper} {s x : Operand} {t t2 : TypeId} {l off len sz : Nat} {xs ys : List D} {mv : Bool} (ho : o.op = .call { callee := .builtin .copy, args := #[s, x], argTypes := #[t, t2] }) (hs : dstOf σ (ev tm s) = some (l, off, len)) (hl : σ[l]? = some (.row sz xs mv)) (hx : cont σ (ev tm x) = some (sz, ys))
    (ht : elemSz P t = some sz) (hns : isStrV (ev tm x) = false) :
    OpOk P o tm σ (.d (.int .i64 ((min ys.length len : Nat) : Int))) tm (σ.set l (.row sz (xs.take off ++ ys.take len ++ xs.drop (off + min ys.length len)) mv)) := by
  intro w I ρ a hr hO
  obtain ⟨e, inf, hu, hinf, hsz⟩ := elemSz_und ht
  have hsr := vr_ev hr s
  have hd : vr w I ρ σ (.sl l off len none) (a.eval s) := by
    unfold dstOf at hs
    split at hs
    · rename_i l' he
      split at hs
      · rename_i hl'
        simp only [Option.some.injEq, Prod.mk.injEq] at hs
        obtain ⟨rfl, rfl, rfl⟩ := hs
        rw [he] at hsr
        simp only [vr] at hsr ⊢
        refine ⟨hsr.1, hsr.2.1, fun sz' xs' mv' hx' => ?_⟩
        rw [hl'] at hx'; cases hx'
        exact ⟨by omega, hsr.2.2 _ _ _ hl', fun k hk => by cases hk⟩
      · cases hs
    · rename_i he
      simp only [Option.some.injEq, Prod.mk.injEq] at hs
      obtain ⟨rfl, rfl, rfl⟩ := hs
      rw [he] at hsr
      simp only [vr] at hsr ⊢
      refine ⟨hsr.1, hsr.2.1, fun sz' xs' mv' hx' => ?_⟩
      obtain ⟨k1, k2⟩ := hsr.2.2 _ _ _ hx'
      exact ⟨k1, k2.1, fun k hk => by cases hk⟩
    · cases hs
  obtain ⟨g1, g2, _⟩ := sl_cases hO hl hd
  obtain ⟨news, hN, hlen, hfc⟩ := cont_rel (P := P) hx (vr_ev hr x) hO
  have hln := DrN_len hN
  have htk : ys.take len = ys.take (min ys.length len) := by
    by_cases h : len ≤ ys.length
    · rw [Nat.min_eq_right h]
    · rw [Nat.min_eq_left (by omega), List.take_length, List.take_of_length_le (by omega)]
  -- what is read
  have hread : (Builtin.firstCells inf.size (min ys.length len) (a.eval x)).run P w = .ok (news.take (min ys.length len * sz)).toArray w := by
    have h0 := hfc w rfl
    rw [hsz]
    refine firstCells_take ?_ h0 hln (by omega)
    have hxr := vr_ev hr x
    unfold cont at hx
    split at hx
    · rename_i he; rw [he] at hxr; simp only [vr, Dr] at hxr; obtain ⟨_, _, e', _⟩ := hxr; rw [e']
    · rename_i he; rw [he] at hxr; simp only [vr] at hxr; obtain ⟨_, e', _⟩ := hxr; rw [e']
    · rename_i l' he
      rw [he] at hxr
      split at hx
      · rename_i hs'
        simp only [vr] at hxr
        obtain ⟨_, _, e'⟩ := rowV_slice (hxr.2.2 _ _ _ hs'); rw [e']
      · cases hx
    · rename_i l' off' n' c' he
      rw [he] at hxr
      split at hx
      · rename_i hs'
        simp only [vr] at hxr
        obtain ⟨_, _, e'⟩ := rowV_slice (hxr.2.2 _ _ _ hs').2.1; rw [e']
      · cases hx
    · rename_i he; rw [he] at hns; simp [isStrV] at hns
    · cases hx
  have hcopy : ∀ {ad : Option Addr} {cap : Nat} {w' : World}, a.eval s = .slice ad len cap → (match ad with | some b => storeCells b (news.take (min ys.length len * sz)) | none => pure ()).run P w = .ok () w' →
      (execOp a.eval o).run P w = .ok (.value (.int .i64 ((min ys.length len : Nat) : Int))) w' := by
    intro ad cap w' he hst
    refine exec_copy ho ?_
    rw [he]
    have hmin : Nat.min ys.length len = min ys.length len := rfl
    have := hread
    cases ad with
    | none =>
      simp only [Sem.run_pure, Result.ok.injEq, true_and] at hst
      subst hst
      simp [Builtin.copy_, run_underlying hu, sizeOf, typeInfo, hinf, hlen w, hmin, this, goInt]
    | some b =>
      simp [Builtin.copy_, run_underlying hu, sizeOf, typeInfo, hinf, hlen w, hmin, this, hst, goInt]
  rcases g2 with ⟨h0, ad, he⟩ | ⟨L, C, T, fz, hL, hLs, hh, hle, hle2, he⟩
  · subst h0
    have hm : min ys.length 0 = 0 := by omega
    have hstore : (match ad with | some b => storeCells b (news.take (min ys.length 0 * sz)) | none => pure ()).run P w = .ok () w := by
      rw [hm, Nat.zero_mul, List.take_zero]
      cases ad <;> simp [storeCells]
    have hset : σ.set l (.row sz (xs.take off ++ ys.take 0 ++ xs.drop (off + min ys.length 0)) mv) = σ := by
      rw [hm, List.take_zero, List.append_nil, Nat.add_zero, List.take_append_drop]
      apply List.ext_getElem?
      intro j
      by_cases hj : j = l
      · subst hj; rw [List.getElem?_set_self (List.getElem?_eq_some_iff.1 hl).1, hl]
      · rw [List.getElem?_set_ne (Ne.symm hj)]
    rw [hset]
    exact ⟨_, _, w, I, ρ, hcopy he hstore, .inl rfl, by simp [vr, Dr], hr, hO, Ext.refl _ _ _ _⟩
  · have hN2 := DrN_takeN (min ys.length len) hN
    obtain ⟨w', hst, k1, k2, k3, k4, k5, hII, hO', hE', hS'⟩ := row_write (P := P) (off := off) hO hl hL hh hN2 (by simp only [List.length_take]; omega)
    have hl2 : (ys.take (min ys.length len)).length = min ys.length len := by simp only [List.length_take]; omega
    rw [hl2] at hO' hE' hS'
    rw [htk]
    exact ⟨_, _, w', I, ρ, hcopy he hst, .inl rfl, by simp [vr, Dr], vrL_all hII hS' hr, hO', hE'⟩
end
end Go.Br
namespace Go.Br
open Go
section
variable {w w' : World} {I I' : Nat → Prop} {ρ ρ' : LM} {σ σ' : Store} {P : Program}
/-- A row that is told anew at a call's end, in its block or in a new one. -/
theorem row_moved {n l sz : Nat} {xs xs' : List D} {mv : Bool} (hO : ORel w I ρ σ) (hl : σ[l]? = some (.row sz xs mv)) (L' : Loc) {C' : Array Value} {T' : TypeId} {fz' : Nat × Nat} (hsz : L'.sz = sz) (hh : w'.heap[L'.b]? = some (.cells C' T' fz')) (hth : thawR fz' C')
    (hC : C'.size = L'.o + L'.cap * sz) (hle : xs'.length ≤ L'.cap) (hcap : L'.cap ≤ maxLen) (hE : DrE w' I sz L'.b L'.o xs') (hheap : ∀ b, b < w.heap.size → (∀ L, ρ l = some L → L.b ≠ b) → w'.heap[b]? = w.heap[b]?) (hsize : w.heap.size ≤ w'.heap.size)
    (hnew : w.heap.size ≤ L'.b ∨ ∃ L, ρ l = some L ∧ L.b = L'.b) (hos : w'.os = w.os) (htape : w'.tape = w.tape) (hout : w'.output = w.output) (hn : n ≤ σ.length) :
    Fin n w I ρ σ (fun r σ' => r = .ret (.row l) ∧ σ' = (σ.map (O.kill (Nat.beq l))).set l (.row sz xs' true)) (.returned (.slice (some ⟨L'.b, L'.o, none⟩) xs'.length L'.cap)) w' := by
  have hlt : l < σ.length := (List.getElem?_eq_some_iff.1 hl).1
  let ρ' : LM := fun x => if x = l then some L' else ρ x
  have hρ : ∀ x, x ≠ l → ρ' x = ρ x := fun x hx => by simp [ρ', hx]
  have hρl : ρ' l = some L' := by simp [ρ']
  have hor : orel w' I ρ' ((σ.map (O.kill (Nat.beq l))).set l (.row sz xs' true)) l (.row sz xs' true) := by
    simp only [orel]
    exact .inr ⟨L', C', T', fz', hρl, hsz, hh, hth, hC, hle, hcap, hE⟩
  obtain ⟨g1, g2⟩ := hO.move hl (by simp) hρ hheap hsize hor (fun K hK => by
    rw [hρl] at hK; cases hK
    refine ⟨(Array.getElem?_eq_some_iff.1 hh).1, hnew⟩)
  have hx := Ext.move (I := I) hl (by simp) rfl (o' := .row sz xs' true) rfl hρ hheap hsize (fun K hK => by
    rw [hρl] at hK; cases hK
    exact ⟨(Array.getElem?_eq_some_iff.1 hh).1, hnew⟩) hos htape hout
  refine ⟨I, ρ', _, .ret (.row l), ⟨rfl, rfl⟩, ⟨_, rfl, ?_⟩, g1, hx.less hn⟩
  simp only [vr]
  refine ⟨rfl, by simpa using hlt, fun sz' xs'' mv' hx' => ?_⟩
  rw [List.getElem?_set_self (by simpa using hlt)] at hx'
  cases hx'
  exact .inr ⟨L', hρl, by omega, by simp⟩
theorem setCells_setRow {b : Nat} {T : TypeId} {fz : Nat × Nat} : ∀ (vs : List Value) (o : Nat) (C : Array Value) (w : World), w.heap[b]? = some (.cells C T fz) → o + vs.length ≤ C.size →
    w.setCells b o vs = w.setRow b (C.toList.take o ++ vs ++ C.toList.drop (o + vs.length)).toArray
  | [], o, C, w, h, _ => by
    simp only [World.setCells, List.append_nil, List.length_nil, Nat.add_zero, List.take_append_drop, Array.toArray_toList]
    rw [setRow_self w b C T fz h]
  | v :: vs, o, C, w, h, hl => by
    have hi : o < C.size := by simp at hl; omega
    have e1 : w.setCell ⟨b, o, none⟩ v = w.setRow b (C.setIfInBounds o v) := setCell_eq_setRow w b o C T fz v h
    have ih := setCells_setRow vs (o + 1) (C.setIfInBounds o v) (w.setRow b (C.setIfInBounds o v)) (setRow_heap w b C _ T _ h) (by simp at hl ⊢; omega)
    rw [World.setCells, e1, ih, setRow_setRow]
    congr 2
    have e := list_seg_step C.toList o v vs (by simp at hl ⊢; omega)
    simpa [Array.toList_setIfInBounds, Nat.add_assoc] using e
end
end Go.Br
namespace Go.Br
open Go
section
variable {P : Program} {σ : Store}
/-- An array's length and its elements' size. -/
def arrOf (P : Program) (t : TypeId) : Option (Nat × Nat) := match P.underlying t with
  | some (.array m e) => (P.info? e).map fun i => (m, i.size)
  | _ => none
/-- The address of an array's element. -/
theorem ixArr_ok {tm : List V} {t : TypeId} {x i : Operand} {o : Oper} {l j s m sz : Nat} {k : IntKind} {n : Int} (ho : o.op = .indexAddr t x i) (hx : ev tm x = .ptr l j s) (hi : ev tm i = .d (.int k n))
    (hl : liveB σ l = true) (ht : arrOf P t = some (m, sz)) (h0 : 0 ≤ n) (hn : n < (m : Int)) : OpOk P o tm σ (.ptr l j (s + n.toNat * sz)) tm σ := by
  intro w I ρ a hr hO
  have hxr := vr_ev hr x
  have hir := vr_ev hr i
  rw [hx] at hxr
  rw [hi] at hir
  simp only [vr, Dr] at hir hxr
  obtain ⟨L, hL, he⟩ := hxr.2.2 (live_of hl)
  unfold arrOf at ht
  split at ht
  · rename_i m' e hu
    simp only [Option.map_eq_some_iff, Prod.mk.injEq] at ht
    obtain ⟨inf, hinf, rfl, hsz⟩ := ht
    refine ⟨_, .pointer (some ⟨L.b, L.o + j * L.sz + (s + n.toNat * sz), none⟩), w, I, ρ, ?_, .inl rfl, ?_, hr, hO, Ext.refl _ _ _ _⟩
    · have hcond : 0 ≤ n ∧ n < (m' : Int) := ⟨h0, hn⟩
      simp [execOp, ho, he, hir, Instr.indexAt, asIntOf, run_underlying hu, hcond, sizeOf, typeInfo, hinf, hsz, addr_add, Instr.sureAddr, Nat.add_assoc]
    · simp only [vr]
      exact ⟨rfl, hxr.2.1, fun _ => ⟨L, hL, rfl⟩⟩
  · cases ht
end
end Go.Br
