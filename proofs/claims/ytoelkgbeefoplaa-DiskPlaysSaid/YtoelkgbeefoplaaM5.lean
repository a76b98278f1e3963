/- Texts of this proof, part 5: BrDf, BrDg, BrDh, BrEa, BrEb. -/
import Derived.Test.YtoelkgbeefoplaaM4
set_option linter.unusedSimpArgs false
set_option linter.unusedVariables false
set_option linter.constructorNameAsVariable false
namespace Go.Br
open Go
structure FP where
  r : List Nat
  w : List Nat
  k : List Nat
  out : List Nat
  m : List Nat
  lv : List Nat
  u : Bool
  g : Bool
def nF : FP := { r := [], w := [], k := [], out := [], m := [], lv := [], u := true, g := false }
def inK (k : List Nat) (l : Nat) : Bool := k.any (Nat.beq l)
theorem inK_iff {k : List Nat} {l : Nat} : inK k l = true ↔ l ∈ k := by
 simp only [inK, List.any_eq_true, Nat.beq_eq]
 exact ⟨fun ⟨x, h, e⟩ => e ▸ h, fun h => ⟨l, h, rfl⟩⟩
def patch (U : List (Nat × O)) (σ : Store) : Store := U.foldl (fun s p => s.set p.1 p.2) σ
def effT (k : List Nat) (d : Option Tmp) (v : V) (tm : List V) : List V := put (V.killL (inK k) tm) d v
def effS (k : List Nat) (U : List (Nat × O)) (σ : Store) : Store := patch U (σ.map (O.kill (inK k)))
mutual
def V.full : V → Bool
  | .undef => false
  | .fn _ a b => V.fullL a && V.fullL b
  | .tuple vs | .agg vs => V.fullL vs
  | _ => true
def V.fullL : List V → Bool
  | [] => true
  | v :: vs => V.full v && V.fullL vs
end
def O.full : O → Bool
  | .cells cs => V.fullL cs
  | .loop _ _ _ tm _ _ _ => V.fullL tm
  | _ => true
theorem V.killL_map {p : Nat → Bool} : ∀ vs : List V, V.killL p vs = vs.map (V.kill p)
 | [] => rfl
 | v :: vs => by rw [V.killL, V.killL_map vs]; rfl
mutual
theorem V.kill_off {p : Nat → Bool} : ∀ v : V, (∀ l ∈ v.locs, p l = false) → v.kill p = v
 | .d _, _ => rfl
 | .undef, _ => rfl
 | .nils, _ => rfl
 | .ex _ _, _ => rfl
 | .ep _ _ _, _ => rfl
 | .ptr l _ _, h => by simp [V.kill, h l (by simp [V.locs])]
 | .row l, h => by simp [V.kill, h l (by simp [V.locs])]
 | .sl l _ _ _, h => by simp [V.kill, h l (by simp [V.locs])]
 | .yield l, h => by simp [V.kill, h l (by simp [V.locs])]
 | .map l, h => by simp [V.kill, h l (by simp [V.locs])]
 | .fn _ a b, h => by rw [V.kill, V.killL_off a fun l hl => h l (by simp [V.locs, hl]), V.killL_off b fun l hl => h l (by simp [V.locs, hl])]
 | .tuple vs, h => by rw [V.kill, V.killL_off vs fun l hl => h l (by simpa [V.locs] using hl)]
 | .agg vs, h => by rw [V.kill, V.killL_off vs fun l hl => h l (by simpa [V.locs] using hl)]
theorem V.killL_off {p : Nat → Bool} : ∀ vs : List V, (∀ l ∈ V.locsL vs, p l = false) → V.killL p vs = vs
 | [], _ => rfl
 | v :: vs, h => by rw [V.killL, V.kill_off v fun l hl => h l (by simp [V.locsL, hl]), V.killL_off vs fun l hl => h l (by simp [V.locsL, hl])]
end
theorem O.kill_off {p : Nat → Bool} (o : O) (h : ∀ l ∈ o.locs, p l = false) : o.kill p = o := by
 cases o with
 | cells cs => rw [O.kill, V.killL_off cs h]
 | loop a b c tm x e f => rw [O.kill, V.killL_off tm h]
 | _ => rfl
mutual
theorem V.kill_full {p : Nat → Bool} : ∀ v : V, (v.kill p).full = true → v.kill p = v
 | .d _, _ => rfl
 | .undef, _ => rfl
 | .nils, _ => rfl
 | .ex _ _, _ => rfl
 | .ep _ _ _, _ => rfl
 | .ptr l _ _, h => by cases hp : p l <;> simp [V.kill, hp, V.full] at h ⊢
 | .row l, h => by cases hp : p l <;> simp [V.kill, hp, V.full] at h ⊢
 | .sl l _ _ _, h => by cases hp : p l <;> simp [V.kill, hp, V.full] at h ⊢
 | .yield l, h => by cases hp : p l <;> simp [V.kill, hp, V.full] at h ⊢
 | .map l, h => by cases hp : p l <;> simp [V.kill, hp, V.full] at h ⊢
 | .fn _ a b, h => by
   simp only [V.kill, V.full, Bool.and_eq_true] at h
   rw [V.kill, V.killL_full a h.1, V.killL_full b h.2]
 | .tuple vs, h => by
   simp only [V.kill, V.full] at h
   rw [V.kill, V.killL_full vs h]
 | .agg vs, h => by
   simp only [V.kill, V.full] at h
   rw [V.kill, V.killL_full vs h]
theorem V.killL_full {p : Nat → Bool} : ∀ vs : List V, V.fullL (V.killL p vs) = true → V.killL p vs = vs
 | [], _ => rfl
 | v :: vs, h => by
   simp only [V.killL, V.fullL, Bool.and_eq_true] at h
   rw [V.killL, V.kill_full v h.1, V.killL_full vs h.2]
end
theorem O.kill_full {p : Nat → Bool} (o : O) (h : (o.kill p).full = true) : o.kill p = o := by
 cases o with
 | cells cs => rw [O.kill, V.killL_full cs (by simpa [O.kill, O.full] using h)]
 | loop a b c tm x e f => rw [O.kill, V.killL_full tm (by simpa [O.kill, O.full] using h)]
 | _ => rfl
mutual
theorem V.kill_comm {p q : Nat → Bool} : ∀ v : V, (v.kill p).kill q = (v.kill q).kill p
 | .d _ => rfl
 | .undef => rfl
 | .nils => rfl
 | .ex _ _ => rfl
 | .ep _ _ _ => rfl
 | .ptr l _ _ => by cases hp : p l <;> cases hq : q l <;> simp [V.kill, hp, hq]
 | .row l => by cases hp : p l <;> cases hq : q l <;> simp [V.kill, hp, hq]
 | .sl l _ _ _ => by cases hp : p l <;> cases hq : q l <;> simp [V.kill, hp, hq]
 | .yield l => by cases hp : p l <;> cases hq : q l <;> simp [V.kill, hp, hq]
 | .map l => by cases hp : p l <;> cases hq : q l <;> simp [V.kill, hp, hq]
 | .fn _ a b => by simp only [V.kill]; rw [V.killL_comm a, V.killL_comm b]
 | .tuple vs => by simp only [V.kill]; rw [V.killL_comm vs]
 | .agg vs => by simp only [V.kill]; rw [V.killL_comm vs]
theorem V.killL_comm {p q : Nat → Bool} : ∀ vs : List V, V.killL q (V.killL p vs) = V.killL p (V.killL q vs)
 | [] => rfl
 | v :: vs => by simp only [V.killL]; rw [V.kill_comm v, V.killL_comm vs]
end
theorem O.kill_comm {p q : Nat → Bool} (o : O) : (o.kill p).kill q = (o.kill q).kill p := by
 cases o with
 | cells cs => simp only [O.kill]; rw [V.killL_comm]
 | loop a b c tm x e f => simp only [O.kill]; rw [V.killL_comm]
 | _ => rfl
theorem killL_put {p : Nat → Bool} {tm : List V} {d : Option Tmp} {v : V} : V.killL p (put tm d v) = put (V.killL p tm) d (v.kill p) := by
 cases d with
 | none => rfl
 | some t => simp only [put, V.killL_map, List.map_set]
theorem ev_kill {p : Nat → Bool} {tm : List V} {x : Operand} : ev (V.killL p tm) x = (ev tm x).kill p := by
 cases x with
 | tmp t =>
   simp only [ev, V.killL_map, List.getD_eq_getElem?_getD, List.getElem?_map]
   cases tm[t]? <;> rfl
 | const c =>
   simp only [ev]
   unfold cst
   split <;> rfl
 | _ => rfl
theorem valsOf_kill {p : Nat → Bool} {tm : List V} {o : Oper} : valsOf (V.killL p tm) o = V.killL p (valsOf tm o) := by
 unfold valsOf
 rw [V.killL_map (List.map _ _), List.map_map]
 exact List.map_congr_left fun x _ => ev_kill
theorem patch_length : ∀ (U : List (Nat × O)) (σ : Store), (patch U σ).length = σ.length
 | [], _ => rfl
 | p :: U, σ => by show (patch U (σ.set p.1 p.2)).length = _; rw [patch_length U, List.length_set]
theorem effS_length (k : List Nat) (U : List (Nat × O)) (σ : Store) : (effS k U σ).length = σ.length := by rw [effS, patch_length, List.length_map]
theorem patch_off : ∀ (U : List (Nat × O)) (σ : Store) (l : Nat), (∀ p ∈ U, p.1 ≠ l) → (patch U σ)[l]? = σ[l]?
 | [], _, _, _ => rfl
 | p :: U, σ, l, h => by
   show (patch U (σ.set p.1 p.2))[l]? = _
   rw [patch_off U _ l fun q hq => h q (by simp [hq]), List.getElem?_set_ne (h p (by simp))]
theorem patch_set : ∀ (U : List (Nat × O)) (σ : Store) (l : Nat) (o : O), (∀ p ∈ U, p.1 ≠ l) → patch U (σ.set l o) = (patch U σ).set l o
 | [], _, _, _, _ => rfl
 | p :: U, σ, l, o, h => by
   show patch U ((σ.set l o).set p.1 p.2) = (patch U (σ.set p.1 p.2)).set l o
   rw [List.set_comm _ _ (Ne.symm (h p (by simp))), patch_set U _ l o fun q hq => h q (by simp [hq])]
theorem patch_comm : ∀ (U W : List (Nat × O)) (σ : Store), (∀ p ∈ U, ∀ q ∈ W, p.1 ≠ q.1) → patch U (patch W σ) = patch W (patch U σ)
 | U, [], σ, _ => rfl
 | U, q :: W, σ, h => by
   show patch U (patch W (σ.set q.1 q.2)) = patch W ((patch U σ).set q.1 q.2)
   rw [patch_comm U W _ fun p hp x hx => h p hp x (by simp [hx]), patch_set U σ q.1 q.2 fun p hp => h p hp q (by simp)]
theorem patch_map {g : O → O} : ∀ (U : List (Nat × O)) (σ : Store), (∀ p ∈ U, g p.2 = p.2) → (patch U σ).map g = patch U (σ.map g)
 | [], _, _ => rfl
 | p :: U, σ, h => by
   show (patch U (σ.set p.1 p.2)).map g = patch U ((σ.map g).set p.1 p.2)
   rw [patch_map U _ fun q hq => h q (by simp [hq]), List.map_set, h p (by simp)]
theorem effT_comm {k1 k2 : List Nat} {d1 d2 : Option Tmp} {v1 v2 : V} {tm : List V} (h1 : ∀ l ∈ v1.locs, inK k2 l = false) (h2 : ∀ l ∈ v2.locs, inK k1 l = false) (hd : ∀ d, d1 = some d → d2 ≠ some d) :
  effT k2 d2 v2 (effT k1 d1 v1 tm) = effT k1 d1 v1 (effT k2 d2 v2 tm) := by
 unfold effT
 rw [killL_put, killL_put, V.kill_off v1 h1, V.kill_off v2 h2, V.killL_comm, put_comm hd]
theorem effS_comm {k1 k2 : List Nat} {U1 U2 : List (Nat × O)} {σ : Store} (h1 : ∀ p ∈ U1, ∀ l ∈ p.2.locs, inK k2 l = false) (h2 : ∀ p ∈ U2, ∀ l ∈ p.2.locs, inK k1 l = false) (hd : ∀ p ∈ U1, ∀ q ∈ U2, p.1 ≠ q.1) :
  effS k2 U2 (effS k1 U1 σ) = effS k1 U1 (effS k2 U2 σ) := by
 unfold effS
 rw [patch_map U1 _ fun p hp => O.kill_off p.2 (h1 p hp), patch_map U2 _ fun p hp => O.kill_off p.2 (h2 p hp), patch_comm U2 U1 _ fun p hp q hq e => hd q hq p hp e.symm]
 congr 2
 simp only [List.map_map]
 exact List.map_congr_left fun o _ => O.kill_comm o
theorem wantA_kill {ops : Array Oper} {o : Oper} {p : Nat → Bool} {tm : List V} : wantA ops o (V.killL p tm) = wantA ops o tm := by
  unfold wantA
  cases o.guard with
  | none => rfl
  | some g =>
    obtain ⟨j, want⟩ := g
    simp only []
    cases (ops[j]?).bind (·.dst) with
    | none => rfl
    | some d =>
      simp only [V.killL_map, List.getElem?_map]
      cases tm[d]? with
      | none => rfl
      | some v =>
        cases v with
        | d x => rfl
        | ptr l i s => simp only [Option.map_some, V.kill]; cases p l <;> rfl
        | row l => simp only [Option.map_some, V.kill]; cases p l <;> rfl
        | sl l a b c => simp only [Option.map_some, V.kill]; cases p l <;> rfl
        | yield l => simp only [Option.map_some, V.kill]; cases p l <;> rfl
        | map l => simp only [Option.map_some, V.kill]; cases p l <;> rfl
        | tuple vs => cases vs <;> rfl
        | _ => rfl
section
variable (P : Program) (f : FuncId) (ro : Option Nat) (n : Nat) (k : List Item) (df : List Nat) (Q : AE → Store → Prop) (ops : Array Oper)
def O.isDead : O → Bool
  | .dead => true
  | _ => false
def noFP : FP := ⟨[], [], [], [], [], [], false, true⟩
structure OkF (fp : FP) (tm : List V) (σ : Store) (o : Oper) (v : V) (U : List (Nat × O)) : Prop where
  uw : ∀ p ∈ U, p.1 ∈ fp.w
  vo : ∀ l ∈ v.locs, l ∈ fp.out
  uo : ∀ p ∈ U, ∀ l ∈ p.2.locs, l ∈ fp.out
  vl : ∀ l ∈ V.locsL (valsOf tm o), l ∈ fp.m
  lw : ∀ l ∈ fp.w, liveB σ l = true
  ul : ∀ p ∈ U, p.2.isDead = false
  ll : ∀ l ∈ fp.lv, liveB σ l = true
  om : ∀ l ∈ fp.r, ∀ ob, σ[l]? = some ob → ∀ x ∈ ob.locs, x ∈ fp.m
  fu : fp.u = true → V.fullL (valsOf tm o) = true ∧ ∀ l ∈ fp.r, ∀ ob, σ[l]? = some ob → ob.full = true
def Rob (fp : FP) (i : Nat) (tm : List V) (σ : Store) (o : Oper) (v : V) (U : List (Nat × O)) : Prop :=
  ∀ (rest : List Nat) (tm2 : List V) (σ2 : Store), valsOf tm2 o = valsOf tm o → wantA ops o tm2 = some true → σ2.length = σ.length → (∀ l ∈ fp.r, σ2[l]? = σ[l]?) → (∀ l ∈ fp.lv, liveB σ2 l = true) →
    AW P f ro n (.inRegion ops rest :: k) (effT fp.k o.dst v tm2) (effS fp.k U σ2) df Q → AW P f ro n (.inRegion ops (i :: rest) :: k) tm2 σ2 df Q
def StepF (F : List FP) (i : Nat) (s s' : List V × Store) : Prop :=
  ∃ o, ops[i]? = some o ∧
    ((F.getD i noFP).g = true ∧ (∀ rest, AW P f ro n (.inRegion ops rest :: k) s'.1 s'.2 df Q → AW P f ro n (.inRegion ops (i :: rest) :: k) s.1 s.2 df Q) ∨
     (F.getD i noFP).g = false ∧ wantA ops o s.1 = some false ∧ s' = (put s.1 o.dst (.tuple []), s.2) ∨
     (F.getD i noFP).g = false ∧ wantA ops o s.1 = some true ∧ ∃ v U, s' = (effT (F.getD i noFP).k o.dst v s.1, effS (F.getD i noFP).k U s.2) ∧ OkF (F.getD i noFP) s.1 s.2 o v U ∧ Rob P f ro n k df Q ops (F.getD i noFP) i s.1 s.2 o v U)
end
def meet (a b : List Nat) : Bool := a.any fun x => b.any (Nat.beq x)
theorem meet_no {a b : List Nat} (h : meet a b = false) {l : Nat} (h1 : l ∈ a) (h2 : l ∈ b) : False := by
 simp only [meet, List.any_eq_false] at h
 have := h l h1
 simp only [Bool.not_eq_true, List.any_eq_false] at this
 exact absurd (this l h2) (by rw [Nat.beq_refl]; simp)
def fpB (a b : FP) : Bool := a.g || b.g || meet a.w b.r || meet b.w a.r || meet a.k b.out || meet a.k b.m || meet b.k a.out || meet b.k a.m || (!a.k.isEmpty && !b.u) || (!b.k.isEmpty && !a.u)
def fpOk (a : FP) : Bool := (a.w.all fun l => a.r.any (Nat.beq l)) && (a.k.all fun l => a.w.any (Nat.beq l))
def depF (ops : Array Oper) (F : List FP) (i j : Nat) : Bool :=
  match ops[i]?, ops[j]? with
  | some x, some y => !(x.apart ops y) || !(y.apart ops x) || fpB (F.getD i noFP) (F.getD j noFP)
  | _, _ => true
theorem fpB_symm (a b : FP) : fpB a b = fpB b a := by
 unfold fpB
 generalize meet a.w b.r = x1
 generalize meet b.w a.r = x2
 generalize meet a.k b.out = x3
 generalize meet a.k b.m = x4
 generalize meet b.k a.out = x5
 generalize meet b.k a.m = x6
 generalize (!a.k.isEmpty && !b.u) = x7
 generalize (!b.k.isEmpty && !a.u) = x8
 cases a.g <;> cases b.g <;> cases x1 <;> cases x2 <;> cases x3 <;> cases x4 <;> cases x5 <;> cases x6 <;> cases x7 <;> cases x8 <;> rfl
theorem depF_symm (ops : Array Oper) (F : List FP) (i j : Nat) : depF ops F i j = depF ops F j i := by
 unfold depF
 cases ops[i]? <;> cases ops[j]? <;> simp [fpB_symm, Bool.or_comm]
theorem effT_nil {d : Option Tmp} {v : V} {tm : List V} : effT [] d v tm = put tm d v := by
 unfold effT; rw [V.killL_id (p := inK []) fun l => rfl]
theorem effS_nil {σ : Store} : effS [] [] σ = σ := by
 unfold effS
 show σ.map _ = σ
 rw [List.map_congr_left (g := id) fun o _ => O.kill_id (p := inK []) (fun l => rfl) o]
 simp
section
variable {P : Program} {f : FuncId} {ro : Option Nat} {n : Nat} {k : List Item} {df : List Nat} {Q : AE → Store → Prop} {ops : Array Oper}
theorem look_through {a b : FP} (hab : fpB a b = false) {x y : Oper} {tm : List V} {σ : Store} {v u : V} {U W : List (Nat × O)} (hd : ∀ t, x.dst = some t → t ∉ y.looksAt ops)
   (hx : OkF a tm σ x v U) (hy : OkF b (effT a.k x.dst v tm) (effS a.k U σ) y u W) :
   valsOf (effT a.k x.dst v tm) y = valsOf tm y ∧ ∀ l ∈ b.r, (effS a.k U σ)[l]? = σ[l]? := by
 simp only [fpB, Bool.or_eq_false_iff] at hab
 obtain ⟨⟨⟨⟨⟨⟨⟨⟨⟨_, _⟩, h1⟩, h2⟩, h3⟩, h4⟩, h5⟩, h6⟩, h7⟩, h8⟩ := hab
 have e1 : valsOf (effT a.k x.dst v tm) y = V.killL (inK a.k) (valsOf tm y) := by
   rw [effT, valsOf_put hd, valsOf_kill]
 have e2 : ∀ l ∈ b.r, (effS a.k U σ)[l]? = (σ[l]?).map (O.kill (inK a.k)) := fun l hl => by
   rw [effS, patch_off _ _ _ fun p hp e => meet_no h1 (hx.uw p hp) (e ▸ hl), List.getElem?_map]
 by_cases hk : a.k = []
 · rw [hk] at e1 e2
   refine ⟨by rw [hk, e1, V.killL_id (p := inK []) fun l => rfl], fun l hl => ?_⟩
   rw [hk, e2 l hl]
   cases σ[l]? with
   | none => rfl
   | some o => rw [Option.map_some, O.kill_id (p := inK []) fun l => rfl]
 · have hu : b.u = true := by
     have : a.k.isEmpty = false := by simpa using hk
     rw [this] at h7
     simpa using h7
   obtain ⟨g1, g2⟩ := hy.fu hu
   rw [e1] at g1
   refine ⟨by rw [e1, V.killL_full _ g1], fun l hl => ?_⟩
   rw [e2 l hl]
   cases hs : σ[l]? with
   | none => rfl
   | some o =>
     have := g2 l hl (o.kill (inK a.k)) (by rw [e2 l hl, hs]; rfl)
     rw [Option.map_some, O.kill_full o this]
theorem OkF.through {b : FP} {y : Oper} {tm : List V} {σ : Store} {u : V} {W : List (Nat × O)} {tm' : List V} {σ' : Store} (hy : OkF b tm' σ' y u W) (hv : valsOf tm' y = valsOf tm y) (hs : ∀ l ∈ b.r, σ'[l]? = σ[l]?) (hl : ∀ l, liveB σ' l = true → liveB σ l = true) : OkF b tm σ y u W :=
 ⟨hy.uw, hy.vo, hy.uo, by rw [← hv]; exact hy.vl, fun l h => hl l (hy.lw l h), hy.ul, fun l h => hl l (hy.ll l h), fun l hl ob h => hy.om l hl ob (by rw [hs l hl]; exact h), fun h => by
  obtain ⟨g1, g2⟩ := hy.fu h
  exact ⟨by rw [← hv]; exact g1, fun l hl ob h' => g2 l hl ob (by rw [hs l hl]; exact h')⟩⟩
theorem kill_isDead {p : Nat → Bool} {o : O} : (o.kill p).isDead = o.isDead := by cases o <;> rfl
theorem liveB_iff {σ : Store} {l : Nat} : liveB σ l = true ↔ ∃ o, σ[l]? = some o ∧ o.isDead = false := by
 unfold liveB
 cases h : σ[l]? with
 | none => simp
 | some o => cases o <;> simp [O.isDead]
theorem patch_live : ∀ (U : List (Nat × O)) (σ : Store), (∀ p ∈ U, p.2.isDead = false) → ∀ l, liveB σ l = true → liveB (patch U σ) l = true
 | [], _, _, _, h => h
 | p :: U, σ, hU, l, h => by
   show liveB (patch U (σ.set p.1 p.2)) l = true
   refine patch_live U _ (fun q hq => hU q (by simp [hq])) l ?_
   obtain ⟨o, h1, h2⟩ := liveB_iff.1 h
   by_cases hl : p.1 = l
   · subst hl
     exact liveB_iff.2 ⟨p.2, by rw [List.getElem?_set_self (List.getElem?_eq_some_iff.1 h1).1], hU p (by simp)⟩
   · exact liveB_iff.2 ⟨o, by rw [List.getElem?_set_ne hl]; exact h1, h2⟩
theorem effS_live {k : List Nat} {U : List (Nat × O)} {σ : Store} (hU : ∀ p ∈ U, p.2.isDead = false) {l : Nat} (h : liveB σ l = true) : liveB (effS k U σ) l = true := by
 refine patch_live U _ hU l ?_
 obtain ⟨o, h1, h2⟩ := liveB_iff.1 h
 exact liveB_iff.2 ⟨o.kill (inK k), by rw [List.getElem?_map, h1]; rfl, by rw [kill_isDead]; exact h2⟩
theorem effS_lived {fp : FP} {tm : List V} {σ : Store} {o : Oper} {v : V} {U : List (Nat × O)} (hO : OkF fp tm σ o v U) {l : Nat} (h : liveB (effS fp.k U σ) l = true) : liveB σ l = true := by
 by_cases hl : ∃ p ∈ U, p.1 = l
 · obtain ⟨p, hp, rfl⟩ := hl
   exact hO.lw p.1 (hO.uw p hp)
 · obtain ⟨o', h1, h2⟩ := liveB_iff.1 h
   rw [effS, patch_off _ _ _ fun p hp e => hl ⟨p, hp, e⟩, List.getElem?_map, Option.map_eq_some_iff] at h1
   obtain ⟨o2, h3, rfl⟩ := h1
   exact liveB_iff.2 ⟨o2, h3, by rw [kill_isDead] at h2; exact h2⟩
theorem in_all {a b : List Nat} (h : (a.all fun l => b.any (Nat.beq l)) = true) {l : Nat} (hl : l ∈ a) : l ∈ b := inK_iff.1 (List.all_eq_true.1 h l hl)
theorem look_ahead {a b : FP} (hab : fpB a b = false) {x y : Oper} {tm : List V} {σ : Store} {v u : V} {U W : List (Nat × O)} (hd : ∀ t, y.dst = some t → t ∉ x.looksAt ops) (hx : OkF a tm σ x v U) (hW : ∀ p ∈ W, p.1 ∈ b.w) :
   valsOf (effT b.k y.dst u tm) x = valsOf tm x ∧ ∀ l ∈ a.r, (effS b.k W σ)[l]? = σ[l]? := by
 simp only [fpB, Bool.or_eq_false_iff] at hab
 obtain ⟨⟨⟨⟨⟨⟨⟨⟨⟨_, _⟩, h1⟩, h2⟩, h3⟩, h4⟩, h5⟩, h6⟩, h7⟩, h8⟩ := hab
 have off : ∀ l, l ∉ b.k → inK b.k l = false := fun l hl => by
   cases h : inK b.k l with
   | false => rfl
   | true => exact absurd (inK_iff.1 h) hl
 refine ⟨?_, fun l hl => ?_⟩
 · rw [effT, valsOf_put hd, valsOf_kill]
   exact V.killL_off _ fun l hl => off l fun h => meet_no h6 h (hx.vl l hl)
 · rw [effS, patch_off _ _ _ fun p hp e => meet_no h2 (hW p hp) (e ▸ hl), List.getElem?_map]
   cases hs : σ[l]? with
   | none => rfl
   | some o =>
     rw [Option.map_some, O.kill_off o fun z hz => off z fun h => meet_no h6 h (hx.om l hl o hs z hz)]
theorem stepF_swap {F : List FP} (hF : (F.all fpOk) = true) (i j : Nat) (hd : depF ops F i j = false) (s a b : List V × Store) (hi : StepF P f ro n k df Q ops F i s a) (hj : StepF P f ro n k df Q ops F j a b) :
    ∃ a', StepF P f ro n k df Q ops F j s a' ∧ StepF P f ro n k df Q ops F i a' b := by
  obtain ⟨x, hx, hi⟩ := hi
  obtain ⟨y, hy, hj⟩ := hj
  unfold depF at hd
  simp only [hx, hy, Bool.or_eq_false_iff, Bool.not_eq_false'] at hd
  obtain ⟨⟨d1, d2⟩, hfp⟩ := hd
  obtain ⟨g1, g2, g3⟩ := Oper.apart_spec d1
  have hok : ∀ i, (F.getD i noFP).g = false → fpOk (F.getD i noFP) = true := fun i hg => by
    rw [List.getD_eq_getElem?_getD] at hg ⊢
    cases hq : F[i]? with
    | none => rw [hq] at hg; cases hg
    | some p => exact List.all_eq_true.1 hF p (List.mem_of_getElem? hq)
  have hg12 : (F.getD i noFP).g = false ∧ (F.getD j noFP).g = false := by
    have := hfp
    simp only [fpB, Bool.or_eq_false_iff] at this
    exact this.1.1.1.1.1.1.1.1
  have hoki := hok i hg12.1
  have hokj := hok j hg12.2
  have hfp' := hfp
  rw [fpB_symm] at hfp'
  generalize hA : F.getD i noFP = A at *
  generalize hB : F.getD j noFP = B at *
  have offA : ∀ l, l ∉ A.k → inK A.k l = false := fun l hl => by
    cases h : inK A.k l with
    | false => rfl
    | true => exact absurd (inK_iff.1 h) hl
  have offB : ∀ l, l ∉ B.k → inK B.k l = false := fun l hl => by
    cases h : inK B.k l with
    | false => rfl
    | true => exact absurd (inK_iff.1 h) hl
  have hm := hfp
  simp only [fpB, Bool.or_eq_false_iff] at hm
  obtain ⟨⟨⟨⟨⟨⟨⟨⟨⟨_, _⟩, m1⟩, m2⟩, m3⟩, m4⟩, m5⟩, m6⟩, m7⟩, m8⟩ := hm
  have hwr : ∀ l ∈ B.w, l ∈ B.r := fun l hl => by
    simp only [fpOk, Bool.and_eq_true] at hokj
    exact in_all hokj.1 hl
  obtain ⟨tm, σ⟩ := s
  rcases hi with ⟨hg, _⟩ | ⟨_, hwi, rfl⟩ | ⟨_, hwi, v, U, rfl, hOi, hRi⟩
  · rw [hg12.1] at hg; cases hg
  · rcases hj with ⟨hg, _⟩ | ⟨_, hwj, rfl⟩ | ⟨_, hwj, u, W, rfl, hOj, hRj⟩
    · rw [hg12.2] at hg; cases hg
    · simp only [] at hwi hwj ⊢
      rw [wantA_put g1] at hwj
      exact ⟨(put tm y.dst (.tuple []), σ), ⟨y, hy, .inr (.inl ⟨hB ▸ hg12.2, hwj, rfl⟩)⟩, ⟨x, hx, .inr (.inl ⟨hA ▸ hg12.1, by rw [wantA_put g3]; exact hwi, by rw [put_comm fun d hd => g2 d hd]⟩)⟩⟩
    · simp only [] at hwi hwj hOj hRj ⊢
      rw [wantA_put g1] at hwj
      have hv := valsOf_put (tm := tm) (v := .tuple []) g1
      have hO2 : OkF B tm σ y u W := OkF.through hOj hv (fun l _ => rfl) fun l h => h
      refine ⟨(effT B.k y.dst u tm, effS B.k W σ), ⟨y, hy, .inr (.inr ⟨hB ▸ hg12.2, hwj, u, W, by rw [hB], by rw [hB]; exact hO2, by rw [hB]; exact fun rest tm2 σ2 e1 e2 e3 e4 e5 => hRj rest tm2 σ2 (e1.trans hv.symm) e2 e3 e4 e5⟩)⟩, ⟨x, hx, .inr (.inl ⟨hA ▸ hg12.1, ?_, ?_⟩)⟩⟩
      · simp only [effT]; rw [wantA_put g3, wantA_kill]; exact hwi
      · simp only [effT]
        rw [killL_put, put_comm fun d hd => g2 d hd]
        rfl
  · rcases hj with ⟨hg, _⟩ | ⟨_, hwj, rfl⟩ | ⟨_, hwj, u, W, rfl, hOj, hRj⟩
    · rw [hg12.2] at hg; cases hg
    · simp only [effT] at hwi hwj ⊢
      rw [wantA_put g1, wantA_kill] at hwj
      have hv := valsOf_put (tm := tm) (v := .tuple []) g3
      have hO2 : OkF A (put tm y.dst (.tuple [])) σ x v U := OkF.through hOi hv.symm (fun l _ => rfl) fun l h => h
      refine ⟨(put tm y.dst (.tuple []), σ), ⟨y, hy, .inr (.inl ⟨hB ▸ hg12.2, hwj, rfl⟩)⟩, ⟨x, hx, .inr (.inr ⟨hA ▸ hg12.1, by rw [wantA_put g3]; exact hwi, v, U, ?_, by rw [hA]; exact hO2, by rw [hA]; exact fun rest tm2 σ2 e1 e2 e3 e4 e5 => hRi rest tm2 σ2 (e1.trans hv) e2 e3 e4 e5⟩)⟩⟩
      rw [hA]
      simp only [effT]
      rw [killL_put, put_comm fun d hd => g2 d hd]
      rfl
    · simp only [] at hwi hwj hOi hRi hOj hRj ⊢
      obtain ⟨l1, l2⟩ := look_through hfp g1 hOi hOj
      have hO2 : OkF B tm σ y u W := OkF.through hOj l1 l2 fun l h => effS_lived hOi h
      obtain ⟨l3, l4⟩ := look_ahead (y := y) (u := u) hfp g3 hOi hO2.uw
      have hwj2 : wantA ops y tm = some true := by
        rw [effT, wantA_put g1, wantA_kill] at hwj; exact hwj
      refine ⟨(effT B.k y.dst u tm, effS B.k W σ), ⟨y, hy, .inr (.inr ⟨hB ▸ hg12.2, hwj2, u, W, by rw [hB], by rw [hB]; exact hO2, ?_⟩)⟩, ⟨x, hx, .inr (.inr ⟨hA ▸ hg12.1, ?_, v, U, ?_, ?_, ?_⟩)⟩⟩
      · rw [hB]
        intro rest tm2 σ2 e1 e2 e3 e4 e5
        exact hRj rest tm2 σ2 (e1.trans l1.symm) e2 (by rw [e3, effS_length]) (fun l hl => by rw [e4 l hl, l2 l hl]) e5
      · simp only [effT]; rw [wantA_put g3, wantA_kill]; exact hwi
      · rw [hA]
        refine Prod.ext ?_ ?_
        · exact effT_comm (fun l hl => offB l fun h => meet_no m5 h (hOi.vo l hl)) (fun l hl => offA l fun h => meet_no m3 h (hO2.vo l hl)) fun d hd => g2 d hd
        · exact effS_comm (fun p hp l hl => offB l fun h => meet_no m5 h (hOi.uo p hp l hl)) (fun p hp l hl => offA l fun h => meet_no m3 h (hO2.uo p hp l hl)) fun p hp q hq e => meet_no m1 (hOi.uw p hp) (e ▸ hwr _ (hO2.uw q hq))
      · rw [hA]
        exact OkF.through hOi l3.symm (fun l hl => (l4 l hl).symm) fun l h => effS_live hO2.ul h
      · rw [hA]
        intro rest tm2 σ2 e1 e2 e3 e4 e5
        exact hRi rest tm2 σ2 (e1.trans l3) e2 (by rw [e3, effS_length]) (fun l hl => by rw [e4 l hl, l4 l hl]) e5
theorem stepF_sound {F : List FP} {i : Nat} {rest : List Nat} {s s' : List V × Store} (h : StepF P f ro n k df Q ops F i s s') (hn : AW P f ro n (.inRegion ops rest :: k) s'.1 s'.2 df Q) : AW P f ro n (.inRegion ops (i :: rest) :: k) s.1 s.2 df Q := by
 obtain ⟨o, hi, ⟨_, h⟩ | ⟨_, hw, rfl⟩ | ⟨_, hw, v, U, rfl, hO, hR⟩⟩ := h
 · exact h rest hn
 · exact .opSkip hi hw hn
 · exact hR rest s.1 s.2 rfl hw rfl (fun _ _ => rfl) hO.ll hn
theorem runF_sound {F : List FP} : ∀ {L : List Nat} {s s' : List V × Store}, Run (StepF P f ro n k df Q ops F) L s s' → AW P f ro n (.inRegion ops [] :: k) s'.1 s'.2 df Q → AW P f ro n (.inRegion ops L :: k) s.1 s.2 df Q
 | [], s, s', h, hn => by subst h; exact hn
 | i :: L, s, s', ⟨s1, h1, h2⟩, hn => stepF_sound h1 (runF_sound h2 hn)
end
end Go.Br
namespace Go.Br
open Go
def fA (l : Nat) : FP := ⟨[], [], [], [l], [l], [l], true, false⟩
def fB (a b : Nat) : FP := ⟨[a], [], [], [b], [a, b], [], true, false⟩
def fO (l : Nat) : FP := ⟨[], [], [], [l], [l], [], true, false⟩
def fR (l : Nat) : FP := ⟨[l], [], [], [], [l], [], true, false⟩
def subB (a b : List Nat) : Bool := a.all fun l => b.any (Nat.beq l)
theorem subB_in {a b : List Nat} (h : subB a b = true) {l : Nat} (hl : l ∈ a) : l ∈ b := in_all h hl
def okB (fp : FP) (tm : List V) (σ : Store) (o : Oper) (v : V) (U : List (Nat × O)) : Bool :=
  subB (U.map Prod.fst) fp.w && subB v.locs fp.out && (U.all fun p => subB p.2.locs fp.out && !p.2.isDead) && subB (V.locsL (valsOf tm o)) fp.m && (fp.w.all fun l => liveB σ l) && (fp.lv.all fun l => liveB σ l) &&
  (fp.r.all fun l => match σ[l]? with | some ob => subB ob.locs fp.m | none => true) &&
  (!fp.u || (V.fullL (valsOf tm o) && fp.r.all fun l => match σ[l]? with | some ob => ob.full | none => true))
theorem okB_ok {fp : FP} {tm : List V} {σ : Store} {o : Oper} {v : V} {U : List (Nat × O)} (h : okB fp tm σ o v U = true) : OkF fp tm σ o v U := by
 simp only [okB, Bool.and_eq_true] at h
 obtain ⟨⟨⟨⟨⟨⟨⟨h1, h2⟩, h3⟩, h4⟩, h7⟩, h8⟩, h5⟩, h6⟩ := h
 have h3' : ∀ p ∈ U, subB p.2.locs fp.out = true ∧ p.2.isDead = false := fun p hp => by
   have := List.all_eq_true.1 h3 p hp
   simpa using this
 refine ⟨fun p hp => subB_in h1 (List.mem_map.2 ⟨p, hp, rfl⟩), fun l hl => subB_in h2 hl, fun p hp l hl => subB_in (h3' p hp).1 hl, fun l hl => subB_in h4 hl, fun l hl => List.all_eq_true.1 h7 l hl, fun p hp => (h3' p hp).2, fun l hl => List.all_eq_true.1 h8 l hl, fun l hl ob ho x hx => ?_, fun hu => ?_⟩
 · have := List.all_eq_true.1 h5 l hl
   simp only [ho] at this
   exact subB_in this hx
 · rw [hu] at h6
   simp only [Bool.not_true, Bool.false_or, Bool.and_eq_true] at h6
   refine ⟨h6.1, fun l hl ob ho => ?_⟩
   have := List.all_eq_true.1 h6.2 l hl
   simpa only [ho] using this
theorem inK_one (l : Nat) : inK [l] = Nat.beq l := by
 funext x
 simp only [inK, List.any_cons, List.any_nil, Bool.or_false]
 rw [Bool.eq_iff_iff, Nat.beq_eq, Nat.beq_eq]
 exact ⟨fun h => h.symm, fun h => h.symm⟩
theorem effS_nilk {U : List (Nat × O)} {σ : Store} : effS [] U σ = patch U σ := by
 have := effS_nil (σ := σ)
 unfold effS at this ⊢
 rw [show σ.map (O.kill (inK [])) = σ from this]
theorem liveB_at {σ σ2 : Store} {l : Nat} (h : σ2[l]? = σ[l]?) : liveB σ2 l = liveB σ l := by unfold liveB; rw [h]
theorem nilOf_at {σ σ2 : Store} {v : V} (h : ∀ l ∈ v.locs, σ2[l]? = σ[l]?) : nilOf σ2 v = nilOf σ v := by
 unfold nilOf
 split <;> first | rfl | (rw [liveB_at (h _ (by simp [V.locs]))])
theorem nilV_at {σ σ2 : Store} {v : V} (h : ∀ l ∈ v.locs, σ2[l]? = σ[l]?) : nilV σ2 v = nilV σ v := by
 unfold nilV
 split <;> first | rfl | (rw [liveB_at (h _ (by simp [V.locs]))])
theorem loadV_at {P : Program} {t : TypeId} {σ σ2 : Store} {v : V} (h : ∀ l ∈ v.locs, σ2[l]? = σ[l]?) : loadV P σ2 t v = loadV P σ t v := by
 unfold loadV
 split <;> first | rfl | (rw [h _ (by simp [V.locs])])
theorem lenV_at {σ σ2 : Store} {v : V} (h : ∀ l ∈ v.locs, σ2[l]? = σ[l]?) : lenV σ2 v = lenV σ v := by
 unfold lenV
 split <;> first | rfl | (rw [h _ (by simp [V.locs])])
theorem ptrBin_at {P : Program} {op : BinOp} {t : TypeId} {σ σ2 : Store} {x y : V} (hx : ∀ l ∈ x.locs, σ2[l]? = σ[l]?) (hy : ∀ l ∈ y.locs, σ2[l]? = σ[l]?) : ptrBin P σ2 op t x y = ptrBin P σ op t x y := by
 unfold ptrBin
 rw [nilOf_at hx, nilOf_at hy]
theorem bltV_at {P : Program} {b : Builtin} {ts : List TypeId} {σ σ2 : Store} {vs : List V} (h : ∀ l ∈ V.locsL vs, σ2[l]? = σ[l]?) : bltV P σ2 b ts vs = bltV P σ b ts vs := by
 unfold bltV
 split <;> first | rfl | (rw [lenV_at (fun l hl => h l (by simpa [V.locsL] using hl))])
theorem cont_at {σ σ2 : Store} {v : V} (h : ∀ l ∈ v.locs, σ2[l]? = σ[l]?) : cont σ2 v = cont σ v := by
 unfold cont
 split <;> first | rfl | (rw [h _ (by simp [V.locs])])
theorem locs_of {tm : List V} {o : Oper} {x : Operand} (hx : x ∈ o.op.operands.toList) {l : Nat} (hl : l ∈ (ev tm x).locs) : l ∈ V.locsL (valsOf tm o) := by
 have : ∀ vs : List V, ∀ v ∈ vs, ∀ l ∈ v.locs, l ∈ V.locsL vs := by
  intro vs
  induction vs with
  | nil => intro v hv; cases hv
  | cons w ws ih =>
    intro v hv l hl
    simp only [V.locsL, List.mem_append]
    rcases List.mem_cons.1 hv with rfl | hv
    · exact .inl hl
    · exact .inr (ih v hv l hl)
 exact this _ _ (List.mem_map.2 ⟨x, hx, rfl⟩) l hl
theorem qop_at {P : Program} {tm : List V} {σ σ2 : Store} {o : Oper} (h : ∀ l ∈ V.locsL (valsOf tm o), σ2[l]? = σ[l]?) : qop P tm σ2 o.op = qop P tm σ o.op := by
 have h' : ∀ x ∈ o.op.operands.toList, ∀ l ∈ (ev tm x).locs, σ2[l]? = σ[l]? := fun x hx l hl => h l (locs_of hx hl)
 obtain ⟨dst, op, type, pos, after, guard⟩ := o
 cases op <;> simp only [Op.operands] at h'
 case nilCheck x => exact nilV_at (h' x (by simp))
 case binOp op t x y u => simp only [qop]; rw [ptrBin_at (h' x (by simp)) (h' y (by simp))]
 case fieldAddr t x f => simp only [qop]; rw [nilOf_at (h' x (by simp))]
 case load t x => exact loadV_at (h' x (by simp))
 case call c =>
  obtain ⟨callee, args, ts⟩ := c
  cases callee with
  | builtin b => exact bltV_at (by simpa [valsOf, Op.operands, Call.operands] using h)
  | _ => rfl
 case makeFunc f a b => cases f <;> rfl
 all_goals rfl
def opNeed (o : Op) : Nat := match o with
  | .nilCheck _ | .fieldAddr .. | .binOp .. => 1
  | .load .. | .call _ => 2
  | _ => 0
theorem nilOf_live {σ σ2 : Store} {v : V} (h : ∀ l ∈ v.locs, liveB σ2 l = liveB σ l) : nilOf σ2 v = nilOf σ v := by
 unfold nilOf
 split <;> first | rfl | (rw [h _ (by simp [V.locs])])
theorem nilV_live {σ σ2 : Store} {v : V} (h : ∀ l ∈ v.locs, liveB σ2 l = liveB σ l) : nilV σ2 v = nilV σ v := by
 unfold nilV
 split <;> first | rfl | (rw [h _ (by simp [V.locs])])
def needB (fp : FP) (tm : List V) (o : Oper) : Bool := match opNeed o.op with
  | 0 => true
  | 1 => subB (V.locsL (valsOf tm o)) fp.lv
  | _ => subB (V.locsL (valsOf tm o)) fp.r
theorem qop_need {P : Program} {fp : FP} {tm : List V} {σ σ2 : Store} {o : Oper} (hn : needB fp tm o = true) (hr : ∀ l ∈ fp.r, σ2[l]? = σ[l]?) (hl : ∀ l ∈ fp.lv, liveB σ2 l = liveB σ l) : qop P tm σ2 o.op = qop P tm σ o.op := by
 unfold needB at hn
 split at hn
 · rename_i h0
   obtain ⟨dst, op, type, pos, after, guard⟩ := o
   cases op <;> simp [opNeed] at h0
   case makeFunc f a b => cases f <;> rfl
   all_goals rfl
 · rename_i h1
   have h' : ∀ x ∈ o.op.operands.toList, ∀ l ∈ (ev tm x).locs, liveB σ2 l = liveB σ l := fun x hx l h => hl l (subB_in hn (locs_of hx h))
   obtain ⟨dst, op, type, pos, after, guard⟩ := o
   cases op <;> simp [opNeed] at h1 <;> simp only [Op.operands] at h'
   case nilCheck x => exact nilV_live (h' x (by simp))
   case binOp op t x y u => simp only [qop, ptrBin]; rw [nilOf_live (h' x (by simp)), nilOf_live (h' y (by simp))]
   case fieldAddr t x f => simp only [qop]; rw [nilOf_live (h' x (by simp))]
 · exact qop_at fun l h => hr l (subB_in hn h)
def storeU (P : Program) (tm : List V) (σ : Store) (op : Op) : Option (Nat × O) := match op with
  | .store t x y => match ev tm x, cellsV (coX P t (ev tm y)) with
    | .ptr l 0 s, some vs => match σ[l]? with
      | some (.cells cs) => if s + vs.length ≤ cs.length ∧ (P.info? t).map (·.size) = some vs.length then some (l, .cells (splice cs s vs)) else none
      | _ => none
    | _, _ => none
  | _ => none
theorem storeU_ok {P : Program} {tm : List V} {σ : Store} {o : Oper} {p : Nat × O} (h : storeU P tm σ o.op = some p) : mop P tm σ o = some (.undef, σ.set p.1 p.2) := by
  obtain ⟨dst, op, type, pos, after, guard⟩ := o
  unfold storeU at h
  split at h
  · rename_i t x y ho
    simp only [] at ho
    subst ho
    simp only [mop, storeA]
    split at h
    · rename_i l s vs hx hy
      simp only [hx, hy]
      split at h
      · rename_i cs hs
        simp only [hs]
        split at h
        · rename_i hc
          cases h
          rw [if_pos hc]
          rfl
        · cases h
      · cases h
    · cases h
  · cases h
theorem storeU_at {P : Program} {tm : List V} {σ σ2 : Store} {o : Oper} {p : Nat × O} (h : σ2[p.1]? = σ[p.1]?) (hs : storeU P tm σ o.op = some p) : storeU P tm σ2 o.op = some p := by
 obtain ⟨dst, op, type, pos, after, guard⟩ := o
 cases op
 case store t x y =>
  simp only [storeU] at hs ⊢
  split at hs
  · rename_i l s vs hx hy
    have hl : p.1 = l := by
        split at hs
        · split at hs
          · cases hs; rfl
          · cases hs
        · cases hs
    rw [hl] at h
    rw [h]
    exact hs
  · cases hs
 all_goals simp [storeU] at hs
def buildU (P : Program) (tm : List V) (op : Op) : Option V := match op with
  | .build t parts => buildA P tm t parts.toList
  | _ => none
theorem buildU_ok {P : Program} {tm : List V} {σ : Store} {o : Oper} {v : V} (h : buildU P tm o.op = some v) : mop P tm σ o = some (v, σ) := by
 obtain ⟨dst, op, type, pos, after, guard⟩ := o
 unfold buildU at h
 split at h
 · rename_i t parts ho
   simp only [] at ho
   subst ho
   simp only [mop, h, Option.map_some]
 · cases h
section
variable {P : Program} {f : FuncId} {ro : Option Nat} {n : Nat} {k : List Item} {df : List Nat} {Q : AE → Store → Prop} {ops : Array Oper}
theorem StepF.of {F : List FP} {i : Nat} {o : Oper} {v : V} {tm tm' : List V} {σ σ' : Store} {fp : FP} {U : List (Nat × O)} (hi : ops[i]? = some o) (hF : F.getD i noFP = fp) (hg : fp.g = false) (hw : wantA ops o tm = some true) (hok : okB fp tm σ o v U = true)
  (ht : effT fp.k o.dst v tm = tm') (hs : effS fp.k U σ = σ') (h : Rob P f ro n k df Q ops fp i tm σ o v U) : StepF P f ro n k df Q ops F i (tm, σ) (tm', σ') := by
 subst hF ht hs
 exact ⟨o, hi, .inr (.inr ⟨hg, hw, v, U, rfl, okB_ok hok, h⟩)⟩
theorem rob_op {fp : FP} {i : Nat} {tm : List V} {σ : Store} {o : Oper} {v : V} {U : List (Nat × O)} (hi : ops[i]? = some o) (hd : Op.isDefer o.op = false)
  (h : ∀ (tm2 : List V) (σ2 : Store), valsOf tm2 o = valsOf tm o → (∀ l ∈ fp.r, σ2[l]? = σ[l]?) → OpOk P o tm2 σ2 v (V.killL (inK fp.k) tm2) (effS fp.k U σ2)) : Rob P f ro n k df Q ops fp i tm σ o v U :=
 fun _ tm2 σ2 e1 e2 _ e4 _ hn => .op hi e2 hd (h tm2 σ2 e1 e4) hn
theorem rob_mop {fp : FP} {i : Nat} {tm : List V} {σ : Store} {o : Oper} {v : V} {U : List (Nat × O)} (hi : ops[i]? = some o) (hk : fp.k = [])
  (h : ∀ (σ2 : Store), (∀ l ∈ fp.r, σ2[l]? = σ[l]?) → (∀ l ∈ fp.lv, liveB σ2 l = true) → mop P tm σ2 o = some (v, patch U σ2)) : Rob P f ro n k df Q ops fp i tm σ o v U := by
 intro rest tm2 σ2 e1 e2 _ e4 e5 hn
 have h1 : mop P tm2 σ2 o = some (v, patch U σ2) := by rw [mop_congr e1]; exact h σ2 e4 e5
 obtain ⟨h2, h3⟩ := mop_ok h1
 rw [hk, effT_nil, effS_nilk] at hn
 exact .op hi e2 h3 h2 hn
def srunF (P : Program) (ops : Array Oper) (F : List FP) : List Nat → List V → Store → Option (List V × Store)
  | [], tm, σ => some (tm, σ)
  | i :: L, tm, σ => match ops[i]? with
    | none => none
    | some o => match (F.getD i noFP).g, wantA ops o tm with
      | false, some false => srunF P ops F L (put tm o.dst (.tuple [])) σ
      | false, some true => match (F.getD i noFP).k with
        | [] => match storeU P tm σ o.op with
          | some p => if okB (F.getD i noFP) tm σ o .undef [p] && inK (F.getD i noFP).r p.1 then srunF P ops F L (put tm o.dst .undef) (σ.set p.1 p.2) else none
          | none => match qop P tm σ o.op with
            | some v => if okB (F.getD i noFP) tm σ o v [] && needB (F.getD i noFP) tm o then srunF P ops F L (put tm o.dst v) σ else none
            | none => match buildU P tm o.op with
              | some v => if okB (F.getD i noFP) tm σ o v [] then srunF P ops F L (put tm o.dst v) σ else none
              | none => none
        | _ => none
      | _, _ => none
theorem srunF_ok {F : List FP} : ∀ {L : List Nat} {tm tm' : List V} {σ σ' : Store}, srunF P ops F L tm σ = some (tm', σ') → Run (StepF P f ro n k df Q ops F) L (tm, σ) (tm', σ')
  | [], tm, tm', σ, σ', h => by simp only [srunF, Option.some.injEq, Prod.mk.injEq] at h; obtain ⟨rfl, rfl⟩ := h; rfl
  | i :: L, tm, tm', σ, σ', h => by
    simp only [srunF] at h
    split at h
    · cases h
    · rename_i o hi
      split at h
      · rename_i hg hw
        exact ⟨_, ⟨o, hi, .inr (.inl ⟨hg, hw, rfl⟩)⟩, srunF_ok h⟩
      · rename_i hg hw
        split at h
        · rename_i hk
          split at h
          · rename_i p hp
            split at h
            · rename_i hok
              simp only [Bool.and_eq_true] at hok
              refine ⟨_, StepF.of hi rfl hg hw hok.1 (by rw [hk, effT_nil]) (by rw [hk, effS_nilk]; rfl) (rob_mop hi hk fun σ2 e _ => ?_), srunF_ok h⟩
              exact storeU_ok (storeU_at (e _ (inK_iff.1 hok.2)) hp)
            · cases h
          · split at h
            · rename_i v hq
              split at h
              · rename_i hok
                simp only [Bool.and_eq_true] at hok
                refine ⟨_, StepF.of hi rfl hg hw hok.1 (by rw [hk, effT_nil]) (by rw [hk, effS_nilk]; rfl) (rob_mop hi hk fun σ2 e e5 => ?_), srunF_ok h⟩
                exact mop_of_qop (by rw [qop_need hok.2 e fun l hl => by rw [e5 l hl, (okB_ok hok.1).ll l hl]]; exact hq)
              · cases h
            · split at h
              · rename_i v hq
                split at h
                · rename_i hok
                  exact ⟨_, StepF.of hi rfl hg hw hok (by rw [hk, effT_nil]) (by rw [hk, effS_nilk]; rfl) (rob_mop hi hk fun σ2 _ _ => buildU_ok hq), srunF_ok h⟩
                · cases h
              · cases h
        · cases h
      · cases h
section
variable {F : List FP} {i : Nat} {o : Oper} {v : V} {tm tm' : List V} {σ σ' : Store} {fp : FP}
theorem StepF.look (xs : List Operand) (hi : ops[i]? = some o) (hF : F.getD i noFP = fp) (hg : (Bool.not fp.g && fp.k.isEmpty) = true) (hw : wantA ops o tm = some true) (hd : Op.isDefer o.op = false) (hx : o.op.operands.toList = xs) (hok : okB fp tm σ o v [] = true)
  (h : ∀ (tm' : List V) (σ2 : Store), (∀ x ∈ xs, ev tm' x = ev tm x) → (∀ l ∈ fp.r, σ2[l]? = σ[l]?) → OpOk P o tm' σ2 v tm' σ2) : StepF P f ro n k df Q ops F i (tm, σ) (put tm o.dst v, σ) := by
 simp only [Bool.and_eq_true, Bool.not_eq_true', List.isEmpty_iff] at hg
 refine StepF.of hi hF hg.1 hw hok (by rw [hg.2, effT_nil]) (by rw [hg.2, effS_nil]) (rob_op hi hd fun tm2 σ2 e1 e2 => ?_)
 rw [hg.2, effS_nil, V.killL_id (p := inK []) fun l => rfl]
 exact h tm2 σ2 (vals_at hx e1) e2
theorem StepF.sets (xs : List Operand) (l : Nat) (ob : O) (hi : ops[i]? = some o) (hF : F.getD i noFP = fp) (hg : (Bool.not fp.g && fp.k.isEmpty) = true) (hw : wantA ops o tm = some true) (hd : Op.isDefer o.op = false) (hx : o.op.operands.toList = xs) (hok : okB fp tm σ o v [(l, ob)] = true)
  (h : ∀ (tm' : List V) (σ2 : Store), (∀ x ∈ xs, ev tm' x = ev tm x) → (∀ l ∈ fp.r, σ2[l]? = σ[l]?) → OpOk P o tm' σ2 v tm' (σ2.set l ob)) : StepF P f ro n k df Q ops F i (tm, σ) (put tm o.dst v, σ.set l ob) := by
 simp only [Bool.and_eq_true, Bool.not_eq_true', List.isEmpty_iff] at hg
 refine StepF.of hi hF hg.1 hw hok (by rw [hg.2, effT_nil]) (by rw [hg.2, effS_nilk]; rfl) (rob_op hi hd fun tm2 σ2 e1 e2 => ?_)
 rw [hg.2, effS_nilk, V.killL_id (p := inK []) fun l => rfl]
 exact h tm2 σ2 (vals_at hx e1) e2
theorem StepF.moves (xs : List Operand) (l : Nat) (ob : O) (hi : ops[i]? = some o) (hF : F.getD i noFP = fp) (hg : fp.g = false) (hk : fp.k = [l]) (hw : wantA ops o tm = some true) (hd : Op.isDefer o.op = false) (hx : o.op.operands.toList = xs) (hok : okB fp tm σ o v [(l, ob)] = true)
  (h : ∀ (tm' : List V) (σ2 : Store), (∀ x ∈ xs, ev tm' x = ev tm x) → (∀ l ∈ fp.r, σ2[l]? = σ[l]?) → OpOk P o tm' σ2 v (V.killL (Nat.beq l) tm') ((σ2.map (O.kill (Nat.beq l))).set l ob)) :
  StepF P f ro n k df Q ops F i (tm, σ) (put (V.killL (Nat.beq l) tm) o.dst v, (σ.map (O.kill (Nat.beq l))).set l ob) := by
 refine StepF.of hi hF hg hw hok (by rw [hk, effT, inK_one]) (by rw [hk, effS, inK_one]; rfl) (rob_op hi hd fun tm2 σ2 e1 e2 => ?_)
 rw [hk, effS, inK_one]
 exact h tm2 σ2 (vals_at hx e1) e2
theorem StepF.data (hi : ops[i]? = some o) (hF : F.getD i noFP = fp) (hg : (Bool.not fp.g && fp.k.isEmpty) = true) (hw : wantA ops o tm = some true) (hok : okB fp tm σ o v [] = true)
  (h : ∀ s, Sem P f ro n k df Q ops o i (valsOf tm o) s v s) : StepF P f ro n k df Q ops F i (tm, σ) (put tm o.dst v, σ) := by
 simp only [Bool.and_eq_true, Bool.not_eq_true', List.isEmpty_iff] at hg
 refine StepF.of hi hF hg.1 hw hok (by rw [hg.2, effT_nil]) (by rw [hg.2, effS_nil]) fun rest tm2 σ2 e1 e2 _ _ _ hn => ?_
 rw [hg.2, effT_nil, effS_nil] at hn
 exact h σ2 rest tm2 e1 e2 hn
theorem StepF.all {s s' : List V × Store} (hi : ops[i]? = some o) (hg : (F.getD i noFP).g = true) (h : ∀ rest, AW P f ro n (.inRegion ops rest :: k) s'.1 s'.2 df Q → AW P f ro n (.inRegion ops (i :: rest) :: k) s.1 s.2 df Q) : StepF P f ro n k df Q ops F i s s' := ⟨o, hi, .inl ⟨hg, h⟩⟩
end
end
def movedK (m : List Nat) (σc' : Store) : List Nat := (m.zip σc').filterMap fun p => match p.2 with | .row _ _ true => some p.1 | _ => none
def updU (σ : Store) (m : List Nat) (σc' : Store) : List (Nat × O) := (m.zip σc').map fun p => (p.1, flagged (σ.getD p.1 .dead) (p.2.ren (mp m σ.length)))
theorem idxOf?_iff {m : List Nat} (hn : m.Nodup) {l i : Nat} : m.idxOf? l = some i ↔ m[i]? = some l := by
  induction m generalizing i with
  | nil => simp
  | cons x m ih =>
    rw [List.nodup_cons] at hn
    rw [List.idxOf?_cons]
    by_cases hx : x = l
    · subst hx
      simp only [beq_self_eq_true, if_true, Option.some.injEq]
      constructor
      · rintro rfl; rfl
      · intro h
        cases i with
        | zero => rfl
        | succ i =>
          rw [List.getElem?_cons_succ] at h
          exact absurd (List.mem_of_getElem? h) hn.1
    · have hb : (x == l) = false := by simpa using hx
      rw [hb]
      simp only [Bool.false_eq_true, if_false, Option.map_eq_some_iff]
      constructor
      · rintro ⟨j, hj, rfl⟩
        rw [List.getElem?_cons_succ]
        exact (ih hn.2).1 hj
      · intro h
        cases i with
        | zero => simp at h; exact absurd h hx
        | succ i => exact ⟨i, (ih hn.2).2 (by simpa using h), rfl⟩
theorem zip_get {m : List Nat} {σc : Store} {p : Nat × O} : p ∈ m.zip σc ↔ ∃ i : Nat, m[i]? = some p.1 ∧ σc[i]? = some p.2 := by
 rw [List.mem_iff_getElem?]
 constructor
 · rintro ⟨i, h⟩
   rw [List.getElem?_zip_eq_some] at h
   exact ⟨i, h⟩
 · rintro ⟨i, h⟩
   exact ⟨i, List.getElem?_zip_eq_some.2 h⟩
theorem inK_moved {m : List Nat} {σc' : Store} (hn : m.Nodup) : inK (movedK m σc') = movedB m σc' := by
  funext l
  rw [Bool.eq_iff_iff, inK_iff]
  unfold movedK movedB
  rw [List.mem_filterMap]
  constructor
  · rintro ⟨p, hp, h⟩
    obtain ⟨i, h1, h2⟩ := zip_get.1 hp
    split at h
    · rename_i hrow
      cases h
      rw [(idxOf?_iff hn).2 h1]
      simp only [h2, hrow]
    · cases h
  · intro h
    split at h
    · rename_i i hi
      split at h
      · rename_i a b hrow
        exact ⟨(l, .row a b true), zip_get.2 ⟨i, (idxOf?_iff hn).1 hi, hrow⟩, rfl⟩
      · cases h
    · cases h
theorem patch_on : ∀ (U : List (Nat × O)) (σ : Store), (U.map Prod.fst).Nodup → ∀ p ∈ U, p.1 < σ.length → (patch U σ)[p.1]? = some p.2
 | [], _, _, _, h, _ => by cases h
 | q :: U, σ, hn, p, hp, hl => by
   simp only [List.map_cons, List.nodup_cons, List.mem_map, not_exists, not_and] at hn
   show (patch U (σ.set q.1 q.2))[p.1]? = _
   rcases List.mem_cons.1 hp with rfl | hp
   · rw [patch_off U _ _ fun x hx e => hn.1 x hx e, List.getElem?_set_self hl]
   · exact patch_on U _ hn.2 p hp (by simpa using hl)
theorem merge_eff {σ : Store} {m : List Nat} {σc' : Store} (hn : m.Nodup) (hl : σc'.length = m.length) : merge σ m σc' = effS (movedK m σc') (updU σ m σc') σ := by
 have hfst : (updU σ m σc').map Prod.fst = m := by
   unfold updU
   rw [List.map_map]
   have : (Prod.fst ∘ fun p : Nat × O => (p.1, flagged (σ.getD p.1 .dead) (p.2.ren (mp m σ.length)))) = Prod.fst := rfl
   rw [this, List.map_fst_zip (by omega)]
 apply List.ext_getElem?
 intro l
 have hdrop : (σc'.drop m.length).map (·.ren (mp m σ.length)) = [] := by rw [List.drop_of_length_le (by omega)]; rfl
 rw [merge, hdrop, List.append_nil, List.getElem?_mapIdx]
 by_cases hlt : l < σ.length
 case neg =>
   rw [List.getElem?_eq_none (by omega), List.getElem?_eq_none (by rw [effS_length]; omega)]; rfl
 rw [List.getElem?_eq_getElem hlt, Option.map_some]
 cases hi : m.idxOf? l with
 | none =>
   have hnm : l ∉ m := fun h => by
    obtain ⟨i, hi'⟩ := List.mem_iff_getElem?.1 h
    rw [(idxOf?_iff hn).2 hi'] at hi
    cases hi
   rw [effS, patch_off _ _ _ fun p hp e => hnm (by rw [← hfst, ← e]; exact List.mem_map.2 ⟨p, hp, rfl⟩), List.getElem?_map, List.getElem?_eq_getElem hlt, inK_moved hn]
   rfl
 | some i =>
   have hmi := (idxOf?_iff hn).1 hi
   have hilt : i < σc'.length := by rw [hl]; exact (List.getElem?_eq_some_iff.1 hmi).1
   have hmem : (l, flagged (σ.getD l .dead) (σc'[i].ren (mp m σ.length))) ∈ updU σ m σc' := List.mem_map.2 ⟨(l, σc'[i]), zip_get.2 ⟨i, hmi, List.getElem?_eq_getElem hilt⟩, rfl⟩
   rw [effS, patch_on _ _ (by rw [hfst]; exact hn) _ hmem (by simpa using hlt)]
   simp only [List.getD_eq_getElem?_getD, List.getElem?_eq_getElem hilt, List.getElem?_eq_getElem hlt, Option.getD_some]
theorem within_at {σ σ2 : Store} {m : List Nat} {σc : Store} (hl : σ2.length = σ.length) (h : ∀ l ∈ m, σ2[l]? = σ[l]?) (hw : within σ m σc) : within σ2 m σc := by
 refine ⟨hw.1, hw.2.1, ?_⟩
 have e1 : m.map (fun l => σ2[l]?) = m.map (fun l => σ[l]?) := List.map_congr_left h
 rw [e1, hw.2.2, hl]
 refine List.map_congr_left fun p hp => ?_
 obtain ⟨i, hi, _⟩ := zip_get.1 hp
 rw [List.getD_eq_getElem?_getD, List.getD_eq_getElem?_getD, h p.1 (List.mem_of_getElem? hi)]
section
variable {P : Program} {f : FuncId} {ro : Option Nat} {n : Nat} {k : List Item} {df : List Nat} {Q : AE → Store → Prop} {ops : Array Oper}
theorem StepF.call {F : List FP} {i : Nat} {o : Oper} {v : V} {tm tm' : List V} {σ σ' : Store} {fp : FP} {x : Operand} {args : Array Operand} {ts : Array TypeId} {g : FuncId} {fn : Func} {c : Code} {first cap : List V} (m : List Nat) (cargs : List V) (σc σc' : Store) {vc : V}
  (hi : ops[i]? = some o) (hF : F.getD i noFP = fp) (hg : fp.g = false) (hw : wantA ops o tm = some true) (hFn : Fnc P g fn c) (hc : CallsA P g cargs σc fun r s => r = .ret vc ∧ s = σc')
  (ho : o.op = .call { callee := .value x, args, argTypes := ts }) (hx : ev tm x = .fn (.func g) first cap) (hargs : coArgs P fn.params.toList (first ++ args.toList.map (ev tm) ++ cap) = V.renL (mp m σ.length) cargs)
  (hbel : (belB σc.length σc && (V.locsL cargs).all fun l => Nat.blt l σc.length) = true) (hwi : within σ m σc) (hlen : Nat.beq σc'.length m.length = true) (hk : movedK m σc' = fp.k) (hr : subB m fp.r = true) (hv : vc.ren (mp m σ.length) = v)
  (hok : okB fp tm σ o v (updU σ m σc') = true) (ht : effT fp.k o.dst v tm = tm') (hs : effS fp.k (updU σ m σc') σ = σ') : StepF P f ro n k df Q ops F i (tm, σ) (tm', σ') := by
 refine StepF.of hi hF hg hw hok ht hs fun rest tm2 σ2 e1 e2 e3 e4 _ hn => ?_
 have h' : ∀ x ∈ o.op.operands.toList, ev tm2 x = ev tm x := List.map_inj_left.1 e1
 have hnd := nodupB_ok hwi.2.1
 have hm : ∀ l ∈ m, σ2[l]? = σ[l]? := fun l hl => e4 l (subB_in hr hl)
 have hwi2 := within_at e3 hm hwi
 have hup : updU σ2 m σc' = updU σ m σc' := by
  unfold updU
  refine List.map_congr_left fun p hp => ?_
  obtain ⟨i, hi, _⟩ := zip_get.1 hp
  rw [List.getD_eq_getElem?_getD, List.getD_eq_getElem?_getD, hm p.1 (List.mem_of_getElem? hi), e3]
 have hxop : x ∈ o.op.operands.toList := by rw [ho]; simp [Op.operands, Call.operands]
 have hargs2 : args.toList.map (ev tm2) = args.toList.map (ev tm) := List.map_congr_left fun y hy => h' y (by rw [ho]; simp [Op.operands, Call.operands]; right; simpa using hy)
 refine .call m cargs σc hFn hc hi e2 ho ((h' x hxop).trans hx) (by rw [hargs2, hargs, e3]) hbel hwi2 ?_
 rintro r s ⟨rfl, rfl⟩
 refine ⟨vc, rfl, ?_⟩
 rw [e3, hv, merge_eff hnd (by simpa using hlen), hup, hk, ← inK_moved hnd, hk]
 exact hn
theorem patch_same : ∀ (U : List (Nat × O)) (σ : Store), (∀ p ∈ U, σ[p.1]? = some p.2) → patch U σ = σ
 | [], _, _ => rfl
 | p :: U, σ, h => by
   show patch U (σ.set p.1 p.2) = σ
   have e : σ.set p.1 p.2 = σ := by
     obtain ⟨h1, h2⟩ := List.getElem?_eq_some_iff.1 (h p (by simp))
     rw [← h2, List.set_getElem_self]
   rw [e]
   exact patch_same U σ fun q hq => h q (by simp [hq])
theorem StepF.callLook {F : List FP} {i : Nat} {o : Oper} {v : V} {tm : List V} {σ : Store} {fp : FP} {x : Operand} {args : Array Operand} {ts : Array TypeId} {g : FuncId} {fn : Func} {c : Code} {first cap : List V} (m : List Nat) (cargs : List V) (σc : Store) {vc : V}
   (hi : ops[i]? = some o) (hF : F.getD i noFP = fp) (hg : (Bool.not fp.g && fp.k.isEmpty) = true) (hw : wantA ops o tm = some true) (hFn : Fnc P g fn c) (hc : CallsA P g cargs σc fun r s => r = .ret vc ∧ s = σc)
   (ho : o.op = .call { callee := .value x, args, argTypes := ts }) (hx : ev tm x = .fn (.func g) first cap) (hargs : coArgs P fn.params.toList (first ++ args.toList.map (ev tm) ++ cap) = V.renL (mp m σ.length) cargs)
   (hbel : (belB σc.length σc && (V.locsL cargs).all fun l => Nat.blt l σc.length) = true) (hwi : within σ m σc) (hlen : Nat.beq σc.length m.length = true) (hk : (movedK m σc).isEmpty = true) (hr : subB m fp.r = true) (hv : vc.ren (mp m σ.length) = v)
   (hok : okB fp tm σ o v [] = true) : StepF P f ro n k df Q ops F i (tm, σ) (put tm o.dst v, σ) := by
 simp only [Bool.and_eq_true, Bool.not_eq_true', List.isEmpty_iff] at hg hk
 refine StepF.of hi hF hg.1 hw hok (by rw [hg.2, effT_nil]) (by rw [hg.2, effS_nil]) fun rest tm2 σ2 e1 e2 e3 e4 _ hn => ?_
 have h' : ∀ x ∈ o.op.operands.toList, ev tm2 x = ev tm x := List.map_inj_left.1 e1
 have hnd := nodupB_ok hwi.2.1
 have hm : ∀ l ∈ m, σ2[l]? = σ[l]? := fun l hl => e4 l (subB_in hr hl)
 have hwi2 := within_at e3 hm hwi
 have hxop : x ∈ o.op.operands.toList := by rw [ho]; simp [Op.operands, Call.operands]
 have hargs2 : args.toList.map (ev tm2) = args.toList.map (ev tm) := List.map_congr_left fun y hy => h' y (by rw [ho]; simp [Op.operands, Call.operands]; right; simpa using hy)
 refine .call m cargs σc hFn hc hi e2 ho ((h' x hxop).trans hx) (by rw [hargs2, hargs, e3]) hbel hwi2 ?_
 rintro r s ⟨rfl, rfl⟩
 refine ⟨vc, rfl, ?_⟩
 rw [hg.2, effT_nil, effS_nil] at hn
 rw [e3, hv, merge_eff hnd (by simpa using hlen), hk, effS_nilk, ← inK_moved hnd, hk, V.killL_id (p := inK []) fun l => rfl, patch_same _ _ fun p hp => ?_]
 · exact hn
 · obtain ⟨q, hq, rfl⟩ := List.mem_map.1 hp
   obtain ⟨i, h1, h2⟩ := zip_get.1 hq
   obtain ⟨oc, h3, h4⟩ := within_get hwi2 h1
   rw [h2] at h3
   cases h3
   exact h4
end
def orderF (ops : Array Oper) (F : List FP) (X : List (Nat × Nat)) (M : List Nat) : Bool :=
  nodupB M && (M.all fun i => Nat.blt i ops.size) && ((List.range ops.size).all fun i => M.contains i) && F.all fpOk &&
  (let B := clos ops X M (List.replicate ops.size 0); pairsAll (fun a b => !(depF ops F a b) || (B.getD b 0).testBit a) M)
theorem run_amongF {P : Program} {f : FuncId} {ro : Option Nat} {n : Nat} {k : List Item} {df : List Nat} {Q : AE → Store → Prop} {ops : Array Oper} {s s' : List V × Store} {L : List Nat} (hL : Ord ops L) (F : List FP) (X : List (Nat × Nat)) (M : List Nat) (hX : ∀ p ∈ X, ahead L p.1 p.2) (hok : orderF ops F X M = true)
   (hrun : Run (StepF P f ro n k df Q ops F) M s s') : Run (StepF P f ro n k df Q ops F) L s s' := by
 unfold orderF at hok
 simp only [Bool.and_eq_true] at hok
 obtain ⟨⟨⟨⟨h1, h2⟩, h3⟩, hF⟩, h4⟩ := hok
 have hmem : ∀ i, i ∈ M ↔ i < ops.size := fun i => ⟨fun h => by simpa using List.all_eq_true.1 h2 i h, fun h => by simpa using List.all_eq_true.1 h3 i (List.mem_range.2 h)⟩
 have hmm : ∀ i, i ∈ L ↔ i ∈ M := fun i => (hL.mem i).trans (hmem i).symm
 refine Run.turn (dep := depF ops F) (depF_symm ops F) (fun i j hd s a b => stepF_swap hF i j hd s a b) M L hL.nodup (nodupB_ok h1) hmm (fun i j hi hj hdep hij => ?_) hrun
 by_cases hlt : ahead M i j
 · exact hlt
 · exfalso
   have hne : i ≠ j := fun e => by subst e; exact Nat.lt_irrefl _ hij
   have h5 : ahead M j i := by
    unfold ahead at hlt ⊢
    have h3 : M.idxOf i ≠ M.idxOf j := by
        intro e
        apply hne
        have e1 := List.getElem_idxOf (List.idxOf_lt_length_iff.2 ((hmm i).1 hi))
        have e2 := List.getElem_idxOf (List.idxOf_lt_length_iff.2 ((hmm j).1 hj))
        rw [← e1, ← e2]
        simp only [e]
    omega
   have h6 := pairsAll_ok h4 j i ((hmm j).1 hj) ((hmm i).1 hi) h5
   rw [depF_symm, hdep] at h6
   simp only [Bool.not_true, Bool.false_or] at h6
   have h7 := clos_ok hL hX M (List.replicate ops.size 0) (fun j hj => (hmm j).2 hj) (fun j i h => by
    rw [List.getD_eq_getElem?_getD, List.getElem?_replicate] at h
    split at h <;> simp at h) i j h6
   exact Nat.lt_asymm hij h7
theorem AW.drawF {P : Program} {f : FuncId} {ro : Option Nat} {n : Nat} {T T' : List Item} {tm tm' : List V} {σ σ' : Store} {df : List Nat} {Q : AE → Store → Prop} (hm : P.follows .mixedOrders = true) (ht : isDraw T = true) (hE : edgesB (drawOf T) = true) (hT : cgo 1 [] T = T')
   (hrun : ∀ k L, Ord (drawOf T) L → ∃ F, Run (StepF P f ro n k df Q (drawOf T) F) L (tm, σ) (tm', σ')) (h : AW P f ro n T' tm' σ' df Q) : AW P f ro n T tm σ df Q := by
 subst hT
 unfold isDraw at ht
 split at ht
 · refine .order hm hE fun L hL => ?_
   obtain ⟨F, hF⟩ := hrun _ L hL
   exact runF_sound hF (.regionEnd h)
 · cases ht
end Go.Br
namespace Go.Br
open Go
section
variable {w w' : World} {I I' : Nat → Prop} {ρ ρ' : LM} {σ σ' : Store} {P : Program}
theorem newRowAt_ok {o : Oper} {tm : List V} {t : TypeId} {ds xs0 : List D} {cs : Array Value} {a : Act} {sz cap l : Nat} {mv : Bool} (hl : σ[l]? = some (.row sz xs0 mv)) (hr : vrL w I ρ σ tm a.tmps.toList) (hO : ORel w I ρ σ) (hcs : cs.size = cap * sz) (hle : ds.length ≤ cap) (hcap : cap ≤ maxLen) (hone : ∀ x ∈ cs.toList, one x)
  (hd : DrE (w.alloc (.cells cs t)) I sz w.heap.size 0 ds)
  (hrun : (execOp a.eval o).run P w = .ok (.value (.slice (some ⟨w.heap.size, 0, none⟩) ds.length cap)) (w.alloc (.cells cs t))) :
  ∃ nx x w' I' ρ', (execOp a.eval o).run P w = .ok nx w' ∧ (nx = .value x ∨ nx = .skip ∧ x = undef) ∧ vr w' I' ρ' ((σ.map (O.kill (Nat.beq l))).set l (.row sz ds true)) (.row l) x ∧ vrL w' I' ρ' ((σ.map (O.kill (Nat.beq l))).set l (.row sz ds true)) (V.killL (Nat.beq l) tm) a.tmps.toList ∧ ORel w' I' ρ' ((σ.map (O.kill (Nat.beq l))).set l (.row sz ds true)) ∧
    Ext σ.length w I ρ σ w' I' ρ' ((σ.map (O.kill (Nat.beq l))).set l (.row sz ds true)) := by
 have hlt : l < σ.length := (List.getElem?_eq_some_iff.1 hl).1
 have hold : ∀ b, b < w.heap.size → (w.alloc (.cells cs t)).heap[b]? = w.heap[b]? := fun b hb => heap_alloc_old _ _ _ hb
 have hnew : (w.alloc (.cells cs t)).heap[w.heap.size]? = some (.cells cs t) := heap_alloc_new w (.cells cs t)
 have hsz : (w.alloc (.cells cs t)).heap.size = w.heap.size + 1 := by simp
 let ρ' : LM := fun x => if x = l then some ⟨w.heap.size, 0, sz, cap⟩ else ρ x
 have hρ : ∀ x, x ≠ l → ρ' x = ρ x := fun x hx => by simp [ρ', hx]
 have hρl : ρ' l = some ⟨w.heap.size, 0, sz, cap⟩ := by simp [ρ']
 have hor : orel (w.alloc (.cells cs t)) I ρ' ((σ.map (O.kill (Nat.beq l))).set l (.row sz ds true)) l (.row sz ds true) := by
  simp only [orel]
  exact .inr ⟨_, cs, t, (0, 0), hρl, rfl, hnew, ⟨thaw_zero _, hone⟩, by simp [hcs], hle, hcap, hd⟩
 have hblk : ∀ K, ρ' l = some K → K.b < (w.alloc (.cells cs t)).heap.size ∧ (w.heap.size ≤ K.b ∨ ∃ L, ρ l = some L ∧ L.b = K.b) := fun K hK => by
  rw [hρl] at hK; cases hK
  exact ⟨by rw [hsz]; exact Nat.lt_succ_self _, .inl (Nat.le_refl _)⟩
 obtain ⟨g1, g2⟩ := hO.move hl (by simp) hρ (fun b hb _ => hold b hb) (by omega) hor hblk
 have hx := Ext.move (I := I) hl (by simp) rfl (o' := .row sz ds true) rfl hρ (fun b hb _ => hold b hb) (by omega) hblk rfl rfl rfl
 refine ⟨_, _, _, I, ρ', hrun, .inl rfl, ?_, g2 _ _ hr, g1, hx⟩
 simp only [vr]
 refine ⟨rfl, by simpa using hlt, fun sz' xs'' mv' hx' => ?_⟩
 rw [List.getElem?_set_self (by simpa using hlt)] at hx'
 cases hx'
 exact .inr ⟨_, hρl, by simpa using hle, by simp⟩
theorem buildAt_ok {tm : List V} {t : TypeId} {len sz l : Nat} {parts : Array (Nat × Operand)} {o : Oper} {ds xs0 : List D} {mv : Bool} (ho : o.op = .buildSlice t len parts) (h : buildSliceA P tm [] t len parts.toList = some (.row 0, [.row sz ds false])) (hl : σ[l]? = some (.row sz xs0 mv)) :
    OpOk P o tm σ (.row l) (V.killL (Nat.beq l) tm) ((σ.map (O.kill (Nat.beq l))).set l (.row sz ds true)) := by
  intro w I ρ a hr hO
  unfold buildSliceA at h
  split at h
  · rename_i e hu
    split at h
    · rename_i zs ps ag hz hp hag
      simp only [Option.ite_none_right_eq_some] at h
      obtain ⟨⟨hzl, hl0, hs0, hbig, hisz⟩, h⟩ := h
      split at h
      · rename_i vs hf
        simp only [Option.map_eq_some_iff, Prod.mk.injEq, List.nil_append, List.length_nil, true_and, List.cons.injEq, O.row.injEq, and_true] at h
        obtain ⟨ds', hch, rfl, rfl⟩ := h
        obtain ⟨ie, z, h1, h2, h3, h4⟩ := zeroA_rel (w := w) (I := I) (ρ := ρ) (σ := σ) hz
        have hpr := partsA_rel (w := w) (I := I) (ρ := ρ) (σ := σ) (e := a.eval) (fun x => vr_ev hr x) hp
        have hzlen := vrL_len h3
        simp only [Array.length_toList] at hzlen
        have hie : ie.size = szOf ag := by simpa [h1] using hisz
        have hinit : ((Array.range (len * ie.size)).map (z.cells[· % z.cells.size]!)).toList = (List.replicate len z.cells.toList).flatten := by
          rw [← range_mod z.cells.toList (by simp; omega) len]
          simp only [Array.toList_map, Array.toList_range, Array.length_toList]
          rw [hie, hzlen, hzl]
          apply List.map_congr_left
          intro i _
          simp [getElem!_def, List.getD]
          cases z.cells[i % szOf ag]? <;> rfl
        obtain ⟨cs, g1, g2, g3⟩ := fill_rel (cs := (Array.range (len * ie.size)).map (z.cells[· % z.cells.size]!)) hf hpr (by rw [hinit]; exact vrL_flat h3 len) (by
          rw [hinit]
          intro x hx
          simp only [List.mem_flatten, List.mem_replicate] at hx
          obtain ⟨l, ⟨_, rfl⟩, hx⟩ := hx
          exact h4 x hx)
        have hmap : (parts.map fun (i, x) => (i, a.eval x)).toList = parts.toList.map fun p => (p.1, a.eval p.2) := by simp
        have hrun := run_buildSlice (P := P) w t e len (parts.map fun (i, x) => (i, a.eval x)) cs ie z hu h1 h2 (by rw [hie]; simp only [gt_iff_lt, Nat.not_lt]; exact hbig) (by rw [hie]; exact Nat.ne_of_gt (Nat.mul_pos hl0 hs0)) (by rw [hmap, hie]; rw [hie] at g1; exact g1)
        have hI : ∀ b, I b → I b ∧ (w.alloc (.cells cs e)).heap[b]? = w.heap[b]? := fun b hb => ⟨hb, heap_alloc_old _ _ _ (hO.imm b hb).1⟩
        obtain ⟨k1, k2, k3⟩ := chunk_rel (w := w.alloc (.cells cs e)) (b := w.heap.size) (o := 0) hch (vrL_up hI vs _ (σ' := σ) (ρ' := ρ) (fun l hl => ⟨vrL_locs vs _ g2 l hl, fun o' h1 h2 => ⟨rfl, o', h1, h2, rfl⟩⟩) g2) g3 (fun j hj => by simp)
        refine newRowAt_ok (cap := len) (sz := szOf ag) (t := e) (cs := cs) hl hr hO (by simpa using k3) (by omega) (by have : len ≤ len * szOf ag := Nat.le_mul_of_pos_right _ hs0; simp only [maxLen]; omega) g3 k1 ?_
        simp only [execOp, ho, Sem.run_bind, hrun, Result.andThen_ok, k2]
        rfl
      · cases h
    · cases h
  · cases h
end
section
variable {P : Program} {f : FuncId} {ro : Option Nat} {n : Nat} {T : List Item} {tm : List V} {σ : Store} {df : List Nat} {Q : AE → Store → Prop}
theorem AW.newVirt (sz : Nat) (h : AW P f ro n T tm (σ ++ [.row sz [] false]) df Q) : AW P f ro n T tm σ df Q := by
  intro w I ρ a rb hr hb hn
  have hO := hr.ors
  let σ2 : Store := σ ++ [.row sz [] false]
  let ρ2 : LM := fun x => if x = σ.length then none else ρ x
  have hlen : σ2.length = σ.length + 1 := by simp [σ2]
  have g1 : ∀ x, x < σ.length → σ2[x]? = σ[x]? := fun x hx => List.getElem?_append_left hx
  have g3 : σ2[σ.length]? = some (.row sz [] false) := by
    show (_ ++ _)[σ.length]? = _
    rw [List.getElem?_append_right (by omega)]
    simp
  have g4 : ∀ x, x < σ.length → ρ2 x = ρ x := fun x hx => by show (if _ then _ else _) = _; rw [if_neg (by omega)]
  have hS : ∀ x, x < σ.length → Same ρ σ ρ2 σ2 x := fun x hx => ⟨by omega, fun o' h1 h2 => ⟨g4 x hx, o', by rw [← g1 x hx]; exact h1, h2, rfl⟩⟩
  have hI : ∀ b, I b → I b ∧ w.heap[b]? = w.heap[b]? := fun b hb => ⟨hb, rfl⟩
  have cases3 : ∀ x o, σ2[x]? = some o → x = σ.length ∧ o = .row sz [] false ∨ x < σ.length ∧ σ[x]? = some o := by
    intro x o hx
    have hxl : x < σ2.length := (List.getElem?_eq_some_iff.1 hx).1
    by_cases h1 : x = σ.length
    · subst h1
      rw [g3] at hx; cases hx
      exact .inl ⟨rfl, rfl⟩
    · have h2 : x < σ.length := by omega
      exact .inr ⟨h2, by rw [← g1 x h2]; exact hx⟩
  have hfoot : ∀ b, foot ρ2 σ2 b → foot ρ σ b := by
    rintro b ⟨x, o, L, h1, h2, h3, h4⟩
    rcases cases3 x o h1 with ⟨rfl, rfl⟩ | ⟨hx, h5⟩
    · simp [ρ2] at h3
    · rw [g4 x hx] at h3
      exact ⟨x, o, L, h5, h2, h3, h4⟩
  have hO2 : ORel w I ρ2 σ2 := by
    refine ⟨fun x o hx => ?_, fun x y L L' hv hv' hL hL' hb => ?_, fun b hb => hO.flt b (hfoot b hb), fun b hb => ⟨(hO.imm b hb).1, fun h => (hO.imm b hb).2 (hfoot b h)⟩⟩
    · rcases cases3 x o hx with ⟨rfl, rfl⟩ | ⟨h2, h5⟩
      · simp only [orel]
        exact .inl ⟨by simp [ρ2], trivial⟩
      · by_cases hd : o = .dead
        · subst hd; simp [orel]
        · exact orel_all hI hS (g4 x h2) (fun L hL => rfl) (hO.objs x o h5)
    · obtain ⟨o, h1, h2⟩ := hv
      obtain ⟨o', h1', h2'⟩ := hv'
      rcases cases3 x o h1 with ⟨rfl, rfl⟩ | ⟨hx, h5⟩
      · simp [ρ2] at hL
      · rcases cases3 y o' h1' with ⟨rfl, rfl⟩ | ⟨hy, h7⟩
        · simp [ρ2] at hL'
        · rw [g4 x hx] at hL
          rw [g4 y hy] at hL'
          exact hO.inj x y L L' ⟨o, h5, h2⟩ ⟨o', h7, h2'⟩ hL hL' hb
  have hE : Ext σ.length w I ρ σ w I ρ2 σ2 := by
    refine ⟨Nat.le_refl _, rfl, rfl, rfl, fun _ _ _ => rfl, fun b hb => hb, fun b hb => .inl hb, fun b hb => .inl (hfoot b hb), by omega, fun x hx ⟨o, h1, h2⟩ => ?_, fun x o' hx h1 h2 => ?_, fun x o hx h1 h2 => ?_⟩
    · exact ⟨o, by rw [← g1 x hx]; exact h1, h2⟩
    · exact ⟨g4 x hx, o', by rw [← g1 x hx]; exact h1, h2, rfl⟩
    · exact ⟨o, by rw [g1 x hx]; exact h1, rfl⟩
  have hst := hE.stays
  exact (h w I ρ2 a rb ⟨vrL_all hI hS hr.tms, hO2, dfr_stay hst hr.dfs⟩ (rbOf_stay hst hb) (by show n ≤ σ2.length; omega)).mono fun e w' hf => hf.trans (hE.less hn)
end
section
variable {P : Program} {f : FuncId} {ro : Option Nat} {n : Nat} {k : List Item} {df : List Nat} {Q : AE → Store → Prop} {ops : Array Oper}
theorem StepF.build {F : List FP} {i : Nat} {o : Oper} {tm : List V} {σ : Store} {fp : FP} {t : TypeId} {len sz l : Nat} {parts : Array (Nat × Operand)} {ds : List D} {mv : Bool} (hi : ops[i]? = some o) (hF : F.getD i noFP = fp) (hg : fp.g = false) (hk : fp.k = [l]) (hw : wantA ops o tm = some true)
  (ho : o.op = .buildSlice t len parts) (hb : buildSliceA P tm [] t len parts.toList = some (.row 0, [.row sz ds false])) (hl : σ[l]? = some (.row sz [] mv)) (hr : inK fp.r l = true) (hok : okB fp tm σ o (.row l) [(l, .row sz ds true)] = true) :
  StepF P f ro n k df Q ops F i (tm, σ) (put (V.killL (Nat.beq l) tm) o.dst (.row l), (σ.map (O.kill (Nat.beq l))).set l (.row sz ds true)) := by
 refine StepF.moves o.op.operands.toList l _ hi hF hg hk hw (by simp [ho, Op.isDefer]) rfl hok fun tm' σ2 hv hs => ?_
 refine buildAt_ok ho ?_ ((hs l (inK_iff.1 hr)).trans hl)
 rw [← hb]
 unfold buildSliceA
 rw [partsA_congr (tm' := tm) fun x hx => hv x.2 (by rw [ho]; exact List.mem_map.2 ⟨x, hx, rfl⟩)]
end
end Go.Br
namespace Go.Br
open Go
section
variable {P : Program} {f : FuncId} {ro : Option Nat} {n : Nat} {k : List Item} {df : List Nat} {Q : AE → Store → Prop} {ops : Array Oper}
theorem StepF.mopAll {F : List FP} {i : Nat} {o : Oper} {tm : List V} {σ σ' : Store} {v : V} (hi : ops[i]? = some o) (hg : (F.getD i noFP).g = true) (hw : wantA ops o tm = some true) (h : mop P tm σ o = some (v, σ')) : StepF P f ro n k df Q ops F i (tm, σ) (put tm o.dst v, σ') :=
 .all hi hg fun rest hn => sem_mop hi h rest tm rfl hw hn
end
end Go.Br
namespace Go.Br
open Go
section
variable {P : Program} {f : FuncId} {ro : Option Nat} {n : Nat} {T : List Item} {tm : List V} {σ σ' : Store} {df : List Nat} {Q : AE → Store → Prop}
theorem AW.raise (l : Nat) {sz : Nat} {xs : List D} {mv : Bool} (hl : σ[l]? = some (.row sz xs mv)) (hs : σ.set l (.row sz xs true) = σ') (h : AW P f ro n T tm σ' df Q) : AW P f ro n T tm σ df Q := by
  subst hs
  intro w I ρ a rb hr hb hn
  have hO := hr.ors
  have hlt : l < σ.length := (List.getElem?_eq_some_iff.1 hl).1
  let σ2 : Store := σ.set l (.row sz xs true)
  have hlen : σ2.length = σ.length := by simp [σ2]
  have gl : σ2[l]? = some (.row sz xs true) := List.getElem?_set_self hlt
  have gne : ∀ x : Nat, x ≠ l → σ2[x]? = σ[x]? := fun x hx => List.getElem?_set_ne (Ne.symm hx)
  have back : ∀ (x : Nat) (o' : O), σ2[x]? = some o' → ∃ o : O, σ[x]? = some o ∧ (o' = .dead ↔ o = .dead) ∧ o.alike o' ∧ (o'.still = true → o = o') ∧ o.ld = o'.ld := by
    intro x o' hx
    by_cases hxl : x = l
    · subst hxl
      rw [gl] at hx; cases hx
      exact ⟨_, hl, by simp, rfl, by simp [O.still], rfl⟩
    · rw [gne x hxl] at hx
      exact ⟨o', hx, Iff.rfl, rfl, fun _ => rfl, rfl⟩
  have hS : ∀ x, x < σ.length → Same ρ σ ρ σ2 x := fun x hx => ⟨by omega, fun o' h1 h2 => by
    obtain ⟨o, g1, g2, g3, _⟩ := back x o' h1
    exact ⟨rfl, o, g1, fun e => h2 (g2.2 e), g3⟩⟩
  have hI : ∀ b, I b → I b ∧ w.heap[b]? = w.heap[b]? := fun b hb => ⟨hb, rfl⟩
  have hlive : ∀ x, live σ2 x → live σ x := fun x ⟨o', h1, h2⟩ => by
    obtain ⟨o, g1, g2, _⟩ := back x o' h1
    exact ⟨o, g1, fun e => h2 (g2.2 e)⟩
  have hfoot : ∀ b, foot ρ σ2 b → foot ρ σ b := by
    rintro b ⟨x, o', L, h1, h2, h3, h4⟩
    obtain ⟨o, g1, g2, _⟩ := back x o' h1
    exact ⟨x, o, L, g1, fun e => h2 (g2.2 e), h3, h4⟩
  have hO2 : ORel w I ρ σ2 := by
    refine ⟨fun x o' hx => ?_, fun x y L L' hv hv' hL hL' hb => hO.inj x y L L' (hlive x hv) (hlive y hv') hL hL' hb, fun b hb => hO.flt b (hfoot b hb), fun b hb => ⟨(hO.imm b hb).1, fun h => (hO.imm b hb).2 (hfoot b h)⟩⟩
    by_cases hxl : x = l
    · subst hxl
      rw [gl] at hx; cases hx
      have := hO.objs x _ hl
      simp only [orel] at this ⊢
      exact this
    · rw [gne x hxl] at hx
      by_cases hd : o' = .dead
      · subst hd; simp [orel]
      · exact orel_all hI hS rfl (fun L hL => rfl) (hO.objs x o' hx)
  have hE : Ext σ.length w I ρ σ w I ρ σ2 := by
    refine ⟨Nat.le_refl _, rfl, rfl, rfl, fun _ _ _ => rfl, fun b hb => hb, fun b hb => .inl hb, fun b hb => .inl (hfoot b hb), by omega, fun x hx h => hlive x h, fun x o' hx h1 h2 => ?_, fun x o hx h1 h2 => ?_⟩
    · obtain ⟨o, g1, _, g3, g4, _⟩ := back x o' h1
      exact ⟨rfl, o, g1, by rw [g4 h2]; exact h2, g3⟩
    · by_cases hxl : x = l
      · subst hxl
        rw [hl] at h1; cases h1
        simp [O.ld] at h2
      · exact ⟨o, by rw [gne x hxl]; exact h1, rfl⟩
  have hst := hE.stays
  exact (h w I ρ a rb ⟨vrL_all hI hS hr.tms, hO2, dfr_stay hst hr.dfs⟩ (rbOf_stay hst hb) (by show n ≤ σ2.length; omega)).mono fun e w' hf => hf.trans (hE.less hn)
end
end Go.Br
namespace Go.Br
open Go
section
variable {P : Program} {f : FuncId} {n : Nat} {T : List Item} {tm : List V} {σ σ1 σ2 : Store} {df : List Nat} {Q : AE → Store → Prop}
theorem AW.retX {fn : Func} {c : Code} {v : V} (m : List Nat) (v' : V) (hF : Fnc P f fn c) (hT : isRet T = true) (hd : nodupB df = true ∧ (df.all fun l => Nat.ble n l) = true) (hs : df.foldl (fun s l => s.set l .dead) σ = σ1) (hres : resA P fn tm σ1 = some v)
   (he : exact σ1 m σ2) (hv : v = v'.ren (mp m σ1.length)) (hn' : n ≤ σ2.length ∧ m.take n = List.range n) (hbel : (belB σ2.length σ2 && v'.locs.all fun l => Nat.blt l σ2.length) = true) (hq : Q (.ret v') σ2) : AW P f none n T tm σ df Q := by
 subst hs
 have h0 : AW P f none n T tm σ df (fun r s => r = .ret v ∧ s = df.foldl (fun s l => s.set l .dead) σ) := .retD hF hT hd rfl hres ⟨rfl, rfl⟩
 intro w I ρ a rb hr hb hn
 refine (h0 w I ρ a rb hr hb hn).mono ?_
 rintro e w' ⟨I', ρ', σ', r, ⟨rfl, rfl⟩, h2, hO, h4⟩
 simp only [Bool.and_eq_true] at hbel
 generalize hσ1 : df.foldl (fun s l => s.set l .dead) σ = σ1 at *
 have hE : Emb (mp m σ1.length) (rhoC m ρ') σ2 ρ' σ1 := by
   intro i o hi
   obtain ⟨h1, h2⟩ := exact_get he hi
   exact ⟨by simp [rhoC, h1], _, h2, O.ren_dead, O.ren_alike o⟩
 have hfoot : ∀ b, foot (rhoC m ρ') σ2 b → foot ρ' σ1 b := by
   rintro b ⟨i, oc, L, h1, h2, h3, h4⟩
   have hi := (List.getElem?_eq_some_iff.1 h1).1
   obtain ⟨o, h5, h6⟩ := (hE.live hi).2 ⟨oc, h1, h2⟩
   exact ⟨_, o, L, h5, h6, (hE.rho hi).trans h3, h4⟩
 have hO2 : ORel w' I' (rhoC m ρ') σ2 := by
   refine ⟨fun i oc hi => ?_, fun i j L L' hi hj hL hL' e => ?_, fun b h => hO.flt b (hfoot b h), fun b h => ⟨(hO.imm b h).1, fun hf => (hO.imm b h).2 (hfoot b hf)⟩⟩
   · obtain ⟨h1, h2⟩ := exact_get he hi
     exact (orel_ren hE (by simp [rhoC, h1]) (belB_ok hbel.1 hi)).1 (hO.objs _ _ h2)
   · have h1 := live_lt hi
     have h2 := live_lt hj
     have := hO.inj _ _ L L' ((hE.live h1).2 hi) ((hE.live h2).2 hj) ((hE.rho h1).trans hL) ((hE.rho h2).trans hL') e
     have hi' := (exact_get he (List.getElem?_eq_getElem h1)).1
     have hj' := (exact_get he (List.getElem?_eq_getElem h2)).1
     rw [← this] at hj'
     have a1 := mem_idx (nodupB_ok he.2.1) hi'
     have a2 := mem_idx (nodupB_ok he.2.1) hj'
     rw [a1] at a2
     exact Option.some.inj a2
 have hid : ∀ l, l < n → mp m σ1.length l = l ∧ rhoC m ρ' l = ρ' l := by
   intro l hl
   have : (m.take n)[l]? = some l := by rw [hn'.2]; simp [hl]
   rw [List.getElem?_take, if_pos hl] at this
   exact ⟨by simp [mp, this], by simp [rhoC, this]⟩
 have hat : ∀ l o', l < n → σ2[l]? = some o' → σ1[l]? = some (o'.ren (mp m σ1.length)) := by
   intro l o' hl ho
   have hx := (exact_get he ho).2
   rwa [(hid l hl).1] at hx
 refine ⟨I', rhoC m ρ', σ2, .ret v', hq, ?_, hO2, ⟨h4.size, h4.os, h4.tape, h4.output, h4.old, h4.immI, h4.immN, fun b hb => h4.footN b (hfoot b hb), hn'.1, fun l hl hv => ?_, fun l o' hl ho' hst => ?_, fun l o hl ho hld => ?_⟩⟩
 · obtain ⟨x, rfl, hx⟩ := h2
   refine ⟨x, rfl, (vr_ren hE v' x fun l hl => ?_).1 (by rw [← hv]; exact hx)⟩
   have := (List.all_eq_true.1 hbel.2) l hl
   simpa [Nat.blt_eq] using this
 · have := (hE.live (Nat.lt_of_lt_of_le hl hn'.1)).2 hv
   rw [(hid l hl).1] at this
   exact h4.alive l hl this
 · obtain ⟨g1, o, g2, g3, g4⟩ := h4.fixed l _ hl (hat l o' hl ho') (by rw [O.ren_still]; exact hst)
   exact ⟨(hid l hl).2.trans g1, o, g2, g3, O.alike_trans g4 (O.ren_alike o')⟩
 · obtain ⟨o1, g1, g2⟩ := h4.stay l o hl ho hld
   have hlt : l < σ2.length := Nat.lt_of_lt_of_le hl hn'.1
   have hx := hat l _ hl (List.getElem?_eq_getElem hlt)
   rw [g1, Option.some.injEq] at hx
   exact ⟨_, List.getElem?_eq_getElem hlt, by rw [← g2, hx, O.ren_ld]⟩
def notStr : V → Bool
  | .d (.str _) => false
  | _ => true
theorem contSl {w : World} {I : Nat → Prop} {ρ : LM} {v : V} {x : Value} {sz : Nat} {xs : List D} (h : cont σ v = some (sz, xs)) (hs : notStr v = true) (hv : vr w I ρ σ v x) : ∃ a len cap, x = .slice a len cap ∧ (a = none → xs = []) := by
 cases v with
 | d d =>
   cases d with
   | list sz' xs' =>
     simp only [cont, Option.some.injEq, Prod.mk.injEq] at h
     obtain ⟨rfl, rfl⟩ := h
     simp only [vr, Dr] at hv
     obtain ⟨ad, cap, hxe, h1, h2, h3⟩ := hv
     refine ⟨ad, _, cap, hxe, fun ha => ?_⟩
     rcases h3 with h3 | ⟨b, o', rfl, _⟩
     · exact h3
     · cases ha
   | str s => simp [notStr] at hs
   | _ => simp [cont] at h
 | ex sz' xs' =>
   simp only [cont, Option.some.injEq, Prod.mk.injEq] at h
   obtain ⟨rfl, rfl⟩ := h
   simp only [vr, Dr] at hv
   obtain ⟨_, _, ad, cap, hxe, h1, h2, h3⟩ := hv
   refine ⟨ad, _, cap, hxe, fun ha => ?_⟩
   rcases h3 with h3 | ⟨b, o', rfl, _⟩
   · exact h3
   · cases ha
 | row l =>
   simp only [cont] at h
   split at h
   · rename_i sz' xs' mv hl
     simp only [Option.some.injEq, Prod.mk.injEq] at h
     obtain ⟨rfl, rfl⟩ := h
     simp only [vr] at hv
     rcases hv.2.2 _ _ _ hl with ⟨h1, a, h2⟩ | ⟨L, h1, h2, h3⟩
     · exact ⟨a, 0, 0, h2, fun _ => List.eq_nil_of_length_eq_zero h1⟩
     · exact ⟨_, _, _, h3, fun ha => by cases ha⟩
   · cases h
 | sl l off n c =>
   simp only [cont] at h
   split at h
   · rename_i sz' xs' mv hl
     simp only [Option.some.injEq, Prod.mk.injEq] at h
     obtain ⟨rfl, rfl⟩ := h
     simp only [vr] at hv
     obtain ⟨h0, h1, _⟩ := hv.2.2 _ _ _ hl
     rcases h1 with ⟨h1, a, h2⟩ | ⟨L, h1, h2, h3⟩
     · exact ⟨a, 0, 0, h2, fun _ => by rw [h1]; simp⟩
     · exact ⟨_, _, _, h3, fun ha => by cases ha⟩
   · cases h
 | _ => simp [cont] at h
theorem nilEqC_ok {o : Oper} {x y : Operand} {t ty : TypeId} {sz : Nat} {xs : List D} {neg : Bool} (ho : o.op = .binOp (if neg then .neq else .eql) t x y ty) (ht : isSliceT P t = true) (hx : cont σ (ev tm x) = some (sz, xs)) (hs : notStr (ev tm x) = true) (hy : ev tm y = .nils) :
   OpAny P o tm σ fun v => ∃ b : Bool, v = .d (.bool (b != neg)) ∧ (b = true → xs = []) := by
 intro w I ρ a hr hO
 obtain ⟨e, hu⟩ := isSliceT_und ht
 obtain ⟨ad, len, cap, hxe, h3⟩ := contSl hx hs (vr_ev hr x)
 have hyr := vr_ev hr y
 rw [hy] at hyr
 simp only [vr] at hyr
 refine ⟨.bool (ad.isNone != neg), .d (.bool (ad.isNone != neg)), ?_, by simp [vr, Dr], ad.isNone, rfl, fun hb => h3 (by simpa using hb)⟩
 have hg : (eqGuard (if neg then .neq else .eql) t x y (a.eval x) (a.eval y)).run P w = .ok () w := by
   rw [hxe, hyr]
   unfold eqGuard
   cases neg <;> simp
 cases neg
 · have := run_eql_slice_nil' (P := P) (w := w) ad len cap hu
   simp only [Bool.false_eq_true, if_false] at ho hg
   rw [hxe, hyr] at hg
   simp only [execOp, ho, hxe, hyr, Sem.run_bind, hg, Result.andThen_ok, this, Sem.run_pure]
   simp
 · have := run_neq_slice_nil (P := P) w t e ad len cap hu
   simp only [if_true] at ho hg
   rw [hxe, hyr] at hg
   simp only [execOp, ho, hxe, hyr, Sem.run_bind, hg, Result.andThen_ok, this, Sem.run_pure]
   simp
end
end Go.Br
namespace Go.Br
open Go
section
variable {P : Program} {w : World} {I : Nat → Prop} {ρ : LM} {σ : Store}
theorem newData_grown {o : Oper} {tm : List V} {e : TypeId} {ds : List D} {cs : List Value} {zs : Array Value} {a : Act} {sz cap : Nat} (hr : vrL w I ρ σ tm a.tmps.toList) (hO : ORel w I ρ σ) (hN : DrN w I sz ds cs) (hle : ds.length ≤ cap) (hcap : cap ≤ maxLen)
   (hrun : (execOp a.eval o).run P w = .ok (.value (.slice (some ⟨w.heap.size, 0, none⟩) ds.length cap)) (w.drew.alloc (.cells (cs.toArray ++ zs) e))) :
   ∃ nx x w' I' ρ', (execOp a.eval o).run P w = .ok nx w' ∧ (nx = .value x ∨ nx = .skip ∧ x = undef) ∧ vr w' I' ρ' σ (.d (.list sz ds)) x ∧ vrL w' I' ρ' σ tm a.tmps.toList ∧ ORel w' I' ρ' σ ∧ Ext σ.length w I ρ σ w' I' ρ' σ := by
 have hold : ∀ b, b < w.heap.size → (w.drew.alloc (.cells (cs.toArray ++ zs) e)).heap[b]? = w.heap[b]? := fun b hb => heap_alloc_old _ _ _ hb
 have hsz : (w.drew.alloc (.cells (cs.toArray ++ zs) e)).heap.size = w.heap.size + 1 := by simp [show w.drew.heap = w.heap from rfl]
 have hI : ∀ b, I b → (I b ∨ b = w.heap.size) ∧ (w.drew.alloc (.cells (cs.toArray ++ zs) e)).heap[b]? = w.heap[b]? := fun b hb => ⟨.inl hb, hold b (hO.imm b hb).1⟩
 have hS : ∀ x, x < σ.length → Same ρ σ ρ σ x := fun x hx => ⟨hx, fun o' h1 h2 => ⟨rfl, o', h1, h2, rfl⟩⟩
 refine ⟨_, _, _, (fun b => I b ∨ b = w.heap.size), ρ, hrun, .inl rfl, ?_, vrL_all hI hS hr, ?_, ?_⟩
 · simp only [vr, Dr]
   refine ⟨_, cap, rfl, hle, hcap, .inr ⟨_, 0, rfl, .inr rfl, ?_⟩⟩
   refine DrE_of_N (DrN_mono hI hN) fun j hj => ?_
   have : (w.drew.alloc (.cells (cs.toArray ++ zs) e)).cell? ⟨w.drew.heap.size, 0 + j, none⟩ = (cs.toArray ++ zs)[j]? := by
     rw [Nat.zero_add]; exact World.cell?_alloc_new _ _ _ _
   have h2 : w.drew.heap.size = w.heap.size := rfl
   rw [h2] at this
   rw [this, Array.getElem?_append_left (by simpa using hj)]
   simp
 · refine ⟨fun l o h => ?_, hO.inj, fun b hb => by rw [hsz]; have := hO.flt b hb; omega, fun b hb => ?_⟩
   · by_cases hd : o = .dead
     · subst hd; simp [orel]
     · exact orel_all hI hS rfl (fun L hL => hold _ (hO.flt _ ⟨l, o, L, h, hd, hL, rfl⟩)) (hO.objs l o h)
   · rw [hsz]
     rcases hb with hb | rfl
     · exact ⟨by have := (hO.imm b hb).1; omega, (hO.imm b hb).2⟩
     · exact ⟨by omega, fun h => by have := hO.flt _ h; omega⟩
 · refine ⟨by rw [hsz]; omega, rfl, rfl, rfl, fun b hb _ => hold b hb, fun b hb => .inl hb, fun b hb => ?_, fun b hb => .inl hb, Nat.le_refl _, fun _ _ h => h, fun l o _ h hf => ⟨rfl, o, h, hf, rfl⟩, fun l o _ h _ => ⟨o, h, rfl⟩⟩
   rcases hb with hb | rfl
   · exact .inl hb
   · exact .inr (.inr (Nat.le_refl _))
theorem appExD_ok {tm : List V} {o : Oper} {s x : Operand} {t t2 : TypeId} {sz by' : Nat} {xs ys : List D} (ho : o.op = .call { callee := .builtin .append, args := #[s, x], argTypes := #[t, t2] }) (hs : ev tm s = .ex sz xs) (hx : cont σ (ev tm x) = some (sz, ys))
   (hw : elemW P t = some (sz, by')) (h2 : notIntT P t2 = true) (hb : (xs.length + ys.length) * by' ≤ 140737488355328) (h63 : xs.length + ys.length ≤ maxLen) : OpOk P o tm σ (.d (.list sz (xs ++ ys))) tm σ := by
 rcases Nat.eq_zero_or_pos ys.length with h0 | h0
 · have hy : ys = [] := List.eq_nil_of_length_eq_zero h0
   subst hy
   intro w I ρ a hr hO
   obtain ⟨nx, x, w', I', ρ', h3, h4, h5, h6⟩ := appNone_ok (P := P) (σ := σ) ho hs hx hw h2 w I ρ a hr hO
   refine ⟨nx, x, w', I', ρ', h3, h4, ?_, h6⟩
   simp only [vr] at h5 ⊢
   obtain ⟨_, _, h5⟩ := h5
   simpa using h5
 · intro w I ρ a hr hO
   obtain ⟨e, i, z, hu, hi, hz, rfl, rfl, hzs, hz1⟩ := elemW_und hw
   have hsr := vr_ev hr s
   have hcs : cont σ (ev tm s) = some (i.size, xs) := by rw [hs]; rfl
   obtain ⟨olds, hNo, _, hfo⟩ := cont_rel (P := P) hcs hsr hO
   rw [hs] at hsr
   simp only [vr] at hsr
   obtain ⟨ad, hsv, _⟩ := hsr
   rw [hsv] at hfo
   obtain ⟨news, hN, hlen, hfc⟩ := cont_rel (P := P) hx (vr_ev hr x) hO
   have hrun := exec_append (a := a) ho (run_app_grow (w := w) (ty := o.type) hu hi hz h2 (base := ad) (sLen := xs.length) (sCap := xs.length) (hlen w) (hfo w.drew rfl) (hfc w.drew rfl) (by omega) (by simp only [maxLen] at h63; omega) (growslice_fits (by omega) hb) |> fun h => by rw [hsv]; exact h)
   have hll : (xs ++ ys).length = xs.length + ys.length := by simp
   have hge := grownCap_ge w (xs.length + ys.length) xs.length e
   refine newData_grown (cs := olds ++ news) (zs := Builtin.zeroCells z.cells (grownCap w (xs.length + ys.length) xs.length e - (xs.length + ys.length))) (e := e) hr hO (DrN_append hNo hN) (by rw [hll]; exact hge) (grownCap_le_maxLen w _ _ e h63) ?_
   rw [hrun, hll]
   congr 3
   apply Array.ext'; simp
end
section
variable {P : Program} {f : FuncId} {ro : Option Nat} {n : Nat} {k : List Item} {tm : List V} {σ : Store} {df : List Nat} {Q : AE → Store → Prop} {ops : Array Oper}
theorem AW.goes {T T' : List Item} {tm' : List V} {σ' : Store} (l : List Nat) (hT : T = T') (ht : keep l tm = tm') (hs : σ = σ') (h : AW P f ro n T' tm' σ' df Q) : AW P f ro n T tm σ df Q := by
 subst hT hs
 exact .keeps l ht h
theorem AW.yieldD {T0 : List Item} {i : Nat} {rest : List Nat} {o : Oper} {x : Operand} {args : Array Operand} {ts : Array TypeId} {l : Nat} {st : LoopState} {fn : FuncId} {tml tmr : List V} {Qr : AE → Store → Prop} {R : List Item}
  (hi : ops[i]? = some o) (hw : wantA ops o tm = some true) (ho : o.op = .call { callee := .value x, args, argTypes := ts }) (hx : ev tm x = .yield l) (hl : σ[l]? = some (lp T0 fn tml st)) (hps : args.size = (rfPs T0).size)
  (hR : [.code (rfAs T0), .beginRound, .code (rfBd T0)] = R) (htm : roundTm tml (rfPs T0).toList (args.toList.map (ev tm)) = tmr) {N : Nat} (hN : σ.length = N) (hr : AW P fn (some l) N R tmr σ [] Qr)
  (hk : ∀ r σ', Qr r σ' → ∃ v, r = .ret v ∧ AW P f ro n (.inRegion ops rest :: k) (put (V.killL (mvB σ') tm) o.dst v) σ' df Q) : AW P f ro n (.inRegion ops (i :: rest) :: k) tm σ df Q := by
 subst htm hN hR
 exact .yield hi hw ho hx hl hps hr hk
end
end Go.Br
