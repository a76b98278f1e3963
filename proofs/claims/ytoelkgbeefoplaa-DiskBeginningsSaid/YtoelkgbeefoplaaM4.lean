/- Part 4 of this proof. -/
import Derived.Laws.Cover3
import Derived.Laws.IdiomCopy
import Derived.Test.YtoelkgbeefoplaaM3
namespace Go.Br
open Go
variable {o : Oper} {tm : List V} {P : Program} {σ : Store} {v : V} {c : Code} {fn : Func} {g : FuncId} {l : Nat} {i : Nat}
def cgo : Nat → List Bool → List Item → List Item
  | 0, _, t => t
  | n + 1, ch, t => match t with
    | .code .skip :: k => cgo n ch k
    | .code (.label _) :: k => cgo n ch k
    | .inBlock _ :: k => cgo n ch k
    | .inScope _ :: k => cgo n ch k
    | .code (.seq a b) :: k => cgo n ch (.code a :: .code b :: k)
    | .code (.block id c) :: k => cgo n ch (.code c :: .inBlock id :: k)
    | .code (.scope c) :: k => cgo n ch (.code c :: .inScope c :: k)
    | .code (.loop c) :: k => cgo n ch (.code c :: .inLoop c :: k)
    | .inLoop c :: k => cgo n ch (.code c :: .inLoop c :: k)
    | .code (.exit id) :: k => match exitTo id k with | some k' => cgo n ch k' | none => t
    | .code (.goto l) :: k => match gotoIn l k with | some k' => cgo n ch k' | none => t
    | .code (.cond _ x y) :: k => match ch with | true :: ch => cgo n ch (.code x :: k) | false :: ch => cgo n ch (.code y :: k) | [] => t
    | .code (.region _ ops false) :: k => cgo n ch (.inRegion ops (List.range ops.size) :: k)
    | .code (.region _ _ true) :: k => cgo n ch k
    | .code (.rangeFunc ..) :: k => cgo n ch k
    | .inRegion _ [] :: k => cgo n ch k
    | .inRegion ops (_ :: r) :: k => cgo n ch (.inRegion ops r :: k)
    | .beginRound :: k => cgo n ch k
    | _ => t
def mk (n : Nat) (l : List (Nat × V)) : List V := l.foldl (fun t p => t.set p.1 p.2) (List.replicate n .undef)
def keep (l : List Nat) (tm : List V) : List V := tm.mapIdx fun i v => if l.any (Nat.beq i) then v else .undef
def opsOf (T : List Item) : Array Oper := match T with | .inRegion ops _ :: _ => ops | _ => #[]
def ixOf (T : List Item) : Nat := match T with | .inRegion _ (i :: _) :: _ => i | _ => 0
def opOf (T : List Item) : Option Oper := match T with | .inRegion ops (i :: _) :: _ => ops[i]? | _ => none
def tlOf (T : List Item) : List Item := match T with | .inRegion ops (_ :: r) :: k => .inRegion ops r :: k | _ => []
section
variable {P : Program} {f : FuncId} {ro : Option Nat} {n : Nat} {T T' : List Item} {tm tm' : List V} {σ σ' : Store} {df : List Nat} {Q : AE → Store → Prop}
theorem keep_rel {w : World} {I : Nat → Prop} {ρ : LM} {l : List Nat} {xs : List Value} (h : vrL w I ρ σ tm xs) : vrL w I ρ σ (keep l tm) xs := by
 have key : ∀ (p : Nat → Bool) (tm : List V) (xs : List Value), vrL w I ρ σ tm xs → vrL w I ρ σ (tm.mapIdx fun i v => if p i then v else .undef) xs := by
  intro p tm
  induction tm generalizing p with
  | nil => intro xs h; simpa [vrL] using h
  | cons v vs ih =>
    intro xs h
    simp only [vrL] at h
    obtain ⟨x, xs', rfl, h1, h2⟩ := h
    simp only [List.mapIdx_cons, vrL]
    refine ⟨x, xs', rfl, ?_, ih (fun i => p (i + 1)) xs' h2⟩
    split
    · exact h1
    · simp [vr]
 exact key (fun i => l.any (Nat.beq i)) tm xs h
theorem AW.seg (m : Nat) (l : List Nat) (hs : (msteps P m T tm σ).map (fun s => (s.1, keep l s.2.1, s.2.2)) = some (T', tm', σ')) (h : AW P f ro n T' tm' σ' df Q) : AW P f ro n T tm σ df Q := by
 simp only [Option.map_eq_some_iff, Prod.mk.injEq] at hs
 obtain ⟨⟨t1, t2, t3⟩, h1, rfl, rfl, rfl⟩ := hs
 exact AW.steps m h1 (AW.less (fun _ _ _ _ hr => keep_rel hr) h)
theorem AW.opH (ho : opOf T = some o) (hw : wantA (opsOf T) o tm = some true) (hd : Op.isDefer o.op = false) (hT : tlOf T = T') (hok : OpOk P o tm σ v tm' σ') (h : AW P f ro n T' (put tm' o.dst v) σ' df Q) : AW P f ro n T tm σ df Q := by
 subst hT
 unfold opOf at ho
 split at ho
 · rename_i ops i r k
   exact .op ho hw hd hok h
 · cases ho
theorem AW.semH (ho : opOf T = some o) (hw : wantA (opsOf T) o tm = some true) (hT : tlOf T = T') (hs : ∀ k, Sem P f ro n k df Q (opsOf T) o (ixOf T) (valsOf tm o) σ v σ') (h : AW P f ro n T' (put tm o.dst v) σ' df Q) : AW P f ro n T tm σ df Q := by
 subst hT
 unfold opOf at ho
 split at ho
 · rename_i ops i r k
   exact .sem (hs k) hw h
 · cases ho
def condOf (T : List Item) : Operand := match T with | .code (.cond c _ _) :: _ => c | _ => .global 0
def isCond (T : List Item) : Bool := match T with | .code (.cond _ _ _) :: _ => true | _ => false
theorem AW.ifH {T1 T2 : List Item} {b : Bool} (ht : isCond T = true) (hc : ev tm (condOf T) = .d (.bool b)) (hT1 : cgo 1 [true] T = T1) (hT2 : cgo 1 [false] T = T2) (h1 : b = true → AW P f ro n T1 tm σ df Q) (h2 : b = false → AW P f ro n T2 tm σ df Q) : AW P f ro n T tm σ df Q := by
 subst hT1 hT2
 unfold isCond at ht
 split at ht
 · exact .cond hc h1 h2
 · cases ht
theorem AW.as (ht : tm = tm') (hs : σ = σ') (h : AW P f ro n T tm' σ' df Q) : AW P f ro n T tm σ df Q := by subst ht hs; exact h
def isDraw (T : List Item) : Bool := match T with | .code (.region _ _ true) :: _ => true | _ => false
def drawOf (T : List Item) : Array Oper := match T with | .code (.region _ ops true) :: _ => ops | _ => #[]
end
def iadd (k : IntKind) (a b : Int) : Int := k.wrap (a + b)
def isub (k : IntKind) (a b : Int) : Int := k.wrap (a - b)
def iquo (k : IntKind) (a b : Int) : Int := k.wrap (a.tdiv b)
def irem (a b : Int) : Int := a.tmod b
def iand (k : IntKind) (a b : Int) : Int := k.wrap (BitVec.ofInt k.bits a &&& BitVec.ofInt k.bits b).toNat
def ior (k : IntKind) (a b : Int) : Int := k.wrap (BitVec.ofInt k.bits a ||| BitVec.ofInt k.bits b).toNat
def ishl (k : IntKind) (a b : Int) : Int := k.wrap (a * 2 ^ min b.toNat k.bits)
def ishr (k : IntKind) (a b : Int) : Int := a.fdiv (2 ^ min b.toNat k.bits)
theorem wrap_i64 {n : Int} (h : -9223372036854775808 ≤ n) (h' : n < 9223372036854775808) : IntKind.i64.wrap n = n := by
 simp only [IntKind.wrap, IntKind.bits, IntKind.signed, Bool.true_and]
 split <;> simp_all <;> omega
theorem iadd_i64 {a b : Int} (h : -9223372036854775808 ≤ a + b) (h' : a + b < 9223372036854775808) : iadd .i64 a b = a + b := wrap_i64 h h'
theorem isub_i64 {a b : Int} (h : -9223372036854775808 ≤ a - b) (h' : a - b < 9223372036854775808) : isub .i64 a b = a - b := wrap_i64 h h'
section
variable (x y : BitVec 32)
end
def isRet (T : List Item) : Bool := match T with | .code .ret :: _ => true | [] => true | _ => false
theorem AW.retH {f : FuncId} {n : Nat} {T : List Item} {Q : AE → Store → Prop} (hF : Fnc P f fn c) (hT : isRet T = true) (hres : resA P fn tm σ = some v) (hq : Q (.ret v) σ) : AW P f none n T tm σ [] Q := by
 unfold isRet at hT
 split at hT
 · exact .ret hF ⟨rfl, rfl⟩ hres hq
 · exact .fin hF ⟨rfl, rfl⟩ hres hq
 · cases hT
theorem CallsA.start {args : List V} {Q : AE → Store → Prop} (hF : Fnc P g fn c) (ht : args ++ List.replicate (fn.ntmps - args.length) .undef = tm) (h : AW P g none σ.length (cgo 0 [] [.code c]) tm σ [] Q) : CallsA P g args σ Q :=
 CallsA.of hF.get hF.body (by rw [ht]; exact h)
def Pure (P : Program) (g : FuncId) (args : List V) (v : V) : Prop := CallsA P g args [] fun r σ' => r = .ret v ∧ σ' = []
section
variable {P : Program} {f : FuncId} {ro : Option Nat} {n : Nat} {k : List Item} {T T' : List Item} {tm tm' : List V} {σ σ' : Store} {df : List Nat} {Q : AE → Store → Prop} {ops : Array Oper}
def OpAny (P : Program) (o : Oper) (tm : List V) (σ : Store) (W : V → Prop) : Prop :=
  ∀ (w : World) (I : Nat → Prop) (ρ : LM) (a : Act), vrL w I ρ σ tm a.tmps.toList → ORel w I ρ σ → ∃ x v, (execOp a.eval o).run P w = .ok (.value x) w ∧ vr w I ρ σ v x ∧ W v
theorem AW.opAny {rest : List Nat} {W : V → Prop} (hi : ops[i]? = some o) (hw : wantA ops o tm = some true) (hd : Op.isDefer o.op = false) (hok : OpAny P o tm σ W)
  (h : ∀ v, W v → AW P f ro n (.inRegion ops rest :: k) (put tm o.dst v) σ df Q) : AW P f ro n (.inRegion ops (i :: rest) :: k) tm σ df Q := by
 intro w I ρ a rb hr hb hn
 obtain ⟨x, v, h1, h2, h3⟩ := hok w I ρ a hr.tms hr.ors
 exact .step (fun cs => st_op_value hi (wantA_ok hw hr.tms) hd h1) (h v h3 w I ρ (a.put o.dst x) rb ⟨vrL_put hr.tms o.dst h2, hr.ors, by rw [put_defers]; exact hr.dfs⟩ hb hn)
theorem AW.anyH {W : V → Prop} (ho : opOf T = some o) (hw : wantA (opsOf T) o tm = some true) (hd : Op.isDefer o.op = false) (hT : tlOf T = T') (hok : OpAny P o tm σ W)
   (h : ∀ v, W v → AW P f ro n T' (put tm o.dst v) σ df Q) : AW P f ro n T tm σ df Q := by
 subst hT
 unfold opOf at ho
 split at ho
 · rename_i ops i r k
   exact .opAny ho hw hd hok h
 · cases ho
theorem run_eql_slice_nil' {w : World} {t e : TypeId} (a : Option Addr) (l c : Nat) (h : P.underlying t = some (.slice e)) : (binOp .eql t (.slice a l c) (.slice none 0 0)).run P w = .ok (.bool a.isNone) w := by
 simp only [binOp]
 simp [run_equal_slice_nil w t e a l c h]
theorem nilEq_ok {x y : Operand} {t ty : TypeId} {sz : Nat} {xs : List D} {neg : Bool} (ho : o.op = .binOp (if neg then .neq else .eql) t x y ty) (ht : isSliceT P t = true) (hx : listOf (ev tm x) = some (sz, xs)) (hy : ev tm y = .nils) :
   OpAny P o tm σ fun v => ∃ b : Bool, v = .d (.bool (b != neg)) ∧ (b = true → xs = []) := by
 intro w I ρ a hr hO
 obtain ⟨e, hu⟩ := isSliceT_und ht
 have hxr := listOf_rel hx (vr_ev hr x)
 have hyr := vr_ev hr y
 rw [hy] at hyr
 simp only [vr] at hyr
 simp only [Dr] at hxr
 obtain ⟨ad, cap, hxe, h1, h2, h3⟩ := hxr
 refine ⟨.bool (ad.isNone != neg), .d (.bool (ad.isNone != neg)), ?_, by simp [vr, Dr], ad.isNone, rfl, fun hb => ?_⟩
 · have hg : (eqGuard (if neg then .neq else .eql) t x y (a.eval x) (a.eval y)).run P w = .ok () w := by
     rw [hxe, hyr]
     unfold eqGuard
     cases neg <;> simp
   cases neg
   · have := run_eql_slice_nil' (P := P) (w := w) ad xs.length cap hu
     simp only [Bool.false_eq_true, if_false] at ho hg
     rw [hxe, hyr] at hg
     simp only [execOp, ho, hxe, hyr, Sem.run_bind, hg, Result.andThen_ok, this, Sem.run_pure]
     simp
   · have := run_neq_slice_nil (P := P) w t e ad xs.length cap hu
     simp only [if_true] at ho hg
     rw [hxe, hyr] at hg
     simp only [execOp, ho, hxe, hyr, Sem.run_bind, hg, Result.andThen_ok, this, Sem.run_pure]
     simp
 · rcases h3 with h3 | ⟨b, o', rfl, _⟩
   · exact h3
   · simp at hb
theorem appNone_ok {s x : Operand} {t t2 : TypeId} {sz by' : Nat} {xs : List D} (ho : o.op = .call { callee := .builtin .append, args := #[s, x], argTypes := #[t, t2] }) (hs : ev tm s = .ex sz xs) (hx : cont σ (ev tm x) = some (sz, []))
  (hw : elemW P t = some (sz, by')) (h2 : notIntT P t2 = true) : OpOk P o tm σ (.ex sz xs) tm σ := by
 intro w I ρ a hr hO
 obtain ⟨e, i, z, hu, hi, hz, rfl, rfl, hzs⟩ := elemW_und hw
 have hsr := vr_ev hr s
 rw [hs] at hsr
 have hsr0 := hsr
 simp only [vr] at hsr
 obtain ⟨ad, hsv, _⟩ := hsr
 obtain ⟨news, hN, hlen, hfc⟩ := cont_rel (P := P) hx (vr_ev hr x) hO
 have hnews : news = [] := by
  simp only [DrN] at hN
  exact hN
 subst hnews
 have hst : ∀ ad : Option Addr, match ad with | some a => (storeCells (a.add (xs.length * i.size)) []).run P w = .ok () w | none => w = w := by
  intro ad
  cases ad with
  | none => rfl
  | some a => simp [storeCells]
 have hrun := exec_append (a := a) ho (run_app_room (w := w) (w' := w) (ty := o.type) hu hi h2 (base := ad) (sLen := xs.length) (sCap := xs.length) (hlen w) (hfc w rfl) (by simp) (hst ad) |> fun h => by rw [hsv]; exact h)
 refine ⟨_, .slice ad xs.length xs.length, w, I, ρ, by simpa using hrun, .inl rfl, ?_, hr, hO, Ext.refl _ _ _ _⟩
 rw [hsv] at hsr0
 exact hsr0
theorem vals_at {xs : List Operand} (hx : o.op.operands.toList = xs) (h : valsOf tm' o = valsOf tm o) : ∀ x ∈ xs, ev tm' x = ev tm x := by
 unfold valsOf at h
 rw [hx] at h
 exact List.map_inj_left.1 h
theorem sem_data0 {x : Operand} {args : Array Operand} {ts : Array TypeId} {first cap ds : List V}
  (hF : Fnc P g fn c) (hc : CallsA P g ds [] fun r σ' => r = .ret v ∧ σ' = []) (hi : ops[i]? = some o) (ho : o.op = .call { callee := .value x, args, argTypes := ts }) (hx : ev tm x = .fn (.func g) first cap)
  (hargs : coArgs P fn.params.toList (first ++ args.toList.map (ev tm) ++ cap) = ds) (hl : (V.locsL ds).isEmpty = true) (hv : v.locs.isEmpty = true) (σ : Store) :
  Sem P f ro n k df Q ops o i (valsOf tm o) σ v σ := by
 have h := sem_data (P := P) (f := f) (ro := ro) (n := n) (k := k) (df := df) (Q := Q) hF hc hi ho hx hargs hl σ
 rw [V.ren_none v (by simpa using hv)] at h
 simpa using h
theorem build0_ok {t e : TypeId} {sz sz' : Nat} (ho : o.op = .buildSlice t 0 #[]) (hu : P.underlying t = some (.slice e)) (hi : (P.info? e).map (·.size) = some sz') : OpOk P o tm σ (.ex sz []) tm σ := by
 intro w I ρ a hr hO
 have hrun : (execOp a.eval o).run P w = .ok (.value (.slice (some ⟨w.heap.size, 0, none⟩) 0 0)) (w.alloc (.cells #[] e)) := by
   simp only [Option.map_eq_some_iff] at hi
   obtain ⟨ie, hi, _⟩ := hi
   simp [execOp, ho, Instr.buildSlice, run_underlying hu, sizeOf, typeInfo, hi, Instr.fill, newRow]
   have h0 : ∀ g : Nat → Value, Array.map g (Array.range 0) = #[] := fun g => by apply Array.eq_empty_of_size_eq_zero; simp
   rw [h0]
 have hI : ∀ b, I b → I b ∧ (w.alloc (.cells #[] e)).heap[b]? = w.heap[b]? := fun b hb => ⟨hb, heap_alloc_old _ _ _ (hO.imm b hb).1⟩
 have hS : ∀ l, l < σ.length → Same ρ σ ρ σ l := fun l hl => ⟨hl, fun o' h1 h2 => ⟨rfl, o', h1, h2, rfl⟩⟩
 have hx := Ext.refl w I ρ σ
 refine ⟨_, _, _, I, ρ, hrun, .inl rfl, ?_, vrL_all hI hS hr, ⟨fun l o hl => ?_, hO.inj, fun b hb => ?_, fun b hb => ?_⟩, ⟨by simp, rfl, rfl, rfl, fun b hb _ => heap_alloc_old _ _ _ hb, hx.immI, hx.immN, hx.footN, Nat.le_refl _, hx.alive, hx.fixed, hx.stay⟩⟩
 · simp only [vr, Dr, List.length_nil]
   exact ⟨_, rfl, _, 0, rfl, by omega, by simp [maxLen], .inl trivial⟩
 · by_cases hd : o = .dead
   · subst hd; simp [orel]
   · exact orel_all hI hS rfl (fun L hL => heap_alloc_old _ _ _ (hO.flt _ ⟨l, o, L, hl, hd, hL, rfl⟩)) (hO.objs l o hl)
 · have := hO.flt b hb; simp; omega
 · have := (hO.imm b hb).1
   exact ⟨by simp; omega, (hO.imm b hb).2⟩
theorem AW.virt (l i sz : Nat) {cs : List V} (hl : σ[l]? = some (.cells cs)) (hi : cs[i]? = some .nils) (h : AW P f ro n T tm (σ.set l (.cells (cs.set i (.row σ.length))) ++ [.row sz [] false]) df Q) : AW P f ro n T tm σ df Q := by
  intro w I ρ a rb hr hb hn
  have hO := hr.ors
  have hlt : l < σ.length := (List.getElem?_eq_some_iff.1 hl).1
  let σ2 : Store := σ.set l (.cells (cs.set i (.row σ.length))) ++ [.row sz [] false]
  let ρ2 : LM := fun x => if x = σ.length then none else ρ x
  have hlen : σ2.length = σ.length + 1 := by simp [σ2]
  have g1 : ∀ x, x < σ.length → x ≠ l → σ2[x]? = σ[x]? := fun x hx hxl => by
    show (_ ++ _)[x]? = _
    rw [List.getElem?_append_left (by simp; exact hx), List.getElem?_set_ne (Ne.symm hxl)]
  have g2 : σ2[l]? = some (.cells (cs.set i (.row σ.length))) := by
    show (_ ++ _)[l]? = _
    rw [List.getElem?_append_left (by simp; exact hlt), List.getElem?_set_self hlt]
  have g3 : σ2[σ.length]? = some (.row sz [] false) := by
    show (_ ++ _)[σ.length]? = _
    rw [List.getElem?_append_right (by simp)]
    simp
  have g4 : ∀ x, x < σ.length → ρ2 x = ρ x := fun x hx => by show (if _ then _ else _) = _; rw [if_neg (by omega)]
  have hS : ∀ x, x < σ.length → Same ρ σ ρ2 σ2 x := by
    intro x hx
    refine ⟨by omega, fun o' h1 h2 => ⟨g4 x hx, ?_⟩⟩
    by_cases hxl : x = l
    · subst hxl
      rw [g2] at h1; cases h1
      exact ⟨_, hl, by simp, rfl⟩
    · rw [g1 x hx hxl] at h1
      exact ⟨o', h1, h2, rfl⟩
  have hI : ∀ b, I b → I b ∧ w.heap[b]? = w.heap[b]? := fun b hb => ⟨hb, rfl⟩
  have cases3 : ∀ x o, σ2[x]? = some o → x = σ.length ∧ o = .row sz [] false ∨ x < σ.length ∧ ∃ o1, σ[x]? = some o1 ∧ (o = .dead ↔ o1 = .dead) ∧ o1.alike o ∧ o1.still = o.still ∧ o1.ld = o.ld := by
    intro x o hx
    have hxl : x < σ2.length := (List.getElem?_eq_some_iff.1 hx).1
    by_cases h1 : x = σ.length
    · subst h1
      rw [g3] at hx; cases hx
      exact .inl ⟨rfl, rfl⟩
    · have h2 : x < σ.length := by omega
      refine .inr ⟨h2, ?_⟩
      by_cases h3 : x = l
      · subst h3
        rw [g2] at hx; cases hx
        exact ⟨_, hl, by simp, rfl, rfl, rfl⟩
      · rw [g1 x h2 h3] at hx
        exact ⟨o, hx, Iff.rfl, rfl, rfl, rfl⟩
  have hfoot : ∀ b, foot ρ2 σ2 b → foot ρ σ b := by
    rintro b ⟨x, o, L, h1, h2, h3, h4⟩
    rcases cases3 x o h1 with ⟨rfl, rfl⟩ | ⟨hx, o1, h5, h6, _⟩
    · simp [ρ2] at h3
    · rw [g4 x hx] at h3
      exact ⟨x, o1, L, h5, fun e => h2 (h6.2 e), h3, h4⟩
  have hO2 : ORel w I ρ2 σ2 := by
    refine ⟨fun x o hx => ?_, fun x y L L' hv hv' hL hL' hb => ?_, fun b hb => hO.flt b (hfoot b hb), fun b hb => ⟨(hO.imm b hb).1, fun h => (hO.imm b hb).2 (hfoot b h)⟩⟩
    · by_cases h1 : x = σ.length
      · subst h1
        rw [g3] at hx; cases hx
        simp only [orel]
        exact .inl ⟨by simp [ρ2], trivial⟩
      · have hxl : x < σ2.length := (List.getElem?_eq_some_iff.1 hx).1
        have h2 : x < σ.length := by omega
        by_cases h3 : x = l
        · subst h3
          rw [g2] at hx; cases hx
          have ho := hO.objs x _ hl
          simp only [orel] at ho ⊢
          obtain ⟨L, C, T, fz, k1, k2, k3, k4, k5, k6⟩ := ho
          refine ⟨L, C, T, fz, (g4 x h2).trans k1, k2, k3, k4, ?_, k6⟩
          have k7 := vrL_all hI hS k5
          obtain ⟨y, hy, hyv⟩ := vrL_get? k5 hi
          have k8 : vr w I ρ2 σ2 (.row σ.length) y := by
            simp only [vr] at hyv ⊢
            refine ⟨k6 y (List.mem_of_getElem? hy), by omega, fun sz' xs mv hx => ?_⟩
            rw [g3] at hx; cases hx
            subst hyv
            exact .inl ⟨rfl, none, rfl⟩
          have k9 := vrL_set k7 i k8
          rwa [show C.toList.set i y = C.toList from by
            apply List.ext_getElem?
            intro j
            by_cases hj : j = i
            · subst hj
              rw [List.getElem?_set_self (List.getElem?_eq_some_iff.1 hy).1, hy]
            · rw [List.getElem?_set_ne (Ne.symm hj)]] at k9
        · rw [g1 x h2 h3] at hx
          by_cases hd : o = .dead
          · subst hd; simp [orel]
          · exact orel_all hI hS (g4 x h2) (fun L hL => rfl) (hO.objs x o hx)
    · obtain ⟨o, h1, h2⟩ := hv
      obtain ⟨o', h1', h2'⟩ := hv'
      rcases cases3 x o h1 with ⟨rfl, rfl⟩ | ⟨hx, o1, h5, h6, _⟩
      · simp [ρ2] at hL
      · rcases cases3 y o' h1' with ⟨rfl, rfl⟩ | ⟨hy, o2, h7, h8, _⟩
        · simp [ρ2] at hL'
        · rw [g4 x hx] at hL
          rw [g4 y hy] at hL'
          exact hO.inj x y L L' ⟨o1, h5, fun e => h2 (h6.2 e)⟩ ⟨o2, h7, fun e => h2' (h8.2 e)⟩ hL hL' hb
  have hE : Ext σ.length w I ρ σ w I ρ2 σ2 := by
    refine ⟨Nat.le_refl _, rfl, rfl, rfl, fun _ _ _ => rfl, fun b hb => hb, fun b hb => .inl hb, fun b hb => .inl (hfoot b hb), by omega, fun x hx ⟨o, h1, h2⟩ => ?_, fun x o' hx h1 h2 => ?_, fun x o hx h1 h2 => ?_⟩
    · rcases cases3 x o h1 with ⟨rfl, rfl⟩ | ⟨hx, o1, h5, h6, _⟩
      · omega
      · exact ⟨o1, h5, fun e => h2 (h6.2 e)⟩
    · rcases cases3 x o' h1 with ⟨rfl, rfl⟩ | ⟨hx, o1, h5, h6, h7, h8, _⟩
      · omega
      · exact ⟨g4 x hx, o1, h5, by rw [h8]; exact h2, h7⟩
    · by_cases hxl : x = l
      · subst hxl
        rw [hl] at h1; cases h1
        exact ⟨_, g2, rfl⟩
      · exact ⟨o, by rw [g1 x hx hxl]; exact h1, rfl⟩
  have hst := hE.stays
  exact (h w I ρ2 a rb ⟨vrL_all hI hS hr.tms, hO2, dfr_stay hst hr.dfs⟩ (rbOf_stay hst hb) (by show n ≤ σ2.length; omega)).mono fun e w' hf => hf.trans (hE.less hn)
theorem AW.virtX (l i sz : Nat) {cs : List V} (hl : σ[l]? = some (.cells cs)) (hi : cs[i]? = some (.ex sz [])) (h : AW P f ro n T tm (σ.set l (.cells (cs.set i (.row σ.length))) ++ [.row sz [] false]) df Q) : AW P f ro n T tm σ df Q := by
  intro w I ρ a rb hr hb hn
  have hO := hr.ors
  have hlt : l < σ.length := (List.getElem?_eq_some_iff.1 hl).1
  let σ2 : Store := σ.set l (.cells (cs.set i (.row σ.length))) ++ [.row sz [] false]
  let ρ2 : LM := fun x => if x = σ.length then none else ρ x
  have hlen : σ2.length = σ.length + 1 := by simp [σ2]
  have g1 : ∀ x, x < σ.length → x ≠ l → σ2[x]? = σ[x]? := fun x hx hxl => by
    show (_ ++ _)[x]? = _
    rw [List.getElem?_append_left (by simp; exact hx), List.getElem?_set_ne (Ne.symm hxl)]
  have g2 : σ2[l]? = some (.cells (cs.set i (.row σ.length))) := by
    show (_ ++ _)[l]? = _
    rw [List.getElem?_append_left (by simp; exact hlt), List.getElem?_set_self hlt]
  have g3 : σ2[σ.length]? = some (.row sz [] false) := by
    show (_ ++ _)[σ.length]? = _
    rw [List.getElem?_append_right (by simp)]
    simp
  have g4 : ∀ x, x < σ.length → ρ2 x = ρ x := fun x hx => by show (if _ then _ else _) = _; rw [if_neg (by omega)]
  have hS : ∀ x, x < σ.length → Same ρ σ ρ2 σ2 x := by
    intro x hx
    refine ⟨by omega, fun o' h1 h2 => ⟨g4 x hx, ?_⟩⟩
    by_cases hxl : x = l
    · subst hxl
      rw [g2] at h1; cases h1
      exact ⟨_, hl, by simp, rfl⟩
    · rw [g1 x hx hxl] at h1
      exact ⟨o', h1, h2, rfl⟩
  have hI : ∀ b, I b → I b ∧ w.heap[b]? = w.heap[b]? := fun b hb => ⟨hb, rfl⟩
  have cases3 : ∀ x o, σ2[x]? = some o → x = σ.length ∧ o = .row sz [] false ∨ x < σ.length ∧ ∃ o1, σ[x]? = some o1 ∧ (o = .dead ↔ o1 = .dead) ∧ o1.alike o ∧ o1.still = o.still ∧ o1.ld = o.ld := by
    intro x o hx
    have hxl : x < σ2.length := (List.getElem?_eq_some_iff.1 hx).1
    by_cases h1 : x = σ.length
    · subst h1
      rw [g3] at hx; cases hx
      exact .inl ⟨rfl, rfl⟩
    · have h2 : x < σ.length := by omega
      refine .inr ⟨h2, ?_⟩
      by_cases h3 : x = l
      · subst h3
        rw [g2] at hx; cases hx
        exact ⟨_, hl, by simp, rfl, rfl, rfl⟩
      · rw [g1 x h2 h3] at hx
        exact ⟨o, hx, Iff.rfl, rfl, rfl, rfl⟩
  have hfoot : ∀ b, foot ρ2 σ2 b → foot ρ σ b := by
    rintro b ⟨x, o, L, h1, h2, h3, h4⟩
    rcases cases3 x o h1 with ⟨rfl, rfl⟩ | ⟨hx, o1, h5, h6, _⟩
    · simp [ρ2] at h3
    · rw [g4 x hx] at h3
      exact ⟨x, o1, L, h5, fun e => h2 (h6.2 e), h3, h4⟩
  have hO2 : ORel w I ρ2 σ2 := by
    refine ⟨fun x o hx => ?_, fun x y L L' hv hv' hL hL' hb => ?_, fun b hb => hO.flt b (hfoot b hb), fun b hb => ⟨(hO.imm b hb).1, fun h => (hO.imm b hb).2 (hfoot b h)⟩⟩
    · by_cases h1 : x = σ.length
      · subst h1
        rw [g3] at hx; cases hx
        simp only [orel]
        exact .inl ⟨by simp [ρ2], trivial⟩
      · have hxl : x < σ2.length := (List.getElem?_eq_some_iff.1 hx).1
        have h2 : x < σ.length := by omega
        by_cases h3 : x = l
        · subst h3
          rw [g2] at hx; cases hx
          have ho := hO.objs x _ hl
          simp only [orel] at ho ⊢
          obtain ⟨L, C, T, fz, k1, k2, k3, k4, k5, k6⟩ := ho
          refine ⟨L, C, T, fz, (g4 x h2).trans k1, k2, k3, k4, ?_, k6⟩
          have k7 := vrL_all hI hS k5
          obtain ⟨y, hy, hyv⟩ := vrL_get? k5 hi
          have k8 : vr w I ρ2 σ2 (.row σ.length) y := by
            simp only [vr] at hyv ⊢
            refine ⟨k6 y (List.mem_of_getElem? hy), by omega, fun sz' xs mv hx => ?_⟩
            rw [g3] at hx; cases hx
            obtain ⟨ad, hyv, _⟩ := hyv
            exact .inl ⟨rfl, ad, hyv⟩
          have k9 := vrL_set k7 i k8
          rwa [show C.toList.set i y = C.toList from by
            apply List.ext_getElem?
            intro j
            by_cases hj : j = i
            · subst hj
              rw [List.getElem?_set_self (List.getElem?_eq_some_iff.1 hy).1, hy]
            · rw [List.getElem?_set_ne (Ne.symm hj)]] at k9
        · rw [g1 x h2 h3] at hx
          by_cases hd : o = .dead
          · subst hd; simp [orel]
          · exact orel_all hI hS (g4 x h2) (fun L hL => rfl) (hO.objs x o hx)
    · obtain ⟨o, h1, h2⟩ := hv
      obtain ⟨o', h1', h2'⟩ := hv'
      rcases cases3 x o h1 with ⟨rfl, rfl⟩ | ⟨hx, o1, h5, h6, _⟩
      · simp [ρ2] at hL
      · rcases cases3 y o' h1' with ⟨rfl, rfl⟩ | ⟨hy, o2, h7, h8, _⟩
        · simp [ρ2] at hL'
        · rw [g4 x hx] at hL
          rw [g4 y hy] at hL'
          exact hO.inj x y L L' ⟨o1, h5, fun e => h2 (h6.2 e)⟩ ⟨o2, h7, fun e => h2' (h8.2 e)⟩ hL hL' hb
  have hE : Ext σ.length w I ρ σ w I ρ2 σ2 := by
    refine ⟨Nat.le_refl _, rfl, rfl, rfl, fun _ _ _ => rfl, fun b hb => hb, fun b hb => .inl hb, fun b hb => .inl (hfoot b hb), by omega, fun x hx ⟨o, h1, h2⟩ => ?_, fun x o' hx h1 h2 => ?_, fun x o hx h1 h2 => ?_⟩
    · rcases cases3 x o h1 with ⟨rfl, rfl⟩ | ⟨hx, o1, h5, h6, _⟩
      · omega
      · exact ⟨o1, h5, fun e => h2 (h6.2 e)⟩
    · rcases cases3 x o' h1 with ⟨rfl, rfl⟩ | ⟨hx, o1, h5, h6, h7, h8, _⟩
      · omega
      · exact ⟨g4 x hx, o1, h5, by rw [h8]; exact h2, h7⟩
    · by_cases hxl : x = l
      · subst hxl
        rw [hl] at h1; cases h1
        exact ⟨_, g2, rfl⟩
      · exact ⟨o, by rw [g1 x hx hxl]; exact h1, rfl⟩
  have hst := hE.stays
  exact (h w I ρ2 a rb ⟨vrL_all hI hS hr.tms, hO2, dfr_stay hst hr.dfs⟩ (rbOf_stay hst hb) (by show n ≤ σ2.length; omega)).mono fun e w' hf => hf.trans (hE.less hn)
end
section
variable {P : Program} {f : FuncId} {ro : Option Nat} {n : Nat} {k : List Item} {T T' : List Item} {tm tm' : List V} {σ σ' : Store} {df : List Nat} {Q : AE → Store → Prop} {ops : Array Oper}
def isBegin (T : List Item) : Bool := match T with | .beginRound :: _ => true | _ => false
theorem AW.beginH {pend : Option Code} {fn : FuncId} {tml : List V} {ps : Array Tmp} {as bd : Code} (hb : isBegin T = true) (hT : cgo 1 [] T = T') (hl : σ[l]? = some (.loop .ready pend fn tml ps as bd))
   (h : AW P f (some l) n T' tm (σ.set l (.loop .busy pend fn tml ps as bd)) df Q) : AW P f (some l) n T tm σ df Q := by
 subst hT
 unfold isBegin at hb
 split at hb
 · exact .beginRound hl h
 · cases hb
theorem AW.roundEndH {st : LoopState} {pend : Option Code} {fn : FuncId} {tml : List V} {ps : Array Tmp} {as bd : Code} (hT : T = []) (hl : σ[l]? = some (.loop st pend fn tml ps as bd))
  (hq : Q (.ret (.d (.bool true))) (σ.set l (.loop .ready none fn tml ps as bd))) : AW P f (some l) n T tm σ df Q := by
 subst hT; exact .roundEnd hl hq
def rfG (T : List Item) : Operand := match T with | .code (.rangeFunc g _ _ _) :: _ => g | _ => .global 0
def rfPs (T : List Item) : Array Tmp := match T with | .code (.rangeFunc _ ps _ _) :: _ => ps | _ => #[]
def rfAs (T : List Item) : Code := match T with | .code (.rangeFunc _ _ as _) :: _ => as | _ => .skip
def rfBd (T : List Item) : Code := match T with | .code (.rangeFunc _ _ _ bd) :: _ => bd | _ => .skip
def isRange (T : List Item) : Bool := match T with | .code (.rangeFunc ..) :: _ => true | _ => false
def lp (T : List Item) (f : FuncId) (tm : List V) (st : LoopState) : O := .loop st none f tm (rfPs T) (rfAs T) (rfBd T)
theorem AW.rangeH {h : FuncId} {first cap : List V} (m : List Nat) (cargs : List V) (σc : Store) {Qc : AE → Store → Prop}
   (hF : Fnc P h fn c) (ht : isRange T = true) (hT : cgo 1 [] T = T') (hx : ev tm (rfG T) = .fn (.func h) first cap) (hc : CallsA P h cargs σc Qc)
   (hargs : coArgs P fn.params.toList (first ++ [.yield (σ.length + 1)] ++ cap) = V.renL (mp m (σ.length + 2)) cargs) (hbel : (belB σc.length σc && (V.locsL cargs).all fun l => Nat.blt l σc.length) = true)
   (hwi : within (σ ++ [.defd, lp T f tm .ready]) m σc)
   (hk : ∀ r σc', Qc r σc' → ∃ v st tml ps' as' bd' fn', r = .ret v ∧ st ≠ .busy ∧ (merge (σ ++ [.defd, lp T f tm .ready]) m σc')[σ.length + 1]? = some (.loop st none fn' tml ps' as' bd') ∧
    AW P f none n T' (V.killL (movedB m σc') tm) ((merge (σ ++ [.defd, lp T f tm .ready]) m σc').set (σ.length + 1) (.loop .exhausted none fn' tml ps' as' bd')) (σ.length :: df) Q) :
   AW P f none n T tm σ df Q := by
 subst hT
 unfold isRange at ht
 split at ht
 · refine AW.rangeFunc m cargs σc hF hc hx hargs hbel hwi fun r σc' hq => ?_
   obtain ⟨v, st, tml, ps', as', bd', fn', h1, h2, h3, h4⟩ := hk r σc' hq
   exact ⟨v, st, none, tml, ps', as', bd', fn', h1, h2, h3, h4⟩
 · cases ht
theorem AW.yieldH {x : Operand} {args : Array Operand} {ts : Array TypeId} {st : LoopState} {pend : Option Code} {fn : FuncId} {tml : List V} {ps : Array Tmp} {as bd : Code} {Qr : AE → Store → Prop} {R : List Item}
   (hi : opOf T = some o) (hw : wantA (opsOf T) o tm = some true) (ho : o.op = .call { callee := .value x, args, argTypes := ts }) (hT : tlOf T = T') (hx : ev tm x = .yield l) (hl : σ[l]? = some (.loop st pend fn tml ps as bd)) (hps : args.size = ps.size)
   (hR : [.code as, .beginRound, .code bd] = R) (hr : AW P fn (some l) σ.length R (roundTm tml ps.toList (args.toList.map (ev tm))) σ [] Qr)
   (hk : ∀ r σ', Qr r σ' → ∃ v, r = .ret v ∧ AW P f ro n T' (put (V.killL (mvB σ') tm) o.dst v) σ' df Q) : AW P f ro n T tm σ df Q := by
 subst hT hR
 unfold opOf at hi
 split at hi
 · rename_i ops i r k
   exact .yield hi hw ho hx hl hps hr hk
 · cases hi
theorem AW.retD (hF : Fnc P f fn c) (hT : isRet T = true) (hd : nodupB df = true ∧ (df.all fun l => Nat.ble n l) = true) (hs : df.foldl (fun s l => s.set l .dead) σ = σ') (hres : resA P fn tm σ' = some v) (hq : Q (.ret v) σ') : AW P f none n T tm σ df Q := by
 subst hs
 unfold isRet at hT
 split at hT
 · exact .ret hF hd hres hq
 · exact .fin hF hd hres hq
 · cases hT
theorem AW.beginL {T0 : List Item} {fn : FuncId} {tml : List V} (hb : isBegin T = true) (hT : cgo 1 [] T = T') (hl : σ[l]? = some (lp T0 fn tml .ready)) (hs : σ.set l (lp T0 fn tml .busy) = σ')
  (h : AW P f (some l) n T' tm σ' df Q) : AW P f (some l) n T tm σ df Q := by
 subst hs; exact .beginH hb hT hl h
theorem AW.roundEndL {T0 : List Item} {fn : FuncId} {tml : List V} {st : LoopState} (hT : T = []) (hl : σ[l]? = some (lp T0 fn tml st)) (hs : σ.set l (lp T0 fn tml .ready) = σ')
  (hq : Q (.ret (.d (.bool true))) σ') : AW P f (some l) n T tm σ df Q := by
 subst hs; exact .roundEndH hT hl hq
theorem AW.yieldL {T0 : List Item} {x : Operand} {args : Array Operand} {ts : Array TypeId} {st : LoopState} {fn : FuncId} {tml tmr : List V} {Qr : AE → Store → Prop} {R : List Item}
  (hi : opOf T = some o) (hw : wantA (opsOf T) o tm = some true) (ho : o.op = .call { callee := .value x, args, argTypes := ts }) (hT : tlOf T = T') (hx : ev tm x = .yield l) (hl : σ[l]? = some (lp T0 fn tml st)) (hps : args.size = (rfPs T0).size)
  (hR : [.code (rfAs T0), .beginRound, .code (rfBd T0)] = R) (htm : roundTm tml (rfPs T0).toList (args.toList.map (ev tm)) = tmr) {N : Nat} (hN : σ.length = N) (hr : AW P fn (some l) N R tmr σ [] Qr)
  (hk : ∀ r σ', Qr r σ' → ∃ v, r = .ret v ∧ AW P f ro n T' (put (V.killL (mvB σ') tm) o.dst v) σ' df Q) : AW P f ro n T tm σ df Q := by
 subst htm hN
 exact .yieldH hi hw ho hT hx hl hps hR hr hk
theorem CallsA.pure {args : List V} (h : CallsA P g args [] fun r _ => r = .ret v) (hl : v.locs = []) : Pure P g args v := by
 intro w I ρ xs hx hO
 refine (h w I ρ xs hx hO).mono ?_
 rintro e w' ⟨I', ρ', σ', r, rfl, ⟨x, he, hv⟩, hO', hE⟩
 refine ⟨I', ρ', [], _, ⟨rfl, rfl⟩, ⟨x, he, vr_up (fun b hb => ⟨hb, rfl⟩) v x (fun l hl' => by rw [hl] at hl'; cases hl') hv⟩, ⟨fun l o h => by simp at h, fun l l' L L' h => by obtain ⟨o, h, _⟩ := h; simp at h, fun b h => by obtain ⟨l, o, L, h, _⟩ := h; simp at h, fun b hb => ⟨(hO'.imm b hb).1, fun h => by obtain ⟨l, o, L, h, _⟩ := h; simp at h⟩⟩, ?_⟩
 exact ⟨hE.size, hE.os, hE.tape, hE.output, hE.old, hE.immI, hE.immN, fun b h => by obtain ⟨l, o, L, h, _⟩ := h; simp at h, Nat.le_refl _, fun l hl => by simp at hl, fun l o' hl => by simp at hl, fun l o hl => by simp at hl⟩
theorem AW.virtT (i sz : Nat) (hi : tm[i]? = some .nils) (h : AW P f ro n T (tm.set i (.row σ.length)) (σ ++ [.row sz [] false]) df Q) : AW P f ro n T tm σ df Q := by
  intro w I ρ a rb hr hb hn
  have hO := hr.ors
  let σ2 : Store := σ ++ [.row sz [] false]
  let ρ2 : LM := fun x => if x = σ.length then none else ρ x
  have hlen : σ2.length = σ.length + 1 := by simp [σ2]
  have g1 : ∀ x, x < σ.length → σ2[x]? = σ[x]? := fun x hx => List.getElem?_append_left hx
  have g3 : σ2[σ.length]? = some (.row sz [] false) := by
    show (_ ++ _)[σ.length]? = _
    rw [List.getElem?_append_right (by omega)]
    simp
  have g4 : ∀ x, x < σ.length → ρ2 x = ρ x := fun x hx => by show (if _ then _ else _) = _; rw [if_neg (by omega)]
  have hS : ∀ x, x < σ.length → Same ρ σ ρ2 σ2 x := fun x hx => ⟨by omega, fun o' h1 h2 => ⟨g4 x hx, o', by rw [← g1 x hx]; exact h1, h2, rfl⟩⟩
  have hI : ∀ b, I b → I b ∧ w.heap[b]? = w.heap[b]? := fun b hb => ⟨hb, rfl⟩
  have cases3 : ∀ x o, σ2[x]? = some o → x = σ.length ∧ o = .row sz [] false ∨ x < σ.length ∧ σ[x]? = some o := by
    intro x o hx
    have hxl : x < σ2.length := (List.getElem?_eq_some_iff.1 hx).1
    by_cases h1 : x = σ.length
    · subst h1
      rw [g3] at hx; cases hx
      exact .inl ⟨rfl, rfl⟩
    · have h2 : x < σ.length := by omega
      exact .inr ⟨h2, by rw [← g1 x h2]; exact hx⟩
  have hfoot : ∀ b, foot ρ2 σ2 b → foot ρ σ b := by
    rintro b ⟨x, o, L, h1, h2, h3, h4⟩
    rcases cases3 x o h1 with ⟨rfl, rfl⟩ | ⟨hx, h5⟩
    · simp [ρ2] at h3
    · rw [g4 x hx] at h3
      exact ⟨x, o, L, h5, h2, h3, h4⟩
  have hO2 : ORel w I ρ2 σ2 := by
    refine ⟨fun x o hx => ?_, fun x y L L' hv hv' hL hL' hb => ?_, fun b hb => hO.flt b (hfoot b hb), fun b hb => ⟨(hO.imm b hb).1, fun h => (hO.imm b hb).2 (hfoot b h)⟩⟩
    · rcases cases3 x o hx with ⟨rfl, rfl⟩ | ⟨h2, h5⟩
      · simp only [orel]
        exact .inl ⟨by simp [ρ2], trivial⟩
      · by_cases hd : o = .dead
        · subst hd; simp [orel]
        · exact orel_all hI hS (g4 x h2) (fun L hL => rfl) (hO.objs x o h5)
    · obtain ⟨o, h1, h2⟩ := hv
      obtain ⟨o', h1', h2'⟩ := hv'
      rcases cases3 x o h1 with ⟨rfl, rfl⟩ | ⟨hx, h5⟩
      · simp [ρ2] at hL
      · rcases cases3 y o' h1' with ⟨rfl, rfl⟩ | ⟨hy, h7⟩
        · simp [ρ2] at hL'
        · rw [g4 x hx] at hL
          rw [g4 y hy] at hL'
          exact hO.inj x y L L' ⟨o, h5, h2⟩ ⟨o', h7, h2'⟩ hL hL' hb
  have hE : Ext σ.length w I ρ σ w I ρ2 σ2 := by
    refine ⟨Nat.le_refl _, rfl, rfl, rfl, fun _ _ _ => rfl, fun b hb => hb, fun b hb => .inl hb, fun b hb => .inl (hfoot b hb), by omega, fun x hx ⟨o, h1, h2⟩ => ?_, fun x o' hx h1 h2 => ?_, fun x o hx h1 h2 => ?_⟩
    · exact ⟨o, by rw [← g1 x hx]; exact h1, h2⟩
    · exact ⟨g4 x hx, o', by rw [← g1 x hx]; exact h1, h2, rfl⟩
    · exact ⟨o, by rw [g1 x hx]; exact h1, rfl⟩
  have hst := hE.stays
  obtain ⟨y, hy, hyv⟩ := vrL_get? hr.tms hi
  have k8 : vr w I ρ2 σ2 (.row σ.length) y := by
    simp only [vr] at hyv ⊢
    subst hyv
    refine ⟨rfl, by omega, fun sz' xs mv hx => ?_⟩
    rw [g3] at hx; cases hx
    exact .inl ⟨rfl, none, rfl⟩
  have k9 := vrL_set (vrL_all hI hS hr.tms) i k8
  rw [show a.tmps.toList.set i y = a.tmps.toList from by
    apply List.ext_getElem?
    intro j
    by_cases hj : j = i
    · subst hj
      rw [List.getElem?_set_self (List.getElem?_eq_some_iff.1 hy).1, hy]
    · rw [List.getElem?_set_ne (Ne.symm hj)]] at k9
  exact (h w I ρ2 a rb ⟨k9, hO2, dfr_stay hst hr.dfs⟩ (rbOf_stay hst hb) (by show n ≤ σ2.length; omega)).mono fun e w' hf => hf.trans (hE.less hn)
section cell
variable {w w' : World} {I : Nat → Prop} {ρ : LM} {σ : Store}
end cell
end
theorem get_some {α : Type} {l : List α} (h : i < l.length) : ∃ y, l[i]? = some y := ⟨l[i], List.getElem?_eq_getElem h⟩
theorem map_get {α β : Type} {l : List α} {g : α → β} {y : α} (h : l[i]? = some y) : (l.map g)[i]? = some (g y) := by simp [h]
theorem str_get {s : ByteArray} (h : i < s.size) : ∃ y, s[i]? = some y := ⟨s[i], by simp [h]⟩
section
variable {P : Program} {f : FuncId} {ro : Option Nat} {n : Nat} {T T' : List Item} {tm tm' : List V} {σ σ' : Store} {df : List Nat} {Q : AE → Store → Prop}
theorem AW.at (hT : T = T') (h : AW P f ro n T' tm σ df Q) : AW P f ro n T tm σ df Q := by subst hT; exact h
theorem AW.keeps (l : List Nat) (ht : keep l tm = tm') (h : AW P f ro n T tm' σ df Q) : AW P f ro n T tm σ df Q :=
 AW.seg 0 l (T' := T) (tm' := tm') (σ' := σ) (by show some (T, keep l tm, σ) = _; rw [ht]) h
theorem AW.callH {x : Operand} {args : Array Operand} {ts : Array TypeId} {first cap : List V} (m : List Nat) (cargs : List V) (σc : Store) {Qc : AE → Store → Prop}
   (hF : Fnc P g fn c) (hc : CallsA P g cargs σc Qc) (ho : opOf T = some o) (hw : wantA (opsOf T) o tm = some true) (hT : tlOf T = T') (hop : o.op = .call { callee := .value x, args, argTypes := ts }) (hx : ev tm x = .fn (.func g) first cap)
   (hargs : coArgs P fn.params.toList (first ++ args.toList.map (ev tm) ++ cap) = V.renL (mp m σ.length) cargs) (hbel : (belB σc.length σc && (V.locsL cargs).all fun l => Nat.blt l σc.length) = true) (hwi : within σ m σc)
   (hk : ∀ r σc', Qc r σc' → ∃ v, r = .ret v ∧ AW P f ro n T' (put (V.killL (movedB m σc') tm) o.dst (v.ren (mp m σ.length))) (merge σ m σc') df Q) : AW P f ro n T tm σ df Q := by
 subst hT
 unfold opOf at ho
 split at ho
 · exact .call m cargs σc hF hc ho hw hop hx hargs hbel hwi hk
 · cases ho
theorem bnd_some {o : Operand} {k : IntKind} {i : Int} {l d : Nat} (h : ev tm o = .d (.int k i)) (h0 : 0 ≤ i) (hl : i.toNat = l) : Bnd tm (some o) l d := ⟨k, i, h, h0, hl⟩
end
section
variable {P : Program} {f : FuncId} {ro : Option Nat} {n : Nat} {T T' : List Item} {tm tm' : List V} {σ σ' : Store} {df : List Nat} {Q : AE → Store → Prop}
theorem AW.virtE (i sz : Nat) (hi : tm[i]? = some (.ex sz [])) (h : AW P f ro n T (tm.set i (.row σ.length)) (σ ++ [.row sz [] false]) df Q) : AW P f ro n T tm σ df Q := by
  intro w I ρ a rb hr hb hn
  have hO := hr.ors
  let σ2 : Store := σ ++ [.row sz [] false]
  let ρ2 : LM := fun x => if x = σ.length then none else ρ x
  have hlen : σ2.length = σ.length + 1 := by simp [σ2]
  have g1 : ∀ x, x < σ.length → σ2[x]? = σ[x]? := fun x hx => List.getElem?_append_left hx
  have g3 : σ2[σ.length]? = some (.row sz [] false) := by
    show (_ ++ _)[σ.length]? = _
    rw [List.getElem?_append_right (by omega)]
    simp
  have g4 : ∀ x, x < σ.length → ρ2 x = ρ x := fun x hx => by show (if _ then _ else _) = _; rw [if_neg (by omega)]
  have hS : ∀ x, x < σ.length → Same ρ σ ρ2 σ2 x := fun x hx => ⟨by omega, fun o' h1 h2 => ⟨g4 x hx, o', by rw [← g1 x hx]; exact h1, h2, rfl⟩⟩
  have hI : ∀ b, I b → I b ∧ w.heap[b]? = w.heap[b]? := fun b hb => ⟨hb, rfl⟩
  have cases3 : ∀ x o, σ2[x]? = some o → x = σ.length ∧ o = .row sz [] false ∨ x < σ.length ∧ σ[x]? = some o := by
    intro x o hx
    have hxl : x < σ2.length := (List.getElem?_eq_some_iff.1 hx).1
    by_cases h1 : x = σ.length
    · subst h1
      rw [g3] at hx; cases hx
      exact .inl ⟨rfl, rfl⟩
    · have h2 : x < σ.length := by omega
      exact .inr ⟨h2, by rw [← g1 x h2]; exact hx⟩
  have hfoot : ∀ b, foot ρ2 σ2 b → foot ρ σ b := by
    rintro b ⟨x, o, L, h1, h2, h3, h4⟩
    rcases cases3 x o h1 with ⟨rfl, rfl⟩ | ⟨hx, h5⟩
    · simp [ρ2] at h3
    · rw [g4 x hx] at h3
      exact ⟨x, o, L, h5, h2, h3, h4⟩
  have hO2 : ORel w I ρ2 σ2 := by
    refine ⟨fun x o hx => ?_, fun x y L L' hv hv' hL hL' hb => ?_, fun b hb => hO.flt b (hfoot b hb), fun b hb => ⟨(hO.imm b hb).1, fun h => (hO.imm b hb).2 (hfoot b h)⟩⟩
    · rcases cases3 x o hx with ⟨rfl, rfl⟩ | ⟨h2, h5⟩
      · simp only [orel]
        exact .inl ⟨by simp [ρ2], trivial⟩
      · by_cases hd : o = .dead
        · subst hd; simp [orel]
        · exact orel_all hI hS (g4 x h2) (fun L hL => rfl) (hO.objs x o h5)
    · obtain ⟨o, h1, h2⟩ := hv
      obtain ⟨o', h1', h2'⟩ := hv'
      rcases cases3 x o h1 with ⟨rfl, rfl⟩ | ⟨hx, h5⟩
      · simp [ρ2] at hL
      · rcases cases3 y o' h1' with ⟨rfl, rfl⟩ | ⟨hy, h7⟩
        · simp [ρ2] at hL'
        · rw [g4 x hx] at hL
          rw [g4 y hy] at hL'
          exact hO.inj x y L L' ⟨o, h5, h2⟩ ⟨o', h7, h2'⟩ hL hL' hb
  have hE : Ext σ.length w I ρ σ w I ρ2 σ2 := by
    refine ⟨Nat.le_refl _, rfl, rfl, rfl, fun _ _ _ => rfl, fun b hb => hb, fun b hb => .inl hb, fun b hb => .inl (hfoot b hb), by omega, fun x hx ⟨o, h1, h2⟩ => ?_, fun x o' hx h1 h2 => ?_, fun x o hx h1 h2 => ?_⟩
    · exact ⟨o, by rw [← g1 x hx]; exact h1, h2⟩
    · exact ⟨g4 x hx, o', by rw [← g1 x hx]; exact h1, h2, rfl⟩
    · exact ⟨o, by rw [g1 x hx]; exact h1, rfl⟩
  have hst := hE.stays
  obtain ⟨y, hy, hyv⟩ := vrL_get? hr.tms hi
  have k8 : vr w I ρ2 σ2 (.row σ.length) y := by
    simp only [vr] at hyv ⊢
    obtain ⟨ad, hyv, _⟩ := hyv
    refine ⟨by rw [hyv]; rfl, by omega, fun sz' xs mv hx => ?_⟩
    rw [g3] at hx; cases hx
    exact .inl ⟨rfl, ad, hyv⟩
  have k9 := vrL_set (vrL_all hI hS hr.tms) i k8
  rw [show a.tmps.toList.set i y = a.tmps.toList from by
    apply List.ext_getElem?
    intro j
    by_cases hj : j = i
    · subst hj
      rw [List.getElem?_set_self (List.getElem?_eq_some_iff.1 hy).1, hy]
    · rw [List.getElem?_set_ne (Ne.symm hj)]] at k9
  exact (h w I ρ2 a rb ⟨k9, hO2, dfr_stay hst hr.dfs⟩ (rbOf_stay hst hb) (by show n ≤ σ2.length; omega)).mono fun e w' hf => hf.trans (hE.less hn)
end
theorem ahead_or' {ops : Array Oper} {L : List Nat} (hL : Ord ops L) (i j : Nat) (h : (Nat.blt i ops.size && Nat.blt j ops.size && !(Nat.beq i j)) = true) : ahead L i j ∨ ahead L j i := by
 simp only [Bool.and_eq_true, Nat.blt_eq, Bool.not_eq_true'] at h
 obtain ⟨⟨h1, h2⟩, h3⟩ := h
 exact ahead_or hL i j h1 h2 fun e => by subst e; simp at h3
def sliceElem (P : Program) (t : TypeId) : Nat := match P.underlying t with | some (.slice e) => e | _ => 0
def typeSize (P : Program) (t : TypeId) : Nat := match P.info? t with | some i => i.size | none => 0
theorem rem_ok {x y : Operand} {t ty : TypeId} {k : IntKind} {a b : Int} (ho : o.op = .binOp .rem t x y ty) (hx : ev tm x = .d (.int k a)) (hy : ev tm y = .d (.int k b)) (hb : b ≠ 0) : OpOk P o tm σ (.d (.int k (irem a b))) tm σ :=
 qop_opOk (by simp [ho, qop, hx, hy, binV, intBin, hb, irem])
section
variable {P : Program} {f : FuncId} {ro : Option Nat} {n : Nat} {k : List Item} {df : List Nat} {Q : AE → Store → Prop} {ops : Array Oper}
end
theorem wrap_u64s {n : Int} (h : 0 ≤ n) (h' : n < 18446744073709551616) : IntKind.u64.wrap n = n := by
 simp only [IntKind.wrap, IntKind.bits, IntKind.signed, Bool.false_and]
 simp_all <;> omega
theorem wrap_u32s {n : Int} (h : 0 ≤ n) (h' : n < 4294967296) : IntKind.u32.wrap n = n := by
 simp only [IntKind.wrap, IntKind.bits, IntKind.signed, Bool.false_and]
 simp_all <;> omega
theorem wrap_u8s {n : Int} (h : 0 ≤ n) (h' : n < 256) : IntKind.u8.wrap n = n := by
 simp only [IntKind.wrap, IntKind.bits, IntKind.signed, Bool.false_and]
 simp_all <;> omega
theorem wrap_i32s {n : Int} (h : -2147483648 ≤ n) (h' : n < 2147483648) : IntKind.i32.wrap n = n := by
 simp only [IntKind.wrap, IntKind.bits, IntKind.signed, Bool.true_and]
 split <;> simp_all <;> omega
theorem irem_n (a b : Nat) : irem (a : Int) (b : Int) = ((a % b : Nat) : Int) := (Int.ofNat_tmod a b).symm
theorem iquo_n {k : IntKind} (a b : Nat) : iquo k (a : Int) (b : Int) = k.wrap ((a / b : Nat) : Int) := by show k.wrap ((a : Int).tdiv b) = _; rw [← Int.ofNat_tdiv]
theorem tdiv_nn {a b : Int} (h : 0 ≤ a) : a.tdiv b = a / b := Int.tdiv_eq_ediv_of_nonneg h
theorem tmod_nn {a b : Int} (h : 0 ≤ a) : a.tmod b = a % b := Int.tmod_eq_emod_of_nonneg h
theorem bsW : (∀ {n : Int}, -9223372036854775808 ≤ n → n < 9223372036854775808 → IntKind.i64.wrap n = n) ∧ (∀ {n : Int}, 0 ≤ n → n < 18446744073709551616 → IntKind.u64.wrap n = n) ∧ (∀ {n : Int}, 0 ≤ n → n < 4294967296 → IntKind.u32.wrap n = n) ∧ (∀ {n : Int}, 0 ≤ n → n < 256 → IntKind.u8.wrap n = n) ∧ (∀ {n : Int}, -2147483648 ≤ n → n < 2147483648 → IntKind.i32.wrap n = n) ∧
  (∀ {a b : Int}, -9223372036854775808 ≤ a + b → a + b < 9223372036854775808 → iadd .i64 a b = a + b) ∧ (∀ {a b : Int}, -9223372036854775808 ≤ a - b → a - b < 9223372036854775808 → isub .i64 a b = a - b) ∧ (∀ a b : Nat, irem (a : Int) (b : Int) = ((a % b : Nat) : Int)) ∧ (∀ {k : IntKind} (a b : Nat), iquo k (a : Int) (b : Int) = k.wrap ((a / b : Nat) : Int)) ∧ (∀ {a b : Int}, 0 ≤ a → a.tdiv b = a / b) ∧ (∀ {a b : Int}, 0 ≤ a → a.tmod b = a % b) :=
 ⟨wrap_i64, wrap_u64s, wrap_u32s, wrap_u8s, wrap_i32s, iadd_i64, isub_i64, irem_n, iquo_n, tdiv_nn, tmod_nn⟩
section
variable {w w' : World} {I I' : Nat → Prop} {ρ ρ' : LM} {σ σ' : Store} {P : Program}
end
section
variable {w w' : World} {I I' : Nat → Prop} {ρ ρ' : LM} {σ σ' : Store} {P : Program}
theorem row_moved {n l sz : Nat} {xs xs' : List D} {mv : Bool} (hO : ORel w I ρ σ) (hl : σ[l]? = some (.row sz xs mv)) (L' : Loc) {C' : Array Value} {T' : TypeId} {fz' : Nat × Nat} (hsz : L'.sz = sz) (hh : w'.heap[L'.b]? = some (.cells C' T' fz')) (hth : thawR fz' C')
  (hC : C'.size = L'.o + L'.cap * sz) (hle : xs'.length ≤ L'.cap) (hcap : L'.cap ≤ maxLen) (hE : DrE w' I sz L'.b L'.o xs') (hheap : ∀ b, b < w.heap.size → (∀ L, ρ l = some L → L.b ≠ b) → w'.heap[b]? = w.heap[b]?) (hsize : w.heap.size ≤ w'.heap.size)
  (hnew : w.heap.size ≤ L'.b ∨ ∃ L, ρ l = some L ∧ L.b = L'.b) (hos : w'.os = w.os) (htape : w'.tape = w.tape) (hout : w'.output = w.output) (hn : n ≤ σ.length) :
  Fin n w I ρ σ (fun r σ' => r = .ret (.row l) ∧ σ' = (σ.map (O.kill (Nat.beq l))).set l (.row sz xs' true)) (.returned (.slice (some ⟨L'.b, L'.o, none⟩) xs'.length L'.cap)) w' := by
 have hlt : l < σ.length := (List.getElem?_eq_some_iff.1 hl).1
 let ρ' : LM := fun x => if x = l then some L' else ρ x
 have hρ : ∀ x, x ≠ l → ρ' x = ρ x := fun x hx => by simp [ρ', hx]
 have hρl : ρ' l = some L' := by simp [ρ']
 have hor : orel w' I ρ' ((σ.map (O.kill (Nat.beq l))).set l (.row sz xs' true)) l (.row sz xs' true) := by
  simp only [orel]
  exact .inr ⟨L', C', T', fz', hρl, hsz, hh, hth, hC, hle, hcap, hE⟩
 obtain ⟨g1, g2⟩ := hO.move hl (by simp) hρ hheap hsize hor (fun K hK => by
  rw [hρl] at hK; cases hK
  refine ⟨(Array.getElem?_eq_some_iff.1 hh).1, hnew⟩)
 have hx := Ext.move (I := I) hl (by simp) rfl (o' := .row sz xs' true) rfl hρ hheap hsize (fun K hK => by
  rw [hρl] at hK; cases hK
  exact ⟨(Array.getElem?_eq_some_iff.1 hh).1, hnew⟩) hos htape hout
 refine ⟨I, ρ', _, .ret (.row l), ⟨rfl, rfl⟩, ⟨_, rfl, ?_⟩, g1, hx.less hn⟩
 simp only [vr]
 refine ⟨rfl, by simpa using hlt, fun sz' xs'' mv' hx' => ?_⟩
 rw [List.getElem?_set_self (by simpa using hlt)] at hx'
 cases hx'
 exact .inr ⟨L', hρl, by omega, by simp⟩
theorem setCells_setRow {b : Nat} {T : TypeId} {fz : Nat × Nat} : ∀ (vs : List Value) (o : Nat) (C : Array Value) (w : World), w.heap[b]? = some (.cells C T fz) → o + vs.length ≤ C.size →
   w.setCells b o vs = w.setRow b (C.toList.take o ++ vs ++ C.toList.drop (o + vs.length)).toArray
 | [], o, C, w, h, _ => by
   simp only [World.setCells, List.append_nil, List.length_nil, Nat.add_zero, List.take_append_drop, Array.toArray_toList]
   rw [setRow_self w b C T fz h]
 | v :: vs, o, C, w, h, hl => by
   have hi : o < C.size := by simp at hl; omega
   have e1 : w.setCell ⟨b, o, none⟩ v = w.setRow b (C.setIfInBounds o v) := setCell_eq_setRow w b o C T fz v h
   have ih := setCells_setRow vs (o + 1) (C.setIfInBounds o v) (w.setRow b (C.setIfInBounds o v)) (setRow_heap w b C _ T _ h) (by simp at hl ⊢; omega)
   rw [World.setCells, e1, ih, setRow_setRow]
   congr 2
   have e := list_seg_step C.toList o v vs (by simp at hl ⊢; omega)
   simpa [Array.toList_setIfInBounds, Nat.add_assoc] using e
end
section
variable {P : Program} {σ : Store}
end
structure FP where
  r : List Nat
  w : List Nat
  k : List Nat
  out : List Nat
  m : List Nat
  lv : List Nat
  u : Bool
  g : Bool
def nF : FP := { r := [], w := [], k := [], out := [], m := [], lv := [], u := true, g := false }
def inK (k : List Nat) (l : Nat) : Bool := k.any (Nat.beq l)
theorem inK_iff {k : List Nat} : inK k l = true ↔ l ∈ k := by
 simp only [inK, List.any_eq_true, Nat.beq_eq]
 exact ⟨fun ⟨x, h, e⟩ => e ▸ h, fun h => ⟨l, h, rfl⟩⟩
def patch (U : List (Nat × O)) (σ : Store) : Store := U.foldl (fun s p => s.set p.1 p.2) σ
def effT (k : List Nat) (d : Option Tmp) (v : V) (tm : List V) : List V := put (V.killL (inK k) tm) d v
def effS (k : List Nat) (U : List (Nat × O)) (σ : Store) : Store := patch U (σ.map (O.kill (inK k)))
mutual
def V.full : V → Bool
  | .undef => false
  | .fn _ a b => V.fullL a && V.fullL b
  | .tuple vs | .agg vs => V.fullL vs
  | _ => true
def V.fullL : List V → Bool
  | [] => true
  | v :: vs => V.full v && V.fullL vs
end
def O.full : O → Bool
  | .cells cs => V.fullL cs
  | .loop _ _ _ tm _ _ _ => V.fullL tm
  | _ => true
theorem V.killL_map {p : Nat → Bool} : ∀ vs : List V, V.killL p vs = vs.map (V.kill p)
 | [] => rfl
 | v :: vs => by rw [V.killL, V.killL_map vs]; rfl
mutual
theorem V.kill_off {p : Nat → Bool} : ∀ v : V, (∀ l ∈ v.locs, p l = false) → v.kill p = v
 | .d _, _ => rfl
 | .undef, _ => rfl
 | .nils, _ => rfl
 | .ex _ _, _ => rfl
 | .ep _ _ _, _ => rfl
 | .ptr l _ _, h => by simp [V.kill, h l (by simp [V.locs])]
 | .row l, h => by simp [V.kill, h l (by simp [V.locs])]
 | .sl l _ _ _, h => by simp [V.kill, h l (by simp [V.locs])]
 | .yield l, h => by simp [V.kill, h l (by simp [V.locs])]
 | .map l, h => by simp [V.kill, h l (by simp [V.locs])]
 | .fn _ a b, h => by rw [V.kill, V.killL_off a fun l hl => h l (by simp [V.locs, hl]), V.killL_off b fun l hl => h l (by simp [V.locs, hl])]
 | .tuple vs, h => by rw [V.kill, V.killL_off vs fun l hl => h l (by simpa [V.locs] using hl)]
 | .agg vs, h => by rw [V.kill, V.killL_off vs fun l hl => h l (by simpa [V.locs] using hl)]
theorem V.killL_off {p : Nat → Bool} : ∀ vs : List V, (∀ l ∈ V.locsL vs, p l = false) → V.killL p vs = vs
 | [], _ => rfl
 | v :: vs, h => by rw [V.killL, V.kill_off v fun l hl => h l (by simp [V.locsL, hl]), V.killL_off vs fun l hl => h l (by simp [V.locsL, hl])]
end
theorem O.kill_off {p : Nat → Bool} (o : O) (h : ∀ l ∈ o.locs, p l = false) : o.kill p = o := by
 cases o with
 | cells cs => rw [O.kill, V.killL_off cs h]
 | loop a b c tm x e f => rw [O.kill, V.killL_off tm h]
 | _ => rfl
mutual
theorem V.kill_full {p : Nat → Bool} : ∀ v : V, (v.kill p).full = true → v.kill p = v
 | .d _, _ => rfl
 | .undef, _ => rfl
 | .nils, _ => rfl
 | .ex _ _, _ => rfl
 | .ep _ _ _, _ => rfl
 | .ptr l _ _, h => by cases hp : p l <;> simp [V.kill, hp, V.full] at h ⊢
 | .row l, h => by cases hp : p l <;> simp [V.kill, hp, V.full] at h ⊢
 | .sl l _ _ _, h => by cases hp : p l <;> simp [V.kill, hp, V.full] at h ⊢
 | .yield l, h => by cases hp : p l <;> simp [V.kill, hp, V.full] at h ⊢
 | .map l, h => by cases hp : p l <;> simp [V.kill, hp, V.full] at h ⊢
 | .fn _ a b, h => by
   simp only [V.kill, V.full, Bool.and_eq_true] at h
   rw [V.kill, V.killL_full a h.1, V.killL_full b h.2]
 | .tuple vs, h => by
   simp only [V.kill, V.full] at h
   rw [V.kill, V.killL_full vs h]
 | .agg vs, h => by
   simp only [V.kill, V.full] at h
   rw [V.kill, V.killL_full vs h]
theorem V.killL_full {p : Nat → Bool} : ∀ vs : List V, V.fullL (V.killL p vs) = true → V.killL p vs = vs
 | [], _ => rfl
 | v :: vs, h => by
   simp only [V.killL, V.fullL, Bool.and_eq_true] at h
   rw [V.killL, V.kill_full v h.1, V.killL_full vs h.2]
end
theorem O.kill_full {p : Nat → Bool} (o : O) (h : (o.kill p).full = true) : o.kill p = o := by
 cases o with
 | cells cs => rw [O.kill, V.killL_full cs (by simpa [O.kill, O.full] using h)]
 | loop a b c tm x e f => rw [O.kill, V.killL_full tm (by simpa [O.kill, O.full] using h)]
 | _ => rfl
mutual
theorem V.kill_comm {p q : Nat → Bool} : ∀ v : V, (v.kill p).kill q = (v.kill q).kill p
 | .d _ => rfl
 | .undef => rfl
 | .nils => rfl
 | .ex _ _ => rfl
 | .ep _ _ _ => rfl
 | .ptr l _ _ => by cases hp : p l <;> cases hq : q l <;> simp [V.kill, hp, hq]
 | .row l => by cases hp : p l <;> cases hq : q l <;> simp [V.kill, hp, hq]
 | .sl l _ _ _ => by cases hp : p l <;> cases hq : q l <;> simp [V.kill, hp, hq]
 | .yield l => by cases hp : p l <;> cases hq : q l <;> simp [V.kill, hp, hq]
 | .map l => by cases hp : p l <;> cases hq : q l <;> simp [V.kill, hp, hq]
 | .fn _ a b => by simp only [V.kill]; rw [V.killL_comm a, V.killL_comm b]
 | .tuple vs => by simp only [V.kill]; rw [V.killL_comm vs]
 | .agg vs => by simp only [V.kill]; rw [V.killL_comm vs]
theorem V.killL_comm {p q : Nat → Bool} : ∀ vs : List V, V.killL q (V.killL p vs) = V.killL p (V.killL q vs)
 | [] => rfl
 | v :: vs => by simp only [V.killL]; rw [V.kill_comm v, V.killL_comm vs]
end
theorem O.kill_comm {p q : Nat → Bool} (o : O) : (o.kill p).kill q = (o.kill q).kill p := by
 cases o with
 | cells cs => simp only [O.kill]; rw [V.killL_comm]
 | loop a b c tm x e f => simp only [O.kill]; rw [V.killL_comm]
 | _ => rfl
theorem killL_put {p : Nat → Bool} {d : Option Tmp} : V.killL p (put tm d v) = put (V.killL p tm) d (v.kill p) := by
 cases d with
 | none => rfl
 | some t => simp only [put, V.killL_map, List.map_set]
theorem ev_kill {p : Nat → Bool} {x : Operand} : ev (V.killL p tm) x = (ev tm x).kill p := by
 cases x with
 | tmp t =>
   simp only [ev, V.killL_map, List.getD_eq_getElem?_getD, List.getElem?_map]
   cases tm[t]? <;> rfl
 | const c =>
   simp only [ev]
   unfold cst
   split <;> rfl
 | _ => rfl
theorem valsOf_kill {p : Nat → Bool} : valsOf (V.killL p tm) o = V.killL p (valsOf tm o) := by
 unfold valsOf
 rw [V.killL_map (List.map _ _), List.map_map]
 exact List.map_congr_left fun x _ => ev_kill
theorem patch_length : ∀ (U : List (Nat × O)) (σ : Store), (patch U σ).length = σ.length
 | [], _ => rfl
 | p :: U, σ => by show (patch U (σ.set p.1 p.2)).length = _; rw [patch_length U, List.length_set]
theorem effS_length (k : List Nat) (U : List (Nat × O)) (σ : Store) : (effS k U σ).length = σ.length := by rw [effS, patch_length, List.length_map]
theorem patch_off : ∀ (U : List (Nat × O)) (σ : Store) (l : Nat), (∀ p ∈ U, p.1 ≠ l) → (patch U σ)[l]? = σ[l]?
 | [], _, _, _ => rfl
 | p :: U, σ, l, h => by
   show (patch U (σ.set p.1 p.2))[l]? = _
   rw [patch_off U _ l fun q hq => h q (by simp [hq]), List.getElem?_set_ne (h p (by simp))]
theorem patch_set : ∀ (U : List (Nat × O)) (σ : Store) (l : Nat) (o : O), (∀ p ∈ U, p.1 ≠ l) → patch U (σ.set l o) = (patch U σ).set l o
 | [], _, _, _, _ => rfl
 | p :: U, σ, l, o, h => by
   show patch U ((σ.set l o).set p.1 p.2) = (patch U (σ.set p.1 p.2)).set l o
   rw [List.set_comm _ _ (Ne.symm (h p (by simp))), patch_set U _ l o fun q hq => h q (by simp [hq])]
theorem patch_comm : ∀ (U W : List (Nat × O)) (σ : Store), (∀ p ∈ U, ∀ q ∈ W, p.1 ≠ q.1) → patch U (patch W σ) = patch W (patch U σ)
 | U, [], σ, _ => rfl
 | U, q :: W, σ, h => by
   show patch U (patch W (σ.set q.1 q.2)) = patch W ((patch U σ).set q.1 q.2)
   rw [patch_comm U W _ fun p hp x hx => h p hp x (by simp [hx]), patch_set U σ q.1 q.2 fun p hp => h p hp q (by simp)]
theorem patch_map {g : O → O} : ∀ (U : List (Nat × O)) (σ : Store), (∀ p ∈ U, g p.2 = p.2) → (patch U σ).map g = patch U (σ.map g)
 | [], _, _ => rfl
 | p :: U, σ, h => by
   show (patch U (σ.set p.1 p.2)).map g = patch U ((σ.map g).set p.1 p.2)
   rw [patch_map U _ fun q hq => h q (by simp [hq]), List.map_set, h p (by simp)]
theorem effT_comm {k1 k2 : List Nat} {d1 d2 : Option Tmp} {v1 v2 : V} (h1 : ∀ l ∈ v1.locs, inK k2 l = false) (h2 : ∀ l ∈ v2.locs, inK k1 l = false) (hd : ∀ d, d1 = some d → d2 ≠ some d) :
  effT k2 d2 v2 (effT k1 d1 v1 tm) = effT k1 d1 v1 (effT k2 d2 v2 tm) := by
 unfold effT
 rw [killL_put, killL_put, V.kill_off v1 h1, V.kill_off v2 h2, V.killL_comm, put_comm hd]
theorem effS_comm {k1 k2 : List Nat} {U1 U2 : List (Nat × O)} (h1 : ∀ p ∈ U1, ∀ l ∈ p.2.locs, inK k2 l = false) (h2 : ∀ p ∈ U2, ∀ l ∈ p.2.locs, inK k1 l = false) (hd : ∀ p ∈ U1, ∀ q ∈ U2, p.1 ≠ q.1) :
  effS k2 U2 (effS k1 U1 σ) = effS k1 U1 (effS k2 U2 σ) := by
 unfold effS
 rw [patch_map U1 _ fun p hp => O.kill_off p.2 (h1 p hp), patch_map U2 _ fun p hp => O.kill_off p.2 (h2 p hp), patch_comm U2 U1 _ fun p hp q hq e => hd q hq p hp e.symm]
 congr 2
 simp only [List.map_map]
 exact List.map_congr_left fun o _ => O.kill_comm o
theorem wantA_kill {ops : Array Oper} {p : Nat → Bool} : wantA ops o (V.killL p tm) = wantA ops o tm := by
  unfold wantA
  cases o.guard with
  | none => rfl
  | some g =>
    obtain ⟨j, want⟩ := g
    simp only []
    cases (ops[j]?).bind (·.dst) with
    | none => rfl
    | some d =>
      simp only [V.killL_map, List.getElem?_map]
      cases tm[d]? with
      | none => rfl
      | some v =>
        cases v with
        | d x => rfl
        | ptr l i s => simp only [Option.map_some, V.kill]; cases p l <;> rfl
        | row l => simp only [Option.map_some, V.kill]; cases p l <;> rfl
        | sl l a b c => simp only [Option.map_some, V.kill]; cases p l <;> rfl
        | yield l => simp only [Option.map_some, V.kill]; cases p l <;> rfl
        | map l => simp only [Option.map_some, V.kill]; cases p l <;> rfl
        | tuple vs => cases vs <;> rfl
        | _ => rfl
section
variable (P : Program) (f : FuncId) (ro : Option Nat) (n : Nat) (k : List Item) (df : List Nat) (Q : AE → Store → Prop) (ops : Array Oper)
def O.isDead : O → Bool
  | .dead => true
  | _ => false
def noFP : FP := ⟨[], [], [], [], [], [], false, true⟩
structure OkF (fp : FP) (tm : List V) (σ : Store) (o : Oper) (v : V) (U : List (Nat × O)) : Prop where
  uw : ∀ p ∈ U, p.1 ∈ fp.w
  vo : ∀ l ∈ v.locs, l ∈ fp.out
  uo : ∀ p ∈ U, ∀ l ∈ p.2.locs, l ∈ fp.out
  vl : ∀ l ∈ V.locsL (valsOf tm o), l ∈ fp.m
  lw : ∀ l ∈ fp.w, liveB σ l = true
  ul : ∀ p ∈ U, p.2.isDead = false
  ll : ∀ l ∈ fp.lv, liveB σ l = true
  om : ∀ l ∈ fp.r, ∀ ob, σ[l]? = some ob → ∀ x ∈ ob.locs, x ∈ fp.m
  fu : fp.u = true → V.fullL (valsOf tm o) = true ∧ ∀ l ∈ fp.r, ∀ ob, σ[l]? = some ob → ob.full = true
def Rob (fp : FP) (i : Nat) (tm : List V) (σ : Store) (o : Oper) (v : V) (U : List (Nat × O)) : Prop :=
  ∀ (rest : List Nat) (tm2 : List V) (σ2 : Store), valsOf tm2 o = valsOf tm o → wantA ops o tm2 = some true → σ2.length = σ.length → (∀ l ∈ fp.r, σ2[l]? = σ[l]?) → (∀ l ∈ fp.lv, liveB σ2 l = true) →
    AW P f ro n (.inRegion ops rest :: k) (effT fp.k o.dst v tm2) (effS fp.k U σ2) df Q → AW P f ro n (.inRegion ops (i :: rest) :: k) tm2 σ2 df Q
def StepF (F : List FP) (i : Nat) (s s' : List V × Store) : Prop :=
  ∃ o, ops[i]? = some o ∧
    ((F.getD i noFP).g = true ∧ (∀ rest, AW P f ro n (.inRegion ops rest :: k) s'.1 s'.2 df Q → AW P f ro n (.inRegion ops (i :: rest) :: k) s.1 s.2 df Q) ∨
     (F.getD i noFP).g = false ∧ wantA ops o s.1 = some false ∧ s' = (put s.1 o.dst (.tuple []), s.2) ∨
     (F.getD i noFP).g = false ∧ wantA ops o s.1 = some true ∧ ∃ v U, s' = (effT (F.getD i noFP).k o.dst v s.1, effS (F.getD i noFP).k U s.2) ∧ OkF (F.getD i noFP) s.1 s.2 o v U ∧ Rob P f ro n k df Q ops (F.getD i noFP) i s.1 s.2 o v U)
end
def meet (a b : List Nat) : Bool := a.any fun x => b.any (Nat.beq x)
theorem meet_no {a b : List Nat} (h : meet a b = false) (h1 : l ∈ a) (h2 : l ∈ b) : False := by
 simp only [meet, List.any_eq_false] at h
 have := h l h1
 simp only [Bool.not_eq_true, List.any_eq_false] at this
 exact absurd (this l h2) (by rw [Nat.beq_refl]; simp)
def fpB (a b : FP) : Bool := a.g || b.g || meet a.w b.r || meet b.w a.r || meet a.k b.out || meet a.k b.m || meet b.k a.out || meet b.k a.m || (!a.k.isEmpty && !b.u) || (!b.k.isEmpty && !a.u)
def fpOk (a : FP) : Bool := (a.w.all fun l => a.r.any (Nat.beq l)) && (a.k.all fun l => a.w.any (Nat.beq l))
def depF (ops : Array Oper) (F : List FP) (i j : Nat) : Bool :=
  match ops[i]?, ops[j]? with
  | some x, some y => !(x.apart ops y) || !(y.apart ops x) || fpB (F.getD i noFP) (F.getD j noFP)
  | _, _ => true
theorem fpB_symm (a b : FP) : fpB a b = fpB b a := by
 unfold fpB
 generalize meet a.w b.r = x1
 generalize meet b.w a.r = x2
 generalize meet a.k b.out = x3
 generalize meet a.k b.m = x4
 generalize meet b.k a.out = x5
 generalize meet b.k a.m = x6
 generalize (!a.k.isEmpty && !b.u) = x7
 generalize (!b.k.isEmpty && !a.u) = x8
 cases a.g <;> cases b.g <;> cases x1 <;> cases x2 <;> cases x3 <;> cases x4 <;> cases x5 <;> cases x6 <;> cases x7 <;> cases x8 <;> rfl
theorem depF_symm (ops : Array Oper) (F : List FP) (i j : Nat) : depF ops F i j = depF ops F j i := by
 unfold depF
 cases ops[i]? <;> cases ops[j]? <;> simp [fpB_symm, Bool.or_comm]
theorem effT_nil {d : Option Tmp} : effT [] d v tm = put tm d v := by
 unfold effT; rw [V.killL_id (p := inK []) fun l => rfl]
theorem effS_nil : effS [] [] σ = σ := by
 unfold effS
 show σ.map _ = σ
 rw [List.map_congr_left (g := id) fun o _ => O.kill_id (p := inK []) (fun l => rfl) o]
 simp
section
variable {P : Program} {f : FuncId} {ro : Option Nat} {n : Nat} {k : List Item} {df : List Nat} {Q : AE → Store → Prop} {ops : Array Oper}
theorem look_through {a b : FP} (hab : fpB a b = false) {x y : Oper} {v u : V} {U W : List (Nat × O)} (hd : ∀ t, x.dst = some t → t ∉ y.looksAt ops)
   (hx : OkF a tm σ x v U) (hy : OkF b (effT a.k x.dst v tm) (effS a.k U σ) y u W) :
   valsOf (effT a.k x.dst v tm) y = valsOf tm y ∧ ∀ l ∈ b.r, (effS a.k U σ)[l]? = σ[l]? := by
 simp only [fpB, Bool.or_eq_false_iff] at hab
 obtain ⟨⟨⟨⟨⟨⟨⟨⟨⟨_, _⟩, h1⟩, h2⟩, h3⟩, h4⟩, h5⟩, h6⟩, h7⟩, h8⟩ := hab
 have e1 : valsOf (effT a.k x.dst v tm) y = V.killL (inK a.k) (valsOf tm y) := by
   rw [effT, valsOf_put hd, valsOf_kill]
 have e2 : ∀ l ∈ b.r, (effS a.k U σ)[l]? = (σ[l]?).map (O.kill (inK a.k)) := fun l hl => by
   rw [effS, patch_off _ _ _ fun p hp e => meet_no h1 (hx.uw p hp) (e ▸ hl), List.getElem?_map]
 by_cases hk : a.k = []
 · rw [hk] at e1 e2
   refine ⟨by rw [hk, e1, V.killL_id (p := inK []) fun l => rfl], fun l hl => ?_⟩
   rw [hk, e2 l hl]
   cases σ[l]? with
   | none => rfl
   | some o => rw [Option.map_some, O.kill_id (p := inK []) fun l => rfl]
 · have hu : b.u = true := by
     have : a.k.isEmpty = false := by simpa using hk
     rw [this] at h7
     simpa using h7
   obtain ⟨g1, g2⟩ := hy.fu hu
   rw [e1] at g1
   refine ⟨by rw [e1, V.killL_full _ g1], fun l hl => ?_⟩
   rw [e2 l hl]
   cases hs : σ[l]? with
   | none => rfl
   | some o =>
     have := g2 l hl (o.kill (inK a.k)) (by rw [e2 l hl, hs]; rfl)
     rw [Option.map_some, O.kill_full o this]
theorem OkF.through {b : FP} {y : Oper} {u : V} {W : List (Nat × O)} {tm' : List V} {σ' : Store} (hy : OkF b tm' σ' y u W) (hv : valsOf tm' y = valsOf tm y) (hs : ∀ l ∈ b.r, σ'[l]? = σ[l]?) (hl : ∀ l, liveB σ' l = true → liveB σ l = true) : OkF b tm σ y u W :=
 ⟨hy.uw, hy.vo, hy.uo, by rw [← hv]; exact hy.vl, fun l h => hl l (hy.lw l h), hy.ul, fun l h => hl l (hy.ll l h), fun l hl ob h => hy.om l hl ob (by rw [hs l hl]; exact h), fun h => by
  obtain ⟨g1, g2⟩ := hy.fu h
  exact ⟨by rw [← hv]; exact g1, fun l hl ob h' => g2 l hl ob (by rw [hs l hl]; exact h')⟩⟩
theorem kill_isDead {p : Nat → Bool} {o : O} : (o.kill p).isDead = o.isDead := by cases o <;> rfl
theorem liveB_iff : liveB σ l = true ↔ ∃ o, σ[l]? = some o ∧ o.isDead = false := by
 unfold liveB
 cases h : σ[l]? with
 | none => simp
 | some o => cases o <;> simp [O.isDead]
theorem patch_live : ∀ (U : List (Nat × O)) (σ : Store), (∀ p ∈ U, p.2.isDead = false) → ∀ l, liveB σ l = true → liveB (patch U σ) l = true
 | [], _, _, _, h => h
 | p :: U, σ, hU, l, h => by
   show liveB (patch U (σ.set p.1 p.2)) l = true
   refine patch_live U _ (fun q hq => hU q (by simp [hq])) l ?_
   obtain ⟨o, h1, h2⟩ := liveB_iff.1 h
   by_cases hl : p.1 = l
   · subst hl
     exact liveB_iff.2 ⟨p.2, by rw [List.getElem?_set_self (List.getElem?_eq_some_iff.1 h1).1], hU p (by simp)⟩
   · exact liveB_iff.2 ⟨o, by rw [List.getElem?_set_ne hl]; exact h1, h2⟩
theorem effS_live {k : List Nat} {U : List (Nat × O)} (hU : ∀ p ∈ U, p.2.isDead = false) (h : liveB σ l = true) : liveB (effS k U σ) l = true := by
 refine patch_live U _ hU l ?_
 obtain ⟨o, h1, h2⟩ := liveB_iff.1 h
 exact liveB_iff.2 ⟨o.kill (inK k), by rw [List.getElem?_map, h1]; rfl, by rw [kill_isDead]; exact h2⟩
theorem effS_lived {fp : FP} {U : List (Nat × O)} (hO : OkF fp tm σ o v U) (h : liveB (effS fp.k U σ) l = true) : liveB σ l = true := by
 by_cases hl : ∃ p ∈ U, p.1 = l
 · obtain ⟨p, hp, rfl⟩ := hl
   exact hO.lw p.1 (hO.uw p hp)
 · obtain ⟨o', h1, h2⟩ := liveB_iff.1 h
   rw [effS, patch_off _ _ _ fun p hp e => hl ⟨p, hp, e⟩, List.getElem?_map, Option.map_eq_some_iff] at h1
   obtain ⟨o2, h3, rfl⟩ := h1
   exact liveB_iff.2 ⟨o2, h3, by rw [kill_isDead] at h2; exact h2⟩
theorem in_all {a b : List Nat} (h : (a.all fun l => b.any (Nat.beq l)) = true) (hl : l ∈ a) : l ∈ b := inK_iff.1 (List.all_eq_true.1 h l hl)
theorem look_ahead {a b : FP} (hab : fpB a b = false) {x y : Oper} {v u : V} {U W : List (Nat × O)} (hd : ∀ t, y.dst = some t → t ∉ x.looksAt ops) (hx : OkF a tm σ x v U) (hW : ∀ p ∈ W, p.1 ∈ b.w) :
   valsOf (effT b.k y.dst u tm) x = valsOf tm x ∧ ∀ l ∈ a.r, (effS b.k W σ)[l]? = σ[l]? := by
 simp only [fpB, Bool.or_eq_false_iff] at hab
 obtain ⟨⟨⟨⟨⟨⟨⟨⟨⟨_, _⟩, h1⟩, h2⟩, h3⟩, h4⟩, h5⟩, h6⟩, h7⟩, h8⟩ := hab
 have off : ∀ l, l ∉ b.k → inK b.k l = false := fun l hl => by
   cases h : inK b.k l with
   | false => rfl
   | true => exact absurd (inK_iff.1 h) hl
 refine ⟨?_, fun l hl => ?_⟩
 · rw [effT, valsOf_put hd, valsOf_kill]
   exact V.killL_off _ fun l hl => off l fun h => meet_no h6 h (hx.vl l hl)
 · rw [effS, patch_off _ _ _ fun p hp e => meet_no h2 (hW p hp) (e ▸ hl), List.getElem?_map]
   cases hs : σ[l]? with
   | none => rfl
   | some o =>
     rw [Option.map_some, O.kill_off o fun z hz => off z fun h => meet_no h6 h (hx.om l hl o hs z hz)]
theorem stepF_swap {F : List FP} (hF : (F.all fpOk) = true) (i j : Nat) (hd : depF ops F i j = false) (s a b : List V × Store) (hi : StepF P f ro n k df Q ops F i s a) (hj : StepF P f ro n k df Q ops F j a b) :
    ∃ a', StepF P f ro n k df Q ops F j s a' ∧ StepF P f ro n k df Q ops F i a' b := by
  obtain ⟨x, hx, hi⟩ := hi
  obtain ⟨y, hy, hj⟩ := hj
  unfold depF at hd
  simp only [hx, hy, Bool.or_eq_false_iff, Bool.not_eq_false'] at hd
  obtain ⟨⟨d1, d2⟩, hfp⟩ := hd
  obtain ⟨g1, g2, g3⟩ := Oper.apart_spec d1
  have hok : ∀ i, (F.getD i noFP).g = false → fpOk (F.getD i noFP) = true := fun i hg => by
    rw [List.getD_eq_getElem?_getD] at hg ⊢
    cases hq : F[i]? with
    | none => rw [hq] at hg; cases hg
    | some p => exact List.all_eq_true.1 hF p (List.mem_of_getElem? hq)
  have hg12 : (F.getD i noFP).g = false ∧ (F.getD j noFP).g = false := by
    have := hfp
    simp only [fpB, Bool.or_eq_false_iff] at this
    exact this.1.1.1.1.1.1.1.1
  have hoki := hok i hg12.1
  have hokj := hok j hg12.2
  have hfp' := hfp
  rw [fpB_symm] at hfp'
  generalize hA : F.getD i noFP = A at *
  generalize hB : F.getD j noFP = B at *
  have offA : ∀ l, l ∉ A.k → inK A.k l = false := fun l hl => by
    cases h : inK A.k l with
    | false => rfl
    | true => exact absurd (inK_iff.1 h) hl
  have offB : ∀ l, l ∉ B.k → inK B.k l = false := fun l hl => by
    cases h : inK B.k l with
    | false => rfl
    | true => exact absurd (inK_iff.1 h) hl
  have hm := hfp
  simp only [fpB, Bool.or_eq_false_iff] at hm
  obtain ⟨⟨⟨⟨⟨⟨⟨⟨⟨_, _⟩, m1⟩, m2⟩, m3⟩, m4⟩, m5⟩, m6⟩, m7⟩, m8⟩ := hm
  have hwr : ∀ l ∈ B.w, l ∈ B.r := fun l hl => by
    simp only [fpOk, Bool.and_eq_true] at hokj
    exact in_all hokj.1 hl
  obtain ⟨tm, σ⟩ := s
  rcases hi with ⟨hg, _⟩ | ⟨_, hwi, rfl⟩ | ⟨_, hwi, v, U, rfl, hOi, hRi⟩
  · rw [hg12.1] at hg; cases hg
  · rcases hj with ⟨hg, _⟩ | ⟨_, hwj, rfl⟩ | ⟨_, hwj, u, W, rfl, hOj, hRj⟩
    · rw [hg12.2] at hg; cases hg
    · simp only [] at hwi hwj ⊢
      rw [wantA_put g1] at hwj
      exact ⟨(put tm y.dst (.tuple []), σ), ⟨y, hy, .inr (.inl ⟨hB ▸ hg12.2, hwj, rfl⟩)⟩, ⟨x, hx, .inr (.inl ⟨hA ▸ hg12.1, by rw [wantA_put g3]; exact hwi, by rw [put_comm fun d hd => g2 d hd]⟩)⟩⟩
    · simp only [] at hwi hwj hOj hRj ⊢
      rw [wantA_put g1] at hwj
      have hv := valsOf_put (tm := tm) (v := .tuple []) g1
      have hO2 : OkF B tm σ y u W := OkF.through hOj hv (fun l _ => rfl) fun l h => h
      refine ⟨(effT B.k y.dst u tm, effS B.k W σ), ⟨y, hy, .inr (.inr ⟨hB ▸ hg12.2, hwj, u, W, by rw [hB], by rw [hB]; exact hO2, by rw [hB]; exact fun rest tm2 σ2 e1 e2 e3 e4 e5 => hRj rest tm2 σ2 (e1.trans hv.symm) e2 e3 e4 e5⟩)⟩, ⟨x, hx, .inr (.inl ⟨hA ▸ hg12.1, ?_, ?_⟩)⟩⟩
      · simp only [effT]; rw [wantA_put g3, wantA_kill]; exact hwi
      · simp only [effT]
        rw [killL_put, put_comm fun d hd => g2 d hd]
        rfl
  · rcases hj with ⟨hg, _⟩ | ⟨_, hwj, rfl⟩ | ⟨_, hwj, u, W, rfl, hOj, hRj⟩
    · rw [hg12.2] at hg; cases hg
    · simp only [effT] at hwi hwj ⊢
      rw [wantA_put g1, wantA_kill] at hwj
      have hv := valsOf_put (tm := tm) (v := .tuple []) g3
      have hO2 : OkF A (put tm y.dst (.tuple [])) σ x v U := OkF.through hOi hv.symm (fun l _ => rfl) fun l h => h
      refine ⟨(put tm y.dst (.tuple []), σ), ⟨y, hy, .inr (.inl ⟨hB ▸ hg12.2, hwj, rfl⟩)⟩, ⟨x, hx, .inr (.inr ⟨hA ▸ hg12.1, by rw [wantA_put g3]; exact hwi, v, U, ?_, by rw [hA]; exact hO2, by rw [hA]; exact fun rest tm2 σ2 e1 e2 e3 e4 e5 => hRi rest tm2 σ2 (e1.trans hv) e2 e3 e4 e5⟩)⟩⟩
      rw [hA]
      simp only [effT]
      rw [killL_put, put_comm fun d hd => g2 d hd]
      rfl
    · simp only [] at hwi hwj hOi hRi hOj hRj ⊢
      obtain ⟨l1, l2⟩ := look_through hfp g1 hOi hOj
      have hO2 : OkF B tm σ y u W := OkF.through hOj l1 l2 fun l h => effS_lived hOi h
      obtain ⟨l3, l4⟩ := look_ahead (y := y) (u := u) hfp g3 hOi hO2.uw
      have hwj2 : wantA ops y tm = some true := by
        rw [effT, wantA_put g1, wantA_kill] at hwj; exact hwj
      refine ⟨(effT B.k y.dst u tm, effS B.k W σ), ⟨y, hy, .inr (.inr ⟨hB ▸ hg12.2, hwj2, u, W, by rw [hB], by rw [hB]; exact hO2, ?_⟩)⟩, ⟨x, hx, .inr (.inr ⟨hA ▸ hg12.1, ?_, v, U, ?_, ?_, ?_⟩)⟩⟩
      · rw [hB]
        intro rest tm2 σ2 e1 e2 e3 e4 e5
        exact hRj rest tm2 σ2 (e1.trans l1.symm) e2 (by rw [e3, effS_length]) (fun l hl => by rw [e4 l hl, l2 l hl]) e5
      · simp only [effT]; rw [wantA_put g3, wantA_kill]; exact hwi
      · rw [hA]
        refine Prod.ext ?_ ?_
        · exact effT_comm (fun l hl => offB l fun h => meet_no m5 h (hOi.vo l hl)) (fun l hl => offA l fun h => meet_no m3 h (hO2.vo l hl)) fun d hd => g2 d hd
        · exact effS_comm (fun p hp l hl => offB l fun h => meet_no m5 h (hOi.uo p hp l hl)) (fun p hp l hl => offA l fun h => meet_no m3 h (hO2.uo p hp l hl)) fun p hp q hq e => meet_no m1 (hOi.uw p hp) (e ▸ hwr _ (hO2.uw q hq))
      · rw [hA]
        exact OkF.through hOi l3.symm (fun l hl => (l4 l hl).symm) fun l h => effS_live hO2.ul h
      · rw [hA]
        intro rest tm2 σ2 e1 e2 e3 e4 e5
        exact hRi rest tm2 σ2 (e1.trans l3) e2 (by rw [e3, effS_length]) (fun l hl => by rw [e4 l hl, l4 l hl]) e5
theorem stepF_sound {F : List FP} {rest : List Nat} {s s' : List V × Store} (h : StepF P f ro n k df Q ops F i s s') (hn : AW P f ro n (.inRegion ops rest :: k) s'.1 s'.2 df Q) : AW P f ro n (.inRegion ops (i :: rest) :: k) s.1 s.2 df Q := by
 obtain ⟨o, hi, ⟨_, h⟩ | ⟨_, hw, rfl⟩ | ⟨_, hw, v, U, rfl, hO, hR⟩⟩ := h
 · exact h rest hn
 · exact .opSkip hi hw hn
 · exact hR rest s.1 s.2 rfl hw rfl (fun _ _ => rfl) hO.ll hn
theorem runF_sound {F : List FP} : ∀ {L : List Nat} {s s' : List V × Store}, Run (StepF P f ro n k df Q ops F) L s s' → AW P f ro n (.inRegion ops [] :: k) s'.1 s'.2 df Q → AW P f ro n (.inRegion ops L :: k) s.1 s.2 df Q
 | [], s, s', h, hn => by subst h; exact hn
 | i :: L, s, s', ⟨s1, h1, h2⟩, hn => stepF_sound h1 (runF_sound h2 hn)
end
end Go.Br
