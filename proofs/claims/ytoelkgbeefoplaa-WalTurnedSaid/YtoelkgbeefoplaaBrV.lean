/- The base of these proofs, part V: places in a function's code, and steps from place to place. -/
import Derived.Test.YtoelkgbeefoplaaBrU
namespace Go.Br
open Go

/-- Where a frame stands after so many steps, whatever its values are; 'ch': which way it goes at each condition. -/
def cgo : Nat → List Bool → List Item → List Item
  | 0, _, t => t
  | n + 1, ch, t => match t with
    | .code .skip :: k => cgo n ch k
    | .code (.label _) :: k => cgo n ch k
    | .inBlock _ :: k => cgo n ch k
    | .inScope _ :: k => cgo n ch k
    | .code (.seq a b) :: k => cgo n ch (.code a :: .code b :: k)
    | .code (.block id c) :: k => cgo n ch (.code c :: .inBlock id :: k)
    | .code (.scope c) :: k => cgo n ch (.code c :: .inScope c :: k)
    | .code (.loop c) :: k => cgo n ch (.code c :: .inLoop c :: k)
    | .inLoop c :: k => cgo n ch (.code c :: .inLoop c :: k)
    | .code (.exit id) :: k => match exitTo id k with | some k' => cgo n ch k' | none => t
    | .code (.goto l) :: k => match gotoIn l k with | some k' => cgo n ch k' | none => t
    | .code (.cond _ x y) :: k => match ch with | true :: ch => cgo n ch (.code x :: k) | false :: ch => cgo n ch (.code y :: k) | [] => t
    | .code (.region _ ops false) :: k => cgo n ch (.inRegion ops (List.range ops.size) :: k)
    | .code (.region _ _ true) :: k => cgo n ch k
    | .code (.rangeFunc ..) :: k => cgo n ch k
    | .inRegion _ [] :: k => cgo n ch k
    | .inRegion ops (_ :: r) :: k => cgo n ch (.inRegion ops r :: k)
    | .beginRound :: k => cgo n ch k
    | _ => t

/-- So many slots, of which these are known. -/
def mk (n : Nat) (l : List (Nat × V)) : List V := l.foldl (fun t p => t.set p.1 p.2) (List.replicate n .undef)
/-- Slots that are still wanted. -/
def keep (l : List Nat) (tm : List V) : List V := tm.mapIdx fun i v => if l.any (Nat.beq i) then v else .undef

def opsOf (T : List Item) : Array Oper := match T with | .inRegion ops _ :: _ => ops | _ => #[]
def ixOf (T : List Item) : Nat := match T with | .inRegion _ (i :: _) :: _ => i | _ => 0
def opOf (T : List Item) : Option Oper := match T with | .inRegion ops (i :: _) :: _ => ops[i]? | _ => none
def tlOf (T : List Item) : List Item := match T with | .inRegion ops (_ :: r) :: k => .inRegion ops r :: k | _ => []

section
variable {P : Program} {f : FuncId} {ro : Option Nat} {n : Nat} {T T' : List Item} {tm tm' : List V} {σ σ' : Store} {df : List Nat} {Q : AE → Store → Prop}
theorem keep_rel {w : World} {I : Nat → Prop} {ρ : LM} {l : List Nat} {xs : List Value} (h : vrL w I ρ σ tm xs) : vrL w I ρ σ (keep l tm) xs := by
  have key : ∀ (p : Nat → Bool) (tm : List V) (xs : List Value), vrL w I ρ σ tm xs → vrL w I ρ σ (tm.mapIdx fun i v => if p i then v else .undef) xs := by
    intro p tm
    induction tm generalizing p with
    | nil => intro xs h; simpa [vrL] using h
    | cons v vs ih =>
      intro xs h
      simp only [vrL] at h
      obtain ⟨x, xs', rfl, h1, h2⟩ := h
      simp only [List.mapIdx_cons, vrL]
      refine ⟨x, xs', rfl, ?_, ih (fun i => p (i + 1)) xs' h2⟩
      split
      · exact h1
      · simp [vr]
  exact key (fun i => l.any (Nat.beq i)) tm xs h
/-- From place to place; of the slots these are kept. -/
theorem AW.seg (m : Nat) (l : List Nat) (hs : (msteps P m T tm σ).map (fun s => (s.1, keep l s.2.1, s.2.2)) = some (T', tm', σ')) (h : AW P f ro n T' tm' σ' df Q) : AW P f ro n T tm σ df Q := by
  simp only [Option.map_eq_some_iff, Prod.mk.injEq] at hs
  obtain ⟨⟨t1, t2, t3⟩, h1, rfl, rfl, rfl⟩ := hs
  exact AW.steps m h1 (AW.less (fun _ _ _ _ hr => keep_rel hr) h)
/-- One operation, by a rule of its own. -/
theorem AW.opH {o : Oper} {v : V} (ho : opOf T = some o) (hw : wantA (opsOf T) o tm = some true) (hd : Op.isDefer o.op = false) (hT : tlOf T = T') (hok : OpOk P o tm σ v tm' σ') (h : AW P f ro n T' (put tm' o.dst v) σ' df Q) : AW P f ro n T tm σ df Q := by
  subst hT
  unfold opOf at ho
  split at ho
  · rename_i ops i r k
    exact .op ho hw hd hok h
  · cases ho
/-- A call. -/
theorem AW.semH {o : Oper} {v : V} (ho : opOf T = some o) (hw : wantA (opsOf T) o tm = some true) (hT : tlOf T = T') (hs : ∀ k, Sem P f ro n k df Q (opsOf T) o (ixOf T) (valsOf tm o) σ v σ') (h : AW P f ro n T' (put tm o.dst v) σ' df Q) : AW P f ro n T tm σ df Q := by
  subst hT
  unfold opOf at ho
  split at ho
  · rename_i ops i r k
    exact .sem (hs k) hw h
  · cases ho
theorem AW.condH {c : Operand} {x y : Code} {k : List Item} {b : Bool} (hc : ev tm c = .d (.bool b)) (h1 : b = true → AW P f ro n (.code x :: k) tm σ df Q) (h2 : b = false → AW P f ro n (.code y :: k) tm σ df Q) : AW P f ro n (.code (.cond c x y) :: k) tm σ df Q :=
  .cond hc h1 h2
def condOf (T : List Item) : Operand := match T with | .code (.cond c _ _) :: _ => c | _ => .global 0
def isCond (T : List Item) : Bool := match T with | .code (.cond _ _ _) :: _ => true | _ => false
theorem AW.ifH {T1 T2 : List Item} {b : Bool} (ht : isCond T = true) (hc : ev tm (condOf T) = .d (.bool b)) (hT1 : cgo 1 [true] T = T1) (hT2 : cgo 1 [false] T = T2) (h1 : b = true → AW P f ro n T1 tm σ df Q) (h2 : b = false → AW P f ro n T2 tm σ df Q) : AW P f ro n T tm σ df Q := by
  subst hT1 hT2
  unfold isCond at ht
  split at ht
  · exact .cond hc h1 h2
  · cases ht
/-- Slots and store told in other words. -/
theorem AW.as (ht : tm = tm') (hs : σ = σ') (h : AW P f ro n T tm' σ' df Q) : AW P f ro n T tm σ df Q := by subst ht hs; exact h
def isDraw (T : List Item) : Bool := match T with | .code (.region _ _ true) :: _ => true | _ => false
def drawOf (T : List Item) : Array Oper := match T with | .code (.region _ ops true) :: _ => ops | _ => #[]
/-- A region whose order is drawn. -/
theorem AW.drawH (c : List Nat) (M : List Nat) (hm : P.follows .mixedOrders = true) (ht : isDraw T = true) (hok : (edgesB (drawOf T) && orderB (drawOf T) c [] M) = true) (hT : cgo 1 [] T = T')
    (hrun : ∀ k, Run (StepQ P f ro n k df Q (drawOf T) c) M (tm, σ) (tm', σ')) (h : AW P f ro n T' tm' σ' df Q) : AW P f ro n T tm σ df Q := by
  subst hT
  unfold isDraw at ht
  split at ht
  · exact .drawn c M hm hok (hrun _) h
  · cases ht
end

end Go.Br
