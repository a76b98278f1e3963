/- The base of these proofs, part Y: loops over functions and drawn orders, from place to place. -/
import Derived.Test.YtoelkgbeefoplaaBrX
namespace Go.Br
open Go

section
variable {P : Program} {f : FuncId} {ro : Option Nat} {n : Nat} {k : List Item} {T T' : List Item} {tm tm' : List V} {σ σ' : Store} {df : List Nat} {Q : AE → Store → Prop} {ops : Array Oper}
def isBegin (T : List Item) : Bool := match T with | .beginRound :: _ => true | _ => false
theorem AW.beginH {l : Nat} {pend : Option Code} {fn : FuncId} {tml : List V} {ps : Array Tmp} {as bd : Code} (hb : isBegin T = true) (hT : cgo 1 [] T = T') (hl : σ[l]? = some (.loop .ready pend fn tml ps as bd))
    (h : AW P f (some l) n T' tm (σ.set l (.loop .busy pend fn tml ps as bd)) df Q) : AW P f (some l) n T tm σ df Q := by
  subst hT
  unfold isBegin at hb
  split at hb
  · exact .beginRound hl h
  · cases hb
theorem AW.roundEndH {l : Nat} {st : LoopState} {pend : Option Code} {fn : FuncId} {tml : List V} {ps : Array Tmp} {as bd : Code} (hT : T = []) (hl : σ[l]? = some (.loop st pend fn tml ps as bd))
    (hq : Q (.ret (.d (.bool true))) (σ.set l (.loop .ready none fn tml ps as bd))) : AW P f (some l) n T tm σ df Q := by
  subst hT; exact .roundEnd hl hq
def rfG (T : List Item) : Operand := match T with | .code (.rangeFunc g _ _ _) :: _ => g | _ => .global 0
def rfPs (T : List Item) : Array Tmp := match T with | .code (.rangeFunc _ ps _ _) :: _ => ps | _ => #[]
def rfAs (T : List Item) : Code := match T with | .code (.rangeFunc _ _ as _) :: _ => as | _ => .skip
def rfBd (T : List Item) : Code := match T with | .code (.rangeFunc _ _ _ bd) :: _ => bd | _ => .skip
def isRange (T : List Item) : Bool := match T with | .code (.rangeFunc ..) :: _ => true | _ => false
/-- The record of a loop over a function. -/
def lp (T : List Item) (f : FuncId) (tm : List V) (st : LoopState) : O := .loop st none f tm (rfPs T) (rfAs T) (rfBd T)
theorem AW.rangeH {h : FuncId} {fn : Func} {c : Code} {first cap : List V} (m : List Nat) (cargs : List V) (σc : Store) {Qc : AE → Store → Prop}
    (hF : Fnc P h fn c) (ht : isRange T = true) (hT : cgo 1 [] T = T') (hx : ev tm (rfG T) = .fn (.func h) first cap) (hc : CallsA P h cargs σc Qc)
    (hargs : coArgs P fn.params.toList (first ++ [.yield (σ.length + 1)] ++ cap) = V.renL (mp m (σ.length + 2)) cargs) (hbel : (belB σc.length σc && (V.locsL cargs).all fun l => Nat.blt l σc.length) = true)
    (hwi : within (σ ++ [.defd, lp T f tm .ready]) m σc)
    (hk : ∀ r σc', Qc r σc' → ∃ v st tml ps' as' bd' fn', r = .ret v ∧ st ≠ .busy ∧ (merge (σ ++ [.defd, lp T f tm .ready]) m σc')[σ.length + 1]? = some (.loop st none fn' tml ps' as' bd') ∧
      AW P f none n T' (V.killL (movedB m σc') tm) ((merge (σ ++ [.defd, lp T f tm .ready]) m σc').set (σ.length + 1) (.loop .exhausted none fn' tml ps' as' bd')) (σ.length :: df) Q) :
    AW P f none n T tm σ df Q := by
  subst hT
  unfold isRange at ht
  split at ht
  · refine AW.rangeFunc m cargs σc hF hc hx hargs hbel hwi fun r σc' hq => ?_
    obtain ⟨v, st, tml, ps', as', bd', fn', h1, h2, h3, h4⟩ := hk r σc' hq
    exact ⟨v, st, none, tml, ps', as', bd', fn', h1, h2, h3, h4⟩
  · cases ht
theorem AW.yieldH {o : Oper} {x : Operand} {args : Array Operand} {ts : Array TypeId} {l : Nat} {st : LoopState} {pend : Option Code} {fn : FuncId} {tml : List V} {ps : Array Tmp} {as bd : Code} {Qr : AE → Store → Prop} {R : List Item}
    (hi : opOf T = some o) (hw : wantA (opsOf T) o tm = some true) (ho : o.op = .call { callee := .value x, args, argTypes := ts }) (hT : tlOf T = T') (hx : ev tm x = .yield l) (hl : σ[l]? = some (.loop st pend fn tml ps as bd)) (hps : args.size = ps.size)
    (hR : [.code as, .beginRound, .code bd] = R) (hr : AW P fn (some l) σ.length R (roundTm tml ps.toList (args.toList.map (ev tm))) σ [] Qr)
    (hk : ∀ r σ', Qr r σ' → ∃ v, r = .ret v ∧ AW P f ro n T' (put (V.killL (mvB σ') tm) o.dst v) σ' df Q) : AW P f ro n T tm σ df Q := by
  subst hT hR
  unfold opOf at hi
  split at hi
  · rename_i ops i r k
    exact .yield hi hw ho hx hl hps hr hk
  · cases hi
theorem AW.retD {fn : Func} {c : Code} {v : V} (hF : Fnc P f fn c) (hT : isRet T = true) (hd : nodupB df = true ∧ (df.all fun l => Nat.ble n l) = true) (hs : df.foldl (fun s l => s.set l .dead) σ = σ') (hres : resA P fn tm σ' = some v) (hq : Q (.ret v) σ') : AW P f none n T tm σ df Q := by
  subst hs
  unfold isRet at hT
  split at hT
  · exact .ret hF hd hres hq
  · cases hT
/-- A region whose order is drawn: two operations in either order. -/
theorem AW.draw2H (c : List Nat) (a b : Nat) (M1 M2 : List Nat) (hm : P.follows .mixedOrders = true) (ht : isDraw T = true)
    (hok : (edgesB (drawOf T) && orderB (drawOf T) c [(a, b)] M1 && orderB (drawOf T) c [(b, a)] M2 && Nat.blt a (drawOf T).size && Nat.blt b (drawOf T).size && !(Nat.beq a b)) = true) (hT : cgo 1 [] T = T')
    (run1 : ∀ k, Run (StepQ P f ro n k df Q (drawOf T) c) M1 (tm, σ) (tm', σ')) (run2 : ∀ k, Run (StepQ P f ro n k df Q (drawOf T) c) M2 (tm, σ) (tm', σ')) (h : AW P f ro n T' tm' σ' df Q) : AW P f ro n T tm σ df Q := by
  subst hT
  simp only [Bool.and_eq_true, Nat.blt_eq, Bool.not_eq_true'] at hok
  obtain ⟨⟨⟨⟨⟨h1, h2⟩, h3⟩, h4⟩, h5⟩, h6⟩ := hok
  have hne : a ≠ b := fun e => by subst e; simp at h6
  unfold isDraw at ht
  split at ht
  · refine .order hm h1 fun L hL => ?_
    rcases ahead_or hL a b h4 h5 hne with hh | hh
    · exact .among hL c [(a, b)] M1 (fun p hp => by simp at hp; subst hp; exact hh) h2 (run1 _) (.regionEnd h)
    · exact .among hL c [(b, a)] M2 (fun p hp => by simp at hp; subst hp; exact hh) h3 (run2 _) (.regionEnd h)
  · cases ht
theorem AW.beginL {T0 : List Item} {l : Nat} {fn : FuncId} {tml : List V} (hb : isBegin T = true) (hT : cgo 1 [] T = T') (hl : σ[l]? = some (lp T0 fn tml .ready)) (hs : σ.set l (lp T0 fn tml .busy) = σ')
    (h : AW P f (some l) n T' tm σ' df Q) : AW P f (some l) n T tm σ df Q := by
  subst hs; exact .beginH hb hT hl h
theorem AW.roundEndL {T0 : List Item} {l : Nat} {fn : FuncId} {tml : List V} {st : LoopState} (hT : T = []) (hl : σ[l]? = some (lp T0 fn tml st)) (hs : σ.set l (lp T0 fn tml .ready) = σ')
    (hq : Q (.ret (.d (.bool true))) σ') : AW P f (some l) n T tm σ df Q := by
  subst hs; exact .roundEndH hT hl hq
theorem AW.yieldL {T0 : List Item} {o : Oper} {x : Operand} {args : Array Operand} {ts : Array TypeId} {l : Nat} {st : LoopState} {fn : FuncId} {tml tmr : List V} {Qr : AE → Store → Prop} {R : List Item}
    (hi : opOf T = some o) (hw : wantA (opsOf T) o tm = some true) (ho : o.op = .call { callee := .value x, args, argTypes := ts }) (hT : tlOf T = T') (hx : ev tm x = .yield l) (hl : σ[l]? = some (lp T0 fn tml st)) (hps : args.size = (rfPs T0).size)
    (hR : [.code (rfAs T0), .beginRound, .code (rfBd T0)] = R) (htm : roundTm tml (rfPs T0).toList (args.toList.map (ev tm)) = tmr) {N : Nat} (hN : σ.length = N) (hr : AW P fn (some l) N R tmr σ [] Qr)
    (hk : ∀ r σ', Qr r σ' → ∃ v, r = .ret v ∧ AW P f ro n T' (put (V.killL (mvB σ') tm) o.dst v) σ' df Q) : AW P f ro n T tm σ df Q := by
  subst htm hN
  exact .yieldH hi hw ho hT hx hl hps hR hr hk
/-- What is left behind of a callee that hands back data. -/
theorem CallsA.pure {g : FuncId} {args : List V} {v : V} (h : CallsA P g args [] fun r _ => r = .ret v) (hl : v.locs = []) : Pure P g args v := by
  intro w I ρ xs hx hO
  refine (h w I ρ xs hx hO).mono ?_
  rintro e w' ⟨I', ρ', σ', r, rfl, ⟨x, he, hv⟩, hO', hE⟩
  refine ⟨I', ρ', [], _, ⟨rfl, rfl⟩, ⟨x, he, vr_up (fun b hb => ⟨hb, rfl⟩) v x (fun l hl' => by rw [hl] at hl'; cases hl') hv⟩, ⟨fun l o h => by simp at h, fun l l' L L' h => by obtain ⟨o, h, _⟩ := h; simp at h, fun b h => by obtain ⟨l, o, L, h, _⟩ := h; simp at h, fun b hb => ⟨(hO'.imm b hb).1, fun h => by obtain ⟨l, o, L, h, _⟩ := h; simp at h⟩⟩, ?_⟩
  exact ⟨hE.size, hE.os, hE.tape, hE.output, hE.old, hE.immI, hE.immN, fun b h => by obtain ⟨l, o, L, h, _⟩ := h; simp at h, Nat.le_refl _, fun l hl => by simp at hl, fun l o' hl => by simp at hl, fun l o hl => by simp at hl⟩
/-- A new variable that holds a nil slice. -/
theorem allocNil_ok {o : Oper} {t : TypeId} (ho : o.op = .alloc t) (hz : (P.info? t).bind (·.zero) = some (.slice none 0 0)) : OpOk P o tm σ (.ptr σ.length 0 0) tm (σ ++ [.cells [.nils]]) := by
  intro w I ρ a hr hO
  cases hi : P.info? t with
  | none => simp [hi] at hz
  | some i =>
    rw [hi, Option.bind_some] at hz
    have hc : (Value.slice none 0 0).cells = #[.slice none 0 0] := rfl
    exact newCells_ok (t := t) (cs := #[.slice none 0 0]) hr hO (by simp [vrL, vr]) (by simp [one, Value.oneCell']) (by simp [execOp, ho, Instr.alloc, zeroValue, typeInfo, hi, hz, newVar, newRow, hc])
/-- A nil slice in a slot, told as a row that is not laid yet. -/
theorem AW.virtT (i sz : Nat) (hi : tm[i]? = some .nils) (h : AW P f ro n T (tm.set i (.row σ.length)) (σ ++ [.row sz [] false]) df Q) : AW P f ro n T tm σ df Q := by
  intro w I ρ a rb hr hb hn
  have hO := hr.ors
  let σ2 : Store := σ ++ [.row sz [] false]
  let ρ2 : LM := fun x => if x = σ.length then none else ρ x
  have hlen : σ2.length = σ.length + 1 := by simp [σ2]
  have g1 : ∀ x, x < σ.length → σ2[x]? = σ[x]? := fun x hx => List.getElem?_append_left hx
  have g3 : σ2[σ.length]? = some (.row sz [] false) := by
    show (_ ++ _)[σ.length]? = _
    rw [List.getElem?_append_right (by omega)]
    simp
  have g4 : ∀ x, x < σ.length → ρ2 x = ρ x := fun x hx => by show (if _ then _ else _) = _; rw [if_neg (by omega)]
  have hS : ∀ x, x < σ.length → Same ρ σ ρ2 σ2 x := fun x hx => ⟨by omega, fun o' h1 h2 => ⟨g4 x hx, o', by rw [← g1 x hx]; exact h1, h2, rfl⟩⟩
  have hI : ∀ b, I b → I b ∧ w.heap[b]? = w.heap[b]? := fun b hb => ⟨hb, rfl⟩
  have cases3 : ∀ x o, σ2[x]? = some o → x = σ.length ∧ o = .row sz [] false ∨ x < σ.length ∧ σ[x]? = some o := by
    intro x o hx
    have hxl : x < σ2.length := (List.getElem?_eq_some_iff.1 hx).1
    by_cases h1 : x = σ.length
    · subst h1
      rw [g3] at hx; cases hx
      exact .inl ⟨rfl, rfl⟩
    · have h2 : x < σ.length := by omega
      exact .inr ⟨h2, by rw [← g1 x h2]; exact hx⟩
  have hfoot : ∀ b, foot ρ2 σ2 b → foot ρ σ b := by
    rintro b ⟨x, o, L, h1, h2, h3, h4⟩
    rcases cases3 x o h1 with ⟨rfl, rfl⟩ | ⟨hx, h5⟩
    · simp [ρ2] at h3
    · rw [g4 x hx] at h3
      exact ⟨x, o, L, h5, h2, h3, h4⟩
  have hO2 : ORel w I ρ2 σ2 := by
    refine ⟨fun x o hx => ?_, fun x y L L' hv hv' hL hL' hb => ?_, fun b hb => hO.flt b (hfoot b hb), fun b hb => ⟨(hO.imm b hb).1, fun h => (hO.imm b hb).2 (hfoot b h)⟩⟩
    · rcases cases3 x o hx with ⟨rfl, rfl⟩ | ⟨h2, h5⟩
      · simp only [orel]
        exact .inl ⟨by simp [ρ2], trivial⟩
      · by_cases hd : o = .dead
        · subst hd; simp [orel]
        · exact orel_all hI hS (g4 x h2) (fun L hL => rfl) (hO.objs x o h5)
    · obtain ⟨o, h1, h2⟩ := hv
      obtain ⟨o', h1', h2'⟩ := hv'
      rcases cases3 x o h1 with ⟨rfl, rfl⟩ | ⟨hx, h5⟩
      · simp [ρ2] at hL
      · rcases cases3 y o' h1' with ⟨rfl, rfl⟩ | ⟨hy, h7⟩
        · simp [ρ2] at hL'
        · rw [g4 x hx] at hL
          rw [g4 y hy] at hL'
          exact hO.inj x y L L' ⟨o, h5, h2⟩ ⟨o', h7, h2'⟩ hL hL' hb
  have hE : Ext σ.length w I ρ σ w I ρ2 σ2 := by
    refine ⟨Nat.le_refl _, rfl, rfl, rfl, fun _ _ _ => rfl, fun b hb => hb, fun b hb => .inl hb, fun b hb => .inl (hfoot b hb), by omega, fun x hx ⟨o, h1, h2⟩ => ?_, fun x o' hx h1 h2 => ?_, fun x o hx h1 h2 => ?_⟩
    · exact ⟨o, by rw [← g1 x hx]; exact h1, h2⟩
    · exact ⟨g4 x hx, o', by rw [← g1 x hx]; exact h1, h2, rfl⟩
    · exact ⟨o, by rw [g1 x hx]; exact h1, rfl⟩
  have hst := hE.stays
  obtain ⟨y, hy, hyv⟩ := vrL_get? hr.tms hi
  have k8 : vr w I ρ2 σ2 (.row σ.length) y := by
    simp only [vr] at hyv ⊢
    subst hyv
    refine ⟨rfl, by omega, fun sz' xs mv hx => ?_⟩
    rw [g3] at hx; cases hx
    exact .inl ⟨rfl, none, rfl⟩
  have k9 := vrL_set (vrL_all hI hS hr.tms) i k8
  rw [show a.tmps.toList.set i y = a.tmps.toList from by
    apply List.ext_getElem?
    intro j
    by_cases hj : j = i
    · subst hj
      rw [List.getElem?_set_self (List.getElem?_eq_some_iff.1 hy).1, hy]
    · rw [List.getElem?_set_ne (Ne.symm hj)]] at k9
  exact (h w I ρ2 a rb ⟨k9, hO2, dfr_stay hst hr.dfs⟩ (rbOf_stay hst hb) (by show n ≤ σ2.length; omega)).mono fun e w' hf => hf.trans (hE.less hn)
/-- What a callee made and hands back, as data. -/
theorem CallsA.view {g : FuncId} {args : List V} {v : V} {d : D} {σ0 : Store} (h : CallsA P g args [] fun r σ' => r = .ret v ∧ σ' = σ0) (hv : viewV σ0 v = some d) : Pure P g args (.d d) := by
  intro w I ρ xs hx hO
  refine (h w I ρ xs hx hO).mono ?_
  rintro e w' ⟨I', ρ', σ', r, ⟨rfl, rfl⟩, ⟨x, he, hx'⟩, hO', hE⟩
  refine ⟨lent I' ρ' σ', ρ', [], _, ⟨rfl, rfl⟩, ⟨x, he, by simp only [vr]; exact view_ok hO' hv hx'⟩, lent_orel hO', ?_⟩
  refine ⟨hE.size, hE.os, hE.tape, hE.output, hE.old, fun b hb => .inl (hE.immI b hb), fun b hb => ?_, fun b h => by obtain ⟨l, o, L, h, _⟩ := h; simp at h, Nat.le_refl _, fun l hl => by simp at hl, fun l o' hl => by simp at hl, fun l o hl => by simp at hl⟩
  rcases hb with hb | hb
  · exact hE.immN b hb
  · rcases hE.footN b hb with h | h
    · exact .inr (.inl h)
    · exact .inr (.inr h)
theorem freeze_self {w : World} {g : Nat} {C : Array Value} {T : TypeId} {fz : Nat × Nat} (h : w.heap[g]? = some (.cells C T fz)) (m k : Nat) (hk : k ≠ 0) :
    (w.freeze ⟨g, m, none⟩ k).heap[g]? = some (.cells C T (if fz.1 == fz.2 then (m, m + k) else (min fz.1 m, max fz.2 (m + k)))) := by
  obtain ⟨lo, hi⟩ := fz
  have hlt : g < w.heap.size := (Array.getElem?_eq_some_iff.1 h).1
  simp only [World.freeze, hk, if_false]
  rw [Array.getElem?_modify, if_pos rfl, h]
  rfl
theorem freeze_other {w : World} {g b : Nat} (h : b ≠ g) (m k : Nat) : (w.freeze ⟨g, m, none⟩ k).heap[b]? = w.heap[b]? := by
  unfold World.freeze
  split
  · rfl
  · simp only []
    rw [Array.getElem?_modify, if_neg (Ne.symm h)]
theorem freeze_size {w : World} {a : Addr} {k : Nat} : (w.freeze a k).heap.size = w.heap.size := by
  unfold World.freeze; split <;> simp
theorem freeze_rest {w : World} {a : Addr} {k : Nat} : (w.freeze a k).os = w.os ∧ (w.freeze a k).tape = w.tape ∧ (w.freeze a k).output = w.output := by
  unfold World.freeze; split <;> exact ⟨rfl, rfl, rfl⟩
section cell
variable {w w' : World} {I : Nat → Prop} {ρ : LM} {σ : Store}
mutual
theorem Dr_cell (h : ∀ b, I b → ∀ o, w'.cell? ⟨b, o, none⟩ = w.cell? ⟨b, o, none⟩) : ∀ d v, Dr w I d v → Dr w' I d v
  | .int _ _, _, hd => by simpa [Dr] using hd
  | .bool _, _, hd => by simpa [Dr] using hd
  | .str _, _, hd => by simpa [Dr] using hd
  | .raw _, _, hd => by simpa [Dr] using hd
  | .agg cs, v, hd => by
    simp only [Dr] at hd ⊢
    obtain ⟨vs, hv, hl⟩ := hd
    exact ⟨vs, hv, DrL_cell h cs vs hl⟩
  | .list sz xs, v, hd => by
    simp only [Dr] at hd ⊢
    obtain ⟨a, cap, hv, h1, h2, h3⟩ := hd
    refine ⟨a, cap, hv, h1, h2, h3.imp id ?_⟩
    rintro ⟨b, o, ha, hI, hE⟩
    exact ⟨b, o, ha, hI, DrE_cell h sz b (h b hI) o xs hE⟩
theorem DrL_cell (h : ∀ b, I b → ∀ o, w'.cell? ⟨b, o, none⟩ = w.cell? ⟨b, o, none⟩) : ∀ ds vs, DrL w I ds vs → DrL w' I ds vs
  | [], vs, hd => by simpa [DrL] using hd
  | d :: ds, vs, hd => by
    simp only [DrL] at hd ⊢
    obtain ⟨v, vs', hv, h1, h2, h3⟩ := hd
    exact ⟨v, vs', hv, h1, Dr_cell h d v h2, DrL_cell h ds vs' h3⟩
theorem DrE_cell (h : ∀ b, I b → ∀ o, w'.cell? ⟨b, o, none⟩ = w.cell? ⟨b, o, none⟩) (sz b : Nat) (hb : ∀ o, w'.cell? ⟨b, o, none⟩ = w.cell? ⟨b, o, none⟩) : ∀ o ds, DrE w I sz b o ds → DrE w' I sz b o ds
  | _, [], _ => by simp [DrE]
  | o, d :: ds, hd => by
    simp only [DrE] at hd ⊢
    obtain ⟨⟨v, h1, h2, h3⟩, h4⟩ := hd
    exact ⟨⟨v, Dr_cell h d v h1, h2, fun j hj => by rw [hb]; exact h3 j hj⟩, DrE_cell h sz b hb (o + sz) ds h4⟩
end
mutual
theorem vr_cell (h : ∀ b, I b → ∀ o, w'.cell? ⟨b, o, none⟩ = w.cell? ⟨b, o, none⟩) : ∀ (v : V) (x : Value), vr w I ρ σ v x → vr w' I ρ σ v x
  | .d d, x, hv => by simp only [vr] at *; exact Dr_cell h d x hv
  | .undef, x, _ => by simp [vr]
  | .nils, x, hv => by simpa [vr] using hv
  | .ex sz xs, x, hv => by
    simp only [vr] at *
    obtain ⟨a, h1, h2⟩ := hv
    exact ⟨a, h1, Dr_cell h _ _ h2⟩
  | .ep sz y s, x, hv => by
    simp only [vr] at *
    obtain ⟨b, o, h1, h2, u, h3, h4, h5⟩ := hv
    exact ⟨b, o, h1, h2, u, Dr_cell h _ _ h3, h4, fun j hj => by rw [h b h2]; exact h5 j hj⟩
  | .ptr _ _ _, x, hv => by simpa [vr] using hv
  | .row _, x, hv => by simpa [vr] using hv
  | .sl _ _ _ _, x, hv => by simpa [vr] using hv
  | .yield _, x, hv => by simpa [vr] using hv
  | .fn f a b, x, hv => by
    simp only [vr] at *
    obtain ⟨fs, cs, e, h1, h2⟩ := hv
    exact ⟨fs, cs, e, vrL_cell h a fs h1, vrL_cell h b cs h2⟩
  | .tuple vs, x, hv => by
    simp only [vr] at *
    obtain ⟨xs, e, h1⟩ := hv
    exact ⟨xs, e, vrL_cell h vs xs h1⟩
  | .agg vs, x, hv => by
    simp only [vr] at *
    obtain ⟨xs, e, h1, h2⟩ := hv
    exact ⟨xs, e, vrL_cell h vs xs h1, h2⟩
theorem vrL_cell (h : ∀ b, I b → ∀ o, w'.cell? ⟨b, o, none⟩ = w.cell? ⟨b, o, none⟩) : ∀ (vs : List V) (xs : List Value), vrL w I ρ σ vs xs → vrL w' I ρ σ vs xs
  | [], xs, hv => by simpa [vrL] using hv
  | v :: vs, xs, hv => by
    simp only [vrL] at *
    obtain ⟨x, xs', e, h1, h2⟩ := hv
    exact ⟨x, xs', e, vr_cell h v x h1, vrL_cell h vs xs' h2⟩
end
theorem orel_cell (h : ∀ b, I b → ∀ o, w'.cell? ⟨b, o, none⟩ = w.cell? ⟨b, o, none⟩) {l : Nat} {o : O} (hh : ∀ L, ρ l = some L → w'.heap[L.b]? = w.heap[L.b]?) (ho : orel w I ρ σ l o) : orel w' I ρ σ l o := by
  cases o with
  | dead => simp [orel]
  | cells cs =>
    simp only [orel] at *
    obtain ⟨L, C, T, fz, h1, h2, h3, h4, h5, h6⟩ := ho
    exact ⟨L, C, T, fz, h1, h2, by rw [hh L h1]; exact h3, h4, vrL_cell h _ _ h5, h6⟩
  | row sz xs mv =>
    simp only [orel] at *
    rcases ho with ho | ⟨L, C, T, fz, h1, h2, h3, h4, h5, h6, h7, h8⟩
    · exact .inl ho
    · refine .inr ⟨L, C, T, fz, h1, h2, by rw [hh L h1]; exact h3, h4, h5, h6, h7, ?_⟩
      exact DrE_cell h sz L.b (fun o => by simp only [World.cell?, hh L h1]) _ _ h8
  | map es =>
    simp only [orel] at *
    obtain ⟨L, E, n, h1, h2, h3, h4, h5, h6⟩ := ho
    refine ⟨L, E, n, h1, h2, by rw [hh L h1]; exact h3, h4, fun j e hj => ?_, h6⟩
    obtain ⟨g1, x, g2, g3, g4⟩ := h5 j e hj
    exact ⟨g1, x, g2, g3, Dr_cell h _ _ g4⟩
  | loop st pend fn tm params assign body =>
    simp only [orel] at *
    obtain ⟨L, tmps, db, h1, h2, h3⟩ := ho
    exact ⟨L, tmps, db, h1, by rw [hh L h1]; exact h2, vrL_cell h _ _ h3⟩
  | defd =>
    simp only [orel] at *
    obtain ⟨L, h1, h2⟩ := ho
    exact ⟨L, h1, by rw [hh L h1]; exact h2⟩
end cell

/-- A row of bytes, converted to its own type: it is data from then on (what lies behind it is marked). -/
theorem AW.conv {i : Nat} {rest : List Nat} {ops : Array Oper} {o : Oper} {t e : TypeId} {x : Operand} {l sz : Nat} {xs : List D} {mv : Bool} {k : List Item} (hi : ops[i]? = some o) (hw : wantA ops o tm = some true) (ho : o.op = .convert t t x) (hu : P.underlying t = some (.slice e)) (he : P.underlying e = some (.int .u8)) (hx : ev tm x = .row l) (hl : σ[l]? = some (.row sz xs mv)) (h0 : 0 < xs.length)
    (h : AW P f ro n (.inRegion ops rest :: k) (put (V.frzL l sz xs tm) o.dst (.d (.list sz xs))) ((σ.map (O.frz l sz xs)).set l .dead) df Q) : AW P f ro n (.inRegion ops (i :: rest) :: k) tm σ df Q := by
  intro w I ρ a rb hr hb hn
  have hO := hr.ors
  have hxr := vr_ev hr.tms x
  rw [hx] at hxr
  have hxr0 := hxr
  simp only [vr] at hxr
  have hrv := hxr.2.2 _ _ _ hl
  have hob := hO.objs l _ hl
  simp only [orel] at hob
  rcases hob with ⟨_, hnil⟩ | ⟨L, C, T, fz, hL, hsz, hh, hth, hC, hle, hcap, hE⟩
  · rw [hnil] at h0; simp at h0
  rcases hrv with ⟨hz, _⟩ | ⟨L', hL', hoff, hv⟩
  · omega
  rw [hL] at hL'; cases hL'
  have hlt : l < σ.length := (List.getElem?_eq_some_iff.1 hl).1
  let w' := w.freeze ⟨L.b, C.size, none⟩ 1
  have hrun : (execOp a.eval o).run P w = .ok (.value (a.eval x)) w' := by
    have hm : (markStringish ⟨L.b, L.o + 0 * L.sz, none⟩).run P w = .ok () w' := by
      simp only [markStringish, shape, Sem.run_bind, Sem.run, World.shape?, hh, Result.andThen]
      rfl
    simp only [execOp, ho, convert, Sem.run_bind, run_underlying hu, Result.andThen_ok, hv, beq_self_eq_true, run_underlying he, hm, Sem.run_pure]
  -- first it is laid to rest
  obtain ⟨htm, hO2, hX, hfx⟩ := freeze_core (w := w) hO hl hr.tms
  have hxd : Dr w (Iadd I ρ l) (.list sz xs) (a.eval x) := by
    have := vr_frz hO hl _ _ hxr0
    simp only [V.frz, Nat.beq_refl, if_true, vr] at this
    exact this
  -- then it is marked
  have hc : ∀ b o, w'.cell? ⟨b, o, none⟩ = w.cell? ⟨b, o, none⟩ := by
    intro b o
    by_cases hb : b = L.b
    · subst hb
      simp only [World.cell?, hh, w', freeze_self hh C.size 1 (by omega)]
    · simp only [World.cell?, w', freeze_other hb]
  have hc' : ∀ b, Iadd I ρ l b → ∀ o, w'.cell? ⟨b, o, none⟩ = w.cell? ⟨b, o, none⟩ := fun b _ o => hc b o
  have hfoot : ∀ b, foot ρ ((σ.map (O.frz l sz xs)).set l .dead) b → b ≠ L.b := fun b hb e => (hO2.imm b (.inr ⟨L, hL, e.symm⟩)).2 hb
  have hO3 : ORel w' (Iadd I ρ l) ρ ((σ.map (O.frz l sz xs)).set l .dead) := by
    refine ⟨fun y o1 h1 => ?_, hO2.inj, fun b hb => ?_, fun b hb => ?_⟩
    · by_cases hd : o1 = .dead
      · subst hd; simp [orel]
      · exact orel_cell hc' (fun X hX => freeze_other (hfoot _ ⟨y, o1, X, h1, hd, hX, rfl⟩) _ _) (hO2.objs y o1 h1)
    · have := hO2.flt b hb; rw [show w'.heap.size = w.heap.size from freeze_size]; exact this
    · have := hO2.imm b hb; rw [show w'.heap.size = w.heap.size from freeze_size]; exact this
  have hX3 : Ext σ.length w I ρ σ w' (Iadd I ρ l) ρ ((σ.map (O.frz l sz xs)).set l .dead) := by
    refine ⟨by rw [show w'.heap.size = w.heap.size from freeze_size]; exact Nat.le_refl _, freeze_rest.1, freeze_rest.2.1, freeze_rest.2.2, fun b hb hf => freeze_other (fun e => hf ⟨l, _, L, hl, by simp, hL, e.symm⟩) _ _, hX.immI, hX.immN, hX.footN, hX.len, hX.alive, hX.fixed, hX.stay⟩
  have hst := hX3.stays
  have := h w' (Iadd I ρ l) ρ (a.put o.dst (a.eval x)) rb ⟨vrL_put (vrL_cell hc' _ _ htm) o.dst (by simp only [vr]; exact Dr_cell hc' _ _ hxd), hO3, by rw [put_defers]; exact dfr_stay hst hr.dfs⟩ (rbOf_stay hst hb) (by simpa using hn)
  refine .step (fun cs => st_op_value hi (wantA_ok hw hr.tms) (by simp [ho, Op.isDefer]) hrun) (this.mono fun e w' hf => hf.trans (hX3.less hn))
theorem AW.convH {o : Oper} {t e : TypeId} {x : Operand} {l sz : Nat} {xs : List D} {mv : Bool} (ho : opOf T = some o) (hw : wantA (opsOf T) o tm = some true) (hT : tlOf T = T') (hop : o.op = .convert t t x) (hu : P.underlying t = some (.slice e)) (he : P.underlying e = some (.int .u8)) (hx : ev tm x = .row l) (hl : σ[l]? = some (.row sz xs mv)) (h0 : 0 < xs.length)
    (h : AW P f ro n T' (put (V.frzL l sz xs tm) o.dst (.d (.list sz xs))) ((σ.map (O.frz l sz xs)).set l .dead) df Q) : AW P f ro n T tm σ df Q := by
  subst hT
  unfold opOf at ho
  split at ho
  · exact .conv ho hw hop hu he hx hl h0 h
  · cases ho
end
end Go.Br
