/- Part 6 of this proof. -/
import Derived.Deep.OwnRows
import Derived.Test.YtoelkgbeefoplaaM5
namespace Go.Br
open Go
variable {o : Oper} {tm : List V} {σ : Store} {v : V} {t : TypeId} {w : World} {I : Nat → Prop} {xs : List D} {c : Code} {mv : Bool} {fn : Func} {sz : Nat} {g : FuncId} {l : Nat} {i : Nat}
section
variable {P : Program} {σ : Store}
theorem ixSl_ok {x i : Operand} {l off len sz : Nat} {c : Option Nat} {k : IntKind} {n : Int} (ho : o.op = .indexAddr t x i) (hx : ev tm x = .sl l off len c) (hi : ev tm i = .d (.int k n))
   (hs : σ[l]? = some (.row sz xs mv)) (ht : elemSz P t = some sz) (h0 : 0 ≤ n) (hn : n.toNat < len) : OpOk P o tm σ (.ptr l (off + n.toNat) 0) tm σ := by
 intro w I ρ a hr hO
 have hxr := vr_ev hr x
 have hir := vr_ev hr i
 rw [hx] at hxr
 rw [hi] at hir
 simp only [vr, Dr] at hir hxr
 obtain ⟨e, inf, hu, hinf, hsz⟩ := elemSz_und ht
 have hob := hO.objs l _ hs
 simp only [orel] at hob
 obtain ⟨hle0, hrow, _⟩ := hxr.2.2 _ _ _ hs
 rcases hob with ⟨_, rfl⟩ | ⟨L, C, T, fz, hL, hLs, hh, _⟩
 · simp at hle0; omega
 rcases hrow with ⟨h3, _⟩ | ⟨L', hL', hle, he⟩
 · omega
 rw [hL] at hL'; cases hL'
 refine ⟨_, .pointer (some ⟨L.b, L.o + off * L.sz + n.toNat * sz, none⟩), w, I, ρ, ?_, .inl rfl, ?_, hr, hO, Ext.refl _ _ _ _⟩
 · have hcond : 0 ≤ n ∧ n < (len : Int) := ⟨h0, by omega⟩
   simp [execOp, ho, he, hir, Instr.indexAt, asIntOf, run_underlying hu, hcond, sizeOf, typeInfo, hinf, hsz, addr_add]
 · simp only [vr]
   exact ⟨rfl, hxr.2.1, fun _ => ⟨L, hL, by simp only [hLs, Nat.add_mul, Nat.add_zero, Nat.add_assoc]⟩⟩
theorem ixSl0_ok {x i : Operand} {l len sz : Nat} {c : Option Nat} {k : IntKind} {n : Int} (ho : o.op = .indexAddr t x i) (hx : ev tm x = .sl l 0 len c) (hi : ev tm i = .d (.int k n))
  (hs : σ[l]? = some (.row sz xs mv)) (ht : elemSz P t = some sz) (h0 : 0 ≤ n) (hn : n.toNat < len) : OpOk P o tm σ (.ptr l n.toNat 0) tm σ := by
 have := ixSl_ok (P := P) ho hx hi hs ht h0 hn
 rwa [Nat.zero_add] at this
end
end Go.Br
namespace Go.Br
open Go Go.MapKept
variable {o : Oper} {tm : List V} {σ : Store} {v : V} {t : TypeId} {w : World} {I : Nat → Prop} {xs : List D} {c : Code} {mv : Bool} {fn : Func} {sz : Nat} {g : FuncId} {l : Nat} {i : Nat}
section
variable {P : Program} {tm : List V} {σ : Store} {o : Oper}
theorem lookupF_ok {t kt et : TypeId} {kd : TypeDesc} {m k : Operand} {es : List (Value × D)} {dk dz d0 : D} {kv zv : Value} (ho : o.op = .lookup t m k false) (hu : P.underlying t = some (.map kt et)) (hkd : P.underlying kt = some kd)
  (hm : ev tm m = .map l) (hl : σ[l]? = some (.map es)) (hk : ev tm k = .d dk) (hkv : keyV dk = some kv) (hz : (P.info? et).bind (·.zero) = some zv) (hzd : keyV dz = some zv) (hik : IsKey kd kv) (hes : keysOk kd es) (hf : mapFind kv es = some d0) :
  OpOk P o tm σ (.d d0) tm σ := by
 have := lookup_ok (P := P) (ok := false) ho hu hkd hm hl hk hkv hz hzd hik hes
 rwa [hf] at this
end
section
variable {P : Program} {w : World} {I : Nat → Prop} {ρ : LM} {σ : Store}
theorem newData {e : TypeId} {ds : List D} {C : Array Value} {a : Act} {sz cap : Nat} (hr : vrL w I ρ σ tm a.tmps.toList) (hO : ORel w I ρ σ) (hle : ds.length ≤ cap) (hcap : cap ≤ maxLen)
   (hd : DrE (w.alloc (.cells C e)) I sz w.heap.size 0 ds)
   (hrun : (execOp a.eval o).run P w = .ok (.value (.slice (some ⟨w.heap.size, 0, none⟩) ds.length cap)) (w.alloc (.cells C e))) :
   ∃ nx x w' I' ρ', (execOp a.eval o).run P w = .ok nx w' ∧ (nx = .value x ∨ nx = .skip ∧ x = undef) ∧ vr w' I' ρ' σ (.d (.list sz ds)) x ∧ vrL w' I' ρ' σ tm a.tmps.toList ∧ ORel w' I' ρ' σ ∧ Ext σ.length w I ρ σ w' I' ρ' σ := by
 have hold : ∀ b, b < w.heap.size → (w.alloc (.cells C e)).heap[b]? = w.heap[b]? := fun b hb => heap_alloc_old _ _ _ hb
 have hsz : (w.alloc (.cells C e)).heap.size = w.heap.size + 1 := by simp
 have hI : ∀ b, I b → (I b ∨ b = w.heap.size) ∧ (w.alloc (.cells C e)).heap[b]? = w.heap[b]? := fun b hb => ⟨.inl hb, hold b (hO.imm b hb).1⟩
 have hS : ∀ x, x < σ.length → Same ρ σ ρ σ x := fun x hx => ⟨hx, fun o' h1 h2 => ⟨rfl, o', h1, h2, rfl⟩⟩
 refine ⟨_, _, _, (fun b => I b ∨ b = w.heap.size), ρ, hrun, .inl rfl, ?_, vrL_all hI hS hr, ?_, ?_⟩
 · simp only [vr, Dr]
   exact ⟨_, cap, rfl, hle, hcap, .inr ⟨_, 0, rfl, .inr rfl, DrE_mono (fun b hb => ⟨.inl hb, rfl⟩) _ _ rfl _ _ hd⟩⟩
 · refine ⟨fun l o h => ?_, hO.inj, fun b hb => by rw [hsz]; have := hO.flt b hb; omega, fun b hb => ?_⟩
   · by_cases hd : o = .dead
     · subst hd; simp [orel]
     · exact orel_all hI hS rfl (fun L hL => hold _ (hO.flt _ ⟨l, o, L, h, hd, hL, rfl⟩)) (hO.objs l o h)
   · rw [hsz]
     rcases hb with hb | rfl
     · exact ⟨by have := (hO.imm b hb).1; omega, (hO.imm b hb).2⟩
     · exact ⟨by omega, fun h => by have := hO.flt _ h; omega⟩
 · refine ⟨by rw [hsz]; omega, rfl, rfl, rfl, fun b hb _ => hold b hb, fun b hb => .inl hb, fun b hb => ?_, fun b hb => .inl hb, Nat.le_refl _, fun _ _ h => h, fun l o _ h hf => ⟨rfl, o, h, hf, rfl⟩, fun l o _ h _ => ⟨o, h, rfl⟩⟩
   rcases hb with hb | rfl
   · exact .inl hb
   · exact .inr (.inr (Nat.le_refl _))
theorem drE_same {b e : Nat} {C : Array Value} {z : Value} {dz : D} (hz : keyV dz = some z) (hc : ∀ j, j < C.size → C[j]? = some z) : ∀ (n o : Nat), o + n ≤ C.size → b = w.heap.size → DrE (w.alloc (.cells C e)) I 1 b o (List.replicate n dz)
 | 0, o, _, _ => by simp [DrE]
 | n + 1, o, h, hb => by
   subst hb
   rw [List.replicate_succ]
   simp only [DrE]
   have hz1 : z.cells = #[z] := by cases dz <;> simp_all [keyV] <;> subst hz <;> rfl
   refine ⟨⟨z, keyV_dr hz, by simp [hz1], fun j hj => ?_⟩, drE_same hz hc n (o + 1) (by omega) rfl⟩
   have hj0 : j = 0 := by omega
   subst hj0
   rw [World.cell?_alloc_new, hc _ (by omega), hz1]
   rfl
theorem makeD_ok {l c : Operand} {t e : TypeId} {z : Value} {dz : D} {bytes n : Nat} {kl kc : IntKind} (ho : o.op = .makeSlice t l c) (ht : P.underlying t = some (.slice e)) (hinfo : (P.info? e).map (fun i => (i.zero, i.size, i.bytes)) = some (some z, 1, bytes))
   (hdz : keyV dz = some z) (hl : ev tm l = .d (.int kl (n : Nat))) (hc : ev tm c = .d (.int kc (n : Nat))) (hb : bytes * n ≤ 281474976710656) (hm : n ≤ maxLen) : OpOk P o tm σ (.d (.list 1 (List.replicate n dz))) tm σ := by
 intro w I ρ a hr hO
 have hlr := vr_ev hr l
 have hcr := vr_ev hr c
 rw [hl] at hlr
 rw [hc] at hcr
 simp only [vr, Dr] at hlr hcr
 have hz1 : z.cells = #[z] := by cases dz <;> simp_all [keyV] <;> subst hdz <;> rfl
 have hrun := run_make_row' (P := P) t e z bytes ht hinfo hz1 kl kc n hb (by simp only [maxLen] at hm; omega) w
 have hlen : (List.replicate n dz).length = n := by simp
 refine newData (cap := n) (C := madeCells #[z] n) (e := e) hr hO (by omega) hm (drE_same hdz (fun j hj => ?_) n 0 (by simp [madeCells]) rfl) ?_
 · simp only [madeCells, Array.size_map, Array.size_range] at hj
   simp [madeCells, hj, Nat.mod_one]
 · rw [hlen]
   simp only [execOp, ho, hlr, hcr, Sem.run_bind, hrun, Result.andThen_ok, Sem.run_pure]
end
def setO : Nat → O → Store → Store
  | _, o, [] => [o]
  | 0, o, _ :: s => o :: s
  | i + 1, o, x :: s => x :: setO i o s
def upS (ds : List (Nat × O)) (σ : Store) : Store := ds.foldl (fun s p => setO p.1 p.2 s) σ
def upD (dt : List (Nat × V)) (tm : List V) : List V := dt.foldl (fun t p => t.set p.1 p.2) tm
def upT (l : List Nat) (dt : List (Nat × V)) (tm : List V) : List V := upD dt (keep l tm)
section
variable {P : Program} {f : FuncId} {ro : Option Nat} {n : Nat} {T T1 T2 : List Item} {tm tm' : List V} {σ σ' : Store} {df : List Nat} {Q : AE → Store → Prop}
theorem AW.sg (m : Nat) (l : List Nat) (T' : List Item) (dt : List (Nat × V)) (ds : List (Nat × O)) (h : AW P f ro n T' (upT l dt tm) (upS ds σ) df Q)
  (hs : (msteps P m T tm σ).map (fun s => (s.1, keep l s.2.1, s.2.2)) = some (T', upT l dt tm, upS ds σ) := by kernel_rfl) : AW P f ro n T tm σ df Q :=
 AW.seg m l hs h
theorem AW.sg0 (m : Nat) (l : List Nat) (T' : List Item) (dt : List (Nat × V)) (h : AW P f ro n T' (upT l dt tm) σ df Q)
  (hs : (msteps P m T tm σ).map (fun s => (s.1, keep l s.2.1, s.2.2)) = some (T', upT l dt tm, σ) := by kernel_rfl) : AW P f ro n T tm σ df Q :=
 AW.seg m l hs h
theorem AW.kp (l : List Nat) (h : AW P f ro n T (keep l tm) σ df Q) : AW P f ro n T tm σ df Q := AW.keeps l rfl h
theorem AW.if' (b : Bool) (T1 T2 : List Item) (h1 : b = true → AW P f ro n T1 tm σ df Q) (h2 : b = false → AW P f ro n T2 tm σ df Q)
  (ht : isCond T = true := by kernel_rfl) (hc : ev tm (condOf T) = .d (.bool b) := by kernel_rfl) (hT1 : cgo 1 [true] T = T1 := by kernel_rfl) (hT2 : cgo 1 [false] T = T2 := by kernel_rfl) : AW P f ro n T tm σ df Q :=
 AW.ifH ht hc hT1 hT2 h1 h2
def opT (T : List Item) : Op := ((opOf T).getD default).op
def callX (T : List Item) : Operand := match opT T with | .call { callee := .value x, .. } => x | _ => .global 0
def callA (T : List Item) : Array Operand := match opT T with | .call c => c.args | _ => #[]
def callT (T : List Item) : Array TypeId := match opT T with | .call c => c.argTypes | _ => #[]
def fstV : V → List V | .fn _ a _ => a | _ => []
def capV : V → List V | .fn _ _ b => b | _ => []
theorem AW.ca (m : List Nat) {cargs : List V} {σc : Store} {Qc : AE → Store → Prop} (T' : List Item)
  (hF : Fnc P g fn c) (hc : CallsA P g cargs σc Qc)
  (hk : ∀ r σc', Qc r σc' → ∃ v, r = .ret v ∧ AW P f ro n T' (put (V.killL (movedB m σc') tm) ((opOf T).getD default).dst (v.ren (mp m σ.length))) (merge σ m σc') df Q)
  (ho : opOf T = some ((opOf T).getD default) := by kernel_rfl) (hw : wantA (opsOf T) ((opOf T).getD default) tm = some true := by kernel_rfl) (hT : tlOf T = T' := by kernel_rfl)
  (hop : ((opOf T).getD default).op = .call { callee := .value (callX T), args := callA T, argTypes := callT T } := by kernel_rfl)
  (hx : ev tm (callX T) = .fn (.func g) (fstV (ev tm (callX T))) (capV (ev tm (callX T))) := by kernel_rfl)
  (hargs : coArgs P fn.params.toList (fstV (ev tm (callX T)) ++ (callA T).toList.map (ev tm) ++ capV (ev tm (callX T))) = V.renL (mp m σ.length) cargs := by kernel_rfl)
  (hbel : (belB σc.length σc && (V.locsL cargs).all fun l => Nat.blt l σc.length) = true := by kernel_rfl)
  (h1 : m.length = σc.length := by kernel_rfl) (h2 : nodupB m = true := by kernel_rfl) (h3 : m.map (fun l => σ[l]?) = (m.zip σc).map (fun p => some (flagged (σ.getD p.1 .dead) (p.2.ren (mp m σ.length)))) := by kernel_rfl) : AW P f ro n T tm σ df Q :=
 AW.callH m cargs σc hF hc ho hw hT hop hx hargs hbel ⟨h1, h2, h3⟩ hk
theorem AW.op' (T' : List Item) (hok : OpOk P ((opOf T).getD default) tm σ v tm' σ') (h : AW P f ro n T' (put tm' ((opOf T).getD default).dst v) σ' df Q)
  (ho : opOf T = some ((opOf T).getD default) := by kernel_rfl) (hw : wantA (opsOf T) ((opOf T).getD default) tm = some true := by kernel_rfl) (hd : Op.isDefer ((opOf T).getD default).op = false := by kernel_rfl) (hT : tlOf T = T' := by kernel_rfl) : AW P f ro n T tm σ df Q :=
 AW.opH ho hw hd hT hok h
theorem AW.su (m : List Nat) (tm' : List V) (σ' : Store) (h : AW P f none n T tm' σ' [] Q) (h1 : m.length = σ'.length := by kernel_rfl) (h2 : nodupB m = true := by kernel_rfl) (h3 : m.map (fun l => σ[l]?) = σ'.map (fun o => some (o.ren (mp m σ.length))) := by kernel_rfl)
  (h4 : tm = V.renL (mp m σ.length) tm' := by kernel_rfl) (h5 : Nat.ble n σ'.length = true := by kernel_rfl) (h6 : m.take n = List.range n := by kernel_rfl)
  (h7 : (belB σ'.length σ' && (V.locsL tm').all fun l => Nat.blt l σ'.length) = true := by kernel_rfl) : AW P f none n T tm σ [] Q :=
 AW.sub m tm' σ' none [] ⟨h1, h2, h3⟩ h4 ⟨Nat.le_of_ble_eq_true h5, h6⟩ h7 ⟨rfl, rfl⟩ ⟨rfl, rfl⟩ h
def O.up : O → O
  | .row sz xs _ => .row sz xs true
  | o => o
def upM : List Nat → Store → Store
  | [], σ => σ
  | l :: ls, σ => upM ls (match σ[l]? with | some (.row sz xs _) => σ.set l (.row sz xs true) | _ => σ)
theorem AW.raises : ∀ (ls : List Nat) {σ : Store} (_ : AW P f ro n T tm (upM ls σ) df Q), AW P f ro n T tm σ df Q
 | [], _, h => h
 | l :: ls, σ, h => by
   cases hl : σ[l]? with
   | none => exact AW.raises ls (by simpa [upM, hl] using h)
   | some o =>
     cases o with
     | row sz xs mv => exact AW.raise l hl rfl (AW.raises ls (by simpa [upM, hl] using h))
     | _ => exact AW.raises ls (by simpa [upM, hl] using h)
theorem AW.dr (T' : List Item) (dt : List (Nat × V)) (ds : List (Nat × O)) (hrun : ∀ k L, Ord (drawOf T) L → ∃ F, Run (StepF P f ro n k df Q (drawOf T) F) L (tm, σ) (upD dt tm, upS ds σ)) (h : AW P f ro n T' (upD dt tm) (upS ds σ) df Q)
  (hm : P.follows .mixedOrders = true := by kernel_rfl) (ht : isDraw T = true := by kernel_rfl) (hE : edgesB (drawOf T) = true := by kernel_rfl) (hT : cgo 1 [] T = T' := by kernel_rfl) : AW P f ro n T tm σ df Q :=
 AW.drawF hm ht hE hT hrun h
end
section
variable {P : Program} {f : FuncId} {ro : Option Nat} {n : Nat} {k : List Item} {df : List Nat} {Q : AE → Store → Prop} {ops : Array Oper} {F : List FP} {A B : List Nat} {tm : List V} {σ : Store} {s : List V × Store}
theorem Run.ap (A : List Nat) (dt : List (Nat × V)) (ds : List (Nat × O)) (h : Run (StepF P f ro n k df Q ops F) B (upD dt tm, upS ds σ) s)
  (hs : srunF P ops F A tm σ = some (upD dt tm, upS ds σ) := by kernel_rfl) : Run (StepF P f ro n k df Q ops F) (A ++ B) (tm, σ) s :=
 Run.append (srunF_ok hs) h
theorem Run.fin (hs : srunF P ops F A tm σ = some s := by kernel_rfl) : Run (StepF P f ro n k df Q ops F) A (tm, σ) s := srunF_ok (tm' := s.1) (σ' := s.2) hs
end
theorem AW.rt {P : Program} {f : FuncId} {n : Nat} {T : List Item} {Q : AE → Store → Prop} (hF : Fnc P f fn c) (v : V) (h : Q (.ret v) σ) (hT : isRet T = true := by kernel_rfl) (hr : resA P fn tm σ = some v := by kernel_rfl) : AW P f none n T tm σ [] Q := AW.retH hF hT hr h
section
variable {P : Program} {f : FuncId} {ro : Option Nat} {n : Nat} {T : List Item} {tm : List V} {σ : Store} {df : List Nat} {Q : AE → Store → Prop}
theorem AW.cd {ds : List V} (T' : List Item) (hF : Fnc P g fn c) (hc : CallsA P g ds [] fun r s => r = .ret v ∧ s = [])
  (h : AW P f ro n T' (put tm ((opOf T).getD default).dst v) σ df Q)
  (ho : opOf T = some ((opOf T).getD default) := by kernel_rfl) (hw : wantA (opsOf T) ((opOf T).getD default) tm = some true := by kernel_rfl) (hT : tlOf T = T' := by kernel_rfl)
  (hop : ((opOf T).getD default).op = .call { callee := .value (callX T), args := callA T, argTypes := callT T } := by kernel_rfl)
  (hx : ev tm (callX T) = .fn (.func g) (fstV (ev tm (callX T))) (capV (ev tm (callX T))) := by kernel_rfl)
  (hargs : coArgs P fn.params.toList (fstV (ev tm (callX T)) ++ (callA T).toList.map (ev tm) ++ capV (ev tm (callX T))) = ds := by kernel_rfl)
  (hl : (V.locsL ds).isEmpty = true := by kernel_rfl) (hv : v.locs.isEmpty = true := by kernel_rfl) (hi : (opsOf T)[ixOf T]? = some ((opOf T).getD default) := by kernel_rfl) : AW P f ro n T tm σ df Q :=
 AW.semH ho hw hT (fun _ => sem_data0 hF hc hi hop hx hargs hl hv σ) h
end
section
variable {P : Program} {f : FuncId} {ro : Option Nat} {n : Nat} {k : List Item} {df : List Nat} {Q : AE → Store → Prop} {ops : Array Oper} {F : List FP} {B : List Nat} {tm : List V} {σ : Store} {s : List V × Store}
abbrev atO (ops : Array Oper) (i : Nat) : Oper := (ops[i]?).getD default
def cX (o : Oper) : Operand := match o.op with | .call { callee := .value x, .. } => x | _ => .global 0
def cA (o : Oper) : Array Operand := match o.op with | .call c => c.args | _ => #[]
def cT (o : Oper) : Array TypeId := match o.op with | .call c => c.argTypes | _ => #[]
theorem Run.lk (i : Nat) (v : V) (xs : List Operand)
  (h : ∀ (tm' : List V) (σ2 : Store), (∀ x ∈ xs, ev tm' x = ev tm x) → (∀ l ∈ (F.getD i noFP).r, σ2[l]? = σ[l]?) → OpOk P (atO ops i) tm' σ2 v tm' σ2)
  (h' : Run (StepF P f ro n k df Q ops F) B (put tm (atO ops i).dst v, σ) s)
  (hi : ops[i]? = some (atO ops i) := by kernel_rfl) (hg : (Bool.not (F.getD i noFP).g && (F.getD i noFP).k.isEmpty) = true := by kernel_rfl) (hw : wantA ops (atO ops i) tm = some true := by kernel_rfl) (hd : Op.isDefer (atO ops i).op = false := by kernel_rfl) (hx : (atO ops i).op.operands.toList = xs := by kernel_rfl) (hok : okB (F.getD i noFP) tm σ (atO ops i) v [] = true := by kernel_rfl) : Run (StepF P f ro n k df Q ops F) (i :: B) (tm, σ) s :=
 Run.one (StepF.look xs hi rfl hg hw hd hx hok h) h'
theorem Run.cl (i : Nat) {cargs : List V} {σc σc' : Store} {vc : V} (m : List Nat) (hF : Fnc P g fn c) (hc : CallsA P g cargs σc fun r s => r = .ret vc ∧ s = σc')
  (h' : Run (StepF P f ro n k df Q ops F) B (effT (F.getD i noFP).k (atO ops i).dst (vc.ren (mp m σ.length)) tm, effS (F.getD i noFP).k (updU σ m σc') σ) s)
  (hi : ops[i]? = some (atO ops i) := by kernel_rfl) (hg : (F.getD i noFP).g = false := by kernel_rfl) (hw : wantA ops (atO ops i) tm = some true := by kernel_rfl)
  (ho : (atO ops i).op = .call { callee := .value (cX (atO ops i)), args := cA (atO ops i), argTypes := cT (atO ops i) } := by kernel_rfl)
  (hx : ev tm (cX (atO ops i)) = .fn (.func g) (fstV (ev tm (cX (atO ops i)))) (capV (ev tm (cX (atO ops i)))) := by kernel_rfl)
  (hargs : coArgs P fn.params.toList (fstV (ev tm (cX (atO ops i))) ++ (cA (atO ops i)).toList.map (ev tm) ++ capV (ev tm (cX (atO ops i)))) = V.renL (mp m σ.length) cargs := by kernel_rfl)
  (hbel : (belB σc.length σc && (V.locsL cargs).all fun l => Nat.blt l σc.length) = true := by kernel_rfl)
  (h1 : m.length = σc.length := by kernel_rfl) (h2 : nodupB m = true := by kernel_rfl) (h3 : m.map (fun l => σ[l]?) = (m.zip σc).map (fun p => some (flagged (σ.getD p.1 .dead) (p.2.ren (mp m σ.length)))) := by kernel_rfl)
  (hlen : Nat.beq σc'.length m.length = true := by kernel_rfl) (hk : movedK m σc' = (F.getD i noFP).k := by kernel_rfl) (hr : subB m (F.getD i noFP).r = true := by kernel_rfl)
  (hok : okB (F.getD i noFP) tm σ (atO ops i) (vc.ren (mp m σ.length)) (updU σ m σc') = true := by kernel_rfl) : Run (StepF P f ro n k df Q ops F) (i :: B) (tm, σ) s :=
 Run.one (StepF.call m cargs σc σc' hi rfl hg hw hF hc ho hx hargs hbel ⟨h1, h2, h3⟩ hlen hk hr rfl hok rfl rfl) h'
theorem Run.cll (i : Nat) {cargs : List V} {σc : Store} {vc : V} (m : List Nat) (hF : Fnc P g fn c) (hc : CallsA P g cargs σc fun r s => r = .ret vc ∧ s = σc)
  (h' : Run (StepF P f ro n k df Q ops F) B (put tm (atO ops i).dst (vc.ren (mp m σ.length)), σ) s)
  (hi : ops[i]? = some (atO ops i) := by kernel_rfl) (hg : (Bool.not (F.getD i noFP).g && (F.getD i noFP).k.isEmpty) = true := by kernel_rfl) (hw : wantA ops (atO ops i) tm = some true := by kernel_rfl)
  (ho : (atO ops i).op = .call { callee := .value (cX (atO ops i)), args := cA (atO ops i), argTypes := cT (atO ops i) } := by kernel_rfl)
  (hx : ev tm (cX (atO ops i)) = .fn (.func g) (fstV (ev tm (cX (atO ops i)))) (capV (ev tm (cX (atO ops i)))) := by kernel_rfl)
  (hargs : coArgs P fn.params.toList (fstV (ev tm (cX (atO ops i))) ++ (cA (atO ops i)).toList.map (ev tm) ++ capV (ev tm (cX (atO ops i)))) = V.renL (mp m σ.length) cargs := by kernel_rfl)
  (hbel : (belB σc.length σc && (V.locsL cargs).all fun l => Nat.blt l σc.length) = true := by kernel_rfl)
  (h1 : m.length = σc.length := by kernel_rfl) (h2 : nodupB m = true := by kernel_rfl) (h3 : m.map (fun l => σ[l]?) = (m.zip σc).map (fun p => some (flagged (σ.getD p.1 .dead) (p.2.ren (mp m σ.length)))) := by kernel_rfl)
  (hlen : Nat.beq σc.length m.length = true := by kernel_rfl) (hk : (movedK m σc).isEmpty = true := by kernel_rfl) (hr : subB m (F.getD i noFP).r = true := by kernel_rfl)
  (hok : okB (F.getD i noFP) tm σ (atO ops i) (vc.ren (mp m σ.length)) [] = true := by kernel_rfl) : Run (StepF P f ro n k df Q ops F) (i :: B) (tm, σ) s :=
 Run.one (StepF.callLook m cargs σc hi rfl hg hw hF hc ho hx hargs hbel ⟨h1, h2, h3⟩ hlen hk hr rfl hok) h'
end
theorem evv {tm tm' : List V} {xs : List Operand} {x : Operand} (hv : ∀ x ∈ xs, ev tm' x = ev tm x) (hx : x ∈ xs := by simp) (h : ev tm x = v := by kernel_rfl) : ev tm' x = v := (hv x hx).trans h
theorem evl {tm tm' : List V} {xs : List Operand} {x : Operand} {o : Option (Nat × List D)} (hv : ∀ x ∈ xs, ev tm' x = ev tm x) (hx : x ∈ xs := by simp) (h : listOf (ev tm x) = o := by kernel_rfl) : listOf (ev tm' x) = o := by rw [hv x hx]; exact h
theorem atr {σ σ2 : Store} {r : List Nat} {o : Option O} (hr : ∀ l ∈ r, σ2[l]? = σ[l]?) (hl : inK r l = true := by kernel_rfl) (h : σ[l]? = o := by kernel_rfl) : σ2[l]? = o := (hr l (inK_iff.1 hl)).trans h
def stp (P : Program) (m : Nat) (T : List Item) (tm : List V) (σ : Store) : List Item × List V × Store := (msteps P m T tm σ).getD ([], [], [])
section
variable {P : Program} {f : FuncId} {ro : Option Nat} {n : Nat} {T : List Item} {tm : List V} {σ : Store} {df : List Nat} {Q : AE → Store → Prop}
theorem AW.sge (m : Nat) (l : List Nat) (T' : List Item) (h : AW P f ro n T' (keep l (stp P m T tm σ).2.1) (stp P m T tm σ).2.2 df Q) (hs : (msteps P m T tm σ).isSome = true := by kernel_rfl) (hT : (stp P m T tm σ).1 = T' := by kernel_rfl) : AW P f ro n T tm σ df Q := by
  obtain ⟨s, hs'⟩ := Option.isSome_iff_exists.1 hs
  have e : stp P m T tm σ = s := by unfold stp; rw [hs']; rfl
  rw [e] at h hT
  exact AW.seg m l (T' := T') (tm' := keep l s.2.1) (σ' := s.2.2) (by rw [hs', ← hT]; rfl) h
def ptL : V → Nat | .ptr l _ _ => l | _ => 0
def ptS : V → Nat | .ptr _ _ s => s | _ => 0
def rwS (σ : Store) (l : Nat) : Nat := match σ[l]? with | some (.row sz _ _) => sz | _ => 0
def rwM (σ : Store) (l : Nat) : Bool := match σ[l]? with | some (.row _ _ m) => m | _ => false
def ldT (o : Oper) : TypeId := match o.op with | .load t _ => t | _ => 0
def ldX (o : Oper) : Operand := match o.op with | .load _ x => x | _ => .global 0
theorem AW.ld {d : D} (T' : List Item) (hd : xs[i]? = some d)
    (h : AW P f ro n T' (put tm ((opOf T).getD default).dst ((loadE P (ldT ((opOf T).getD default)) d (ptS (ev tm (ldX ((opOf T).getD default))))).getD .undef)) σ df Q)
    (ho : opOf T = some ((opOf T).getD default) := by kernel_rfl) (hw : wantA (opsOf T) ((opOf T).getD default) tm = some true := by kernel_rfl) (hT : tlOf T = T' := by kernel_rfl)
    (ho2 : ((opOf T).getD default).op = .load (ldT ((opOf T).getD default)) (ldX ((opOf T).getD default)) := by kernel_rfl)
    (hx : ev tm (ldX ((opOf T).getD default)) = .ptr (ptL (ev tm (ldX ((opOf T).getD default)))) i (ptS (ev tm (ldX ((opOf T).getD default)))) := by kernel_rfl)
    (hs : σ[ptL (ev tm (ldX ((opOf T).getD default)))]? = some (.row (rwS σ (ptL (ev tm (ldX ((opOf T).getD default))))) xs (rwM σ (ptL (ev tm (ldX ((opOf T).getD default)))))) := by kernel_rfl)
    (hv : (loadE P (ldT ((opOf T).getD default)) d (ptS (ev tm (ldX ((opOf T).getD default))))).isSome = true := by kernel_rfl) : AW P f ro n T tm σ df Q := by
  obtain ⟨v, hv'⟩ := Option.isSome_iff_exists.1 hv
  rw [hv'] at h
  exact AW.op' T' (ldRow_ok ho2 hx hs hd hv') h ho hw (by unfold Op.isDefer; rw [ho2]) hT
end
section
variable {P : Program} {f : FuncId} {ro : Option Nat} {n : Nat} {k : List Item} {df : List Nat} {Q : AE → Store → Prop} {ops : Array Oper} {F : List FP} {B : List Nat} {tm : List V} {σ : Store} {s : List V × Store}
theorem Run.cn (i : Nat) {cargs : List V} {σc σc' : Store} {vc : V} (m : List Nat) (hF : Fnc P g fn c) (hc : CallsA P g cargs σc fun r s => r = .ret vc ∧ s = σc')
    (h' : Run (StepF P f ro n k df Q ops F) B (put (V.killL (movedB m σc') tm) (atO ops i).dst (vc.ren (mp m σ.length)), merge σ m σc') s)
    (hi : ops[i]? = some (atO ops i) := by kernel_rfl) (hg : (F.getD i noFP).g = true := by kernel_rfl) (hw : wantA ops (atO ops i) tm = some true := by kernel_rfl)
    (ho : (atO ops i).op = .call { callee := .value (cX (atO ops i)), args := cA (atO ops i), argTypes := cT (atO ops i) } := by kernel_rfl)
    (hx : ev tm (cX (atO ops i)) = .fn (.func g) (fstV (ev tm (cX (atO ops i)))) (capV (ev tm (cX (atO ops i)))) := by kernel_rfl)
    (hargs : coArgs P fn.params.toList (fstV (ev tm (cX (atO ops i))) ++ (cA (atO ops i)).toList.map (ev tm) ++ capV (ev tm (cX (atO ops i)))) = V.renL (mp m σ.length) cargs := by kernel_rfl)
    (hbel : (belB σc.length σc && (V.locsL cargs).all fun l => Nat.blt l σc.length) = true := by kernel_rfl)
    (h1 : m.length = σc.length := by kernel_rfl) (h2 : nodupB m = true := by kernel_rfl) (h3 : m.map (fun l => σ[l]?) = (m.zip σc).map (fun p => some (flagged (σ.getD p.1 .dead) (p.2.ren (mp m σ.length)))) := by kernel_rfl) : Run (StepF P f ro n k df Q ops F) (i :: B) (tm, σ) s :=
  Run.one (StepF.all hi hg fun rest hn => AW.call (o := atO ops i) (x := cX (atO ops i)) (args := cA (atO ops i)) (ts := cT (atO ops i)) (first := fstV (ev tm (cX (atO ops i)))) (cap := capV (ev tm (cX (atO ops i)))) m cargs σc hF hc hi hw ho hx hargs hbel ⟨h1, h2, h3⟩ (by rintro r s ⟨rfl, rfl⟩; exact ⟨_, rfl, hn⟩)) h'
theorem Run.mo (i : Nat) (h' : Run (StepF P f ro n k df Q ops F) B (put tm (atO ops i).dst ((mop P tm σ (atO ops i)).getD (.undef, [])).1, ((mop P tm σ (atO ops i)).getD (.undef, [])).2) s)
    (hi : ops[i]? = some (atO ops i) := by kernel_rfl) (hg : (F.getD i noFP).g = true := by kernel_rfl) (hw : wantA ops (atO ops i) tm = some true := by kernel_rfl) (hm : (mop P tm σ (atO ops i)).isSome = true := by kernel_rfl) : Run (StepF P f ro n k df Q ops F) (i :: B) (tm, σ) s := by
  obtain ⟨p, hp⟩ := Option.isSome_iff_exists.1 hm
  rw [hp] at h'
  exact Run.one (StepF.mopAll hi hg hw (by rw [hp]; rfl)) h'
def ylL (v : V) : Nat := match v with | .yield l => l | _ => 0
def lpS (σ : Store) (l : Nat) : LoopState := match σ[l]? with | some (.loop st ..) => st | _ => .ready
def lpF (σ : Store) (l : Nat) : FuncId := match σ[l]? with | some (.loop _ _ f ..) => f | _ => 0
def lpT (σ : Store) (l : Nat) : List V := match σ[l]? with | some (.loop _ _ _ tm ..) => tm | _ => []
theorem Run.yi (i : Nat) (T0 : List Item) {l N : Nat} {R : List Item} {tmr : List V} {vc : V} {σ' : Store} (hr : AW P g (some l) N R tmr σ [] fun r s => r = .ret vc ∧ s = σ')
    (h' : Run (StepF P f ro n k df Q ops F) B (put (V.killL (mvB σ') tm) (atO ops i).dst vc, σ') s)
    (hi : ops[i]? = some (atO ops i) := by kernel_rfl) (hg : (F.getD i noFP).g = true := by kernel_rfl) (hw : wantA ops (atO ops i) tm = some true := by kernel_rfl)
    (ho : (atO ops i).op = .call { callee := .value (cX (atO ops i)), args := cA (atO ops i), argTypes := cT (atO ops i) } := by kernel_rfl)
    (hx : ev tm (cX (atO ops i)) = .yield l := by kernel_rfl) (hl : σ[l]? = some (lp T0 g (lpT σ l) (lpS σ l)) := by kernel_rfl) (hps : (cA (atO ops i)).size = (rfPs T0).size := by kernel_rfl)
    (hR : [.code (rfAs T0), .beginRound, .code (rfBd T0)] = R := by kernel_rfl) (htm : roundTm (lpT σ l) (rfPs T0).toList ((cA (atO ops i)).toList.map (ev tm)) = tmr := by kernel_rfl) (hN : σ.length = N := by kernel_rfl) : Run (StepF P f ro n k df Q ops F) (i :: B) (tm, σ) s :=
  Run.one (StepF.all hi hg fun rest hn => AW.yieldD (T0 := T0) hi hw ho hx hl hps hR htm hN hr (by rintro r s ⟨rfl, rfl⟩; exact ⟨_, rfl, hn⟩)) h'
end
end Go.Br
namespace Go.Br
variable {o : Oper} {tm : List V} {σ : Store} {v : V} {t : TypeId} {w : World} {I : Nat → Prop} {xs : List D} {c : Code} {mv : Bool} {fn : Func} {sz : Nat} {g : FuncId} {l : Nat} {i : Nat}
theorem bsX : (∀ (p : Prop) [Decidable p], (decide p = true) = p) ∧ (∀ (p : Prop) [Decidable p], (decide p = false) = ¬p) ∧
  (∀ {α : Type} [BEq α] [LawfulBEq α] (a b : α), ((a == b) = true) = (a = b)) ∧ (∀ {α : Type} [BEq α] [LawfulBEq α] (a b : α), ((a != b) = true) = (a ≠ b)) ∧
  (∀ {α : Type} [BEq α] [LawfulBEq α] (a b : α), ((a == b) = false) = (a ≠ b)) ∧ (∀ {α : Type} [BEq α] [LawfulBEq α] (a b : α), ((a != b) = false) = (a = b)) ∧
  (∀ b : Bool, ((!b) = true) = (b = false)) ∧ (∀ b : Bool, ((!b) = false) = (b = true)) ∧ (∀ {α : Type} (a b : α), (a ≠ b) = ¬(a = b)) ∧
  (∀ (p : Prop) [Decidable p], (¬¬p) = p) ∧ (∀ b : Bool, (¬(b = true)) = (b = false)) ∧ (∀ b : Bool, (¬(b = false)) = (b = true)) := by
 refine ⟨fun p _ => by simp, fun p _ => by simp, fun a b => by simp, fun a b => by simp, fun a b => by simp, fun a b => by simp, fun b => by simp, fun b => by simp, fun a b => rfl, fun p _ => by simp, fun b => by simp, fun b => by simp⟩
section
variable {P : Program} {tm : List V} {σ : Store}
theorem build0V_ok {t e : TypeId} {sz l sz' : Nat} (ho : o.op = .buildSlice t 0 #[]) (hu : P.underlying t = some (.slice e)) (hi : (P.info? e).map (·.size) = some sz') (hl : σ[l]? = some (.row sz [] mv)) : OpOk P o tm σ (.row l) tm σ := by
 intro w I ρ a hr hO
 have hrun : (execOp a.eval o).run P w = .ok (.value (.slice (some ⟨w.heap.size, 0, none⟩) 0 0)) (w.alloc (.cells #[] e)) := by
   simp only [Option.map_eq_some_iff] at hi
   obtain ⟨ie, hi, _⟩ := hi
   simp [execOp, ho, Instr.buildSlice, run_underlying hu, sizeOf, typeInfo, hi, Instr.fill, newRow]
   have h0 : ∀ g : Nat → Value, Array.map g (Array.range 0) = #[] := fun g => by apply Array.eq_empty_of_size_eq_zero; simp
   rw [h0]
 have hI : ∀ b, I b → I b ∧ (w.alloc (.cells #[] e)).heap[b]? = w.heap[b]? := fun b hb => ⟨hb, heap_alloc_old _ _ _ (hO.imm b hb).1⟩
 have hS : ∀ l, l < σ.length → Same ρ σ ρ σ l := fun l hl => ⟨hl, fun o' h1 h2 => ⟨rfl, o', h1, h2, rfl⟩⟩
 have hx := Ext.refl w I ρ σ
 refine ⟨_, _, _, I, ρ, hrun, .inl rfl, ?_, vrL_all hI hS hr, ⟨fun l o hl => ?_, hO.inj, fun b hb => ?_, fun b hb => ?_⟩, ⟨by simp, rfl, rfl, rfl, fun b hb _ => heap_alloc_old _ _ _ hb, hx.immI, hx.immN, hx.footN, Nat.le_refl _, hx.alive, hx.fixed, hx.stay⟩⟩
 · simp only [vr]
   refine ⟨rfl, (List.getElem?_eq_some_iff.1 hl).1, fun sz1 xs mv1 h1 => ?_⟩
   rw [hl] at h1
   cases h1
   exact .inl ⟨rfl, _, rfl⟩
 · by_cases hd : o = .dead
   · subst hd; simp [orel]
   · exact orel_all hI hS rfl (fun L hL => heap_alloc_old _ _ _ (hO.flt _ ⟨l, o, L, hl, hd, hL, rfl⟩)) (hO.objs l o hl)
 · have := hO.flt b hb; simp; omega
 · have := (hO.imm b hb).1
   exact ⟨by simp; omega, (hO.imm b hb).2⟩
mutual
theorem frz_kill {l sz : Nat} {xs : List D} : ∀ v : V, V.frz l sz xs (V.kill (Nat.beq l) v) = V.kill (Nat.beq l) v
 | .row k => by
   by_cases h : Nat.beq l k = true <;> simp [V.kill, h, V.frz]
 | .sl k a b c => by
   by_cases h : Nat.beq l k = true <;> simp [V.kill, h, V.frz]
 | .ptr k a b => by
   by_cases h : Nat.beq l k = true <;> simp [V.kill, h, V.frz]
 | .yield k => by
   by_cases h : Nat.beq l k = true <;> simp [V.kill, h, V.frz]
 | .map k => by
   by_cases h : Nat.beq l k = true <;> simp [V.kill, h, V.frz]
 | .fn f a b => by simp only [V.kill, V.frz, frz_killL a, frz_killL b]
 | .tuple vs => by simp only [V.kill, V.frz, frz_killL vs]
 | .agg vs => by simp only [V.kill, V.frz, frz_killL vs]
 | .d x => rfl
 | .undef => rfl
 | .nils => rfl
 | .ex _ _ => rfl
 | .ep _ _ _ => rfl
theorem frz_killL {l sz : Nat} {xs : List D} : ∀ vs : List V, V.frzL l sz xs (V.killL (Nat.beq l) vs) = V.killL (Nat.beq l) vs
 | [] => rfl
 | v :: vs => by simp only [V.killL, V.frzL, frz_kill v, frz_killL vs]
end
theorem frz_killO : ∀ o : O, O.frz l sz xs (O.kill (Nat.beq l) o) = O.kill (Nat.beq l) o
 | .cells cs => by simp only [O.kill, O.frz, frz_killL]
 | .loop a b c tm x e f => by simp only [O.kill, O.frz, frz_killL]
 | .dead => rfl
 | .row _ _ _ => rfl
 | .map _ => rfl
 | .defd => rfl
theorem ORel.again {ρ : LM} (h : ORel w I ρ ((σ.map (O.kill (Nat.beq l))).set l .dead)) (hlt : l < σ.length) :
   ORel w I (fun x => if x = l then none else ρ x) ((σ.map (O.kill (Nat.beq l))).set l (.row sz [] true)) ∧
     ∀ vs xs, (∀ y ∈ V.locsL vs, y ≠ l) → vrL w I ρ ((σ.map (O.kill (Nat.beq l))).set l .dead) vs xs → vrL w I (fun x => if x = l then none else ρ x) ((σ.map (O.kill (Nat.beq l))).set l (.row sz [] true)) vs xs := by
 have g1 : ∀ x, x ≠ l → ((σ.map (O.kill (Nat.beq l))).set l (.row sz [] true))[x]? = ((σ.map (O.kill (Nat.beq l))).set l .dead)[x]? := fun x hx => by
   rw [List.getElem?_set_ne (Ne.symm hx), List.getElem?_set_ne (Ne.symm hx)]
 have g2 : ((σ.map (O.kill (Nat.beq l))).set l (.row sz [] true))[l]? = some (.row sz [] true) := List.getElem?_set_self (by rw [List.length_map]; exact hlt)
 have hlen : ((σ.map (O.kill (Nat.beq l))).set l .dead).length = ((σ.map (O.kill (Nat.beq l))).set l (.row sz [] true)).length := by simp
 have hS : ∀ x, x < ((σ.map (O.kill (Nat.beq l))).set l .dead).length → x ≠ l → Same ρ ((σ.map (O.kill (Nat.beq l))).set l .dead) (fun x => if x = l then none else ρ x) ((σ.map (O.kill (Nat.beq l))).set l (.row sz [] true)) x := by
   intro x hx hne
   refine ⟨by rw [← hlen]; exact hx, fun o1 h1 h2 => ⟨if_neg hne, o1, by rw [← g1 x hne]; exact h1, h2, rfl⟩⟩
 have hI : ∀ b, I b → I b ∧ w.heap[b]? = w.heap[b]? := fun b hb => ⟨hb, rfl⟩
 have hne2 : ∀ x, live ((σ.map (O.kill (Nat.beq l))).set l (.row sz [] true)) x → ∀ L, (if x = l then none else ρ x) = some L → x ≠ l ∧ live ((σ.map (O.kill (Nat.beq l))).set l .dead) x ∧ ρ x = some L := by
   rintro x ⟨o1, h1, h2⟩ L hL
   by_cases hx : x = l
   · simp [hx] at hL
   · rw [if_neg hx] at hL
     exact ⟨hx, ⟨o1, by rw [← g1 x hx]; exact h1, h2⟩, hL⟩
 have hfoot : ∀ b, foot (fun x => if x = l then none else ρ x) ((σ.map (O.kill (Nat.beq l))).set l (.row sz [] true)) b → foot ρ ((σ.map (O.kill (Nat.beq l))).set l .dead) b := by
   rintro b ⟨x, o1, L, h1, h2, h3, h4⟩
   obtain ⟨k1, ⟨o2, k2, k3⟩, k4⟩ := hne2 x ⟨o1, h1, h2⟩ L h3
   exact ⟨x, o2, L, k2, k3, k4, h4⟩
 refine ⟨⟨fun x o1 hx => ?_, fun x y X Y hx hy hX hY e => ?_, fun b hb => h.flt b (hfoot b hb), fun b hb => ⟨(h.imm b hb).1, fun hf => (h.imm b hb).2 (hfoot b hf)⟩⟩, fun vs xs hv ht => ?_⟩
 · by_cases hxl : x = l
   · subst hxl
     rw [g2] at hx
     cases hx
     simp only [orel]
     exact .inl ⟨by simp, trivial⟩
   · rw [g1 x hxl] at hx
     have ho := h.objs x o1 hx
     refine orel_up hI (fun y hy => hS y (orel_bel ho y hy) ?_) (if_neg hxl) (fun _ _ => rfl) ho
     rw [List.getElem?_set_ne (Ne.symm hxl), map_kill_get, Option.map_eq_some_iff] at hx
     obtain ⟨o2, _, rfl⟩ := hx
     have := (O.locs_kill _ o2 y hy).2
     rintro rfl
     simp at this
 · obtain ⟨a1, a2, a3⟩ := hne2 x hx X hX
   obtain ⟨b1, b2, b3⟩ := hne2 y hy Y hY
   exact h.inj x y X Y a2 b2 a3 b3 e
 · exact vrL_up hI _ _ (fun y hy => hS y (vrL_locs _ _ ht y hy) (hv y hy)) ht
theorem appRowD_ok {s x : Operand} {t t2 : TypeId} {l sz by' : Nat} {xs ys : List D} (ho : o.op = .call { callee := .builtin .append, args := #[s, x], argTypes := #[t, t2] }) (hs : ev tm s = .row l) (hl : σ[l]? = some (.row sz xs mv)) (hx : cont σ (ev tm x) = some (sz, ys))
   (hw : elemW P t = some (sz, by')) (h2 : notIntT P t2 = true) (hb : (xs.length + ys.length) * by' ≤ 140737488355328) (h63 : xs.length + ys.length ≤ maxLen) :
   OpOk P o tm σ (.d (.list sz (xs ++ ys))) (V.killL (Nat.beq l) tm) ((σ.map (O.kill (Nat.beq l))).set l (.row sz [] true)) := by
 intro w I ρ a hr hO
 obtain ⟨nx, v, w', I', ρ', h1, h3, h4, h5, h6, h7⟩ := appRow_ok (P := P) ho hs hl hx hw h2 hb h63 w I ρ a hr hO
 have hlt : l < σ.length := (List.getElem?_eq_some_iff.1 hl).1
 have hat : ((σ.map (O.kill (Nat.beq l))).set l (.row sz (xs ++ ys) true))[l]? = some (.row sz (xs ++ ys) true) := List.getElem?_set_self (by rw [List.length_map]; exact hlt)
 obtain ⟨g1, g2, g3, _⟩ := freeze_core (tm := .row l :: V.killL (Nat.beq l) tm) (a := v :: a.tmps.toList) h6 hat (by simp only [vrL]; exact ⟨v, _, rfl, h4, h5⟩)
 have e : ((((σ.map (O.kill (Nat.beq l))).set l (.row sz (xs ++ ys) true)).map (O.frz l sz (xs ++ ys))).set l .dead) = (σ.map (O.kill (Nat.beq l))).set l .dead := by
   rw [List.map_set, List.set_set]
   congr 1
   rw [List.map_map]
   exact List.map_congr_left fun o _ => frz_killO o
 rw [e] at g1 g2 g3
 have hself : Nat.beq l l = true := Nat.beq_refl l
 simp only [V.frzL, V.frz, hself, if_true, frz_killL, vrL] at g1
 obtain ⟨v2, vs2, e2, k1, k2⟩ := g1
 cases e2
 have hE := h7.trans (g3.less (by simp))
 obtain ⟨q1, q2⟩ := ORel.again (sz := sz) g2 hlt
 have q3 := q2 (.d (.list sz (xs ++ ys)) :: V.killL (Nat.beq l) tm) (v :: a.tmps.toList) (fun y hy => by
   simp only [V.locsL, V.locs, List.nil_append] at hy
   have := (locsL_kill _ _ y hy).2
   rintro rfl
   simp at this) (by simp only [vrL]; exact ⟨v, _, rfl, k1, k2⟩)
 simp only [vrL] at q3
 obtain ⟨v3, vs3, e3, r1, r2⟩ := q3
 cases e3
 have g4 : ∀ x, x ≠ l → ((σ.map (O.kill (Nat.beq l))).set l (.row sz [] true))[x]? = ((σ.map (O.kill (Nat.beq l))).set l .dead)[x]? := fun x hx => by
   rw [List.getElem?_set_ne (Ne.symm hx), List.getElem?_set_ne (Ne.symm hx)]
 refine ⟨nx, v, w', _, _, h1, h3, r1, r2, q1, ⟨hE.size, hE.os, hE.tape, hE.output, hE.old, hE.immI, hE.immN, fun b hb => hE.footN b ?_, by simp, fun x hx hv => ?_, fun x o' hx ho' hst => ?_, fun x ob hx hob hld => ?_⟩⟩
 · obtain ⟨x, o1, L, f1, f2, f3, f4⟩ := hb
   by_cases hxl : x = l
   · simp [hxl] at f3
   · replace f3 : (if x = l then none else ρ' x) = some L := f3
     rw [if_neg hxl] at f3
     exact ⟨x, o1, L, by rw [← g4 x hxl]; exact f1, f2, f3, f4⟩
 · by_cases hxl : x = l
   · subst hxl; exact ⟨_, hl, by simp⟩
   · obtain ⟨o1, f1, f2⟩ := hv
     exact hE.alive x hx ⟨o1, by rw [← g4 x hxl]; exact f1, f2⟩
 · by_cases hxl : x = l
   · subst hxl
     rw [List.getElem?_set_self (by rw [List.length_map]; exact hlt)] at ho'
     cases ho'
     simp [O.still] at hst
   · rw [g4 x hxl] at ho'
     obtain ⟨f1, f2⟩ := hE.fixed x o' hx ho' hst
     exact ⟨by show (if x = l then none else ρ' x) = _; rw [if_neg hxl]; exact f1, f2⟩
 · by_cases hxl : x = l
   · subst hxl
     rw [hl] at hob
     cases hob
     simp [O.ld] at hld
   · obtain ⟨o', f1, f2⟩ := hE.stay x ob hx hob hld
     exact ⟨o', by rw [g4 x hxl]; exact f1, f2⟩
end
def AWr (l : Nat) (x : Value) (P : Program) (f : FuncId) (ro : Option Nat) (n : Nat) (todo : List Item) (tm : List V) (σ : Store) (df : List Nat) (Q : AE → Store → Prop) : Prop :=
  ∀ w I ρ a rb, vr w I ρ σ (.row l) x → Rel w I ρ σ tm df a → rbOf ρ σ ro rb → n ≤ σ.length → RunsTo P f rb todo a w (Fin n w I ρ σ Q)
def rowB (σ : Store) (l : Nat) : Bool := match σ[l]? with | some (.row _ _ mv) => !mv | _ => false
theorem rowB_at (h : rowB σ l = true) : ∃ sz xs, σ[l]? = some (.row sz xs false) := by
 unfold rowB at h
 split at h
 · rename_i sz xs mv e
   cases mv
   · exact ⟨sz, xs, e⟩
   · cases h
 · cases h
section
variable {P : Program} {f : FuncId} {ro : Option Nat} {n : Nat} {k k' : List Item} {tm tm' : List V} {σ σ' : Store} {df : List Nat} {Q : AE → Store → Prop} {l : Nat} {x : Value}
theorem raw_ext {w w' : World} {I I' : Nat → Prop} {ρ ρ' : LM} (hx : Ext σ.length w I ρ σ w' I' ρ' σ') (hb : rowB σ' l = true) (hv : vr w I ρ σ (.row l) x) : vr w' I' ρ' σ' (.row l) x := by
 obtain ⟨sz, xs, e⟩ := rowB_at hb
 simp only [vr] at hv ⊢
 obtain ⟨h1, h2, h3⟩ := hv
 obtain ⟨g1, o, g2, g3, g4⟩ := hx.fixed l _ h2 e rfl
 refine ⟨h1, (List.getElem?_eq_some_iff.1 e).1, fun sz' xs' mv' e' => ?_⟩
 rw [e] at e'
 cases e'
 obtain ⟨sz2, xs2, mv2, rfl, hlen⟩ := alike_row g4
 have := h3 _ _ _ g2
 unfold rowV at this ⊢
 rw [g1, ← hlen]
 exact this
theorem set_here {α : Type} {y : α} : ∀ {l : List α} {j : Nat}, l[j]? = some y → l.set j y = l
 | [], _, h => by simp at h
 | z :: l, 0, h => by simp only [List.getElem?_cons_zero, Option.some.injEq] at h; subst h; rfl
 | z :: l, j + 1, h => by simp only [List.getElem?_cons_succ] at h; rw [List.set_cons_succ, set_here h]
theorem AW.raw (j : Nat) (hj : tm[j]? = some (.row l)) (h : ∀ x, AWr l x P f ro n k (tm.set j (.d (.raw x))) σ df Q) : AW P f ro n k tm σ df Q := by
 intro w I ρ a rb hr hb hn
 obtain ⟨x, hx, hv⟩ := vrL_get? hr.tms hj
 refine h x w I ρ a rb hv ⟨?_, hr.ors, hr.dfs⟩ hb hn
 have h1 : one x := by simp only [vr] at hv; exact hv.1
 have := vrL_set hr.tms j (v := .d (.raw x)) (x := x) (by simp only [vr, Dr]; exact ⟨trivial, h1⟩)
 have e : a.tmps.toList.set j x = a.tmps.toList := set_here (by simpa using hx)
 rw [e] at this
 exact this
theorem AWr.unraw (j : Nat) (hj : tm[j]? = some (.d (.raw x))) (h : AWr l x P f ro n k (tm.set j (.row l)) σ df Q) : AWr l x P f ro n k tm σ df Q := by
 intro w I ρ a rb hv hr hb hn
 refine h w I ρ a rb hv ⟨?_, hr.ors, hr.dfs⟩ hb hn
 obtain ⟨y, hy, hv2⟩ := vrL_get? hr.tms hj
 simp only [vr, Dr] at hv2
 obtain ⟨rfl, _⟩ := hv2
 have := vrL_set hr.tms j hv
 have e : a.tmps.toList.set j y = a.tmps.toList := set_here (by simpa using hy)
 rw [e] at this
 exact this
theorem AWr.same (hs : ∀ rb a cs w, step P (lone (frm f rb a k') cs w) = .next (lone (frm f rb a k) cs w)) (h : AWr l x P f ro n k tm σ df Q) : AWr l x P f ro n k' tm σ df Q :=
 fun w I ρ a rb hv hr hb hn => .step (hs rb a · w) (h w I ρ a rb hv hr hb hn)
theorem AWr.op {ops : Array Oper} {rest : List Nat} (hi : ops[i]? = some o) (hw : wantA ops o tm = some true) (hd : Op.isDefer o.op = false) (hok : OpOk P o tm σ v tm' σ') (hB : rowB σ' l = true)
   (h : AWr l x P f ro n (.inRegion ops rest :: k) (put tm' o.dst v) σ' df Q) : AWr l x P f ro n (.inRegion ops (i :: rest) :: k) tm σ df Q := by
 intro w I ρ a rb hv hr hb hn
 obtain ⟨nx, y, w', I', ρ', h1, h2, h3, h4, h5, h6⟩ := hok w I ρ a hr.tms hr.ors
 have h7 := h6.stays
 have hwa := wantA_ok hw hr.tms
 have hlen : n ≤ σ'.length := Nat.le_trans hn h6.len
 have hnext := h w' I' ρ' (a.put o.dst y) rb (raw_ext h6 hB hv) ⟨vrL_put h4 o.dst h3, h5, by rw [put_defers]; exact dfr_stay h7 hr.dfs⟩ (rbOf_stay h7 hb) hlen
 have hnext := hnext.mono fun e w'' hf => hf.trans (h6.less hn)
 rcases h2 with rfl | ⟨rfl, rfl⟩
 · exact .step (fun cs => st_op_value hi hwa hd h1) hnext
 · exact .step (fun cs => st_op_unit hi hwa hd h1) hnext
def rstep (P : Program) (l : Nat) (todo : List Item) (tm : List V) (σ : Store) : Option (List Item × List V × Store) :=
  match todo with
  | .code (.seq a b) :: k => some (.code a :: .code b :: k, tm, σ)
  | .code (.region _ ops false) :: k => some (.inRegion ops (List.range ops.size) :: k, tm, σ)
  | .inRegion _ [] :: k => some (k, tm, σ)
  | .inRegion ops (i :: r) :: k => match ops[i]? with
    | none => none
    | some o => match wantA ops o tm with
      | some true => (mop P tm σ o).bind fun p => bif rowB p.2 l then some (.inRegion ops r :: k, put tm o.dst p.1, p.2) else none
      | _ => none
  | _ => none
theorem rstep_ok {todo todo' : List Item} (h : rstep P l todo tm σ = some (todo', tm', σ')) (hn : AWr l x P f ro n todo' tm' σ' df Q) : AWr l x P f ro n todo tm σ df Q := by
  unfold rstep at h
  split at h
  · cases h; exact .same (fun _ _ _ _ => st_seq) hn
  · cases h; exact .same (fun _ _ _ _ => st_region) hn
  · cases h; exact .same (fun _ _ _ _ => st_region_end) hn
  · split at h
    · cases h
    · rename_i o hi
      split at h
      · rename_i hw
        simp only [Option.bind_eq_some_iff] at h
        obtain ⟨p, h1, h2⟩ := h
        cases hB : rowB p.2 l
        · rw [hB] at h2; cases h2
        · rw [hB] at h2
          simp only [cond_true, Option.some.injEq, Prod.mk.injEq] at h2
          obtain ⟨rfl, rfl, rfl⟩ := h2
          obtain ⟨g1, g2⟩ := mop_ok h1
          exact .op hi hw g2 g1 hB hn
      · cases h
  · cases h
def rsteps (P : Program) (l : Nat) : Nat → List Item → List V → Store → Option (List Item × List V × Store)
  | 0, todo, tm, σ => some (todo, tm, σ)
  | n + 1, todo, tm, σ => match rstep P l todo tm σ with
    | some (todo', tm', σ') => rsteps P l n todo' tm' σ'
    | none => none
theorem AWr.steps (m : Nat) : ∀ {todo todo' : List Item} {tm tm' : List V} {σ σ' : Store}, rsteps P l m todo tm σ = some (todo', tm', σ') →
   AWr l x P f ro n todo' tm' σ' df Q → AWr l x P f ro n todo tm σ df Q := by
 induction m with
 | zero => intro todo todo' tm tm' σ σ' h hn; cases h; exact hn
 | succ m ih =>
   intro todo todo' tm tm' σ σ' h hn
   simp only [rsteps] at h
   split at h
   · rename_i t1 t2 t3 h1
     exact rstep_ok h1 (ih h hn)
   · cases h
theorem AWr.keep (ks : List Nat) (ht : keep ks tm = tm') (h : AWr l x P f ro n k tm' σ df Q) : AWr l x P f ro n k tm σ df Q := by
 subst ht
 intro w I ρ a rb hv hr hb hn
 exact h w I ρ a rb hv ⟨keep_rel hr.tms, hr.ors, hr.dfs⟩ hb hn
theorem AWr.seg {T T' : List Item} (m : Nat) (ks : List Nat) (hs : (rsteps P l m T tm σ).map (fun s => (s.1, Go.Br.keep ks s.2.1, s.2.2)) = some (T', tm', σ')) (h : AWr l x P f ro n T' tm' σ' df Q) : AWr l x P f ro n T tm σ df Q := by
 simp only [Option.map_eq_some_iff, Prod.mk.injEq] at hs
 obtain ⟨⟨t1, t2, t3⟩, h1, rfl, rfl, rfl⟩ := hs
 exact AWr.steps m h1 (AWr.keep ks rfl h)
theorem AWr.opH {T T' : List Item} (ho : opOf T = some o) (hw : wantA (opsOf T) o tm = some true) (hd : Op.isDefer o.op = false) (hT : tlOf T = T') (hok : OpOk P o tm σ v tm' σ') (hB : rowB σ' l = true) (h : AWr l x P f ro n T' (put tm' o.dst v) σ' df Q) : AWr l x P f ro n T tm σ df Q := by
 subst hT
 unfold opOf at ho
 split at ho
 · rename_i ops i r k
   exact .op ho hw hd hok hB h
 · cases ho
theorem AWr.op' {T : List Item} (T' : List Item) (hok : OpOk P ((opOf T).getD default) tm σ v tm' σ') (hB : rowB σ' l = true) (h : AWr l x P f ro n T' (put tm' ((opOf T).getD default).dst v) σ' df Q)
  (ho : opOf T = some ((opOf T).getD default) := by kernel_rfl) (hw : wantA (opsOf T) ((opOf T).getD default) tm = some true := by kernel_rfl) (hd : Op.isDefer ((opOf T).getD default).op = false := by kernel_rfl) (hT : tlOf T = T' := by kernel_rfl) : AWr l x P f ro n T tm σ df Q :=
 AWr.opH ho hw hd hT hok hB h
theorem DrE_put {sz b : Nat} {d d' : D} (hd : ∀ u, Dr w I d u → Dr w I d' u) : ∀ {xs : List D} {o i : Nat}, xs[i]? = some d → DrE w I sz b o xs → DrE w I sz b o (xs.set i d')
 | [], o, i, h, _ => by simp at h
 | e :: xs, o, 0, h, hE => by
   simp only [List.getElem?_cons_zero, Option.some.injEq] at h
   subst h
   simp only [List.set_cons_zero, DrE] at hE ⊢
   obtain ⟨⟨v, h1, h2⟩, h3⟩ := hE
   exact ⟨⟨v, hd v h1, h2⟩, h3⟩
 | e :: xs, o, i + 1, h, hE => by
   simp only [List.getElem?_cons_succ] at h
   simp only [List.set_cons_succ, DrE] at hE ⊢
   exact ⟨hE.1, DrE_put hd h hE.2⟩
theorem AWr.rest (r i : Nat) {sz fsz : Nat} {xs fs cs : List D} {mv fmv : Bool} (hl : σ[l]? = some (.row sz xs mv)) (hr0 : ((σ.map (O.frz l sz xs)).set l .dead)[r]? = some (.row fsz fs fmv)) (hi : fs[i]? = some (.agg (.raw x :: cs)))
   (h : AW P f ro n k (V.frzL l sz xs tm) (((σ.map (O.frz l sz xs)).set l .dead).set r (.row fsz (fs.set i (.agg (.list sz xs :: cs))) fmv)) df Q) : AWr l x P f ro n k tm σ df Q := by
 intro w I ρ a rb hv hr hb hn
 obtain ⟨htm, hO2, hX, _⟩ := freeze_core hr.ors hl hr.tms
 have hrow : Dr w (Iadd I ρ l) (.list sz xs) x := by
   simp only [vr] at hv
   have := frz_row (off := 0) (n := xs.length) hr.ors hl (hv.2.2 _ _ _ hl) (by omega)
   simpa using this
 generalize hσ1 : (σ.map (O.frz l sz xs)).set l .dead = σ1 at htm hO2 hX hr0 h
 have hd : ∀ u, Dr w (Iadd I ρ l) (.agg (.raw x :: cs)) u → Dr w (Iadd I ρ l) (.agg (.list sz xs :: cs)) u := by
   intro u hu
   simp only [Dr, DrL] at hu
   obtain ⟨vs, rfl, v, vs', rfl, h1, ⟨rfl, h2⟩, h3⟩ := hu
   unfold Dr
   refine ⟨_, rfl, ?_⟩
   unfold DrL
   exact ⟨v, vs', rfl, h1, hrow, h3⟩
 have hob := hO2.objs r _ hr0
 simp only [orel] at hob
 rcases hob with ⟨_, rfl⟩ | ⟨L, C, T, fz, e1, e2, e3, e4, e5, e6, e7, e8⟩
 · simp at hi
 have hal : O.alike (.row fsz fs fmv) (.row fsz (fs.set i (.agg (.list sz xs :: cs))) fmv) := by simp [O.alike, O.rl]
 have hO3 : ORel w (Iadd I ρ l) ρ (σ1.set r (.row fsz (fs.set i (.agg (.list sz xs :: cs))) fmv)) := by
   refine hO2.upd hr0 (by simp) e1 hal (fun _ _ => rfl) rfl ?_
   simp only [orel]
   exact .inr ⟨L, C, T, fz, e1, e2, e3, e4, e5, by simpa using e6, e7, DrE_put hd hi e8⟩
 have hX3 : Ext σ1.length w (Iadd I ρ l) ρ σ1 w (Iadd I ρ l) ρ (σ1.set r (.row fsz (fs.set i (.agg (.list sz xs :: cs))) fmv)) :=
   Ext.upd hr0 (by simp) e1 (fun h => h) hal rfl (fun _ _ => rfl) rfl rfl rfl rfl
 have htm3 := vrL_all (w' := w) (I' := Iadd I ρ l) (fun b hb => ⟨hb, rfl⟩) (same_set hr0 (by simp) hal) htm
 have hlen : σ1.length = σ.length := by rw [← hσ1]; simp
 have hXX : Ext σ.length w I ρ σ w (Iadd I ρ l) ρ (σ1.set r (.row fsz (fs.set i (.agg (.list sz xs :: cs))) fmv)) := hX.trans (hlen ▸ hX3)
 have hst := hXX.stays
 have := h w (Iadd I ρ l) ρ a rb ⟨htm3, hO3, dfr_stay hst hr.dfs⟩ (rbOf_stay hst hb) (by rw [List.length_set, hlen]; exact hn)
 exact this.mono fun e w' hf => hf.trans (hXX.less hn)
end
section
variable {w w' : World} {I I' : Nat → Prop} {ρ ρ' : LM} {σ σ' : Store} {P : Program}
theorem newCellAt_ok {d : D} {xs0 : List D} {c : Value} {a : Act} (hl : σ[l]? = some (.row 1 xs0 mv)) (hr : vrL w I ρ σ tm a.tmps.toList) (hO : ORel w I ρ σ) (hone : one c)
  (hd : DrE (w.alloc (.cells #[c] t)) I 1 w.heap.size 0 [d])
  (hrun : (execOp a.eval o).run P w = .ok (.value (.pointer (some ⟨w.heap.size, 0, none⟩))) (w.alloc (.cells #[c] t))) :
  ∃ nx x w' I' ρ', (execOp a.eval o).run P w = .ok nx w' ∧ (nx = .value x ∨ nx = .skip ∧ x = undef) ∧ vr w' I' ρ' ((σ.map (O.kill (Nat.beq l))).set l (.row 1 [d] true)) (.ptr l 0 0) x ∧ vrL w' I' ρ' ((σ.map (O.kill (Nat.beq l))).set l (.row 1 [d] true)) (V.killL (Nat.beq l) tm) a.tmps.toList ∧ ORel w' I' ρ' ((σ.map (O.kill (Nat.beq l))).set l (.row 1 [d] true)) ∧
    Ext σ.length w I ρ σ w' I' ρ' ((σ.map (O.kill (Nat.beq l))).set l (.row 1 [d] true)) := by
 have hlt : l < σ.length := (List.getElem?_eq_some_iff.1 hl).1
 have hold : ∀ b, b < w.heap.size → (w.alloc (.cells #[c] t)).heap[b]? = w.heap[b]? := fun b hb => heap_alloc_old _ _ _ hb
 have hnew : (w.alloc (.cells #[c] t)).heap[w.heap.size]? = some (.cells #[c] t) := heap_alloc_new w (.cells #[c] t)
 have hsz : (w.alloc (.cells #[c] t)).heap.size = w.heap.size + 1 := by simp
 let ρ' : LM := fun x => if x = l then some ⟨w.heap.size, 0, 1, 1⟩ else ρ x
 have hρ : ∀ x, x ≠ l → ρ' x = ρ x := fun x hx => by simp [ρ', hx]
 have hρl : ρ' l = some ⟨w.heap.size, 0, 1, 1⟩ := by simp [ρ']
 have hor : orel (w.alloc (.cells #[c] t)) I ρ' ((σ.map (O.kill (Nat.beq l))).set l (.row 1 [d] true)) l (.row 1 [d] true) := by
  simp only [orel]
  exact .inr ⟨_, #[c], t, (0, 0), hρl, rfl, hnew, ⟨thaw_zero _, fun x hx => by simp at hx; subst hx; exact hone⟩, by simp, by simp, by simp [maxLen], hd⟩
 have hblk : ∀ K, ρ' l = some K → K.b < (w.alloc (.cells #[c] t)).heap.size ∧ (w.heap.size ≤ K.b ∨ ∃ L, ρ l = some L ∧ L.b = K.b) := fun K hK => by
  rw [hρl] at hK; cases hK
  exact ⟨by rw [hsz]; exact Nat.lt_succ_self _, .inl (Nat.le_refl _)⟩
 obtain ⟨g1, g2⟩ := hO.move hl (by simp) hρ (fun b hb _ => hold b hb) (by omega) hor hblk
 have hx := Ext.move (I := I) hl (by simp) rfl (o' := .row 1 [d] true) rfl hρ (fun b hb _ => hold b hb) (by omega) hblk rfl rfl rfl
 refine ⟨_, _, _, I, ρ', hrun, .inl rfl, ?_, g2 _ _ hr, g1, hx⟩
 simp only [vr]
 refine ⟨rfl, by simpa using hlt, fun _ => ⟨_, hρl, by simp⟩⟩
theorem allocAt_ok {d : D} {xs0 : List D} (ho : o.op = .alloc t) (hz : zeroA P t = some [.d d]) (hc : chunk 1 none [.d d] = some [d]) (hl : σ[l]? = some (.row 1 xs0 mv)) :
  OpOk P o tm σ (.ptr l 0 0) (V.killL (Nat.beq l) tm) ((σ.map (O.kill (Nat.beq l))).set l (.row 1 [d] true)) := by
 intro w I ρ a hr hO
 obtain ⟨i, z, h1, h2, h3, h4⟩ := zeroA_rel (w := w) (I := I) (ρ := ρ) (σ := σ) hz
 simp only [vrL] at h3
 obtain ⟨c, cs', hcs, h5, rfl⟩ := h3
 have hone : one c := h4 c (by rw [hcs]; simp)
 have hzc : z.cells = #[c] := by
  apply Array.ext'
  simpa using hcs
 have hI : ∀ b, I b → I b ∧ (w.alloc (.cells #[c] t)).heap[b]? = w.heap[b]? := fun b hb => ⟨hb, heap_alloc_old _ _ _ (hO.imm b hb).1⟩
 obtain ⟨k1, _, _⟩ := chunk_rel (w := w.alloc (.cells #[c] t)) (I := I) (ρ := ρ) (σ := σ) (b := w.heap.size) (o := 0) (xs := [c]) hc (by
  simp only [vrL]
  refine ⟨c, [], rfl, ?_, rfl⟩
  simp only [vr] at h5 ⊢
  exact Dr_mono hI _ _ h5) (fun x hx => by simp at hx; subst hx; exact hone) (fun j hj => by
   have hj0 : j = 0 := by simpa using hj
   subst hj0
   show (match (w.alloc (.cells #[c] t)).heap[w.heap.size]? with | some (.cells C _ _) => C[0 + 0]? | _ => none) = _
   rw [heap_alloc_new]; rfl)
 refine newCellAt_ok (t := t) hl hr hO hone k1 ?_
 rw [← hzc]
 simp [execOp, ho, Instr.alloc, zeroValue, typeInfo, h1, h2, newVar, newRow]
end
section
variable {P : Program} {f : FuncId} {ro : Option Nat} {n : Nat} {k : List Item} {df : List Nat} {Q : AE → Store → Prop} {ops : Array Oper}
theorem StepF.alloc {F : List FP} {fp : FP} {d : D} (hi : ops[i]? = some o) (hF : F.getD i noFP = fp) (hg : fp.g = false) (hk : fp.k = [l]) (hw : wantA ops o tm = some true)
  (ho : o.op = .alloc t) (hz : zeroA P t = some [.d d]) (hc : chunk 1 none [.d d] = some [d]) (hl : σ[l]? = some (.row 1 [] mv)) (hr : inK fp.r l = true) (hok : okB fp tm σ o (.ptr l 0 0) [(l, .row 1 [d] true)] = true) :
  StepF P f ro n k df Q ops F i (tm, σ) (put (V.killL (Nat.beq l) tm) o.dst (.ptr l 0 0), (σ.map (O.kill (Nat.beq l))).set l (.row 1 [d] true)) := by
 refine StepF.moves o.op.operands.toList l _ hi hF hg hk hw (by simp [ho, Op.isDefer]) rfl hok fun tm' σ2 hv hs => ?_
 exact allocAt_ok ho hz hc ((hs l (inK_iff.1 hr)).trans hl)
end
section
variable {P : Program} {f : FuncId} {ro : Option Nat} {n : Nat} {T : List Item} {tm : List V} {σ σ' : Store} {df : List Nat} {Q : AE → Store → Prop}
theorem AW.lower (l : Nat) (hl : σ[l]? = some (.row sz xs mv)) (hs : σ.set l (.row sz xs false) = σ') (hnl : Nat.ble n l = true) (h : AW P f ro n T tm σ' df Q) : AW P f ro n T tm σ df Q := by
  subst hs
  intro w I ρ a rb hr hb hn
  have hO := hr.ors
  have hlt : l < σ.length := (List.getElem?_eq_some_iff.1 hl).1
  let σ2 : Store := σ.set l (.row sz xs false)
  have hlen : σ2.length = σ.length := by simp [σ2]
  have gl : σ2[l]? = some (.row sz xs false) := List.getElem?_set_self hlt
  have gne : ∀ x : Nat, x ≠ l → σ2[x]? = σ[x]? := fun x hx => List.getElem?_set_ne (Ne.symm hx)
  have back : ∀ (x : Nat) (o' : O), σ2[x]? = some o' → ∃ o : O, σ[x]? = some o ∧ (o' = .dead ↔ o = .dead) ∧ o.alike o' ∧ (x < l → o'.still = true → o = o') ∧ o.ld = o'.ld := by
    intro x o' hx
    by_cases hxl : x = l
    · subst hxl
      rw [gl] at hx; cases hx
      exact ⟨_, hl, by simp, rfl, fun h => absurd h (Nat.lt_irrefl _), rfl⟩
    · rw [gne x hxl] at hx
      exact ⟨o', hx, Iff.rfl, rfl, fun _ _ => rfl, rfl⟩
  have hS : ∀ x, x < σ.length → Same ρ σ ρ σ2 x := fun x hx => ⟨by omega, fun o' h1 h2 => by
    obtain ⟨o, g1, g2, g3, _⟩ := back x o' h1
    exact ⟨rfl, o, g1, fun e => h2 (g2.2 e), g3⟩⟩
  have hI : ∀ b, I b → I b ∧ w.heap[b]? = w.heap[b]? := fun b hb => ⟨hb, rfl⟩
  have hlive : ∀ x, live σ2 x → live σ x := fun x ⟨o', h1, h2⟩ => by
    obtain ⟨o, g1, g2, _⟩ := back x o' h1
    exact ⟨o, g1, fun e => h2 (g2.2 e)⟩
  have hfoot : ∀ b, foot ρ σ2 b → foot ρ σ b := by
    rintro b ⟨x, o', L, h1, h2, h3, h4⟩
    obtain ⟨o, g1, g2, _⟩ := back x o' h1
    exact ⟨x, o, L, g1, fun e => h2 (g2.2 e), h3, h4⟩
  have hO2 : ORel w I ρ σ2 := by
    refine ⟨fun x o' hx => ?_, fun x y L L' hv hv' hL hL' hb => hO.inj x y L L' (hlive x hv) (hlive y hv') hL hL' hb, fun b hb => hO.flt b (hfoot b hb), fun b hb => ⟨(hO.imm b hb).1, fun h => (hO.imm b hb).2 (hfoot b h)⟩⟩
    by_cases hxl : x = l
    · subst hxl
      rw [gl] at hx; cases hx
      have := hO.objs x _ hl
      simp only [orel] at this ⊢
      exact this
    · rw [gne x hxl] at hx
      by_cases hd : o' = .dead
      · subst hd; simp [orel]
      · exact orel_all hI hS rfl (fun L hL => rfl) (hO.objs x o' hx)
  have hE : Ext l w I ρ σ w I ρ σ2 := by
    refine ⟨Nat.le_refl _, rfl, rfl, rfl, fun _ _ _ => rfl, fun b hb => hb, fun b hb => .inl hb, fun b hb => .inl (hfoot b hb), by omega, fun x hx h => hlive x h, fun x o' hx h1 h2 => ?_, fun x o hx h1 h2 => ?_⟩
    · obtain ⟨o, g1, _, g3, g4, _⟩ := back x o' h1
      exact ⟨rfl, o, g1, by rw [g4 hx h2]; exact h2, g3⟩
    · by_cases hxl : x = l
      · subst hxl
        rw [hl] at h1; cases h1
        simp [O.ld] at h2
      · exact ⟨o, by rw [gne x hxl]; exact h1, rfl⟩
  have hst : Stay ρ σ ρ σ2 := by
    intro x o h1 h2
    by_cases hxl : x = l
    · subst hxl
      rw [hl] at h1; cases h1
      simp [O.ld] at h2
    · exact ⟨rfl, o, by rw [gne x hxl]; exact h1, rfl⟩
  exact (h w I ρ a rb ⟨vrL_all hI hS hr.tms, hO2, dfr_stay hst hr.dfs⟩ (rbOf_stay hst hb) (by show n ≤ σ2.length; omega)).mono fun e w' hf => hf.trans (hE.less (Nat.le_of_ble_eq_true hnl))
end
end Go.Br
