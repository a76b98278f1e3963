/- Texts of this proof, part 6: BrEc, BrEd, BrEe, BrEf, BrEg, BsY, BsZ, BsX, BrEh, BrEi. -/
import Derived.Deep.OwnRows
import Derived.MapKept
import Derived.Test.YtoelkgbeefoplaaM5
set_option linter.unusedSimpArgs false
set_option linter.unusedVariables false
set_option linter.constructorNameAsVariable false
namespace Go.Br
open Go Go.MapKept
def keyB : Value → Value → Bool
  | .int _ a, .int _ b => a == b
  | .string a, .string b => a == b
  | .bool a, .bool b => a == b
  | _, _ => false
theorem keyB_iff {kd : TypeDesc} {a b : Value} (ha : IsKey kd a) (hb : IsKey kd b) : keyB a b = true ↔ a = b := by
 cases kd <;> cases a <;> cases b <;> simp_all [IsKey, keyB, bytes_beq]
def mapFind (k : Value) : List (Value × D) → Option D
  | [] => none
  | e :: es => if keyB k e.1 then some e.2 else mapFind k es
def mapPut (k : Value) (d : D) : List (Value × D) → List (Value × D)
  | [] => [(k, d)]
  | e :: es => if keyB k e.1 then (k, d) :: es else e :: mapPut k d es
def keysOk (kd : TypeDesc) (es : List (Value × D)) : Prop := ∀ e ∈ es, IsKey kd e.1
def keyV : D → Option Value
  | .int k n => some (.int k n)
  | .str s => some (.string s)
  | .bool b => some (.bool b)
  | _ => none
theorem keyV_rel {w : World} {I : Nat → Prop} {d : D} {v x : Value} (h : keyV d = some v) (hd : Dr w I d x) : x = v := by
 cases d <;> simp_all [keyV, Dr]
theorem keyV_dr {w : World} {I : Nat → Prop} {d : D} {v : Value} (h : keyV d = some v) : Dr w I d v := by
 cases d <;> simp_all [keyV, Dr]
theorem findNow_abs {kd : TypeDesc} {kv : Value} (hk : IsKey kd kv) : ∀ (E : List MapEntry) (es : List (Value × D)) (i : Nat), E.map (·.key) = es.map (·.1) → keysOk kd es →
    (Instr.findNow kd kv E i = some none ∧ mapFind kv es = none ∧ ∀ d, mapPut kv d es = es ++ [(kv, d)]) ∨
    ∃ j e d0, Instr.findNow kd kv E i = some (some (i + j, e.val)) ∧ E[j]? = some e ∧ e.key = kv ∧ es[j]? = some (kv, d0) ∧ mapFind kv es = some d0 ∧ ∀ d, mapPut kv d es = es.set j (kv, d)
  | [], [], i, _, _ => .inl ⟨rfl, rfl, fun _ => rfl⟩
  | [], _ :: _, i, h, _ => by simp at h
  | _ :: _, [], i, h, _ => by simp at h
  | e :: E, p :: es, i, h, ho => by
    simp only [List.map_cons, List.cons.injEq] at h
    have hp : IsKey kd p.1 := ho p (by simp)
    obtain ⟨r, hr, hiff⟩ := sameNow_of_keys hk hp
    have hb := keyB_iff hk hp
    cases r with
    | true =>
      have e1 : kv = p.1 := hiff.1 rfl
      refine .inr ⟨0, e, p.2, by simp [Instr.findNow, h.1, hr], rfl, by rw [h.1, e1], by simp [e1], by simp [mapFind, hb.2 e1], fun d => by simp [mapPut, hb.2 e1]⟩
    | false =>
      have hne : kv ≠ p.1 := fun q => by have := hiff.2 q; cases this
      have hb' : keyB kv p.1 = false := by
        cases hq : keyB kv p.1 with
        | false => rfl
        | true => exact absurd (hb.1 hq) hne
      rcases findNow_abs hk E es (i + 1) h.2 (fun x hx => ho x (by simp [hx])) with ⟨h1, h2, h3⟩ | ⟨j, e', d0, h1, h2, h3, h4, h5, h6⟩
      · exact .inl ⟨by simp [Instr.findNow, h.1, hr, h1], by simp [mapFind, hb', h2], fun d => by simp [mapPut, hb', h3]⟩
      · exact .inr ⟨j + 1, e', d0, by simp [Instr.findNow, h.1, hr, h1]; omega, by simpa using h2, h3, by simpa using h4, by simp [mapFind, hb', h5], fun d => by simp [mapPut, hb', h6]⟩
theorem sameBits_refl {kd : TypeDesc} {kv : Value} (h : IsKey kd kv) (n : Nat) : Instr.sameBits n kv kv = true := by
 cases kd <;> cases kv <;> first | exact h.elim | (unfold Instr.sameBits; simp) | (unfold Instr.sameBits; exact (bytes_beq _ _).2 rfl)
section
variable {P : Program} {tm : List V} {σ : Store} {o : Oper}
theorem makeMap_ok {t : TypeId} (ho : o.op = .makeMap t none) : OpOk P o tm σ (.map σ.length) tm (σ ++ [.map []]) := by
 intro w I ρ a hr hO
 have hold : ∀ b, b < w.heap.size → (w.alloc (.map #[] 0)).heap[b]? = w.heap[b]? := fun b hb => heap_alloc_old _ _ _ hb
 have hI : ∀ b, I b → I b ∧ (w.alloc (.map #[] 0)).heap[b]? = w.heap[b]? := fun b hb => ⟨hb, hold b (hO.imm b hb).1⟩
 let L : Loc := ⟨w.heap.size, 0, 0, 0⟩
 have hsz : (w.alloc (.map #[] 0)).heap.size = w.heap.size + 1 := by simp
 refine ⟨.value (.map (some w.heap.size)), _, w.alloc (.map #[] 0), I, (fun x => if x = σ.length then some L else ρ x), ?_, .inl rfl, ?_, vrL_all hI (same_new L _) hr, ?_, Ext.new L _ rfl hold hsz rfl rfl rfl⟩
 · have hmk : (Instr.makeMap t none).run P w = .ok (.map (some w.heap.size)) (w.alloc (.map #[] 0)) := rfl
   simp only [execOp, ho, Option.map_none, Sem.run_bind, hmk, Result.andThen_ok, Sem.run_pure]
 · simp only [vr]
   exact ⟨rfl, by simp, fun _ => ⟨L, by simp, rfl⟩⟩
 · refine hO.new L _ rfl hold hsz ?_
   simp only [orel]
   exact ⟨L, #[], 0, by simp, rfl, heap_alloc_new _ _, rfl, fun j e h => by simp at h, fun i j e e' h => by simp at h⟩
theorem map_at {w : World} {I : Nat → Prop} {ρ : LM} {x : Value} {l : Nat} {es : List (Value × D)} (hO : ORel w I ρ σ) (hl : σ[l]? = some (.map es)) (hx : vr w I ρ σ (.map l) x) :
   ∃ L E n, ρ l = some L ∧ L.o = 0 ∧ x = .map (some L.b) ∧ w.heap[L.b]? = some (.map E n) ∧ E.toList.map (·.key) = es.map (·.1) ∧ E.size = es.length ∧ (∀ (j : Nat) (e : MapEntry), E[j]? = some e → e.born < n ∧ ∃ x : Value × D, es[j]? = some x ∧ e.key = x.1 ∧ Dr w I x.2 e.val) ∧ (∀ (i j : Nat) (e e' : MapEntry), E[i]? = some e → E[j]? = some e' → e.born = e'.born → i = j) := by
 have ho := hO.objs l _ hl
 simp only [orel] at ho
 obtain ⟨L, E, n, hL, hLo, hh, hs, h1, h2⟩ := ho
 simp only [vr] at hx
 obtain ⟨L', hL', hxe⟩ := hx.2.2 ⟨_, hl, by simp⟩
 rw [hL] at hL'; cases hL'
 refine ⟨L, E, n, hL, hLo, hxe, hh, ?_, hs, h1, h2⟩
 apply List.ext_getElem?
 intro j
 simp only [List.getElem?_map, Array.getElem?_toList]
 cases he : E[j]? with
 | none =>
   have : es[j]? = none := by rw [List.getElem?_eq_none_iff, ← hs]; exact Array.getElem?_eq_none_iff.1 he
   rw [this]; rfl
 | some e =>
   obtain ⟨_, y, hy, hk, _⟩ := h1 j e he
   rw [hy, Option.map_some, Option.map_some, hk]
theorem lookup_ok {t kt et : TypeId} {kd : TypeDesc} {m k : Operand} {l : Nat} {es : List (Value × D)} {dk dz : D} {kv zv : Value} {ok : Bool} (ho : o.op = .lookup t m k ok) (hu : P.underlying t = some (.map kt et)) (hkd : P.underlying kt = some kd)
   (hm : ev tm m = .map l) (hl : σ[l]? = some (.map es)) (hk : ev tm k = .d dk) (hkv : keyV dk = some kv) (hz : (P.info? et).bind (·.zero) = some zv) (hzd : keyV dz = some zv) (hik : IsKey kd kv) (hes : keysOk kd es) :
   OpOk P o tm σ (if ok then .tuple [.d ((mapFind kv es).getD dz), .d (.bool (mapFind kv es).isSome)] else .d ((mapFind kv es).getD dz)) tm σ := by
 intro w I ρ a hr hO
 have hmr := vr_ev hr m
 rw [hm] at hmr
 obtain ⟨L, E, n, hL, hLo, hme, hh, hkeys, hs, h1, h2⟩ := map_at hO hl hmr
 have hkr := vr_ev hr k
 rw [hk] at hkr
 simp only [vr] at hkr
 have hke := keyV_rel hkv hkr
 have hzr : (zeroValue et).run P w = .ok zv w := by
   rw [Option.bind_eq_some_iff] at hz
   obtain ⟨i, hi1, hi2⟩ := hz
   simp [zeroValue, typeInfo, hi1, hi2]
 rcases findNow_abs hik E.toList es 0 hkeys hes with ⟨g1, g2, _⟩ | ⟨j, e, d0, g1, g2, g3, g4, g5, _⟩
 · have hf := run_findKey (P := P) (w := w) hkd g1
   have hrun : (Instr.lookup t (a.eval m) (a.eval k) ok).run P w = .ok (if ok then .tuple #[zv, .bool false] else zv) w := by
     rw [hme, hke]
     simp only [Instr.lookup, Sem.run_bind, run_underlying hu, Result.andThen_ok, Go.MapKept.run_getObj_map hh, run_checkKey hkd hik, hf, hzr, Sem.run_pure]
   refine ⟨.value (if ok then .tuple #[zv, .bool false] else zv), _, w, I, ρ, by simp only [execOp, ho, Sem.run_bind, hrun, Result.andThen_ok, Sem.run_pure], .inl rfl, ?_, hr, hO, Ext.refl _ _ _ _⟩
   rw [g2]
   cases ok
   · simp only [Bool.false_eq_true, if_false, Option.getD_none, vr]; exact keyV_dr hzd
   · simp only [if_true, Option.getD_none, vr, vrL]
     exact ⟨[zv, .bool false], rfl, zv, _, rfl, keyV_dr hzd, _, _, rfl, by simp [Dr], rfl⟩
 · have hf := run_findKey (P := P) (w := w) hkd g1
   have hrun : (Instr.lookup t (a.eval m) (a.eval k) ok).run P w = .ok (if ok then .tuple #[e.val, .bool true] else e.val) w := by
     rw [hme, hke]
     simp only [Instr.lookup, Sem.run_bind, run_underlying hu, Result.andThen_ok, Go.MapKept.run_getObj_map hh, run_checkKey hkd hik, hf, Sem.run_pure]
   have hval : Dr w I d0 e.val := by
     obtain ⟨_, y, hy, _, hd⟩ := h1 j e (by simpa using g2)
     rw [g4] at hy; cases hy; exact hd
   refine ⟨.value (if ok then .tuple #[e.val, .bool true] else e.val), _, w, I, ρ, by simp only [execOp, ho, Sem.run_bind, hrun, Result.andThen_ok, Sem.run_pure], .inl rfl, ?_, hr, hO, Ext.refl _ _ _ _⟩
   rw [g5]
   cases ok
   · simp only [Bool.false_eq_true, if_false, Option.getD_some, vr]; exact hval
   · simp only [if_true, Option.getD_some, vr, vrL]
     exact ⟨[e.val, .bool true], rfl, e.val, _, rfl, hval, _, _, rfl, by simp [Dr], rfl⟩
theorem mapUpd_ok {t kt et : TypeId} {kd : TypeDesc} {m k x : Operand} {l : Nat} {es : List (Value × D)} {dk dx : D} {kv : Value} (ho : o.op = .mapUpdate t m k x) (hu : P.underlying t = some (.map kt et)) (hkd : P.underlying kt = some kd)
    (hm : ev tm m = .map l) (hl : σ[l]? = some (.map es)) (hk : ev tm k = .d dk) (hkv : keyV dk = some kv) (hx : ev tm x = .d dx) (hik : IsKey kd kv) (hes : keysOk kd es) : OpOk P o tm σ .undef tm (σ.set l (.map (mapPut kv dx es))) := by
  intro w I ρ a hr hO
  have hmr := vr_ev hr m
  rw [hm] at hmr
  obtain ⟨L, E, n, hL, hLo, hme, hh, hkeys, hs, h1, h2⟩ := map_at hO hl hmr
  have hkr := vr_ev hr k
  rw [hk] at hkr
  simp only [vr] at hkr
  have hke := keyV_rel hkv hkr
  have hxr := vr_ev hr x
  rw [hx] at hxr
  simp only [vr] at hxr
  have hlt : l < σ.length := (List.getElem?_eq_some_iff.1 hl).1
  have hb : L.b < w.heap.size := (Array.getElem?_eq_some_iff.1 hh).1
  -- what is common to both
  have hfin : ∀ (E' : Array MapEntry) (n' : Nat), (Instr.mapUpdate t (a.eval m) (a.eval k) (a.eval x)).run P w = .ok () (w.putObj L.b (.map E' n')) →
      (∀ (I' : Nat → Prop) (w' : World), (∀ d v, Dr w I d v → Dr w' I' d v) → E'.size = (mapPut kv dx es).length ∧ (∀ (j : Nat) (e : MapEntry), E'[j]? = some e → e.born < n' ∧ ∃ x : Value × D, (mapPut kv dx es)[j]? = some x ∧ e.key = x.1 ∧ Dr w' I' x.2 e.val) ∧ (∀ (i j : Nat) (e e' : MapEntry), E'[i]? = some e → E'[j]? = some e' → e.born = e'.born → i = j)) →
      ∃ nx x w' I' ρ', (execOp a.eval o).run P w = .ok nx w' ∧ (nx = .value x ∨ nx = .skip ∧ x = undef) ∧ vr w' I' ρ' (σ.set l (.map (mapPut kv dx es))) .undef x ∧ vrL w' I' ρ' (σ.set l (.map (mapPut kv dx es))) tm a.tmps.toList ∧ ORel w' I' ρ' (σ.set l (.map (mapPut kv dx es))) ∧
        Ext σ.length w I ρ σ w' I' ρ' (σ.set l (.map (mapPut kv dx es))) := by
    intro E' n' hrun hE'
    have hS : ∀ x, x < σ.length → Same ρ σ ρ (σ.set l (.map (mapPut kv dx es))) x := by
      intro y hy
      refine ⟨by simp; exact hy, fun o' g1 g2 => ?_⟩
      by_cases hyl : y = l
      · subst hyl
        rw [List.getElem?_set_self hlt] at g1
        cases g1
        exact ⟨rfl, _, hl, by simp, rfl⟩
      · rw [List.getElem?_set_ne (Ne.symm hyl)] at g1
        exact ⟨rfl, o', g1, g2, rfl⟩
    have hI : ∀ b, I b → I b ∧ (w.putObj L.b (.map E' n')).heap[b]? = w.heap[b]? := fun b hb => ⟨hb, putObj_other fun e => (hO.imm b hb).2 ⟨l, _, L, hl, by simp, hL, e.symm⟩⟩
    obtain ⟨q1, q2, q3⟩ := hE' I (w.putObj L.b (.map E' n')) (fun d v hd => Dr_mono hI d v hd)
    refine ⟨.skip, undef, _, I, ρ, ?_, .inr ⟨rfl, rfl⟩, by simp [vr], vrL_all hI hS hr, ?_, ?_⟩
    · simp only [execOp, ho, Sem.run_bind, hrun, Result.andThen_ok, Sem.run_pure]
    · refine hO.upd hl (by simp) hL rfl (fun b hb => putObj_other hb) (by simp) ?_
      simp only [orel]
      exact ⟨L, E', n', hL, hLo, putObj_self hb, q1, q2, q3⟩
    · exact Ext.upd hl (by simp) hL (fun _ => rfl) rfl rfl (fun b hb => putObj_other hb) (by simp) rfl rfl rfl
  have hput : ∀ (o' : Obj), (setObj L.b o').run P w = .ok () (w.putObj L.b o') := fun o' => by
    rw [run_setObj_map o' hh]; rfl
  rcases findNow_abs hik E.toList es 0 hkeys hes with ⟨g1, g2, g3⟩ | ⟨j, e, d0, g1, g2, g3, g4, g5, g6⟩
  · have hf := run_findKey (P := P) (w := w) hkd g1
    refine hfin (E.push { key := kv, val := a.eval x, born := n }) (n + 1) ?_ fun I' w' hmono => ?_
    · rw [hme, hke]
      simp only [Instr.mapUpdate, Sem.run_bind, run_underlying hu, Result.andThen_ok, Go.MapKept.run_getObj_map hh, run_checkKey hkd hik, hf, hput]
    · rw [g3]
      refine ⟨by simp [hs], fun i e he => ?_, fun i i' e e' he he' hbn => ?_⟩
      · rw [Array.getElem?_push] at he
        split at he
        · rename_i hi
          cases he
          exact ⟨by simp, (kv, dx), by rw [hi, hs]; simp, rfl, hmono _ _ hxr⟩
        · obtain ⟨r1, y, r2, r3, r4⟩ := h1 i e he
          exact ⟨by omega, y, by rw [List.getElem?_append_left (List.getElem?_eq_some_iff.1 r2).1]; exact r2, r3, hmono _ _ r4⟩
      · rw [Array.getElem?_push] at he he'
        split at he <;> split at he'
        · omega
        · cases he
          have := (h1 i' e' he').1
          simp at hbn; omega
        · cases he'
          have := (h1 i e he).1
          simp at hbn; omega
        · exact h2 i i' e e' he he' hbn
  · have hf := run_findKey (P := P) (w := w) hkd g1
    have g2' : E[j]? = some e := by simpa using g2
    have hsame : Instr.sameBits 10000 e.key kv = true := by
      rw [g3]; exact sameBits_refl hik 10000
    have hjl : j < es.length := (List.getElem?_eq_some_iff.1 g4).1
    refine hfin (E.modify j fun e => { e with key := kv, val := a.eval x }) n ?_ fun I' w' hmono => ?_
    · rw [hme, hke]
      simp only [Instr.mapUpdate, Sem.run_bind, run_underlying hu, Result.andThen_ok, Go.MapKept.run_getObj_map hh, run_checkKey hkd hik, hf, Nat.zero_add, g2', Option.map_some, Option.getD_some, Instr.keyThatStays, hsame, if_true, Sem.run_pure, hput]
    · rw [g6]
      refine ⟨by simp [hs], fun i e1 he => ?_, fun i i' e1 e2 he he' hbn => ?_⟩
      · rw [Array.getElem?_modify] at he
        split at he
        · rename_i hi
          subst hi
          rw [g2'] at he
          cases he
          exact ⟨(h1 j e g2').1, (kv, dx), by rw [List.getElem?_set_self hjl], rfl, hmono _ _ hxr⟩
        · rename_i hi
          obtain ⟨r1, y, r2, r3, r4⟩ := h1 i e1 he
          exact ⟨r1, y, by rw [List.getElem?_set_ne hi]; exact r2, r3, hmono _ _ r4⟩
      · have hb1 : ∀ (i : Nat) (e1 : MapEntry), (E.modify j fun e => { e with key := kv, val := a.eval x })[i]? = some e1 → ∃ e0, E[i]? = some e0 ∧ e0.born = e1.born := by
          intro i e1 he
          rw [Array.getElem?_modify] at he
          split at he
          · rename_i hi
            subst hi
            rw [g2'] at he
            cases he
            exact ⟨e, g2', rfl⟩
          · exact ⟨e1, he, rfl⟩
        obtain ⟨u1, v1, v2⟩ := hb1 i e1 he
        obtain ⟨u2, v3, v4⟩ := hb1 i' e2 he'
        exact h2 i i' u1 u2 v1 v3 (by rw [v2, v4, hbn])
end
end Go.Br
namespace Go.Br
open Go
mutual
def V.frc (l : Nat) (ds : List D) : V → V
  | .row k => if Nat.beq l k then .undef else .row k
  | .sl k off n c => if Nat.beq l k then .undef else .sl k off n c
  | .ptr k i s => if Nat.beq l k then (match i with | 0 => .ep ds.length (.agg ds) s | _ => .undef) else .ptr k i s
  | .yield k => if Nat.beq l k then .undef else .yield k
  | .map k => if Nat.beq l k then .undef else .map k
  | .fn f a b => .fn f (V.frcL l ds a) (V.frcL l ds b)
  | .tuple vs => .tuple (V.frcL l ds vs)
  | .agg vs => .agg (V.frcL l ds vs)
  | .d x => .d x
  | .undef => .undef
  | .nils => .nils
  | .ex sz xs => .ex sz xs
  | .ep sz x s => .ep sz x s
def V.frcL (l : Nat) (ds : List D) : List V → List V
  | [] => []
  | v :: vs => V.frc l ds v :: V.frcL l ds vs
end
def O.frc (l : Nat) (ds : List D) : O → O
  | .cells cs => .cells (V.frcL l ds cs)
  | .loop a b c tm x e f => .loop a b c (V.frcL l ds tm) x e f
  | .dead => .dead
  | .row sz xs mv => .row sz xs mv
  | .map es => .map es
  | .defd => .defd
section frc
variable {w : World} {I : Nat → Prop} {ρ : LM} {σ : Store} {P : Program}
mutual
theorem vr_frc {l : Nat} {cs0 : List V} {ds : List D} (hO : ORel w I ρ σ) (hl : σ[l]? = some (.cells cs0)) (hds : datasX cs0 = some ds) : ∀ (v : V) (x : Value), vr w I ρ σ v x → vr w (Iadd I ρ l) ρ (σ.set l .dead) (v.frc l ds) x
  | .row k, x, h => by
    simp only [V.frc]
    split
    · simp [vr]
    · rename_i hk
      have hk : k ≠ l := by rintro rfl; simp at hk
      simp only [vr] at h ⊢
      exact ⟨h.1, by simpa using h.2.1, fun sz' xs' mv' hx => h.2.2 sz' xs' mv' (by rwa [getElem?_set_ne hk] at hx)⟩
  | .sl k off n c, x, h => by
    simp only [V.frc]
    split
    · simp [vr]
    · rename_i hk
      have hk : k ≠ l := by rintro rfl; simp at hk
      simp only [vr] at h ⊢
      exact ⟨h.1, by simpa using h.2.1, fun sz' xs' mv' hx => h.2.2 sz' xs' mv' (by rwa [getElem?_set_ne hk] at hx)⟩
  | .ptr k i s, x, h => by
    simp only [V.frc]
    split
    · rename_i hk
      have hk : l = k := by simpa using hk
      subst hk
      split
      · simp only [vr] at h
        obtain ⟨L, hL, he⟩ := h.2.2 ⟨_, hl, by simp⟩
        have hob := hO.objs l _ hl
        simp only [orel] at hob
        obtain ⟨L', C, T, fz, hL', h2, h3, h4, h5, h6⟩ := hob
        rw [hL] at hL'; cases hL'
        have hD := vrL_DrLX hds h5 h6
        have hlen : C.size = ds.length := by have := DrL_len hD; simpa using this
        simp only [vr]
        refine ⟨L.b, 0, by rw [he, h2]; simp, .inr ⟨L, hL, rfl⟩, .agg C, ?_, by simp [Value.cells, hlen], fun j hj => ?_⟩
        · simp only [Dr]
          exact ⟨C.toList, by simp, DrL_mono (fun b hb => ⟨.inl hb, rfl⟩) _ _ hD⟩
        · simp [World.cell?, h3, Value.cells]
      · simp [vr]
    · rename_i hk
      have hk : k ≠ l := by rintro rfl; simp at hk
      simp only [vr] at h ⊢
      refine ⟨h.1, by simpa using h.2.1, ?_⟩
      rintro ⟨o, h1, h2⟩
      rw [getElem?_set_ne hk] at h1
      exact h.2.2 ⟨o, h1, h2⟩
  | .yield k, x, h => by
    simp only [V.frc]
    split
    · simp [vr]
    · rename_i hk
      have hk : k ≠ l := by rintro rfl; simp at hk
      simp only [vr] at h ⊢
      refine ⟨h.1, by simpa using h.2.1, ?_⟩
      rintro ⟨o, h1, h2⟩
      rw [getElem?_set_ne hk] at h1
      exact h.2.2 ⟨o, h1, h2⟩
  | .map k, x, h => by
    simp only [V.frc]
    split
    · simp [vr]
    · rename_i hk
      have hk : k ≠ l := by rintro rfl; simp at hk
      simp only [vr] at h ⊢
      refine ⟨h.1, by simpa using h.2.1, ?_⟩
      rintro ⟨o, h1, h2⟩
      rw [getElem?_set_ne hk] at h1
      exact h.2.2 ⟨o, h1, h2⟩
  | .fn f a b, x, h => by
    simp only [V.frc, vr] at h ⊢
    obtain ⟨fs, cs, e, h1, h2⟩ := h
    exact ⟨fs, cs, e, vrL_frc hO hl hds a fs h1, vrL_frc hO hl hds b cs h2⟩
  | .tuple vs, x, h => by
    simp only [V.frc, vr] at h ⊢
    obtain ⟨ys, e, h1⟩ := h
    exact ⟨ys, e, vrL_frc hO hl hds vs ys h1⟩
  | .agg vs, x, h => by
    simp only [V.frc, vr] at h ⊢
    obtain ⟨ys, e, h1, h2⟩ := h
    exact ⟨ys, e, vrL_frc hO hl hds vs ys h1, h2⟩
  | .d y, x, h => by
    simp only [V.frc, vr] at h ⊢
    exact Dr_mono (fun b hb => ⟨.inl hb, rfl⟩) _ _ h
  | .undef, x, h => by simp [V.frc, vr]
  | .nils, x, h => by simpa [V.frc, vr] using h
  | .ex sz ys, x, h => by
    simp only [V.frc, vr] at h ⊢
    obtain ⟨a, e, h1⟩ := h
    exact ⟨a, e, Dr_mono (fun b hb => ⟨.inl hb, rfl⟩) _ _ h1⟩
  | .ep sz y s, x, h => by
    simp only [V.frc, vr] at h ⊢
    obtain ⟨b, q, e, h1, u, h2, h3, h4⟩ := h
    exact ⟨b, q, e, .inl h1, u, Dr_mono (fun b hb => ⟨.inl hb, rfl⟩) _ _ h2, h3, h4⟩
theorem vrL_frc {l : Nat} {cs0 : List V} {ds : List D} (hO : ORel w I ρ σ) (hl : σ[l]? = some (.cells cs0)) (hds : datasX cs0 = some ds) : ∀ (vs : List V) (ys : List Value), vrL w I ρ σ vs ys → vrL w (Iadd I ρ l) ρ (σ.set l .dead) (V.frcL l ds vs) ys
  | [], ys, h => by simpa [V.frcL, vrL] using h
  | v :: vs, ys, h => by
    simp only [V.frcL, vrL] at h ⊢
    obtain ⟨y, ys', e, h1, h2⟩ := h
    exact ⟨y, ys', e, vr_frc hO hl hds v y h1, vrL_frc hO hl hds vs ys' h2⟩
end
theorem orel_frc {l : Nat} {cs0 : List V} {ds : List D} (hO : ORel w I ρ σ) (hl : σ[l]? = some (.cells cs0)) (hds : datasX cs0 = some ds) {k : Nat} {o : O} (h : orel w I ρ σ k o) : orel w (Iadd I ρ l) ρ (σ.set l .dead) k (o.frc l ds) := by
 have hI : ∀ b, I b → Iadd I ρ l b ∧ w.heap[b]? = w.heap[b]? := fun b hb => ⟨.inl hb, rfl⟩
 cases o with
 | dead => simp [O.frc, orel]
 | cells cs =>
   simp only [O.frc, orel] at h ⊢
   obtain ⟨L, C, T, fz, h1, h2, h3, h4, h5, h6⟩ := h
   exact ⟨L, C, T, fz, h1, h2, h3, h4, vrL_frc hO hl hds cs _ h5, h6⟩
 | row sz xs mv =>
   simp only [O.frc, orel] at h ⊢
   rcases h with h | ⟨L, C, T, fz, h1, h2, h3, h4, h5, h6, h7, h8⟩
   · exact .inl h
   · exact .inr ⟨L, C, T, fz, h1, h2, h3, h4, h5, h6, h7, DrE_mono hI _ _ rfl _ _ h8⟩
 | map es =>
   simp only [O.frc, orel] at h ⊢
   obtain ⟨L, E, n, h1, h2, h3, h4, h5, h6⟩ := h
   refine ⟨L, E, n, h1, h2, h3, h4, fun j e hj => ?_, h6⟩
   obtain ⟨g1, x, g2, g3, g4⟩ := h5 j e hj
   exact ⟨g1, x, g2, g3, Dr_mono hI _ _ g4⟩
 | loop st pend fn tm params assign body =>
   simp only [O.frc, orel] at h ⊢
   obtain ⟨L, tmps, db, h1, h2, h3⟩ := h
   exact ⟨L, tmps, db, h1, h2, vrL_frc hO hl hds tm _ h3⟩
 | defd => simpa [O.frc, orel] using h
theorem frc_dead {l : Nat} {ds : List D} {o : O} : o.frc l ds = .dead ↔ o = .dead := by cases o <;> simp [O.frc]
theorem frc_still {l : Nat} {ds : List D} {o : O} : (o.frc l ds).still = o.still := by cases o <;> rfl
theorem frc_rl {l : Nat} {ds : List D} (o : O) : o.alike (o.frc l ds) := by cases o <;> rfl
theorem frc_ld {l : Nat} {ds : List D} {o : O} : (o.frc l ds).ld = o.ld := by cases o <;> rfl
end frc
section rules
variable {P : Program} {f : FuncId} {ro : Option Nat} {n : Nat} {k : List Item} {tm tm' : List V} {σ σ' : Store} {df : List Nat} {Q : AE → Store → Prop}
theorem freezeC_core {w : World} {I : Nat → Prop} {ρ : LM} {σ : Store} {tm : List V} {a : List Value} {l : Nat} {cs0 : List V} {ds : List D} (hO : ORel w I ρ σ) (hl : σ[l]? = some (.cells cs0)) (hds : datasX cs0 = some ds) (hr : vrL w I ρ σ tm a) :
    vrL w (Iadd I ρ l) ρ ((σ.map (O.frc l ds)).set l .dead) (V.frcL l ds tm) a ∧ ORel w (Iadd I ρ l) ρ ((σ.map (O.frc l ds)).set l .dead) ∧ Ext σ.length w I ρ σ w (Iadd I ρ l) ρ ((σ.map (O.frc l ds)).set l .dead) ∧ True := by
  have hlt : l < σ.length := (List.getElem?_eq_some_iff.1 hl).1
  have hget : ∀ x o1, ((σ.map (O.frc l ds)).set l .dead)[x]? = some o1 → o1 ≠ .dead → x ≠ l ∧ ∃ o2, σ[x]? = some o2 ∧ o2 ≠ .dead ∧ o1 = o2.frc l ds := by
    intro x o1 h1 h2
    by_cases hx : x = l
    · subst hx
      rw [List.getElem?_set_self (by simpa using hlt)] at h1
      cases h1; exact absurd rfl h2
    · rw [getElem?_set_ne hx, List.getElem?_map, Option.map_eq_some_iff] at h1
      obtain ⟨o2, h3, rfl⟩ := h1
      exact ⟨hx, o2, h3, fun e => h2 (frc_dead.2 e), rfl⟩
  have hsame : ∀ x, x < σ.length → Same ρ (σ.set l .dead) ρ ((σ.map (O.frc l ds)).set l .dead) x := by
    intro x hx
    refine ⟨by simpa using hx, fun o1 h1 h2 => ⟨rfl, ?_⟩⟩
    obtain ⟨hne, o2, h3, h4, rfl⟩ := hget x o1 h1 h2
    exact ⟨o2, by rw [getElem?_set_ne hne]; exact h3, h4, frc_rl o2⟩
  have hII : ∀ b, Iadd I ρ l b → Iadd I ρ l b ∧ w.heap[b]? = w.heap[b]? := fun b hb => ⟨hb, rfl⟩
  have htm := vrL_all hII (fun x hx => hsame x (by simpa using hx)) (vrL_frc hO hl hds tm _ hr)
  have hlive : ∀ x, live ((σ.map (O.frc l ds)).set l .dead) x → x ≠ l ∧ live σ x := by
    rintro x ⟨o1, h1, h2⟩
    obtain ⟨hne, o2, h3, h4, _⟩ := hget x o1 h1 h2
    exact ⟨hne, o2, h3, h4⟩
  have hfoot : ∀ b, foot ρ ((σ.map (O.frc l ds)).set l .dead) b → foot ρ σ b := by
    rintro b ⟨x, o1, L, h1, h2, h3, h4⟩
    obtain ⟨_, o2, h5, h6, _⟩ := hget x o1 h1 h2
    exact ⟨x, o2, L, h5, h6, h3, h4⟩
  have hO2 : ORel w (Iadd I ρ l) ρ ((σ.map (O.frc l ds)).set l .dead) := by
    refine ⟨fun x o1 h1 => ?_, fun x y X Y hx hy => hO.inj x y X Y (hlive x hx).2 (hlive y hy).2, fun b hb => hO.flt b (hfoot b hb), fun b hb => ?_⟩
    · by_cases hd : o1 = .dead
      · subst hd; simp [orel]
      obtain ⟨hne, o2, h3, h4, rfl⟩ := hget x o1 h1 hd
      have := orel_frc hO hl hds (hO.objs x o2 h3)
      exact orel_all hII (fun x hx => hsame x (by simpa using hx)) rfl (fun _ _ => rfl) this
    · rcases hb with hb | ⟨L, hL, rfl⟩
      · exact ⟨(hO.imm b hb).1, fun hf => (hO.imm b hb).2 (hfoot b hf)⟩
      · refine ⟨hO.flt _ ⟨l, _, L, hl, by simp, hL, rfl⟩, ?_⟩
        rintro ⟨x, o1, X, h1, h2, h3, h4⟩
        obtain ⟨hne, o2, h5, h6, _⟩ := hget x o1 h1 h2
        exact hne (hO.inj x l X L ⟨o2, h5, h6⟩ ⟨_, hl, by simp⟩ h3 hL h4)
  have hX : Ext σ.length w I ρ σ w (Iadd I ρ l) ρ ((σ.map (O.frc l ds)).set l .dead) := by
    refine ⟨Nat.le_refl _, rfl, rfl, rfl, fun _ _ _ => rfl, fun b hb => .inl hb, fun b hb => ?_, fun b hb => .inl (hfoot b hb), by simp, fun x _ hx => (hlive x hx).2, fun x o1 hx h1 h2 => ⟨rfl, ?_⟩, fun x o hx h1 h2 => ?_⟩
    · rcases hb with hb | ⟨L, hL, rfl⟩
      · exact .inl hb
      · exact .inr (.inl ⟨l, _, L, hl, by simp, hL, rfl⟩)
    · obtain ⟨hne, o2, h5, h6, rfl⟩ := hget x o1 h1 (by rintro rfl; simp [O.still] at h2)
      exact ⟨o2, h5, by rwa [frc_still] at h2, frc_rl o2⟩
    · have hne : x ≠ l := by rintro rfl; rw [hl] at h1; cases h1; exact h2 rfl
      exact ⟨o.frc l ds, by rw [getElem?_set_ne hne, List.getElem?_map, h1]; rfl, frc_ld⟩
  exact ⟨htm, hO2, hX, trivial⟩
theorem AW.freezeC (l : Nat) {cs0 : List V} {ds : List D} (hl : σ[l]? = some (.cells cs0)) (hds : datasX cs0 = some ds) (h : AW P f ro n k (V.frcL l ds tm) ((σ.map (O.frc l ds)).set l .dead) df Q) : AW P f ro n k tm σ df Q := by
 intro w I ρ a rb hr hb hn
 obtain ⟨htm, hO2, hX, _⟩ := freezeC_core hr.ors hl hds hr.tms
 have hst := hX.stays
 have := h w (Iadd I ρ l) ρ a rb ⟨htm, hO2, dfr_stay hst hr.dfs⟩ (rbOf_stay hst hb) (by simpa using hn)
 exact this.mono fun e w' hf => hf.trans (hX.less hn)
def okM (n : Nat) (m : List Nat) (σ σ' : Store) : Bool :=
  (List.range n).all fun l => (match m[l]? with | some k => Nat.beq l k | none => false) || (match σ[l]?, σ'[l]? with | some (.row _ _ _), some (.row _ _ true) => true | _, _ => false)
theorem AW.subM (m : List Nat) (tm' : List V) (σ' : Store) (ro' : Option Nat) (df' : List Nat) (he : exact σ m σ') (htm : tm = V.renL (mp m σ.length) tm') (hn' : n ≤ σ'.length ∧ okM n m σ σ' = true)
    (hbel : (belB σ'.length σ' && (V.locsL tm').all fun l => Nat.blt l σ'.length) = true) (hdf : df = df'.map (mp m σ.length) ∧ (df'.all fun l => Nat.blt l σ'.length) = true) (hro : ro = ro'.map (mp m σ.length) ∧ (ro'.all fun l => Nat.blt l σ'.length) = true)
    (h : AW P f ro' n k tm' σ' df' Q) : AW P f ro n k tm σ df Q := by
  intro w I ρ a rb hr hb hn
  simp only [Bool.and_eq_true] at hbel
  have hO := hr.ors
  have hE : Emb (mp m σ.length) (rhoC m ρ) σ' ρ σ := by
    intro i o hi
    obtain ⟨h1, h2⟩ := exact_get he hi
    exact ⟨by simp [rhoC, h1], _, h2, O.ren_dead, O.ren_alike o⟩
  have hfoot : ∀ b, foot (rhoC m ρ) σ' b → foot ρ σ b := by
    rintro b ⟨i, oc, L, h1, h2, h3, h4⟩
    have hi := (List.getElem?_eq_some_iff.1 h1).1
    obtain ⟨o, h5, h6⟩ := (hE.live hi).2 ⟨oc, h1, h2⟩
    exact ⟨_, o, L, h5, h6, (hE.rho hi).trans h3, h4⟩
  have hO2 : ORel w I (rhoC m ρ) σ' := by
    refine ⟨fun i oc hi => ?_, fun i j L L' hi hj hL hL' e => ?_, fun b h => hO.flt b (hfoot b h), fun b h => ⟨(hO.imm b h).1, fun hf => (hO.imm b h).2 (hfoot b hf)⟩⟩
    · obtain ⟨h1, h2⟩ := exact_get he hi
      exact (orel_ren hE (by simp [rhoC, h1]) (belB_ok hbel.1 hi)).1 (hO.objs _ _ h2)
    · have h1 := live_lt hi
      have h2 := live_lt hj
      have := hO.inj _ _ L L' ((hE.live h1).2 hi) ((hE.live h2).2 hj) ((hE.rho h1).trans hL) ((hE.rho h2).trans hL') e
      have hi' := (exact_get he (List.getElem?_eq_getElem h1)).1
      have hj' := (exact_get he (List.getElem?_eq_getElem h2)).1
      rw [← this] at hj'
      have a1 := mem_idx (nodupB_ok he.2.1) hi'
      have a2 := mem_idx (nodupB_ok he.2.1) hj'
      rw [a1] at a2
      exact Option.some.inj a2
  have hid0 : ∀ l, l < n → (mp m σ.length l = l ∧ rhoC m ρ l = ρ l) ∨ ((∃ sz xs mv, σ[l]? = some (.row sz xs mv)) ∧ ∃ sz xs, σ'[l]? = some (.row sz xs true)) := by
    intro l hl
    have h1 := List.all_eq_true.1 hn'.2 l (by simpa using hl)
    rw [Bool.or_eq_true] at h1
    rcases h1 with h1 | h1
    · left
      split at h1
      · rename_i k hk
        have hk' : l = k := by simpa using h1
        subst hk'
        exact ⟨by simp [mp, hk], by simp [rhoC, hk]⟩
      · cases h1
    · right
      split at h1
      · rename_i a1 a2 a3 a4 a5 h2 h3
        exact ⟨⟨_, _, _, h2⟩, _, _, h3⟩
      · cases h1
  have htms : vrL w I (rhoC m ρ) σ' tm' a.tmps.toList := by
    have h1 := hr.tms
    rw [htm] at h1
    exact (vrL_ren hE tm' _ fun l hl => by have := (List.all_eq_true.1 hbel.2) l hl; simpa [Nat.blt_eq] using this).1 h1
  have hds : dfr (rhoC m ρ) σ' df' a.defers := by
    have h1 := hr.dfs
    rw [hdf.1] at h1
    exact dfr_exact he hE hdf.2 h1
  have hrb : rbOf (rhoC m ρ) σ' ro' rb := by
    rw [hro.1] at hb
    cases ro' with
    | none => exact hb
    | some l =>
      obtain ⟨L, o, g1, g2, g3, g4⟩ := hb
      have hlt : l < σ'.length := by simpa [Nat.blt_eq] using hro.2
      have hx := (exact_get he (List.getElem?_eq_getElem hlt)).2
      rw [g2] at hx
      refine ⟨L, σ'[l], (hE.rho hlt).symm.trans g1, List.getElem?_eq_getElem hlt, ?_, g4⟩
      obtain ⟨a1, a2, a3, a4, a5, a6, a7, rfl⟩ := g3
      cases hq : σ'[l] <;> rw [hq] at hx <;> simp [O.ren] at hx
      exact ⟨_, _, _, _, _, _, _, rfl⟩
  have hrun := h w I (rhoC m ρ) a rb ⟨htms, hO2, hds⟩ hrb hn'.1
  refine hrun.mono fun e w' hf => ?_
  obtain ⟨I', ρ', σ2, r, h1, h2, h3, h4⟩ := hf
  refine ⟨I', ρ', σ2, r, h1, h2, h3, ⟨h4.size, h4.os, h4.tape, h4.output, fun b hb hf => h4.old b hb fun h => hf (hfoot b h), h4.immI, fun b hb => ?_, fun b hb => ?_, h4.len, fun l hl hv => ?_, fun l o' hl ho' hst => ?_, fun l o hl ho hld => ?_⟩⟩
  · rcases h4.immN b hb with hq | hq | hq
    · exact .inl hq
    · exact .inr (.inl (hfoot b hq))
    · exact .inr (.inr hq)
  · exact (h4.footN b hb).imp (hfoot b) id
  · rcases hid0 l hl with hid | ⟨⟨_, _, _, h5⟩, _⟩
    · have := (hE.live (Nat.lt_of_lt_of_le hl hn'.1)).2 (h4.alive l hl hv)
      rwa [hid.1] at this
    · exact ⟨_, h5, by simp⟩
  · obtain ⟨g1, o, g2, g3, g4⟩ := h4.fixed l o' hl ho' hst
    rcases hid0 l hl with hid | ⟨_, _, _, h5⟩
    · have hx := (exact_get he g2).2
      rw [hid.1] at hx
      exact ⟨g1.trans hid.2, _, hx, by rw [O.ren_still]; exact g3, O.alike_trans (O.ren_alike o) g4⟩
    · rw [h5] at g2
      cases g2
      simp [O.still] at g3
  · rcases hid0 l hl with hid | ⟨⟨_, _, _, h5⟩, _⟩
    · have hlt : l < σ'.length := Nat.lt_of_lt_of_le hl hn'.1
      have hx := (exact_get he (List.getElem?_eq_getElem hlt)).2
      rw [hid.1, ho, Option.some.injEq] at hx
      obtain ⟨o', g1, g2⟩ := h4.stay l _ hl (List.getElem?_eq_getElem hlt) (by rw [hx, O.ren_ld] at hld; exact hld)
      exact ⟨o', g1, by rw [g2, hx, O.ren_ld]⟩
    · rw [h5] at ho
      cases ho
      exact absurd rfl hld
end rules
end Go.Br
namespace Go.Br
open Go
section
variable {P : Program} {σ : Store}
theorem ixSl_ok {tm : List V} {t : TypeId} {x i : Operand} {o : Oper} {l off len sz : Nat} {c : Option Nat} {xs : List D} {mv : Bool} {k : IntKind} {n : Int} (ho : o.op = .indexAddr t x i) (hx : ev tm x = .sl l off len c) (hi : ev tm i = .d (.int k n))
   (hs : σ[l]? = some (.row sz xs mv)) (ht : elemSz P t = some sz) (h0 : 0 ≤ n) (hn : n.toNat < len) : OpOk P o tm σ (.ptr l (off + n.toNat) 0) tm σ := by
 intro w I ρ a hr hO
 have hxr := vr_ev hr x
 have hir := vr_ev hr i
 rw [hx] at hxr
 rw [hi] at hir
 simp only [vr, Dr] at hir hxr
 obtain ⟨e, inf, hu, hinf, hsz⟩ := elemSz_und ht
 have hob := hO.objs l _ hs
 simp only [orel] at hob
 obtain ⟨hle0, hrow, _⟩ := hxr.2.2 _ _ _ hs
 rcases hob with ⟨_, rfl⟩ | ⟨L, C, T, fz, hL, hLs, hh, _⟩
 · simp at hle0; omega
 rcases hrow with ⟨h3, _⟩ | ⟨L', hL', hle, he⟩
 · omega
 rw [hL] at hL'; cases hL'
 refine ⟨_, .pointer (some ⟨L.b, L.o + off * L.sz + n.toNat * sz, none⟩), w, I, ρ, ?_, .inl rfl, ?_, hr, hO, Ext.refl _ _ _ _⟩
 · have hcond : 0 ≤ n ∧ n < (len : Int) := ⟨h0, by omega⟩
   simp [execOp, ho, he, hir, Instr.indexAt, asIntOf, run_underlying hu, hcond, sizeOf, typeInfo, hinf, hsz, addr_add]
 · simp only [vr]
   exact ⟨rfl, hxr.2.1, fun _ => ⟨L, hL, by simp only [hLs, Nat.add_mul, Nat.add_zero, Nat.add_assoc]⟩⟩
theorem ixSl0_ok {tm : List V} {t : TypeId} {x i : Operand} {o : Oper} {l len sz : Nat} {c : Option Nat} {xs : List D} {mv : Bool} {k : IntKind} {n : Int} (ho : o.op = .indexAddr t x i) (hx : ev tm x = .sl l 0 len c) (hi : ev tm i = .d (.int k n))
  (hs : σ[l]? = some (.row sz xs mv)) (ht : elemSz P t = some sz) (h0 : 0 ≤ n) (hn : n.toNat < len) : OpOk P o tm σ (.ptr l n.toNat 0) tm σ := by
 have := ixSl_ok (P := P) ho hx hi hs ht h0 hn
 rwa [Nat.zero_add] at this
end
end Go.Br
namespace Go.Br
open Go Go.MapKept
section
variable {P : Program} {tm : List V} {σ : Store} {o : Oper}
theorem lookupF_ok {t kt et : TypeId} {kd : TypeDesc} {m k : Operand} {l : Nat} {es : List (Value × D)} {dk dz d0 : D} {kv zv : Value} (ho : o.op = .lookup t m k false) (hu : P.underlying t = some (.map kt et)) (hkd : P.underlying kt = some kd)
  (hm : ev tm m = .map l) (hl : σ[l]? = some (.map es)) (hk : ev tm k = .d dk) (hkv : keyV dk = some kv) (hz : (P.info? et).bind (·.zero) = some zv) (hzd : keyV dz = some zv) (hik : IsKey kd kv) (hes : keysOk kd es) (hf : mapFind kv es = some d0) :
  OpOk P o tm σ (.d d0) tm σ := by
 have := lookup_ok (P := P) (ok := false) ho hu hkd hm hl hk hkv hz hzd hik hes
 rwa [hf] at this
end
end Go.Br
namespace Go.Br
open Go
section
variable {P : Program} {w : World} {I : Nat → Prop} {ρ : LM} {σ : Store}
theorem newData {o : Oper} {tm : List V} {e : TypeId} {ds : List D} {C : Array Value} {a : Act} {sz cap : Nat} (hr : vrL w I ρ σ tm a.tmps.toList) (hO : ORel w I ρ σ) (hle : ds.length ≤ cap) (hcap : cap ≤ maxLen)
   (hd : DrE (w.alloc (.cells C e)) I sz w.heap.size 0 ds)
   (hrun : (execOp a.eval o).run P w = .ok (.value (.slice (some ⟨w.heap.size, 0, none⟩) ds.length cap)) (w.alloc (.cells C e))) :
   ∃ nx x w' I' ρ', (execOp a.eval o).run P w = .ok nx w' ∧ (nx = .value x ∨ nx = .skip ∧ x = undef) ∧ vr w' I' ρ' σ (.d (.list sz ds)) x ∧ vrL w' I' ρ' σ tm a.tmps.toList ∧ ORel w' I' ρ' σ ∧ Ext σ.length w I ρ σ w' I' ρ' σ := by
 have hold : ∀ b, b < w.heap.size → (w.alloc (.cells C e)).heap[b]? = w.heap[b]? := fun b hb => heap_alloc_old _ _ _ hb
 have hsz : (w.alloc (.cells C e)).heap.size = w.heap.size + 1 := by simp
 have hI : ∀ b, I b → (I b ∨ b = w.heap.size) ∧ (w.alloc (.cells C e)).heap[b]? = w.heap[b]? := fun b hb => ⟨.inl hb, hold b (hO.imm b hb).1⟩
 have hS : ∀ x, x < σ.length → Same ρ σ ρ σ x := fun x hx => ⟨hx, fun o' h1 h2 => ⟨rfl, o', h1, h2, rfl⟩⟩
 refine ⟨_, _, _, (fun b => I b ∨ b = w.heap.size), ρ, hrun, .inl rfl, ?_, vrL_all hI hS hr, ?_, ?_⟩
 · simp only [vr, Dr]
   exact ⟨_, cap, rfl, hle, hcap, .inr ⟨_, 0, rfl, .inr rfl, DrE_mono (fun b hb => ⟨.inl hb, rfl⟩) _ _ rfl _ _ hd⟩⟩
 · refine ⟨fun l o h => ?_, hO.inj, fun b hb => by rw [hsz]; have := hO.flt b hb; omega, fun b hb => ?_⟩
   · by_cases hd : o = .dead
     · subst hd; simp [orel]
     · exact orel_all hI hS rfl (fun L hL => hold _ (hO.flt _ ⟨l, o, L, h, hd, hL, rfl⟩)) (hO.objs l o h)
   · rw [hsz]
     rcases hb with hb | rfl
     · exact ⟨by have := (hO.imm b hb).1; omega, (hO.imm b hb).2⟩
     · exact ⟨by omega, fun h => by have := hO.flt _ h; omega⟩
 · refine ⟨by rw [hsz]; omega, rfl, rfl, rfl, fun b hb _ => hold b hb, fun b hb => .inl hb, fun b hb => ?_, fun b hb => .inl hb, Nat.le_refl _, fun _ _ h => h, fun l o _ h hf => ⟨rfl, o, h, hf, rfl⟩, fun l o _ h _ => ⟨o, h, rfl⟩⟩
   rcases hb with hb | rfl
   · exact .inl hb
   · exact .inr (.inr (Nat.le_refl _))
theorem drE_same {b e : Nat} {C : Array Value} {z : Value} {dz : D} (hz : keyV dz = some z) (hc : ∀ j, j < C.size → C[j]? = some z) : ∀ (n o : Nat), o + n ≤ C.size → b = w.heap.size → DrE (w.alloc (.cells C e)) I 1 b o (List.replicate n dz)
 | 0, o, _, _ => by simp [DrE]
 | n + 1, o, h, hb => by
   subst hb
   rw [List.replicate_succ]
   simp only [DrE]
   have hz1 : z.cells = #[z] := by cases dz <;> simp_all [keyV] <;> subst hz <;> rfl
   refine ⟨⟨z, keyV_dr hz, by simp [hz1], fun j hj => ?_⟩, drE_same hz hc n (o + 1) (by omega) rfl⟩
   have hj0 : j = 0 := by omega
   subst hj0
   rw [World.cell?_alloc_new, hc _ (by omega), hz1]
   rfl
theorem makeD_ok {tm : List V} {o : Oper} {l c : Operand} {t e : TypeId} {z : Value} {dz : D} {bytes n : Nat} {kl kc : IntKind} (ho : o.op = .makeSlice t l c) (ht : P.underlying t = some (.slice e)) (hinfo : (P.info? e).map (fun i => (i.zero, i.size, i.bytes)) = some (some z, 1, bytes))
   (hdz : keyV dz = some z) (hl : ev tm l = .d (.int kl (n : Nat))) (hc : ev tm c = .d (.int kc (n : Nat))) (hb : bytes * n ≤ 281474976710656) (hm : n ≤ maxLen) : OpOk P o tm σ (.d (.list 1 (List.replicate n dz))) tm σ := by
 intro w I ρ a hr hO
 have hlr := vr_ev hr l
 have hcr := vr_ev hr c
 rw [hl] at hlr
 rw [hc] at hcr
 simp only [vr, Dr] at hlr hcr
 have hz1 : z.cells = #[z] := by cases dz <;> simp_all [keyV] <;> subst hdz <;> rfl
 have hrun := run_make_row' (P := P) t e z bytes ht hinfo hz1 kl kc n hb (by simp only [maxLen] at hm; omega) w
 have hlen : (List.replicate n dz).length = n := by simp
 refine newData (cap := n) (C := madeCells #[z] n) (e := e) hr hO (by omega) hm (drE_same hdz (fun j hj => ?_) n 0 (by simp [madeCells]) rfl) ?_
 · simp only [madeCells, Array.size_map, Array.size_range] at hj
   simp [madeCells, hj, Nat.mod_one]
 · rw [hlen]
   simp only [execOp, ho, hlr, hcr, Sem.run_bind, hrun, Result.andThen_ok, Sem.run_pure]
end
end Go.Br
namespace Go.Br
open Go
def setO : Nat → O → Store → Store
  | _, o, [] => [o]
  | 0, o, _ :: s => o :: s
  | i + 1, o, x :: s => x :: setO i o s
def upS (ds : List (Nat × O)) (σ : Store) : Store := ds.foldl (fun s p => setO p.1 p.2 s) σ
def upD (dt : List (Nat × V)) (tm : List V) : List V := dt.foldl (fun t p => t.set p.1 p.2) tm
def upT (l : List Nat) (dt : List (Nat × V)) (tm : List V) : List V := upD dt (keep l tm)
section
variable {P : Program} {f : FuncId} {ro : Option Nat} {n : Nat} {T T1 T2 : List Item} {tm tm' : List V} {σ σ' : Store} {df : List Nat} {Q : AE → Store → Prop}
theorem AW.sg (m : Nat) (l : List Nat) (T' : List Item) (dt : List (Nat × V)) (ds : List (Nat × O)) (h : AW P f ro n T' (upT l dt tm) (upS ds σ) df Q)
  (hs : (msteps P m T tm σ).map (fun s => (s.1, keep l s.2.1, s.2.2)) = some (T', upT l dt tm, upS ds σ) := by kernel_rfl) : AW P f ro n T tm σ df Q :=
 AW.seg m l hs h
theorem AW.sg0 (m : Nat) (l : List Nat) (T' : List Item) (dt : List (Nat × V)) (h : AW P f ro n T' (upT l dt tm) σ df Q)
  (hs : (msteps P m T tm σ).map (fun s => (s.1, keep l s.2.1, s.2.2)) = some (T', upT l dt tm, σ) := by kernel_rfl) : AW P f ro n T tm σ df Q :=
 AW.seg m l hs h
theorem AW.kp (l : List Nat) (h : AW P f ro n T (keep l tm) σ df Q) : AW P f ro n T tm σ df Q := AW.keeps l rfl h
theorem AW.if' (b : Bool) (T1 T2 : List Item) (h1 : b = true → AW P f ro n T1 tm σ df Q) (h2 : b = false → AW P f ro n T2 tm σ df Q)
  (ht : isCond T = true := by kernel_rfl) (hc : ev tm (condOf T) = .d (.bool b) := by kernel_rfl) (hT1 : cgo 1 [true] T = T1 := by kernel_rfl) (hT2 : cgo 1 [false] T = T2 := by kernel_rfl) : AW P f ro n T tm σ df Q :=
 AW.ifH ht hc hT1 hT2 h1 h2
def opT (T : List Item) : Op := ((opOf T).getD default).op
def callX (T : List Item) : Operand := match opT T with | .call { callee := .value x, .. } => x | _ => .global 0
def callA (T : List Item) : Array Operand := match opT T with | .call c => c.args | _ => #[]
def callT (T : List Item) : Array TypeId := match opT T with | .call c => c.argTypes | _ => #[]
def fstV : V → List V | .fn _ a _ => a | _ => []
def capV : V → List V | .fn _ _ b => b | _ => []
theorem AW.ca {g : FuncId} {fn : Func} {c : Code} (m : List Nat) {cargs : List V} {σc : Store} {Qc : AE → Store → Prop} (T' : List Item)
  (hF : Fnc P g fn c) (hc : CallsA P g cargs σc Qc)
  (hk : ∀ r σc', Qc r σc' → ∃ v, r = .ret v ∧ AW P f ro n T' (put (V.killL (movedB m σc') tm) ((opOf T).getD default).dst (v.ren (mp m σ.length))) (merge σ m σc') df Q)
  (ho : opOf T = some ((opOf T).getD default) := by kernel_rfl) (hw : wantA (opsOf T) ((opOf T).getD default) tm = some true := by kernel_rfl) (hT : tlOf T = T' := by kernel_rfl)
  (hop : ((opOf T).getD default).op = .call { callee := .value (callX T), args := callA T, argTypes := callT T } := by kernel_rfl)
  (hx : ev tm (callX T) = .fn (.func g) (fstV (ev tm (callX T))) (capV (ev tm (callX T))) := by kernel_rfl)
  (hargs : coArgs P fn.params.toList (fstV (ev tm (callX T)) ++ (callA T).toList.map (ev tm) ++ capV (ev tm (callX T))) = V.renL (mp m σ.length) cargs := by kernel_rfl)
  (hbel : (belB σc.length σc && (V.locsL cargs).all fun l => Nat.blt l σc.length) = true := by kernel_rfl)
  (h1 : m.length = σc.length := by kernel_rfl) (h2 : nodupB m = true := by kernel_rfl) (h3 : m.map (fun l => σ[l]?) = (m.zip σc).map (fun p => some (flagged (σ.getD p.1 .dead) (p.2.ren (mp m σ.length)))) := by kernel_rfl) : AW P f ro n T tm σ df Q :=
 AW.callH m cargs σc hF hc ho hw hT hop hx hargs hbel ⟨h1, h2, h3⟩ hk
theorem AW.op' {v : V} (T' : List Item) (hok : OpOk P ((opOf T).getD default) tm σ v tm' σ') (h : AW P f ro n T' (put tm' ((opOf T).getD default).dst v) σ' df Q)
  (ho : opOf T = some ((opOf T).getD default) := by kernel_rfl) (hw : wantA (opsOf T) ((opOf T).getD default) tm = some true := by kernel_rfl) (hd : Op.isDefer ((opOf T).getD default).op = false := by kernel_rfl) (hT : tlOf T = T' := by kernel_rfl) : AW P f ro n T tm σ df Q :=
 AW.opH ho hw hd hT hok h
theorem AW.su (m : List Nat) (tm' : List V) (σ' : Store) (h : AW P f none n T tm' σ' [] Q) (h1 : m.length = σ'.length := by kernel_rfl) (h2 : nodupB m = true := by kernel_rfl) (h3 : m.map (fun l => σ[l]?) = σ'.map (fun o => some (o.ren (mp m σ.length))) := by kernel_rfl)
  (h4 : tm = V.renL (mp m σ.length) tm' := by kernel_rfl) (h5 : Nat.ble n σ'.length = true := by kernel_rfl) (h6 : m.take n = List.range n := by kernel_rfl)
  (h7 : (belB σ'.length σ' && (V.locsL tm').all fun l => Nat.blt l σ'.length) = true := by kernel_rfl) : AW P f none n T tm σ [] Q :=
 AW.sub m tm' σ' none [] ⟨h1, h2, h3⟩ h4 ⟨Nat.le_of_ble_eq_true h5, h6⟩ h7 ⟨rfl, rfl⟩ ⟨rfl, rfl⟩ h
def O.up : O → O
  | .row sz xs _ => .row sz xs true
  | o => o
def upM : List Nat → Store → Store
  | [], σ => σ
  | l :: ls, σ => upM ls (match σ[l]? with | some (.row sz xs _) => σ.set l (.row sz xs true) | _ => σ)
theorem AW.raises : ∀ (ls : List Nat) {σ : Store} (_ : AW P f ro n T tm (upM ls σ) df Q), AW P f ro n T tm σ df Q
 | [], _, h => h
 | l :: ls, σ, h => by
   cases hl : σ[l]? with
   | none => exact AW.raises ls (by simpa [upM, hl] using h)
   | some o =>
     cases o with
     | row sz xs mv => exact AW.raise l hl rfl (AW.raises ls (by simpa [upM, hl] using h))
     | _ => exact AW.raises ls (by simpa [upM, hl] using h)
theorem AW.dr (T' : List Item) (dt : List (Nat × V)) (ds : List (Nat × O)) (hrun : ∀ k L, Ord (drawOf T) L → ∃ F, Run (StepF P f ro n k df Q (drawOf T) F) L (tm, σ) (upD dt tm, upS ds σ)) (h : AW P f ro n T' (upD dt tm) (upS ds σ) df Q)
  (hm : P.follows .mixedOrders = true := by kernel_rfl) (ht : isDraw T = true := by kernel_rfl) (hE : edgesB (drawOf T) = true := by kernel_rfl) (hT : cgo 1 [] T = T' := by kernel_rfl) : AW P f ro n T tm σ df Q :=
 AW.drawF hm ht hE hT hrun h
end
section
variable {P : Program} {f : FuncId} {ro : Option Nat} {n : Nat} {k : List Item} {df : List Nat} {Q : AE → Store → Prop} {ops : Array Oper} {F : List FP} {A B : List Nat} {tm : List V} {σ : Store} {s : List V × Store}
theorem Run.ap (A : List Nat) (dt : List (Nat × V)) (ds : List (Nat × O)) (h : Run (StepF P f ro n k df Q ops F) B (upD dt tm, upS ds σ) s)
  (hs : srunF P ops F A tm σ = some (upD dt tm, upS ds σ) := by kernel_rfl) : Run (StepF P f ro n k df Q ops F) (A ++ B) (tm, σ) s :=
 Run.append (srunF_ok hs) h
theorem Run.fin (hs : srunF P ops F A tm σ = some s := by kernel_rfl) : Run (StepF P f ro n k df Q ops F) A (tm, σ) s := srunF_ok (tm' := s.1) (σ' := s.2) hs
end
theorem AW.rt {P : Program} {f : FuncId} {n : Nat} {T : List Item} {tm : List V} {σ : Store} {Q : AE → Store → Prop} {fn : Func} {c : Code} (hF : Fnc P f fn c) (v : V) (h : Q (.ret v) σ) (hT : isRet T = true := by kernel_rfl) (hr : resA P fn tm σ = some v := by kernel_rfl) : AW P f none n T tm σ [] Q := AW.retH hF hT hr h
end Go.Br
namespace Go.Br
open Go
section
variable {P : Program} {f : FuncId} {ro : Option Nat} {n : Nat} {T : List Item} {tm : List V} {σ : Store} {df : List Nat} {Q : AE → Store → Prop}
theorem AW.cd {g : FuncId} {fn : Func} {c : Code} {ds : List V} {v : V} (T' : List Item) (hF : Fnc P g fn c) (hc : CallsA P g ds [] fun r s => r = .ret v ∧ s = [])
  (h : AW P f ro n T' (put tm ((opOf T).getD default).dst v) σ df Q)
  (ho : opOf T = some ((opOf T).getD default) := by kernel_rfl) (hw : wantA (opsOf T) ((opOf T).getD default) tm = some true := by kernel_rfl) (hT : tlOf T = T' := by kernel_rfl)
  (hop : ((opOf T).getD default).op = .call { callee := .value (callX T), args := callA T, argTypes := callT T } := by kernel_rfl)
  (hx : ev tm (callX T) = .fn (.func g) (fstV (ev tm (callX T))) (capV (ev tm (callX T))) := by kernel_rfl)
  (hargs : coArgs P fn.params.toList (fstV (ev tm (callX T)) ++ (callA T).toList.map (ev tm) ++ capV (ev tm (callX T))) = ds := by kernel_rfl)
  (hl : (V.locsL ds).isEmpty = true := by kernel_rfl) (hv : v.locs.isEmpty = true := by kernel_rfl) (hi : (opsOf T)[ixOf T]? = some ((opOf T).getD default) := by kernel_rfl) : AW P f ro n T tm σ df Q :=
 AW.semH ho hw hT (fun _ => sem_data0 hF hc hi hop hx hargs hl hv σ) h
end
section
variable {P : Program} {f : FuncId} {ro : Option Nat} {n : Nat} {k : List Item} {df : List Nat} {Q : AE → Store → Prop} {ops : Array Oper} {F : List FP} {B : List Nat} {tm : List V} {σ : Store} {s : List V × Store}
abbrev atO (ops : Array Oper) (i : Nat) : Oper := (ops[i]?).getD default
def cX (o : Oper) : Operand := match o.op with | .call { callee := .value x, .. } => x | _ => .global 0
def cA (o : Oper) : Array Operand := match o.op with | .call c => c.args | _ => #[]
def cT (o : Oper) : Array TypeId := match o.op with | .call c => c.argTypes | _ => #[]
theorem Run.lk (i : Nat) (v : V) (xs : List Operand)
  (h : ∀ (tm' : List V) (σ2 : Store), (∀ x ∈ xs, ev tm' x = ev tm x) → (∀ l ∈ (F.getD i noFP).r, σ2[l]? = σ[l]?) → OpOk P (atO ops i) tm' σ2 v tm' σ2)
  (h' : Run (StepF P f ro n k df Q ops F) B (put tm (atO ops i).dst v, σ) s)
  (hi : ops[i]? = some (atO ops i) := by kernel_rfl) (hg : (Bool.not (F.getD i noFP).g && (F.getD i noFP).k.isEmpty) = true := by kernel_rfl) (hw : wantA ops (atO ops i) tm = some true := by kernel_rfl) (hd : Op.isDefer (atO ops i).op = false := by kernel_rfl) (hx : (atO ops i).op.operands.toList = xs := by kernel_rfl) (hok : okB (F.getD i noFP) tm σ (atO ops i) v [] = true := by kernel_rfl) : Run (StepF P f ro n k df Q ops F) (i :: B) (tm, σ) s :=
 Run.one (StepF.look xs hi rfl hg hw hd hx hok h) h'
theorem Run.cl (i : Nat) {g : FuncId} {fn : Func} {c : Code} {cargs : List V} {σc σc' : Store} {vc : V} (m : List Nat) (hF : Fnc P g fn c) (hc : CallsA P g cargs σc fun r s => r = .ret vc ∧ s = σc')
  (h' : Run (StepF P f ro n k df Q ops F) B (effT (F.getD i noFP).k (atO ops i).dst (vc.ren (mp m σ.length)) tm, effS (F.getD i noFP).k (updU σ m σc') σ) s)
  (hi : ops[i]? = some (atO ops i) := by kernel_rfl) (hg : (F.getD i noFP).g = false := by kernel_rfl) (hw : wantA ops (atO ops i) tm = some true := by kernel_rfl)
  (ho : (atO ops i).op = .call { callee := .value (cX (atO ops i)), args := cA (atO ops i), argTypes := cT (atO ops i) } := by kernel_rfl)
  (hx : ev tm (cX (atO ops i)) = .fn (.func g) (fstV (ev tm (cX (atO ops i)))) (capV (ev tm (cX (atO ops i)))) := by kernel_rfl)
  (hargs : coArgs P fn.params.toList (fstV (ev tm (cX (atO ops i))) ++ (cA (atO ops i)).toList.map (ev tm) ++ capV (ev tm (cX (atO ops i)))) = V.renL (mp m σ.length) cargs := by kernel_rfl)
  (hbel : (belB σc.length σc && (V.locsL cargs).all fun l => Nat.blt l σc.length) = true := by kernel_rfl)
  (h1 : m.length = σc.length := by kernel_rfl) (h2 : nodupB m = true := by kernel_rfl) (h3 : m.map (fun l => σ[l]?) = (m.zip σc).map (fun p => some (flagged (σ.getD p.1 .dead) (p.2.ren (mp m σ.length)))) := by kernel_rfl)
  (hlen : Nat.beq σc'.length m.length = true := by kernel_rfl) (hk : movedK m σc' = (F.getD i noFP).k := by kernel_rfl) (hr : subB m (F.getD i noFP).r = true := by kernel_rfl)
  (hok : okB (F.getD i noFP) tm σ (atO ops i) (vc.ren (mp m σ.length)) (updU σ m σc') = true := by kernel_rfl) : Run (StepF P f ro n k df Q ops F) (i :: B) (tm, σ) s :=
 Run.one (StepF.call m cargs σc σc' hi rfl hg hw hF hc ho hx hargs hbel ⟨h1, h2, h3⟩ hlen hk hr rfl hok rfl rfl) h'
theorem Run.cll (i : Nat) {g : FuncId} {fn : Func} {c : Code} {cargs : List V} {σc : Store} {vc : V} (m : List Nat) (hF : Fnc P g fn c) (hc : CallsA P g cargs σc fun r s => r = .ret vc ∧ s = σc)
  (h' : Run (StepF P f ro n k df Q ops F) B (put tm (atO ops i).dst (vc.ren (mp m σ.length)), σ) s)
  (hi : ops[i]? = some (atO ops i) := by kernel_rfl) (hg : (Bool.not (F.getD i noFP).g && (F.getD i noFP).k.isEmpty) = true := by kernel_rfl) (hw : wantA ops (atO ops i) tm = some true := by kernel_rfl)
  (ho : (atO ops i).op = .call { callee := .value (cX (atO ops i)), args := cA (atO ops i), argTypes := cT (atO ops i) } := by kernel_rfl)
  (hx : ev tm (cX (atO ops i)) = .fn (.func g) (fstV (ev tm (cX (atO ops i)))) (capV (ev tm (cX (atO ops i)))) := by kernel_rfl)
  (hargs : coArgs P fn.params.toList (fstV (ev tm (cX (atO ops i))) ++ (cA (atO ops i)).toList.map (ev tm) ++ capV (ev tm (cX (atO ops i)))) = V.renL (mp m σ.length) cargs := by kernel_rfl)
  (hbel : (belB σc.length σc && (V.locsL cargs).all fun l => Nat.blt l σc.length) = true := by kernel_rfl)
  (h1 : m.length = σc.length := by kernel_rfl) (h2 : nodupB m = true := by kernel_rfl) (h3 : m.map (fun l => σ[l]?) = (m.zip σc).map (fun p => some (flagged (σ.getD p.1 .dead) (p.2.ren (mp m σ.length)))) := by kernel_rfl)
  (hlen : Nat.beq σc.length m.length = true := by kernel_rfl) (hk : (movedK m σc).isEmpty = true := by kernel_rfl) (hr : subB m (F.getD i noFP).r = true := by kernel_rfl)
  (hok : okB (F.getD i noFP) tm σ (atO ops i) (vc.ren (mp m σ.length)) [] = true := by kernel_rfl) : Run (StepF P f ro n k df Q ops F) (i :: B) (tm, σ) s :=
 Run.one (StepF.callLook m cargs σc hi rfl hg hw hF hc ho hx hargs hbel ⟨h1, h2, h3⟩ hlen hk hr rfl hok) h'
end
theorem evv {tm tm' : List V} {xs : List Operand} {x : Operand} {v : V} (hv : ∀ x ∈ xs, ev tm' x = ev tm x) (hx : x ∈ xs := by simp) (h : ev tm x = v := by kernel_rfl) : ev tm' x = v := (hv x hx).trans h
theorem evl {tm tm' : List V} {xs : List Operand} {x : Operand} {o : Option (Nat × List D)} (hv : ∀ x ∈ xs, ev tm' x = ev tm x) (hx : x ∈ xs := by simp) (h : listOf (ev tm x) = o := by kernel_rfl) : listOf (ev tm' x) = o := by rw [hv x hx]; exact h
theorem atr {σ σ2 : Store} {r : List Nat} {l : Nat} {o : Option O} (hr : ∀ l ∈ r, σ2[l]? = σ[l]?) (hl : inK r l = true := by kernel_rfl) (h : σ[l]? = o := by kernel_rfl) : σ2[l]? = o := (hr l (inK_iff.1 hl)).trans h
end Go.Br
namespace Go.Br
theorem bsX : (∀ (p : Prop) [Decidable p], (decide p = true) = p) ∧ (∀ (p : Prop) [Decidable p], (decide p = false) = ¬p) ∧
  (∀ {α : Type} [BEq α] [LawfulBEq α] (a b : α), ((a == b) = true) = (a = b)) ∧ (∀ {α : Type} [BEq α] [LawfulBEq α] (a b : α), ((a != b) = true) = (a ≠ b)) ∧
  (∀ {α : Type} [BEq α] [LawfulBEq α] (a b : α), ((a == b) = false) = (a ≠ b)) ∧ (∀ {α : Type} [BEq α] [LawfulBEq α] (a b : α), ((a != b) = false) = (a = b)) ∧
  (∀ b : Bool, ((!b) = true) = (b = false)) ∧ (∀ b : Bool, ((!b) = false) = (b = true)) ∧ (∀ {α : Type} (a b : α), (a ≠ b) = ¬(a = b)) ∧
  (∀ (p : Prop) [Decidable p], (¬¬p) = p) ∧ (∀ b : Bool, (¬(b = true)) = (b = false)) ∧ (∀ b : Bool, (¬(b = false)) = (b = true)) := by
 refine ⟨fun p _ => by simp, fun p _ => by simp, fun a b => by simp, fun a b => by simp, fun a b => by simp, fun a b => by simp, fun b => by simp, fun b => by simp, fun a b => rfl, fun p _ => by simp, fun b => by simp, fun b => by simp⟩
end Go.Br
namespace Go.Br
open Go
section
variable {P : Program} {tm : List V} {σ : Store}
theorem build0V_ok {o : Oper} {t e : TypeId} {sz l sz' : Nat} {mv : Bool} (ho : o.op = .buildSlice t 0 #[]) (hu : P.underlying t = some (.slice e)) (hi : (P.info? e).map (·.size) = some sz') (hl : σ[l]? = some (.row sz [] mv)) : OpOk P o tm σ (.row l) tm σ := by
 intro w I ρ a hr hO
 have hrun : (execOp a.eval o).run P w = .ok (.value (.slice (some ⟨w.heap.size, 0, none⟩) 0 0)) (w.alloc (.cells #[] e)) := by
   simp only [Option.map_eq_some_iff] at hi
   obtain ⟨ie, hi, _⟩ := hi
   simp [execOp, ho, Instr.buildSlice, run_underlying hu, sizeOf, typeInfo, hi, Instr.fill, newRow]
   have h0 : ∀ g : Nat → Value, Array.map g (Array.range 0) = #[] := fun g => by apply Array.eq_empty_of_size_eq_zero; simp
   rw [h0]
 have hI : ∀ b, I b → I b ∧ (w.alloc (.cells #[] e)).heap[b]? = w.heap[b]? := fun b hb => ⟨hb, heap_alloc_old _ _ _ (hO.imm b hb).1⟩
 have hS : ∀ l, l < σ.length → Same ρ σ ρ σ l := fun l hl => ⟨hl, fun o' h1 h2 => ⟨rfl, o', h1, h2, rfl⟩⟩
 have hx := Ext.refl w I ρ σ
 refine ⟨_, _, _, I, ρ, hrun, .inl rfl, ?_, vrL_all hI hS hr, ⟨fun l o hl => ?_, hO.inj, fun b hb => ?_, fun b hb => ?_⟩, ⟨by simp, rfl, rfl, rfl, fun b hb _ => heap_alloc_old _ _ _ hb, hx.immI, hx.immN, hx.footN, Nat.le_refl _, hx.alive, hx.fixed, hx.stay⟩⟩
 · simp only [vr]
   refine ⟨rfl, (List.getElem?_eq_some_iff.1 hl).1, fun sz1 xs mv1 h1 => ?_⟩
   rw [hl] at h1
   cases h1
   exact .inl ⟨rfl, _, rfl⟩
 · by_cases hd : o = .dead
   · subst hd; simp [orel]
   · exact orel_all hI hS rfl (fun L hL => heap_alloc_old _ _ _ (hO.flt _ ⟨l, o, L, hl, hd, hL, rfl⟩)) (hO.objs l o hl)
 · have := hO.flt b hb; simp; omega
 · have := (hO.imm b hb).1
   exact ⟨by simp; omega, (hO.imm b hb).2⟩
mutual
theorem frz_kill {l sz : Nat} {xs : List D} : ∀ v : V, V.frz l sz xs (V.kill (Nat.beq l) v) = V.kill (Nat.beq l) v
 | .row k => by
   by_cases h : Nat.beq l k = true <;> simp [V.kill, h, V.frz]
 | .sl k a b c => by
   by_cases h : Nat.beq l k = true <;> simp [V.kill, h, V.frz]
 | .ptr k a b => by
   by_cases h : Nat.beq l k = true <;> simp [V.kill, h, V.frz]
 | .yield k => by
   by_cases h : Nat.beq l k = true <;> simp [V.kill, h, V.frz]
 | .map k => by
   by_cases h : Nat.beq l k = true <;> simp [V.kill, h, V.frz]
 | .fn f a b => by simp only [V.kill, V.frz, frz_killL a, frz_killL b]
 | .tuple vs => by simp only [V.kill, V.frz, frz_killL vs]
 | .agg vs => by simp only [V.kill, V.frz, frz_killL vs]
 | .d x => rfl
 | .undef => rfl
 | .nils => rfl
 | .ex _ _ => rfl
 | .ep _ _ _ => rfl
theorem frz_killL {l sz : Nat} {xs : List D} : ∀ vs : List V, V.frzL l sz xs (V.killL (Nat.beq l) vs) = V.killL (Nat.beq l) vs
 | [] => rfl
 | v :: vs => by simp only [V.killL, V.frzL, frz_kill v, frz_killL vs]
end
theorem frz_killO {l sz : Nat} {xs : List D} : ∀ o : O, O.frz l sz xs (O.kill (Nat.beq l) o) = O.kill (Nat.beq l) o
 | .cells cs => by simp only [O.kill, O.frz, frz_killL]
 | .loop a b c tm x e f => by simp only [O.kill, O.frz, frz_killL]
 | .dead => rfl
 | .row _ _ _ => rfl
 | .map _ => rfl
 | .defd => rfl
theorem ORel.again {w : World} {I : Nat → Prop} {ρ : LM} {σ : Store} {l sz : Nat} (h : ORel w I ρ ((σ.map (O.kill (Nat.beq l))).set l .dead)) (hlt : l < σ.length) :
   ORel w I (fun x => if x = l then none else ρ x) ((σ.map (O.kill (Nat.beq l))).set l (.row sz [] true)) ∧
     ∀ vs xs, (∀ y ∈ V.locsL vs, y ≠ l) → vrL w I ρ ((σ.map (O.kill (Nat.beq l))).set l .dead) vs xs → vrL w I (fun x => if x = l then none else ρ x) ((σ.map (O.kill (Nat.beq l))).set l (.row sz [] true)) vs xs := by
 have g1 : ∀ x, x ≠ l → ((σ.map (O.kill (Nat.beq l))).set l (.row sz [] true))[x]? = ((σ.map (O.kill (Nat.beq l))).set l .dead)[x]? := fun x hx => by
   rw [List.getElem?_set_ne (Ne.symm hx), List.getElem?_set_ne (Ne.symm hx)]
 have g2 : ((σ.map (O.kill (Nat.beq l))).set l (.row sz [] true))[l]? = some (.row sz [] true) := List.getElem?_set_self (by rw [List.length_map]; exact hlt)
 have hlen : ((σ.map (O.kill (Nat.beq l))).set l .dead).length = ((σ.map (O.kill (Nat.beq l))).set l (.row sz [] true)).length := by simp
 have hS : ∀ x, x < ((σ.map (O.kill (Nat.beq l))).set l .dead).length → x ≠ l → Same ρ ((σ.map (O.kill (Nat.beq l))).set l .dead) (fun x => if x = l then none else ρ x) ((σ.map (O.kill (Nat.beq l))).set l (.row sz [] true)) x := by
   intro x hx hne
   refine ⟨by rw [← hlen]; exact hx, fun o1 h1 h2 => ⟨if_neg hne, o1, by rw [← g1 x hne]; exact h1, h2, rfl⟩⟩
 have hI : ∀ b, I b → I b ∧ w.heap[b]? = w.heap[b]? := fun b hb => ⟨hb, rfl⟩
 have hne2 : ∀ x, live ((σ.map (O.kill (Nat.beq l))).set l (.row sz [] true)) x → ∀ L, (if x = l then none else ρ x) = some L → x ≠ l ∧ live ((σ.map (O.kill (Nat.beq l))).set l .dead) x ∧ ρ x = some L := by
   rintro x ⟨o1, h1, h2⟩ L hL
   by_cases hx : x = l
   · simp [hx] at hL
   · rw [if_neg hx] at hL
     exact ⟨hx, ⟨o1, by rw [← g1 x hx]; exact h1, h2⟩, hL⟩
 have hfoot : ∀ b, foot (fun x => if x = l then none else ρ x) ((σ.map (O.kill (Nat.beq l))).set l (.row sz [] true)) b → foot ρ ((σ.map (O.kill (Nat.beq l))).set l .dead) b := by
   rintro b ⟨x, o1, L, h1, h2, h3, h4⟩
   obtain ⟨k1, ⟨o2, k2, k3⟩, k4⟩ := hne2 x ⟨o1, h1, h2⟩ L h3
   exact ⟨x, o2, L, k2, k3, k4, h4⟩
 refine ⟨⟨fun x o1 hx => ?_, fun x y X Y hx hy hX hY e => ?_, fun b hb => h.flt b (hfoot b hb), fun b hb => ⟨(h.imm b hb).1, fun hf => (h.imm b hb).2 (hfoot b hf)⟩⟩, fun vs xs hv ht => ?_⟩
 · by_cases hxl : x = l
   · subst hxl
     rw [g2] at hx
     cases hx
     simp only [orel]
     exact .inl ⟨by simp, trivial⟩
   · rw [g1 x hxl] at hx
     have ho := h.objs x o1 hx
     refine orel_up hI (fun y hy => hS y (orel_bel ho y hy) ?_) (if_neg hxl) (fun _ _ => rfl) ho
     rw [List.getElem?_set_ne (Ne.symm hxl), map_kill_get, Option.map_eq_some_iff] at hx
     obtain ⟨o2, _, rfl⟩ := hx
     have := (O.locs_kill _ o2 y hy).2
     rintro rfl
     simp at this
 · obtain ⟨a1, a2, a3⟩ := hne2 x hx X hX
   obtain ⟨b1, b2, b3⟩ := hne2 y hy Y hY
   exact h.inj x y X Y a2 b2 a3 b3 e
 · exact vrL_up hI _ _ (fun y hy => hS y (vrL_locs _ _ ht y hy) (hv y hy)) ht
theorem appRowD_ok {tm : List V} {o : Oper} {s x : Operand} {t t2 : TypeId} {l sz by' : Nat} {xs ys : List D} {mv : Bool} (ho : o.op = .call { callee := .builtin .append, args := #[s, x], argTypes := #[t, t2] }) (hs : ev tm s = .row l) (hl : σ[l]? = some (.row sz xs mv)) (hx : cont σ (ev tm x) = some (sz, ys))
   (hw : elemW P t = some (sz, by')) (h2 : notIntT P t2 = true) (hb : (xs.length + ys.length) * by' ≤ 140737488355328) (h63 : xs.length + ys.length ≤ maxLen) :
   OpOk P o tm σ (.d (.list sz (xs ++ ys))) (V.killL (Nat.beq l) tm) ((σ.map (O.kill (Nat.beq l))).set l (.row sz [] true)) := by
 intro w I ρ a hr hO
 obtain ⟨nx, v, w', I', ρ', h1, h3, h4, h5, h6, h7⟩ := appRow_ok (P := P) ho hs hl hx hw h2 hb h63 w I ρ a hr hO
 have hlt : l < σ.length := (List.getElem?_eq_some_iff.1 hl).1
 have hat : ((σ.map (O.kill (Nat.beq l))).set l (.row sz (xs ++ ys) true))[l]? = some (.row sz (xs ++ ys) true) := List.getElem?_set_self (by rw [List.length_map]; exact hlt)
 obtain ⟨g1, g2, g3, _⟩ := freeze_core (tm := .row l :: V.killL (Nat.beq l) tm) (a := v :: a.tmps.toList) h6 hat (by simp only [vrL]; exact ⟨v, _, rfl, h4, h5⟩)
 have e : ((((σ.map (O.kill (Nat.beq l))).set l (.row sz (xs ++ ys) true)).map (O.frz l sz (xs ++ ys))).set l .dead) = (σ.map (O.kill (Nat.beq l))).set l .dead := by
   rw [List.map_set, List.set_set]
   congr 1
   rw [List.map_map]
   exact List.map_congr_left fun o _ => frz_killO o
 rw [e] at g1 g2 g3
 have hself : Nat.beq l l = true := Nat.beq_refl l
 simp only [V.frzL, V.frz, hself, if_true, frz_killL, vrL] at g1
 obtain ⟨v2, vs2, e2, k1, k2⟩ := g1
 cases e2
 have hE := h7.trans (g3.less (by simp))
 obtain ⟨q1, q2⟩ := ORel.again (sz := sz) g2 hlt
 have q3 := q2 (.d (.list sz (xs ++ ys)) :: V.killL (Nat.beq l) tm) (v :: a.tmps.toList) (fun y hy => by
   simp only [V.locsL, V.locs, List.nil_append] at hy
   have := (locsL_kill _ _ y hy).2
   rintro rfl
   simp at this) (by simp only [vrL]; exact ⟨v, _, rfl, k1, k2⟩)
 simp only [vrL] at q3
 obtain ⟨v3, vs3, e3, r1, r2⟩ := q3
 cases e3
 have g4 : ∀ x, x ≠ l → ((σ.map (O.kill (Nat.beq l))).set l (.row sz [] true))[x]? = ((σ.map (O.kill (Nat.beq l))).set l .dead)[x]? := fun x hx => by
   rw [List.getElem?_set_ne (Ne.symm hx), List.getElem?_set_ne (Ne.symm hx)]
 refine ⟨nx, v, w', _, _, h1, h3, r1, r2, q1, ⟨hE.size, hE.os, hE.tape, hE.output, hE.old, hE.immI, hE.immN, fun b hb => hE.footN b ?_, by simp, fun x hx hv => ?_, fun x o' hx ho' hst => ?_, fun x ob hx hob hld => ?_⟩⟩
 · obtain ⟨x, o1, L, f1, f2, f3, f4⟩ := hb
   by_cases hxl : x = l
   · simp [hxl] at f3
   · replace f3 : (if x = l then none else ρ' x) = some L := f3
     rw [if_neg hxl] at f3
     exact ⟨x, o1, L, by rw [← g4 x hxl]; exact f1, f2, f3, f4⟩
 · by_cases hxl : x = l
   · subst hxl; exact ⟨_, hl, by simp⟩
   · obtain ⟨o1, f1, f2⟩ := hv
     exact hE.alive x hx ⟨o1, by rw [← g4 x hxl]; exact f1, f2⟩
 · by_cases hxl : x = l
   · subst hxl
     rw [List.getElem?_set_self (by rw [List.length_map]; exact hlt)] at ho'
     cases ho'
     simp [O.still] at hst
   · rw [g4 x hxl] at ho'
     obtain ⟨f1, f2⟩ := hE.fixed x o' hx ho' hst
     exact ⟨by show (if x = l then none else ρ' x) = _; rw [if_neg hxl]; exact f1, f2⟩
 · by_cases hxl : x = l
   · subst hxl
     rw [hl] at hob
     cases hob
     simp [O.ld] at hld
   · obtain ⟨o', f1, f2⟩ := hE.stay x ob hx hob hld
     exact ⟨o', by rw [g4 x hxl]; exact f1, f2⟩
end
end Go.Br
namespace Go.Br
open Go
def AWr (l : Nat) (x : Value) (P : Program) (f : FuncId) (ro : Option Nat) (n : Nat) (todo : List Item) (tm : List V) (σ : Store) (df : List Nat) (Q : AE → Store → Prop) : Prop :=
  ∀ w I ρ a rb, vr w I ρ σ (.row l) x → Rel w I ρ σ tm df a → rbOf ρ σ ro rb → n ≤ σ.length → RunsTo P f rb todo a w (Fin n w I ρ σ Q)
def rowB (σ : Store) (l : Nat) : Bool := match σ[l]? with | some (.row _ _ mv) => !mv | _ => false
theorem rowB_at {σ : Store} {l : Nat} (h : rowB σ l = true) : ∃ sz xs, σ[l]? = some (.row sz xs false) := by
 unfold rowB at h
 split at h
 · rename_i sz xs mv e
   cases mv
   · exact ⟨sz, xs, e⟩
   · cases h
 · cases h
section
variable {P : Program} {f : FuncId} {ro : Option Nat} {n : Nat} {k k' : List Item} {tm tm' : List V} {σ σ' : Store} {df : List Nat} {Q : AE → Store → Prop} {l : Nat} {x : Value}
theorem raw_ext {w w' : World} {I I' : Nat → Prop} {ρ ρ' : LM} (hx : Ext σ.length w I ρ σ w' I' ρ' σ') (hb : rowB σ' l = true) (hv : vr w I ρ σ (.row l) x) : vr w' I' ρ' σ' (.row l) x := by
 obtain ⟨sz, xs, e⟩ := rowB_at hb
 simp only [vr] at hv ⊢
 obtain ⟨h1, h2, h3⟩ := hv
 obtain ⟨g1, o, g2, g3, g4⟩ := hx.fixed l _ h2 e rfl
 refine ⟨h1, (List.getElem?_eq_some_iff.1 e).1, fun sz' xs' mv' e' => ?_⟩
 rw [e] at e'
 cases e'
 obtain ⟨sz2, xs2, mv2, rfl, hlen⟩ := alike_row g4
 have := h3 _ _ _ g2
 unfold rowV at this ⊢
 rw [g1, ← hlen]
 exact this
theorem set_here {α : Type} {y : α} : ∀ {l : List α} {j : Nat}, l[j]? = some y → l.set j y = l
 | [], _, h => by simp at h
 | z :: l, 0, h => by simp only [List.getElem?_cons_zero, Option.some.injEq] at h; subst h; rfl
 | z :: l, j + 1, h => by simp only [List.getElem?_cons_succ] at h; rw [List.set_cons_succ, set_here h]
theorem AW.raw (j : Nat) (hj : tm[j]? = some (.row l)) (h : ∀ x, AWr l x P f ro n k (tm.set j (.d (.raw x))) σ df Q) : AW P f ro n k tm σ df Q := by
 intro w I ρ a rb hr hb hn
 obtain ⟨x, hx, hv⟩ := vrL_get? hr.tms hj
 refine h x w I ρ a rb hv ⟨?_, hr.ors, hr.dfs⟩ hb hn
 have h1 : one x := by simp only [vr] at hv; exact hv.1
 have := vrL_set hr.tms j (v := .d (.raw x)) (x := x) (by simp only [vr, Dr]; exact ⟨trivial, h1⟩)
 have e : a.tmps.toList.set j x = a.tmps.toList := set_here (by simpa using hx)
 rw [e] at this
 exact this
theorem AWr.unraw (j : Nat) (hj : tm[j]? = some (.d (.raw x))) (h : AWr l x P f ro n k (tm.set j (.row l)) σ df Q) : AWr l x P f ro n k tm σ df Q := by
 intro w I ρ a rb hv hr hb hn
 refine h w I ρ a rb hv ⟨?_, hr.ors, hr.dfs⟩ hb hn
 obtain ⟨y, hy, hv2⟩ := vrL_get? hr.tms hj
 simp only [vr, Dr] at hv2
 obtain ⟨rfl, _⟩ := hv2
 have := vrL_set hr.tms j hv
 have e : a.tmps.toList.set j y = a.tmps.toList := set_here (by simpa using hy)
 rw [e] at this
 exact this
theorem AWr.same (hs : ∀ rb a cs w, step P (lone (frm f rb a k') cs w) = .next (lone (frm f rb a k) cs w)) (h : AWr l x P f ro n k tm σ df Q) : AWr l x P f ro n k' tm σ df Q :=
 fun w I ρ a rb hv hr hb hn => .step (hs rb a · w) (h w I ρ a rb hv hr hb hn)
theorem AWr.op {ops : Array Oper} {i : Nat} {rest : List Nat} {o : Oper} {v : V} (hi : ops[i]? = some o) (hw : wantA ops o tm = some true) (hd : Op.isDefer o.op = false) (hok : OpOk P o tm σ v tm' σ') (hB : rowB σ' l = true)
   (h : AWr l x P f ro n (.inRegion ops rest :: k) (put tm' o.dst v) σ' df Q) : AWr l x P f ro n (.inRegion ops (i :: rest) :: k) tm σ df Q := by
 intro w I ρ a rb hv hr hb hn
 obtain ⟨nx, y, w', I', ρ', h1, h2, h3, h4, h5, h6⟩ := hok w I ρ a hr.tms hr.ors
 have h7 := h6.stays
 have hwa := wantA_ok hw hr.tms
 have hlen : n ≤ σ'.length := Nat.le_trans hn h6.len
 have hnext := h w' I' ρ' (a.put o.dst y) rb (raw_ext h6 hB hv) ⟨vrL_put h4 o.dst h3, h5, by rw [put_defers]; exact dfr_stay h7 hr.dfs⟩ (rbOf_stay h7 hb) hlen
 have hnext := hnext.mono fun e w'' hf => hf.trans (h6.less hn)
 rcases h2 with rfl | ⟨rfl, rfl⟩
 · exact .step (fun cs => st_op_value hi hwa hd h1) hnext
 · exact .step (fun cs => st_op_unit hi hwa hd h1) hnext
def rstep (P : Program) (l : Nat) (todo : List Item) (tm : List V) (σ : Store) : Option (List Item × List V × Store) :=
  match todo with
  | .code (.seq a b) :: k => some (.code a :: .code b :: k, tm, σ)
  | .code (.region _ ops false) :: k => some (.inRegion ops (List.range ops.size) :: k, tm, σ)
  | .inRegion _ [] :: k => some (k, tm, σ)
  | .inRegion ops (i :: r) :: k => match ops[i]? with
    | none => none
    | some o => match wantA ops o tm with
      | some true => (mop P tm σ o).bind fun p => bif rowB p.2 l then some (.inRegion ops r :: k, put tm o.dst p.1, p.2) else none
      | _ => none
  | _ => none
theorem rstep_ok {todo todo' : List Item} (h : rstep P l todo tm σ = some (todo', tm', σ')) (hn : AWr l x P f ro n todo' tm' σ' df Q) : AWr l x P f ro n todo tm σ df Q := by
  unfold rstep at h
  split at h
  · cases h; exact .same (fun _ _ _ _ => st_seq) hn
  · cases h; exact .same (fun _ _ _ _ => st_region) hn
  · cases h; exact .same (fun _ _ _ _ => st_region_end) hn
  · split at h
    · cases h
    · rename_i o hi
      split at h
      · rename_i hw
        simp only [Option.bind_eq_some_iff] at h
        obtain ⟨p, h1, h2⟩ := h
        cases hB : rowB p.2 l
        · rw [hB] at h2; cases h2
        · rw [hB] at h2
          simp only [cond_true, Option.some.injEq, Prod.mk.injEq] at h2
          obtain ⟨rfl, rfl, rfl⟩ := h2
          obtain ⟨g1, g2⟩ := mop_ok h1
          exact .op hi hw g2 g1 hB hn
      · cases h
  · cases h
def rsteps (P : Program) (l : Nat) : Nat → List Item → List V → Store → Option (List Item × List V × Store)
  | 0, todo, tm, σ => some (todo, tm, σ)
  | n + 1, todo, tm, σ => match rstep P l todo tm σ with
    | some (todo', tm', σ') => rsteps P l n todo' tm' σ'
    | none => none
theorem AWr.steps (m : Nat) : ∀ {todo todo' : List Item} {tm tm' : List V} {σ σ' : Store}, rsteps P l m todo tm σ = some (todo', tm', σ') →
   AWr l x P f ro n todo' tm' σ' df Q → AWr l x P f ro n todo tm σ df Q := by
 induction m with
 | zero => intro todo todo' tm tm' σ σ' h hn; cases h; exact hn
 | succ m ih =>
   intro todo todo' tm tm' σ σ' h hn
   simp only [rsteps] at h
   split at h
   · rename_i t1 t2 t3 h1
     exact rstep_ok h1 (ih h hn)
   · cases h
theorem AWr.keep (ks : List Nat) (ht : keep ks tm = tm') (h : AWr l x P f ro n k tm' σ df Q) : AWr l x P f ro n k tm σ df Q := by
 subst ht
 intro w I ρ a rb hv hr hb hn
 exact h w I ρ a rb hv ⟨keep_rel hr.tms, hr.ors, hr.dfs⟩ hb hn
theorem AWr.seg {T T' : List Item} (m : Nat) (ks : List Nat) (hs : (rsteps P l m T tm σ).map (fun s => (s.1, Go.Br.keep ks s.2.1, s.2.2)) = some (T', tm', σ')) (h : AWr l x P f ro n T' tm' σ' df Q) : AWr l x P f ro n T tm σ df Q := by
 simp only [Option.map_eq_some_iff, Prod.mk.injEq] at hs
 obtain ⟨⟨t1, t2, t3⟩, h1, rfl, rfl, rfl⟩ := hs
 exact AWr.steps m h1 (AWr.keep ks rfl h)
theorem AWr.opH {T T' : List Item} {o : Oper} {v : V} (ho : opOf T = some o) (hw : wantA (opsOf T) o tm = some true) (hd : Op.isDefer o.op = false) (hT : tlOf T = T') (hok : OpOk P o tm σ v tm' σ') (hB : rowB σ' l = true) (h : AWr l x P f ro n T' (put tm' o.dst v) σ' df Q) : AWr l x P f ro n T tm σ df Q := by
 subst hT
 unfold opOf at ho
 split at ho
 · rename_i ops i r k
   exact .op ho hw hd hok hB h
 · cases ho
theorem AWr.op' {T : List Item} {v : V} (T' : List Item) (hok : OpOk P ((opOf T).getD default) tm σ v tm' σ') (hB : rowB σ' l = true) (h : AWr l x P f ro n T' (put tm' ((opOf T).getD default).dst v) σ' df Q)
  (ho : opOf T = some ((opOf T).getD default) := by kernel_rfl) (hw : wantA (opsOf T) ((opOf T).getD default) tm = some true := by kernel_rfl) (hd : Op.isDefer ((opOf T).getD default).op = false := by kernel_rfl) (hT : tlOf T = T' := by kernel_rfl) : AWr l x P f ro n T tm σ df Q :=
 AWr.opH ho hw hd hT hok hB h
theorem DrE_put {w : World} {I : Nat → Prop} {sz b : Nat} {d d' : D} (hd : ∀ u, Dr w I d u → Dr w I d' u) : ∀ {xs : List D} {o i : Nat}, xs[i]? = some d → DrE w I sz b o xs → DrE w I sz b o (xs.set i d')
 | [], o, i, h, _ => by simp at h
 | e :: xs, o, 0, h, hE => by
   simp only [List.getElem?_cons_zero, Option.some.injEq] at h
   subst h
   simp only [List.set_cons_zero, DrE] at hE ⊢
   obtain ⟨⟨v, h1, h2⟩, h3⟩ := hE
   exact ⟨⟨v, hd v h1, h2⟩, h3⟩
 | e :: xs, o, i + 1, h, hE => by
   simp only [List.getElem?_cons_succ] at h
   simp only [List.set_cons_succ, DrE] at hE ⊢
   exact ⟨hE.1, DrE_put hd h hE.2⟩
theorem AWr.rest (r i : Nat) {sz fsz : Nat} {xs fs cs : List D} {mv fmv : Bool} (hl : σ[l]? = some (.row sz xs mv)) (hr0 : ((σ.map (O.frz l sz xs)).set l .dead)[r]? = some (.row fsz fs fmv)) (hi : fs[i]? = some (.agg (.raw x :: cs)))
   (h : AW P f ro n k (V.frzL l sz xs tm) (((σ.map (O.frz l sz xs)).set l .dead).set r (.row fsz (fs.set i (.agg (.list sz xs :: cs))) fmv)) df Q) : AWr l x P f ro n k tm σ df Q := by
 intro w I ρ a rb hv hr hb hn
 obtain ⟨htm, hO2, hX, _⟩ := freeze_core hr.ors hl hr.tms
 have hrow : Dr w (Iadd I ρ l) (.list sz xs) x := by
   simp only [vr] at hv
   have := frz_row (off := 0) (n := xs.length) hr.ors hl (hv.2.2 _ _ _ hl) (by omega)
   simpa using this
 generalize hσ1 : (σ.map (O.frz l sz xs)).set l .dead = σ1 at htm hO2 hX hr0 h
 have hd : ∀ u, Dr w (Iadd I ρ l) (.agg (.raw x :: cs)) u → Dr w (Iadd I ρ l) (.agg (.list sz xs :: cs)) u := by
   intro u hu
   simp only [Dr, DrL] at hu
   obtain ⟨vs, rfl, v, vs', rfl, h1, ⟨rfl, h2⟩, h3⟩ := hu
   unfold Dr
   refine ⟨_, rfl, ?_⟩
   unfold DrL
   exact ⟨v, vs', rfl, h1, hrow, h3⟩
 have hob := hO2.objs r _ hr0
 simp only [orel] at hob
 rcases hob with ⟨_, rfl⟩ | ⟨L, C, T, fz, e1, e2, e3, e4, e5, e6, e7, e8⟩
 · simp at hi
 have hal : O.alike (.row fsz fs fmv) (.row fsz (fs.set i (.agg (.list sz xs :: cs))) fmv) := by simp [O.alike, O.rl]
 have hO3 : ORel w (Iadd I ρ l) ρ (σ1.set r (.row fsz (fs.set i (.agg (.list sz xs :: cs))) fmv)) := by
   refine hO2.upd hr0 (by simp) e1 hal (fun _ _ => rfl) rfl ?_
   simp only [orel]
   exact .inr ⟨L, C, T, fz, e1, e2, e3, e4, e5, by simpa using e6, e7, DrE_put hd hi e8⟩
 have hX3 : Ext σ1.length w (Iadd I ρ l) ρ σ1 w (Iadd I ρ l) ρ (σ1.set r (.row fsz (fs.set i (.agg (.list sz xs :: cs))) fmv)) :=
   Ext.upd hr0 (by simp) e1 (fun h => h) hal rfl (fun _ _ => rfl) rfl rfl rfl rfl
 have htm3 := vrL_all (w' := w) (I' := Iadd I ρ l) (fun b hb => ⟨hb, rfl⟩) (same_set hr0 (by simp) hal) htm
 have hlen : σ1.length = σ.length := by rw [← hσ1]; simp
 have hXX : Ext σ.length w I ρ σ w (Iadd I ρ l) ρ (σ1.set r (.row fsz (fs.set i (.agg (.list sz xs :: cs))) fmv)) := hX.trans (hlen ▸ hX3)
 have hst := hXX.stays
 have := h w (Iadd I ρ l) ρ a rb ⟨htm3, hO3, dfr_stay hst hr.dfs⟩ (rbOf_stay hst hb) (by rw [List.length_set, hlen]; exact hn)
 exact this.mono fun e w' hf => hf.trans (hXX.less hn)
end
end Go.Br
