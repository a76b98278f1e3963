/- Part 7 of this proof. -/
import Derived.Below
import Derived.Carry
import Derived.ChangeArms
import Derived.ChangeOld
import Derived.Ground.Names2Prog
import Derived.Laws.Strings
import Derived.OpenShut
import Derived.ProofKit
import Derived.Shelf.Slices.Cells
import Derived.Shelf.Slices.Empties
import Derived.Shelf.Spec.SearchS
import Derived.Shelf.Spec.SlicesInsertGrow
import Derived.ShutString
import Derived.SizedLaws
import Derived.Test.YtoelkgbeefoplaaProg
import Derived.Test.YtoelkgbeefoplaaRows
import Derived.WalkKit
import Derived.WideShapes
import Derived.Test.YtoelkgbeefoplaaM6
set_option linter.unusedSimpArgs false
set_option linter.unusedVariables false
set_option linter.constructorNameAsVariable false
namespace Go.Proofs.Ytoelkgbeefoplaa
open Go Go.Br Go.Proofs
open List (map)
def crc1 (r : BitVec 32) : BitVec 32 := (r >>> 1) ^^^ (0xEDB88320#32 &&& -(r &&& 1#32))
def crc8 : Nat → BitVec 32 → BitVec 32
  | 0, r => r
  | n + 1, r => crc8 n (crc1 r)
def crcB (r : BitVec 32) (c : UInt8) : BitVec 32 := crc8 8 (r ^^^ c.toBitVec.zeroExtend 32)
section
variable {n : Nat} {σ : Store} {df : List Nat} {Q : AE → Store → Prop} {s : BitVec 32}
end
def crc (bs : List UInt8) : BitVec 32 := ~~~(bs.foldl crcB (~~~0#32))
def i64 (n : Int) : D := .int .i64 n
def byt (x : BitVec 32) (k : Nat) : UInt8 := UInt8.ofNat (x.toNat / 2 ^ (8 * k))
def le4 (x : BitVec 32) : List UInt8 := [byt x 0, byt x 1, byt x 2, byt x 3]
section
variable {n : Nat} {σ : Store} {df : List Nat} {Q : AE → Store → Prop}
end
def bare (bs : List UInt8) : List UInt8 := le4 (BitVec.ofNat 32 bs.length) ++ bs
def frame (bs : List UInt8) : List UInt8 := bare bs ++ le4 (crc (bare bs))
def zx (b : UInt8) : BitVec 32 := b.toBitVec.zeroExtend 32
def get4 (bs : List UInt8) (at' : Nat) : BitVec 32 :=
  if at' + 4 ≤ bs.length then (((0#32 ||| zx (bs.getD at' 0) <<< 0) ||| zx (bs.getD (at' + 1) 0) <<< 8) ||| zx (bs.getD (at' + 2) 0) <<< 16) ||| zx (bs.getD (at' + 3) 0) <<< 24 else 0#32
def nOf (bs : List UInt8) : Nat := (get4 bs 0).toInt.toNat
def fits (bs : List UInt8) : Bool := decide (4 ≤ bs.length) && decide (0 ≤ (get4 bs 0).toInt) && decide ((get4 bs 0).toInt ≤ 65536) && decide ((get4 bs 0).toInt + 8 ≤ bs.length)
def piece (bs : List UInt8) : List UInt8 := (bs.take (4 + nOf bs)).drop 4
def sumOk (bs : List UInt8) : Bool := get4 bs (4 + nOf bs) == crc (bs.take (4 + nOf bs))
def fstV (bs : List UInt8) : V := if fits bs then .tuple [.ex 1 ((piece bs).map u8), .d (.bool (sumOk bs))] else .tuple [.nils, .d (.bool false)]
def bsD (bs : List UInt8) : D := .list 1 (bs.map u8)
noncomputable def B61 : Code := (Try.f61.body).getD .skip
noncomputable def G61 (n l) := cgo n l [.code B61]
theorem F61 : Fnc Try.prog 61 Try.f61 B61 := ⟨Try.func61, by kernel_rfl, by kernel_rfl⟩
theorem clone_pure (bs : List UInt8) (hlen : bs.length ≤ 140737488355000) : Pure Try.prog 61 [.d (bsD bs)] (.d (bsD bs)) := by
 refine CallsA.start F61 (tm := (mk 8 [(0, .d (bsD bs))])) (by kernel_rfl) ?_
 refine .sge 8 [0, 3] (cgo 8 [] [.code B61]) ?_
 refine .anyH (o := (opOf (G61 8 [])).getD default) (by kernel_rfl) (by kernel_rfl) (by kernel_rfl) (T' := (G61 9 [])) (by kernel_rfl) (nilEq_ok (x := .tmp 3) (y := .const (.slice none 0 0)) (t := 22) (ty := 22) (sz := 1) (xs := bs.map u8) (neg := false) (by kernel_rfl) (by kernel_rfl) (by kernel_rfl) (by kernel_rfl)) ?_
 rintro v ⟨b, rfl, hb⟩
 cases b with
 | true =>
   have h0 : bs = [] := by simpa using hb rfl
   subst h0
   refine .seg 6 [2] (T' := cgo 15 [true] [.code B61]) (tm' := mk 8 [(2, .nils)]) (σ' := []) (by kernel_rfl) ?_
   refine .coerce [22, 22, 22] ?_
   exact .retH (v := .d (bsD [])) F61 (by kernel_rfl) (by kernel_rfl) ⟨rfl, rfl⟩
 | false =>
   refine .sge 5 [0] (cgo 14 [false] [.code B61]) ?_
   refine .opH (o := (opOf (G61 14 [false])).getD default) (by kernel_rfl) (by kernel_rfl) (by kernel_rfl) (T' := cgo 15 [false] [.code B61]) (by kernel_rfl) (build0_ok (t := 22) (e := 5) (sz := 1) (sz' := 1) (by kernel_rfl) (by kernel_rfl) (by kernel_rfl)) ?_
   refine .seg 1 [5, 6] (T' := cgo 16 [false] [.code B61]) (tm' := mk 8 [(5, .ex 1 []), (6, .d (bsD bs))]) (σ' := []) (by kernel_rfl) ?_
   cases bs with
   | nil =>
     refine .opH (o := (opOf (G61 16 [false])).getD default) (by kernel_rfl) (by kernel_rfl) (by kernel_rfl) (T' := cgo 17 [false] [.code B61]) (by kernel_rfl) (appNone_ok (s := .tmp 5) (x := .tmp 6) (t := 22) (t2 := 22) (sz := 1) (by' := 1) (xs := []) (by kernel_rfl) (by kernel_rfl) (by kernel_rfl) (by kernel_rfl) (by kernel_rfl)) ?_
     refine .seg 2 [2] (T' := cgo 19 [false] [.code B61]) (tm' := mk 8 [(2, .ex 1 [])]) (σ' := []) (by kernel_rfl) ?_
     refine .coerce [22, 22, 22] ?_
     exact .retH (v := .d (bsD [])) F61 (by kernel_rfl) (by kernel_rfl) ⟨rfl, rfl⟩
   | cons b bs =>
     refine .opH (o := (opOf (G61 16 [false])).getD default) (by kernel_rfl) (by kernel_rfl) (by kernel_rfl) (T' := cgo 17 [false] [.code B61]) (by kernel_rfl) (appEx_ok (s := .tmp 5) (x := .tmp 6) (t := 22) (t2 := 22) (sz := 1) (by' := 1) (xs := []) (ys := (b :: bs).map u8) (by kernel_rfl) (by kernel_rfl) (by kernel_rfl) (by kernel_rfl) (by kernel_rfl) (by simp) (by simp at hlen ⊢; omega) (by simp [maxLen] at hlen ⊢; omega)) ?_
     refine .sge 2 [2] (cgo 19 [false] [.code B61]) ?_
     refine .freeze 0 (sz := 1) (xs := (b :: bs).map u8) (mv := false) rfl ?_
     refine .sub [] ((mk 8 [(2, .d (bsD (b :: bs)))])) [] none [] ⟨rfl, rfl, rfl⟩ rfl ⟨by simp, rfl⟩ rfl ⟨rfl, rfl⟩ ⟨rfl, rfl⟩ ?_
     exact .retH F61 (by kernel_rfl) (by kernel_rfl) (⟨rfl, rfl⟩)
def strOf (bs : List UInt8) : ByteArray := ⟨bs.toArray⟩
theorem bts_data {P : Program} {tm : List V} {σ : Store} {o : Oper} {s t : TypeId} {x : Operand} {bs : List UInt8} (ho : o.op = .convert s t x) (hs : isU8s P s = true) (ht : isStrT P t = true) (hx : ev tm x = .d (bsD bs)) : OpOk P o tm σ (.d (.str (strOf bs))) tm σ :=
 bts_ok ho hs ht (.inl ⟨by rw [hx]; rfl, fun z hz => by rw [hx] at hz; cases hz⟩)
section
variable {n : Nat} {Q : AE → Store → Prop}
end
end Go.Proofs.Ytoelkgbeefoplaa
namespace Go.Proofs.Ytoelkgbeefoplaa
open Go Go.Br Go.Proofs Go.ChangeShapes Go.WideShapes Go.ChangeAt Go.RowKit
theorem own : ownKnob Try.prog.godebug = none := by kernel_rfl
theorem laidOut : laidOutB Try.prog = true := by kernel_rfl
def I0 (W : World) (b : Nat) : Prop := b < W.heap.size
theorem orel0 (W : World) : ORel W (I0 W) (fun _ => none) [] :=
  ⟨fun l o h => by simp at h, fun l l' L L' h => by obtain ⟨o, h, _⟩ := h; simp at h, fun b h => by obtain ⟨l, o, L, h, _⟩ := h; simp at h, fun b hb => ⟨hb, fun h => by obtain ⟨l, o, L, h, _⟩ := h; simp at h⟩⟩
theorem below0 {W W' : World} {I' : Nat → Prop} {ρ' : LM} {σ' : Store} (h : Ext 0 W (I0 W) (fun _ => none) [] W' I' ρ' σ') : Below W.heap.size W W' :=
  ⟨h.os, h.tape, h.output, h.size, fun k hk => h.old k hk fun hf => by obtain ⟨l, o, L, h, _⟩ := hf; simp at h⟩
theorem law_calls {P : Program} {g : FuncId} {args : List V} (h : Br.Pure P g args (.d (.bool true))) {W : World} {xs : List Value} (hx : vrL W (I0 W) (fun _ => none) [] args xs) :
    Calls P g xs.toArray W fun e W' => e = .returned (.bool true) ∧ Below W.heap.size W W' := by
  refine (h W (I0 W) (fun _ => none) xs hx (orel0 W)).mono ?_
  rintro e W' ⟨I', ρ', σ', r, ⟨rfl, rfl⟩, ⟨x, rfl, hx⟩, _, hE⟩
  simp only [vr, Dr] at hx
  subst hx
  exact ⟨rfl, below0 hE⟩
section
variable {H : Type} {enc : TypeId × Value → H} {W : World}
end
end Go.Proofs.Ytoelkgbeefoplaa
namespace Go.Br
open Go
def isAggB (P : Program) (t : TypeId) : Bool := match P.underlying t with | some (.struct _) | some (.array _ _) => true | _ => false
def layB (P : Program) : List Field → Nat → Option Nat
  | [], o => some o
  | f :: fs, o => if f.offset = o then layB P fs (o + P.cellsOf f.type) else none
def plainB (P : Program) : Nat → TypeId → Bool
  | 0, _ => false
  | n + 1, t => match P.underlying t with
    | some .bool | some (.int _) | some .string => Nat.beq (P.cellsOf t) 1
    | some (.slice e) => Nat.beq (P.cellsOf t) 1 && (Nat.blt 0 (P.cellsOf e) && plainB P n e)
    | some (.struct fs) => (layB P fs.toList 0 == some (P.cellsOf t)) && fs.toList.all fun f => plainB P n f.type
    | some (.array m e) => Nat.beq (m * P.cellsOf e) (P.cellsOf t) && plainB P n e
    | _ => false
def WtC (P : Program) : Nat → TypeId → List D → Prop
  | 0, _, _ => False
  | n + 1, t, ds => match P.underlying t with
    | some .bool => ∃ b, ds = [.bool b]
    | some (.int k) => ∃ x, ds = [.int k x] ∧ k.min ≤ x ∧ x ≤ k.max
    | some .string => ∃ s, ds = [.str s] ∧ s.size ≤ maxLen
    | some (.slice e) => ∃ xs, ds = [.list (P.cellsOf e) xs] ∧ xs.length ≤ maxLen ∧ ∀ x ∈ xs, if isAggB P e = true then ∃ cs, x = .agg cs ∧ cs.length = P.cellsOf e ∧ WtC P n e cs else WtC P n e [x]
    | some (.struct fs) => ∀ f ∈ fs.toList, WtC P n f.type ((ds.drop f.offset).take (P.cellsOf f.type))
    | some (.array m e) => ∀ i, i < m → WtC P n e ((ds.drop (i * P.cellsOf e)).take (P.cellsOf e))
    | _ => False
def WtE (P : Program) (n : Nat) (e : TypeId) (x : D) : Prop := if isAggB P e = true then ∃ cs, x = .agg cs ∧ cs.length = P.cellsOf e ∧ WtC P n e cs else WtC P n e [x]
theorem choose_list {α : Type} {R : Nat → α → Prop} : ∀ (n : Nat), (∀ i, i < n → ∃ d, R i d) → ∃ xs : List α, xs.length = n ∧ ∀ i d, xs[i]? = some d → R i d
  | 0, _ => ⟨[], rfl, fun i d h => by simp at h⟩
  | n + 1, h => by
    obtain ⟨xs, h1, h2⟩ := choose_list n fun i hi => h i (by omega)
    obtain ⟨d, hd⟩ := h n (by omega)
    refine ⟨xs ++ [d], by simp [h1], fun i e he => ?_⟩
    by_cases hi : i < xs.length
    · rw [List.getElem?_append_left hi] at he; exact h2 i e he
    · rw [List.getElem?_append_right (by omega)] at he
      have : i - xs.length = 0 := by
        rcases Nat.eq_zero_or_pos (i - xs.length) with h | h
        · exact h
        · simp [List.getElem?_eq_none (show [d].length ≤ i - xs.length by simp; omega)] at he
      rw [this] at he
      simp at he
      subst he
      obtain rfl : i = n := by omega
      exact hd
section
variable {W : World} {I : Nat → Prop}
theorem DrE_of_get {sz b : Nat} : ∀ {xs : List D} {o : Nat}, (∀ i d, xs[i]? = some d → ∃ v, Dr W I d v ∧ v.cells.size = sz ∧ ∀ j, j < sz → W.cell? ⟨b, o + i * sz + j, none⟩ = v.cells[j]?) → DrE W I sz b o xs
 | [], _, _ => by simp [DrE]
 | x :: xs, o, h => by
   simp only [DrE]
   refine ⟨?_, DrE_of_get fun i d hd => ?_⟩
   · have := h 0 x (by simp)
     simpa using this
   · have := h (i + 1) d (by simpa using hd)
     rw [show o + (i + 1) * sz = o + sz + i * sz by rw [Nat.add_mul]; omega] at this
     exact this
end
theorem drop_take_cat {α : Type} (cs : List α) (o a : Nat) : (cs.drop o).take a ++ cs.drop (o + a) = cs.drop o := by
 have := List.take_append_drop a (cs.drop o)
 rwa [List.drop_drop] at this
section
variable {H : Type} {enc : TypeId × Value → H} {P : Program} {W : World} {base : Nat} {spare : Nat → Bool} {held : Bool}
theorem fields_read {cs : List Value} {R : TypeId → List D → Prop} : ∀ (fs : List Field) (o tot : Nat), layB P fs o = some tot → tot = cs.length → o ≤ cs.length →
    (∀ f ∈ fs, f.offset + P.cellsOf f.type ≤ cs.length → ∃ ds, DrL W (fun b => b < W.heap.size) ds ((cs.drop f.offset).take (P.cellsOf f.type)) ∧ R f.type ds) →
    ∃ ds, DrL W (fun b => b < W.heap.size) ds (cs.drop o) ∧ ∀ f ∈ fs, o ≤ f.offset ∧ R f.type ((ds.drop (f.offset - o)).take (P.cellsOf f.type))
  | [], o, tot, hl, ht, ho, _ => by
    simp only [layB, Option.some.injEq] at hl
    subst hl ht
    refine ⟨[], ?_, fun f hf => by cases hf⟩
    rw [List.drop_length]; simp [DrL]
  | f :: fs, o, tot, hl, ht, ho, h => by
    simp only [layB] at hl
    split at hl
    · rename_i hfo
      have hmono : ∀ (fs : List Field) (o tot : Nat), layB P fs o = some tot → o ≤ tot := by
        intro fs
        induction fs with
        | nil => intro o tot h; simp only [layB, Option.some.injEq] at h; omega
        | cons g gs ih =>
          intro o tot h
          simp only [layB] at h
          split at h
          · have := ih _ _ h; omega
          · cases h
      have hle := hmono fs _ _ hl
      obtain ⟨ds1, h1, h2⟩ := h f (by simp) (by omega)
      rw [hfo] at h1
      obtain ⟨ds2, h3, h4⟩ := fields_read fs (o + P.cellsOf f.type) tot hl ht (by omega) fun g hg => h g (by simp [hg])
      have hlen : ds1.length = P.cellsOf f.type := by
        have := DrL_len h1
        simp at this; omega
      refine ⟨ds1 ++ ds2, ?_, fun g hg => ?_⟩
      · rw [← drop_take_cat cs o (P.cellsOf f.type)]
        exact DrL_append h1 h3
      · rcases List.mem_cons.1 hg with rfl | hg
        · refine ⟨by omega, ?_⟩
          rw [hfo, Nat.sub_self, List.drop_zero, ← hlen, List.take_left]
          exact h2
        · obtain ⟨k1, k2⟩ := h4 g hg
          refine ⟨by omega, ?_⟩
          rw [List.drop_append, List.drop_eq_nil_of_le (by omega), List.nil_append, show g.offset - o - ds1.length = g.offset - (o + P.cellsOf f.type) by omega]
          exact k2
    · cases hl
theorem elems_read {cs : List Value} {R : List D → Prop} {c : Nat} : ∀ (m o : Nat), o + m * c = cs.length →
    (∀ i, i < m → ∃ ds, DrL W (fun b => b < W.heap.size) ds ((cs.drop (o + i * c)).take c) ∧ R ds) →
    ∃ ds, DrL W (fun b => b < W.heap.size) ds (cs.drop o) ∧ ∀ i, i < m → R ((ds.drop (i * c)).take c)
  | 0, o, ho, _ => by
    refine ⟨[], ?_, fun i hi => by omega⟩
    rw [List.drop_eq_nil_of_le (by omega)]; simp [DrL]
  | m + 1, o, ho, h => by
    have hm : (m + 1) * c = m * c + c := Nat.succ_mul m c
    obtain ⟨ds1, h1, h2⟩ := h 0 (by omega)
    rw [Nat.zero_mul, Nat.add_zero] at h1
    obtain ⟨ds2, h3, h4⟩ := elems_read (cs := cs) (R := R) (c := c) m (o + c) (by omega) fun i hi => by
      have := h (i + 1) (by omega)
      rwa [show o + (i + 1) * c = o + c + i * c by rw [Nat.succ_mul]; omega] at this
    have hlen : ds1.length = c := by
      have := DrL_len h1
      simp at this; omega
    refine ⟨ds1 ++ ds2, ?_, fun i hi => ?_⟩
    · rw [← drop_take_cat cs o c]
      exact DrL_append h1 h3
    · cases i with
      | zero => rw [Nat.zero_mul, List.drop_zero, ← hlen, List.take_left]; exact h2
      | succ i =>
        have e : (i + 1) * c = i * c + c := Nat.succ_mul i c
        rw [List.drop_append, List.drop_eq_nil_of_le (by omega), List.nil_append, show (i + 1) * c - ds1.length = i * c by omega]
        exact h4 i (by omega)
theorem cells_spot {a : Addr} {c : Nat} {vs : List Value} (h : W.cells? base a c = some vs) (hc : 0 < c) : a.spot = none ∧ a.block < W.heap.size ∧ vs.length = c ∧ ∀ j, j < c → W.cell? ⟨a.block, a.off + j, none⟩ = vs[j]? := by
  unfold World.cells? at h
  split at h
  · have hl := mapM_some_length h
    have hg := fun j (hj : j < c) => mapM_some_get h j j (by simp [hj])
    have h0 := hg 0 hc
    have hv : ∃ v, W.cell? a = some v := by
      have h1 : vs[0]? = some (vs[0]'(by simp at hl; omega)) := List.getElem?_eq_getElem (by simp at hl; omega)
      rw [h1] at h0
      exact ⟨_, by simpa [Addr.add] using h0⟩
    obtain ⟨v, hv⟩ := hv
    have hs : a.spot = none ∧ a.block < W.heap.size := by
      unfold World.cell? at hv
      split at hv
      · rename_i hh
        split at hv
        · cases hv
        · rename_i hs
          exact ⟨by simpa using hs, (Array.getElem?_eq_some_iff.1 hh).1⟩
      · cases hv
    refine ⟨hs.1, hs.2, by simpa using hl, fun j hj => ?_⟩
    rw [← hg j hj]
    have : a.add j = ⟨a.block, a.off + j, none⟩ := by
      obtain ⟨b, o, sp⟩ := a
      simp only at hs
      unfold Addr.add
      split
      · rename_i hj0; subst hj0; simp [hs.1]
      · rfl
    rw [this]
  · cases h
theorem cells_one {n : Nat} {e : TypeId} (h : plainB P n e = true) (ha : isAggB P e = false) : P.cellsOf e = 1 := by
 cases n with
 | zero => simp [plainB] at h
 | succ n =>
   unfold plainB at h
   unfold isAggB at ha
   split at h
   · simpa using h
   · simpa using h
   · simpa using h
   · simp only [Bool.and_eq_true] at h; simpa using h.1
   · rename_i hu; simp [hu] at ha
   · rename_i hu; simp [hu] at ha
   · cases h
theorem spot_of {a : Addr} {e : TypeId} {len fuel : Nat} {elems : List (DataW H × List MemPlace)} (hE : ∀ i, i < len → (W.cells? base (a.add (i * P.cellsOf e)) (P.cellsOf e)).bind (DataW.trod enc P W base spare held fuel e) = elems[i]?) (hl : elems.length = len) (hc : 0 < P.cellsOf e) (h0 : 0 < len) : a.spot = none := by
 have h1 := hE 0 h0
 rw [List.getElem?_eq_getElem (by omega)] at h1
 simp only [Option.bind_eq_some_iff] at h1
 obtain ⟨vs, h2, _⟩ := h1
 have := (cells_spot h2 hc).1
 simpa [Addr.add] using this
theorem plain_read : ∀ (n : Nat) {fuel : Nat} {t : TypeId} {cs : List Value} {x : DataW H × List MemPlace}, plainB P n t = true → DataW.trod enc P W base spare held fuel t cs = some x →
    ∃ ds, DrL W (fun b => b < W.heap.size) ds cs ∧ WtC P n t ds
  | 0, _, _, _, _, hp, _ => by simp [plainB] at hp
  | n + 1, 0, _, _, _, _, h => by simp [DataW.trod] at h
  | n + 1, fuel + 1, t, cs, x, hp, h => by
    unfold plainB at hp
    unfold WtC
    split at hp
    · rename_i hu
      unfold DataW.trod at h
      rw [hu] at h
      try simp only [hu]
      split at h <;> simp_all
      rename_i b
      refine ⟨[.bool b], ?_, ?_⟩
      · simp only [DrL, Dr]; exact ⟨_, [], rfl, rfl, rfl, rfl⟩
      · cases b <;> simp
    · rename_i k hu
      unfold DataW.trod at h
      rw [hu] at h
      try simp only [hu]
      split at h <;> (try cases h) <;> simp_all only [Option.some.injEq, TypeDesc.int.injEq, reduceCtorEq, Option.ite_none_right_eq_some]
      rename_i k' m _
      obtain ⟨⟨h1, hw⟩, _⟩ := h
      subst h1
      simp only [Lit.wf, Bool.and_eq_true, decide_eq_true_eq] at hw
      refine ⟨[.int _ m], ?_, m, rfl, hw.1, hw.2⟩
      simp only [DrL, Dr]; exact ⟨_, [], rfl, rfl, rfl, rfl⟩
    · rename_i hu
      unfold DataW.trod at h
      rw [hu] at h
      try simp only [hu]
      split at h <;> simp_all
      rename_i s
      refine ⟨[.str s], ?_, s, rfl, h.1⟩
      simp only [DrL, Dr]; exact ⟨_, [], rfl, rfl, rfl, rfl⟩
    · rename_i e hu
      try simp only [hu]
      simp only [Bool.and_eq_true, Nat.blt_eq] at hp
      obtain ⟨_, hc, hpe⟩ := hp
      rcases DataW.trod_slice hu h with ⟨rfl, _⟩ | ⟨a, len, cap, elems, rest, m, hm, rfl, _, hb, hlc, hcm, hel, hE, _⟩
      · refine ⟨[.list (P.cellsOf e) []], ?_, [], rfl, by simp [maxLen], fun x hx => by cases hx⟩
        simp only [DrL, Dr]
        exact ⟨_, [], rfl, by simp [one, Value.oneCell'], ⟨none, 0, rfl, by simp, by simp [maxLen], .inl trivial⟩, rfl⟩
      · obtain rfl : fuel = m := by omega
        have hi : ∀ i, i < len → ∃ d, (∃ v, Dr W (fun b => b < W.heap.size) d v ∧ v.cells.size = P.cellsOf e ∧ ∀ j, j < P.cellsOf e → W.cell? ⟨a.block, a.off + i * P.cellsOf e + j, none⟩ = v.cells[j]?) ∧ WtE P n e d ∧ a.spot = none ∧ a.block < W.heap.size := by
          intro i hi
          have h1 := hE i hi
          rw [List.getElem?_eq_getElem (by omega)] at h1
          simp only [Option.bind_eq_some_iff] at h1
          obtain ⟨vs, h2, h3⟩ := h1
          obtain ⟨g1, g2, g3, g4⟩ := cells_spot h2 hc
          obtain ⟨ds, k1, k2⟩ := plain_read n hpe h3
          have hadd : a.add (i * P.cellsOf e) = ⟨a.block, a.off + i * P.cellsOf e, a.spot⟩ ∨ (a.add (i * P.cellsOf e) = ⟨a.block, a.off + i * P.cellsOf e, none⟩) := by
            obtain ⟨b, o, sp⟩ := a
            unfold Addr.add
            split
            · rename_i hz; left; simp [hz]
            · right; rfl
          have hlenv := DrL_len k1
          by_cases hag : isAggB P e = true
          · refine ⟨.agg ds, ⟨.agg vs.toArray, by simp only [Dr]; exact ⟨vs, rfl, k1⟩, by simp [Value.cells, g3], fun j hj => ?_⟩, by unfold WtE; rw [if_pos hag]; exact ⟨ds, rfl, by omega, k2⟩, ?_, ?_⟩
            · have := g4 j hj
              rcases hadd with e' | e' <;> rw [e'] at this <;> simpa [Value.cells] using this
            · rcases hadd with e' | e'
              · rw [e'] at g1; exact g1
              · rw [e'] at g1
                exact spot_of hE hel hc (by omega)
            · rcases hadd with e' | e' <;> rw [e'] at g2 <;> exact g2
          · have hone : P.cellsOf e = 1 := cells_one hpe (by simpa using hag)
            obtain ⟨d, rfl⟩ : ∃ d, ds = [d] := List.length_eq_one_iff.1 (by omega)
            obtain ⟨v, rfl⟩ : ∃ v, vs = [v] := List.length_eq_one_iff.1 (by omega)
            simp only [DrL] at k1
            obtain ⟨v', vs', e1, hov, hdv, rfl⟩ := k1
            cases e1
            have hcells : v.cells = #[v] := by
              have := hov
              unfold one at this
              cases v <;> simp_all [Value.cells, Value.oneCell']
            refine ⟨d, ⟨v, hdv, by simp [hcells, hone], fun j hj => ?_⟩, by unfold WtE; rw [if_neg hag]; exact k2, ?_, ?_⟩
            · have := g4 j hj
              rw [hcells]
              rcases hadd with e' | e' <;> rw [e'] at this <;> simpa using this
            · rcases hadd with e' | e'
              · rw [e'] at g1; exact g1
              · exact spot_of hE hel hc (by omega)
            · rcases hadd with e' | e' <;> rw [e'] at g2 <;> exact g2
        obtain ⟨xs, hx1, hx2⟩ := choose_list len hi
        refine ⟨[.list (P.cellsOf e) xs], ?_, xs, rfl, by omega, fun x hx => ?_⟩
        · simp only [DrL, Dr]
          refine ⟨_, [], rfl, by simp [one, Value.oneCell'], ⟨some a, cap, by rw [hx1], by omega, hcm, ?_⟩, rfl⟩
          by_cases h0 : len = 0
          · left; exact List.eq_nil_of_length_eq_zero (by omega)
          · right
            obtain ⟨d, hd⟩ : ∃ d, xs[0]? = some d := ⟨xs[0]'(by omega), List.getElem?_eq_getElem (by omega)⟩
            obtain ⟨_, _, h5, h6⟩ := hx2 0 d hd
            refine ⟨a.block, a.off, by obtain ⟨b, o, sp⟩ := a; simp only at h5; rw [h5], h6, DrE_of_get fun i d hd => (hx2 i d hd).1⟩
        · obtain ⟨i, hi2, rfl⟩ := List.getElem_of_mem hx
          exact (hx2 i _ (List.getElem?_eq_getElem hi2)).2.1
    · rename_i fs hu
      try simp only [hu]
      simp only [Bool.and_eq_true, beq_iff_eq, List.all_eq_true] at hp
      obtain ⟨ys, m, hm, _, hcs, hlen, hf⟩ := DataW.trod_struct hu h
      obtain rfl : fuel = m := by omega
      obtain ⟨ds, k1, k2⟩ := fields_read (cs := cs) (R := WtC P n) fs.toList 0 (P.cellsOf t) hp.1 hcs.symm (by omega) fun f hfm _ => by
        obtain ⟨i, hi, rfl⟩ := List.getElem_of_mem hfm
        have h1 := hf i (fs.toList[i]) (by simp at hi; simp [hi])
        rw [List.getElem?_eq_getElem (by simp at hi; omega)] at h1
        exact plain_read n (hp.2 _ hfm) h1
      rw [List.drop_zero] at k1
      exact ⟨ds, k1, fun f hf => by have := (k2 f hf).2; rwa [Nat.sub_zero] at this⟩
    · rename_i m e hu
      try simp only [hu]
      simp only [Bool.and_eq_true, Nat.beq_eq] at hp
      obtain ⟨ys, m', hm', _, hcs, hlen, hf⟩ := DataW.trod_array hu h
      obtain rfl : fuel = m' := by omega
      obtain ⟨ds, k1, k2⟩ := elems_read (cs := cs) (R := WtC P n e) (c := P.cellsOf e) m 0 (by omega) fun i hi => by
        have h1 := hf i hi
        rw [List.getElem?_eq_getElem (by omega)] at h1
        rw [Nat.zero_add]
        exact plain_read n hp.2 h1
      rw [List.drop_zero] at k1
      exact ⟨ds, k1, k2⟩
    · cases hp
end
end Go.Br
namespace Go.Br
open Go Go.WideShapes
theorem arg_read {H : Type} {enc : TypeId × Value → H} {P : Program} {W : World} {base b2 : Nat} {spare : Nat → Bool} {held : Bool} {r : Reach} {t : TypeId} {v : Value} {d : DataW H} {ps : List MemPlace} (n : Nat) (hp : plainB P n t = true)
    (hval : Value.okWide P W r b2 t v) (h : DataW.Trod enc P W base spare held t v d ps) : ∃ x : D, Dr W (fun b => b < W.heap.size) x v ∧ WtE P n t x := by
  obtain ⟨fuel, hf⟩ := h
  obtain ⟨ds, h1, h2⟩ := plain_read n hp hf
  by_cases hag : isAggB P t = true
  · have : ∃ cs, v = .agg cs ∧ cs.size = P.cellsOf t := by
      unfold isAggB at hag
      unfold Value.okWide at hval
      split at hag
      · rename_i hu; rw [hu] at hval; obtain ⟨cs, e1, e2, _⟩ := hval; exact ⟨cs, e1, e2⟩
      · rename_i hu; rw [hu] at hval; obtain ⟨cs, e1, e2, _⟩ := hval; exact ⟨cs, e1, e2⟩
      · cases hag
    obtain ⟨cs, rfl, hcs⟩ := this
    have hl := DrL_len h1
    refine ⟨.agg ds, by simp only [Dr]; exact ⟨cs.toList, rfl, h1⟩, ?_⟩
    unfold WtE
    rw [if_pos hag]
    refine ⟨ds, rfl, ?_, h2⟩
    simp [Value.cells] at hl
    omega
  · have hone : v.cells = #[v] := by
      unfold plainB at hp
      cases n with
      | zero => simp at hp
      | succ n =>
        simp only at hp
        unfold isAggB at hag
        split at hp
        · rename_i hu; obtain ⟨b, rfl⟩ := okWide_bool hu hval; rfl
        · rename_i hu; obtain ⟨b, rfl⟩ := okWide_int hu hval; rfl
        · rename_i hu; obtain ⟨b, rfl⟩ := okWide_string hu hval; rfl
        · rename_i hu; obtain ⟨a, b, c, rfl⟩ := okWide_slice hu hval; rfl
        · rename_i hu; simp [hu] at hag
        · rename_i hu; simp [hu] at hag
        · cases hp
    rw [hone] at h1
    have hl := DrL_len h1
    obtain ⟨x, rfl⟩ : ∃ x, ds = [x] := List.length_eq_one_iff.1 (by simpa using hl.symm)
    simp only [DrL] at h1
    obtain ⟨v', vs', e1, _, hd, _⟩ := h1
    cases e1
    exact ⟨x, hd, by unfold WtE; rw [if_neg hag]; exact h2⟩
section
variable {P : Program} {n : Nat}
theorem WtE.int {t : TypeId} {x : D} {k : IntKind} (h : WtE P n t x) (hu : P.underlying t = some (.int k)) : ∃ a, x = .int k a ∧ k.min ≤ a ∧ a ≤ k.max := by
 unfold WtE isAggB at h
 simp only [hu] at h
 cases n with
 | zero => simp [WtC] at h
 | succ n => simpa [WtC, hu] using h
theorem WtE.str {t : TypeId} {x : D} (h : WtE P n t x) (hu : P.underlying t = some .string) : ∃ s, x = .str s ∧ s.size ≤ maxLen := by
 unfold WtE isAggB at h
 simp only [hu] at h
 cases n with
 | zero => simp [WtC] at h
 | succ n => simpa [WtC, hu] using h
theorem WtE.slice {t e : TypeId} {x : D} (h : WtE P n t x) (hu : P.underlying t = some (.slice e)) : ∃ xs, x = .list (P.cellsOf e) xs ∧ xs.length ≤ maxLen ∧ ∀ y ∈ xs, WtE P (n - 1) e y := by
 unfold WtE at h
 have hag : isAggB P t = false := by simp [isAggB, hu]
 rw [hag] at h
 cases n with
 | zero => simp [WtC] at h
 | succ n =>
   simp only [WtC, hu, Bool.false_eq_true, if_false] at h
   obtain ⟨xs, h1, h2, h3⟩ := h
   simp only [List.cons.injEq, and_true] at h1
   exact ⟨xs, h1, h2, fun y hy => h3 y hy⟩
theorem WtE.slice_map {α : Type} {t e : TypeId} {x : D} (g : α → D) (ok : α → Prop) (h : WtE P n t x) (hu : P.underlying t = some (.slice e)) (hg : ∀ y, WtE P (n - 1) e y → ∃ a, y = g a ∧ ok a) :
  ∃ l : List α, x = .list (P.cellsOf e) (l.map g) ∧ l.length ≤ maxLen ∧ ∀ a ∈ l, ok a := by
 obtain ⟨xs, rfl, h2, h3⟩ := h.slice hu
 have : ∀ xs : List D, (∀ y ∈ xs, WtE P (n - 1) e y) → ∃ l : List α, xs = l.map g ∧ ∀ a ∈ l, ok a := by
  intro xs
  induction xs with
  | nil => intro _; exact ⟨[], rfl, fun a ha => by cases ha⟩
  | cons y ys ih =>
    intro h
    obtain ⟨l, h1, h2⟩ := ih fun z hz => h z (by simp [hz])
    obtain ⟨a, h3, h4⟩ := hg y (h y (by simp))
    exact ⟨a :: l, by simp [h3, h1], fun b hb => by rcases List.mem_cons.1 hb with rfl | hb; exact h4; exact h2 b hb⟩
 obtain ⟨l, rfl, h4⟩ := this xs h3
 exact ⟨l, rfl, by simpa using h2, h4⟩
theorem WtE.struct {t : TypeId} {x : D} {fs : Array Field} (h : WtE P n t x) (hu : P.underlying t = some (.struct fs)) : ∃ cs, x = .agg cs ∧ cs.length = P.cellsOf t ∧ ∀ f ∈ fs.toList, WtC P (n - 1) f.type ((cs.drop f.offset).take (P.cellsOf f.type)) := by
 unfold WtE at h
 have hag : isAggB P t = true := by simp [isAggB, hu]
 rw [if_pos hag] at h
 cases n with
 | zero => obtain ⟨_, _, _, h⟩ := h; simp [WtC] at h
 | succ n => simpa [WtC, hu] using h
theorem WtC.one {t : TypeId} {ds : List D} (h : WtC P n t ds) (ha : isAggB P t = false) : ∃ x, ds = [x] ∧ WtE P n t x := by
 cases n with
 | zero => simp [WtC] at h
 | succ n =>
   have h' := h
   unfold WtC at h
   unfold WtE
   rw [ha]
   simp only [Bool.false_eq_true, if_false]
   unfold isAggB at ha
   split at h
   · obtain ⟨b, rfl⟩ := h; exact ⟨_, rfl, h'⟩
   · obtain ⟨b, rfl, _⟩ := h; exact ⟨_, rfl, h'⟩
   · obtain ⟨b, rfl, _⟩ := h; exact ⟨_, rfl, h'⟩
   · obtain ⟨b, rfl, _⟩ := h; exact ⟨_, rfl, h'⟩
   · rename_i hu; simp [hu] at ha
   · rename_i hu; simp [hu] at ha
   · cases h
end
end Go.Br
namespace Go.Proofs.Ytoelkgbeefoplaa
open Go Go.Br Go.Proofs
open List (map)
end Go.Proofs.Ytoelkgbeefoplaa
namespace Go.Proofs.Ytoelkgbeefoplaa
open Go Go.Br Go.Proofs Go.ChangeShapes Go.WideShapes Go.ChangeAt Go.RowKit
set_option maxRecDepth 100000
theorem rd_u8 {n : Nat} {y : D} (h : WtE Try.prog n 5 y) : ∃ b : UInt8, y = u8 b ∧ True := by
  obtain ⟨a, rfl, h1, h2⟩ := h.int (show Try.prog.underlying 5 = some (.int .u8) by kernel_rfl)
  simp [IntKind.min, IntKind.max, IntKind.bits, IntKind.signed] at h1 h2
  refine ⟨UInt8.ofNat a.toNat, ?_, trivial⟩
  simp only [u8, D.int.injEq, true_and, UInt8.toNat_ofNat']
  omega
theorem rd_22 {n : Nat} {x : D} (h : WtE Try.prog n 22 x) : ∃ bs : List UInt8, x = bsD bs ∧ bs.length ≤ maxLen := by
  obtain ⟨l, rfl, h1, _⟩ := WtE.slice_map (P := Try.prog) (e := 5) (t := 22) u8 (fun _ => True) h (show Try.prog.underlying 22 = some (.slice 5) by kernel_rfl) fun y hy => rd_u8 hy
  exact ⟨l, by rw [show Try.prog.cellsOf 5 = 1 by kernel_rfl]; rfl, h1⟩
theorem rd_33 {n : Nat} {x : D} (h : WtE Try.prog n 33 x) : ∃ a : Nat, x = .int .u64 a ∧ a < 18446744073709551616 := by
  obtain ⟨a, rfl, h1, h2⟩ := h.int (show Try.prog.underlying 33 = some (.int .u64) by kernel_rfl)
  simp [IntKind.min, IntKind.max, IntKind.bits, IntKind.signed] at h1 h2
  exact ⟨a.toNat, by rw [Int.toNat_of_nonneg h1], by omega⟩
theorem rd_9 {n : Nat} {x : D} (h : WtE Try.prog n 9 x) : ∃ s : ByteArray, x = .str s ∧ s.size ≤ 9223372036854775807 :=
  h.str (show Try.prog.underlying 9 = some .string by kernel_rfl)
end Go.Proofs.Ytoelkgbeefoplaa
namespace Go.Proofs
open Go.Shelf
def Try.laysNm222_ren : Go.Shelf.Ren := ⟨fun | 22 => 100 | 29 => 112 | 30 => 113 | 36 => 118 | 17 => 121 | n => n, fun | 24 => 66 | 9 => 9 | 3 => 3 | 4 => 4 | 0 => 0 | n => n, fun | n => n⟩
theorem Try.laysNm222 : Go.Proofs.Lays2.n22 Try.prog Try.laysNm222_ren := {
  mixed := by kernel_rfl
  f17 := Try.func121.trans (congrArg some (by kernel_rfl))
  f22 := Try.func100.trans (congrArg some (by kernel_rfl))
  f29 := Try.func112.trans (congrArg some (by kernel_rfl))
  f30 := Try.func113.trans (congrArg some (by kernel_rfl))
  f36 := Try.func118.trans (congrArg some (by kernel_rfl))
  t0 := Try.underlying0
  a0 := Try.isAgg0
  z0 := Try.sizeOf0
  v0 := Try.zeroValue0
  t3 := Try.underlying3
  a3 := Try.isAgg3
  z3 := Try.sizeOf3
  v3 := Try.zeroValue3
  t4 := Try.underlying4
  a4 := Try.isAgg4
  z4 := Try.sizeOf4
  v4 := Try.zeroValue4
  t9 := Try.underlying9
  a9 := Try.isAgg9
  z9 := Try.sizeOf9
  v9 := Try.zeroValue9
  t24 := Try.underlying66
  a24 := Try.isAgg66
  z24 := Try.sizeOf66
  v24 := Try.zeroValue66
  i9 := by kernel_rfl }
def Try.laysNm221_ren : Go.Shelf.Ren := ⟨fun | 21 => 101 | 27 => 114 | 28 => 115 | 35 => 119 | 39 => 122 | n => n, fun | 22 => 46 | 3 => 3 | 4 => 4 | 0 => 0 | n => n, fun | n => n⟩
theorem Try.laysNm221 : Go.Proofs.Lays2.n21 Try.prog Try.laysNm221_ren := {
  mixed := by kernel_rfl
  f21 := Try.func101.trans (congrArg some (by kernel_rfl))
  f27 := Try.func114.trans (congrArg some (by kernel_rfl))
  f28 := Try.func115.trans (congrArg some (by kernel_rfl))
  f35 := Try.func119.trans (congrArg some (by kernel_rfl))
  f39 := Try.func122.trans (congrArg some (by kernel_rfl))
  t0 := Try.underlying0
  a0 := Try.isAgg0
  z0 := Try.sizeOf0
  v0 := Try.zeroValue0
  t3 := Try.underlying3
  a3 := Try.isAgg3
  z3 := Try.sizeOf3
  v3 := Try.zeroValue3
  t4 := Try.underlying4
  a4 := Try.isAgg4
  z4 := Try.sizeOf4
  v4 := Try.zeroValue4
  t22 := Try.underlying46
  a22 := Try.isAgg46
  z22 := Try.sizeOf46
  v22 := Try.zeroValue46
  i3 := by kernel_rfl }
def Try.laysNm223_ren : Go.Shelf.Ren := ⟨fun | 23 => 108 | n => n, fun | 22 => 46 | 3 => 3 | 4 => 4 | 0 => 0 | n => n, fun | n => n⟩
theorem Try.laysNm223 : Go.Proofs.Lays2.n23 Try.prog Try.laysNm223_ren := {
  mixed := by kernel_rfl
  f23 := Try.func108.trans (congrArg some (by kernel_rfl))
  t0 := Try.underlying0
  a0 := Try.isAgg0
  z0 := Try.sizeOf0
  v0 := Try.zeroValue0
  t3 := Try.underlying3
  a3 := Try.isAgg3
  z3 := Try.sizeOf3
  v3 := Try.zeroValue3
  t4 := Try.underlying4
  a4 := Try.isAgg4
  z4 := Try.sizeOf4
  v4 := Try.zeroValue4
  t22 := Try.underlying46
  a22 := Try.isAgg46
  z22 := Try.sizeOf46
  v22 := Try.zeroValue46
  i3 := by kernel_rfl }
def Try.laysNm224_ren : Go.Shelf.Ren := ⟨fun | 24 => 107 | n => n, fun | 24 => 66 | 9 => 9 | 3 => 3 | 4 => 4 | 0 => 0 | n => n, fun | n => n⟩
theorem Try.laysNm224 : Go.Proofs.Lays2.n24 Try.prog Try.laysNm224_ren := {
  mixed := by kernel_rfl
  f24 := Try.func107.trans (congrArg some (by kernel_rfl))
  t0 := Try.underlying0
  a0 := Try.isAgg0
  z0 := Try.sizeOf0
  v0 := Try.zeroValue0
  t3 := Try.underlying3
  a3 := Try.isAgg3
  z3 := Try.sizeOf3
  v3 := Try.zeroValue3
  t4 := Try.underlying4
  a4 := Try.isAgg4
  z4 := Try.sizeOf4
  v4 := Try.zeroValue4
  t9 := Try.underlying9
  a9 := Try.isAgg9
  z9 := Try.sizeOf9
  v9 := Try.zeroValue9
  t24 := Try.underlying66
  a24 := Try.isAgg66
  z24 := Try.sizeOf66
  v24 := Try.zeroValue66
  i9 := by kernel_rfl }
def Try.laysNm226_ren : Go.Shelf.Ren := ⟨fun | 26 => 106 | 33 => 116 | 34 => 117 | 38 => 120 | n => n, fun | 24 => 66 | 9 => 9 | 3 => 3 | 4 => 4 | 40 => 33 | 0 => 0 | n => n, fun | n => n⟩
theorem Try.laysNm226 : Go.Proofs.Lays2.n26 Try.prog Try.laysNm226_ren := {
  mixed := by kernel_rfl
  f26 := Try.func106.trans (congrArg some (by kernel_rfl))
  f33 := Try.func116.trans (congrArg some (by kernel_rfl))
  f34 := Try.func117.trans (congrArg some (by kernel_rfl))
  f38 := Try.func120.trans (congrArg some (by kernel_rfl))
  t0 := Try.underlying0
  a0 := Try.isAgg0
  z0 := Try.sizeOf0
  v0 := Try.zeroValue0
  t3 := Try.underlying3
  a3 := Try.isAgg3
  z3 := Try.sizeOf3
  v3 := Try.zeroValue3
  t4 := Try.underlying4
  a4 := Try.isAgg4
  z4 := Try.sizeOf4
  v4 := Try.zeroValue4
  t9 := Try.underlying9
  a9 := Try.isAgg9
  z9 := Try.sizeOf9
  v9 := Try.zeroValue9
  t24 := Try.underlying66
  a24 := Try.isAgg66
  z24 := Try.sizeOf66
  v24 := Try.zeroValue66
  t40 := Try.underlying33
  a40 := Try.isAgg33
  z40 := Try.sizeOf33
  v40 := Try.zeroValue33 }
end Go.Proofs
namespace Go.Proofs.Ytoelkgbeefoplaa
open Go Go.Br Go.Proofs
open List (map)
theorem alloc_keep {w : World} {o : Obj} {b : Nat} (h : b < w.heap.size) : (w.alloc o).heap[b]? = w.heap[b]? := by first | exact Go.heap_alloc_old _ _ _ h | exact Go.heap_alloc_old _ _ h
theorem row_laid {w : World} {I : Nat → Prop} {ρ : LM} {σ : Store} {l n sz : Nat} {xs : List D} {mv : Bool} {v : Value} (hO : ORel w I ρ σ) (hl : σ[l]? = some (.row sz xs mv)) (h : vr w I ρ σ (.row l) v) (hn : xs.length = n ∧ 0 < n) :
   ∃ L C T fz, ρ l = some L ∧ L.sz = sz ∧ w.heap[L.b]? = some (.cells C T fz) ∧ thawR fz C ∧ C.size = L.o + L.cap * sz ∧ xs.length ≤ L.cap ∧ DrE w I sz L.b L.o xs ∧ v = .slice (some ⟨L.b, L.o, none⟩) xs.length L.cap := by
 simp only [vr] at h
 rcases h.2.2 _ _ _ hl with ⟨hz, _⟩ | ⟨L, hL, hle, he⟩
 · omega
 · have ho := hO.objs l _ hl
   simp only [orel] at ho
   rcases ho with ⟨hx, _⟩ | ⟨L', C, T, fz, hL', hs, hh, hth, hC, hle2, hcap, hE⟩
   · rw [hL] at hx; cases hx
   rw [hL] at hL'; cases hL'
   exact ⟨L, C, T, fz, hL, hs, hh, hth, hC, hle2, hE, by rw [he]; simp⟩
theorem ins_string (xs : List D) (y : D) (i : Nat) (mv mv2 : Bool) (hi : i ≤ xs.length) (hb : (xs.length + 1) * 16 ≤ 140737488355328) : CallsA Try.prog 100 [.row 0, .d (.int .i64 i), .row 1] [.row 1 xs mv, .row 1 [y] mv2] fun r σ' => r = .ret (.row 0) ∧ σ' = [.row 1 (xs.take i ++ y :: xs.drop i) true, .row 1 [y] mv2] := by
  intro w I ρ ags has hO
  simp only [vrL] at has
  obtain ⟨v0, _, rfl, h0, v1, _, rfl, h1, v2, _, rfl, h2, rfl⟩ := has
  simp only [vr, Dr] at h1
  subst h1
  obtain ⟨L1, C1, T1, fz1, hL1, hs1, hh1, hth1, hC1, hle1, hE1, rfl⟩ := row_laid (n := 1) hO (l := 1) rfl h2 (by simp)
  obtain ⟨vs, hN1, hc1⟩ := DrN_of_E hE1
  have hvl : vs.length = 1 := by have := DrN_len hN1; simpa using this
  have hvone := DrN_one hN1
  have hvs : ∀ j v, vs[j]? = some v → w.cell? ⟨L1.b, L1.o + j, none⟩ = some v := fun j v hj => by rw [hc1 j (List.getElem?_eq_some_iff.1 hj).1]; exact hj
  have hone1 : ∀ v ∈ vs, v.oneCell' = true := hvone
  have hmax : xs.length + 1 ≤ maxLen := by simp only [maxLen]; omega
  have hy : ∀ (ys zs : List D) (a b : List Value) {w' : World}, (∀ b, I b → I b ∧ w'.heap[b]? = w.heap[b]?) → DrN w I 1 ys a → DrN w I 1 zs b → DrN w' I 1 (ys ++ y :: zs) (a ++ vs ++ b) := fun ys zs a b w' hI ha hb => by
    have := DrN_append (DrN_append ha hN1) hb
    rw [List.append_assoc, List.singleton_append] at this
    exact DrN_mono hI this
  have hdst : ∀ l : List D, l.length = xs.length + 1 → ((([O.row 1 xs mv, O.row 1 [y] mv2].map (O.kill (Nat.beq 0))).set 0 (O.row 1 l true))) = [.row 1 l true, .row 1 [y] mv2] := fun l _ => rfl
  have hz1 : ∀ x ∈ (.string ⟨#[]⟩ : Value).cells.toList, one x := by intro x hx; simp [Value.cells] at hx; subst hx; rfl
  have hzs : ∀ n, (Builtin.zeroCells (.string ⟨#[]⟩ : Value).cells n).size = n := fun n => by rw [size_zeroCells]; simp [Value.cells]
  have hlen : (xs.take i ++ y :: xs.drop i).length = xs.length + 1 := by simp; omega
  -- a new row
  have fresh : ∀ (cap : Nat) (C' : Array Value) (w' : World) (T' : TypeId), xs.length + 1 ≤ cap → cap ≤ maxLen → w'.heap[w.heap.size]? = some (.cells C' T' (0, 0)) → C'.size = cap → (∀ x ∈ C'.toList, one x) → (∀ b, b < w.heap.size → w'.heap[b]? = w.heap[b]?) → w.heap.size ≤ w'.heap.size → w'.os = w.os → w'.tape = w.tape → w'.output = w.output →
      ∀ cs, DrN w I 1 xs cs → (∀ j, j < xs.length + 1 → C'[j]? = (cs.take i ++ vs ++ cs.drop i)[j]?) →
      Fin 2 w I ρ [.row 1 xs mv, .row 1 [y] mv2] (fun r σ' => r = .ret (.row 0) ∧ σ' = [.row 1 (xs.take i ++ y :: xs.drop i) true, .row 1 [y] mv2]) (.returned (.slice (some ⟨w.heap.size, 0, none⟩) (xs.length + 1) cap)) w' := by
    intro cap C' w' T' k1 k2 k3 k4 k5 k6 k7 k8 k9 k10 cs hN k11
    have hI : ∀ b, I b → I b ∧ w'.heap[b]? = w.heap[b]? := fun b hb => ⟨hb, k6 b (hO.imm b hb).1⟩
    have hcl : cs.length = xs.length := by have := DrN_len hN; simpa using this
    have := row_moved (w' := w') (n := 2) (xs' := xs.take i ++ y :: xs.drop i) hO (l := 0) (sz := 1) (xs := xs) (mv := mv) rfl ⟨w.heap.size, 0, 1, cap⟩ rfl k3 ⟨thaw_zero _, k5⟩ (by simpa using k4) (by rw [hlen]; exact k1) k2 (by
      refine DrE_of_N (hy _ _ _ _ hI (by simpa using DrN_take i hN) (by simpa using DrN_drop i hN)) fun j hj => ?_
      simp only [List.length_append, List.length_take, List.length_drop, hcl, hvl] at hj
      rw [← k11 j (by omega)]
      simp only [World.cell?, k3, Nat.zero_add]
      rfl) (fun b hb _ => k6 b hb) k7 (.inl (Nat.le_refl _)) k8 k9 k10 (Nat.le_refl _)
    rw [hlen] at this
    exact this
  have h0' := h0
  simp only [vr] at h0
  rcases h0.2.2 _ _ _ rfl with ⟨hz, a, rfl⟩ | ⟨L, hL, hle, rfl⟩
  · -- nothing there
    have hxs : xs = [] := List.eq_nil_of_length_eq_zero hz
    subst hxs
    obtain rfl : i = 0 := by simpa using hi
    have hc := Any2.slices_Insert_string_end_grow Try.laysNm222 a 0 0 L1.b L1.o 1 L1.cap [] vs w (by omega) (by omega) (by omega) (by omega) rfl hvl (fun _ => rfl) (fun _ _ j v hj => by simp at hj) hvs hone1
    refine hc.mono ?_
    rintro e w' ⟨rfl, rfl⟩
    have hg := grownCap_ge w 1 0 (Try.laysNm222_ren.t 9)
    refine fresh _ _ _ _ (by simpa using hg) (grownCap_le_maxLen w 1 0 (Try.laysNm222_ren.t 9) (by simp [maxLen])) (heap_alloc_new _ _) ?_ ?_ (fun b hb => alloc_keep hb) (by simp) rfl rfl rfl [] (by simp [DrN]) (fun j hj => ?_)
    · rw [Array.size_append, hzs]; simp [hvl]; omega
    · exact one_app (fun x hx => hvone x (by simpa using hx)) (one_zeros hz1 _)
    · rw [Array.getElem?_append_left (by simp [hvl]; simpa using hj)]
      simp
  · have ho := hO.objs 0 _ rfl
    simp only [orel] at ho
    rcases ho with ⟨hx, _⟩ | ⟨L', C, T, fz, hL', hs, hh, hth, hC, hle2, hcap, hE⟩
    · rw [hL] at hx; cases hx
    rw [hL] at hL'; cases hL'
    obtain ⟨cs, hN, hcc⟩ := DrN_of_E hE
    have hcl : cs.length = xs.length := by have := DrN_len hN; simpa using this
    have hcone := DrN_one hN
    have hone : ∀ v ∈ cs, v.oneCell' = true := hcone
    have hcs : ∀ j v, cs[j]? = some v → w.cell? ⟨L.b, L.o + j, none⟩ = some v := fun j v hj => by rw [hcc j (List.getElem?_eq_some_iff.1 hj).1]; exact hj
    have hne : L1.b ≠ L.b := fun e => by have := hO.inj 1 0 L1 L ⟨_, rfl, by simp⟩ ⟨_, rfl, by simp⟩ hL1 hL e; omega
    have hCs : C.size = L.o + L.cap := by rw [hC]; simp
    have hsome : ∀ j, j < L.cap → (w.cell? ⟨L.b, L.o + j, none⟩).isSome = true := fun j hj => by simp [World.cell?, hh]; omega
    have hfro : ∀ j, j < L.cap → w.frozen? ⟨L.b, L.o + j, none⟩ = false := fun j hj => by
      have := hth.1.2 (L.o + j) (by omega)
      simp only [World.frozen?, hh, Bool.and_eq_false_iff, decide_eq_false_iff_not]
      omega
    have hv0 : (Value.slice (some ⟨L.b, L.o + 0 * L.sz, none⟩) xs.length (L.cap - 0)) = .slice (some ⟨L.b, L.o, none⟩) xs.length L.cap := by simp
    have hm63 : L.cap ≤ 9223372036854775807 := by simp only [maxLen] at hcap; exact hcap
    rw [hv0]
    -- in its place
    have inpl : ∀ (C' : Array Value) (w' : World), xs.length + 1 ≤ L.cap → w'.heap[L.b]? = some (.cells C' T fz) → C'.size = C.size → (∀ x ∈ C'.toList, one x) → (∀ b, b ≠ L.b → w'.heap[b]? = w.heap[b]?) → w'.heap.size = w.heap.size → w'.os = w.os → w'.tape = w.tape → w'.output = w.output →
        (∀ j, j < xs.length + 1 → w'.cell? ⟨L.b, L.o + j, none⟩ = (cs.take i ++ vs ++ cs.drop i)[j]?) →
        Fin 2 w I ρ [.row 1 xs mv, .row 1 [y] mv2] (fun r σ' => r = .ret (.row 0) ∧ σ' = [.row 1 (xs.take i ++ y :: xs.drop i) true, .row 1 [y] mv2]) (.returned (.slice (some ⟨L.b, L.o, none⟩) (xs.length + 1) L.cap)) w' := by
      intro C' w' k1 k3 k4 k5 k6 k7 k8 k9 k10 k11
      have hI : ∀ b, I b → I b ∧ w'.heap[b]? = w.heap[b]? := fun b hb => ⟨hb, k6 b fun e => (hO.imm b hb).2 ⟨0, _, L, rfl, by simp, hL, e.symm⟩⟩
      have := row_moved (w' := w') (n := 2) (xs' := xs.take i ++ y :: xs.drop i) hO (l := 0) (sz := 1) (xs := xs) (mv := mv) rfl L hs k3 ⟨by rw [k4]; exact hth.1, k5⟩ (by rw [k4, hC]) (by rw [hlen]; exact k1) hcap (by
        refine DrE_of_N (hy _ _ _ _ hI (by simpa using DrN_take i hN) (by simpa using DrN_drop i hN)) fun j hj => ?_
        simp only [List.length_append, List.length_take, List.length_drop, hcl, hvl] at hj
        exact k11 j (by omega)) (fun b _ hb => k6 b fun e => hb L hL e.symm) (by omega) (.inr ⟨L, hL, rfl⟩) k8 k9 k10 (Nat.le_refl _)
      rw [hlen] at this
      exact this
    by_cases hin : i < xs.length
    · by_cases hroom : xs.length + 1 ≤ L.cap
      · have hc := Any2.slices_Insert_string_shift Try.laysNm222 L.b L.o xs.length L.cap i L1.b L1.o 1 L1.cap cs vs w hin (by omega) hroom hm63 hne hcl hvl hcs (fun j hj => hsome j (by omega)) (fun j hj => hfro j (by omega)) hvs hone hone1
          T1 T C1.size C.size (by simp [World.shape?, hh1]) (by simp [World.shape?, hh]) (by omega) (by
            have := hth1.1.2 L1.o (by omega)
            simp only [World.frozen?, hh1, Bool.and_eq_false_iff, decide_eq_false_iff_not]
            omega) (by
            have := hth1.1.2 C1.size (Nat.le_refl _)
            simp only [World.frozen?, hh1, Bool.and_eq_false_iff, decide_eq_false_iff_not]
            omega)
        refine hc.mono ?_
        rintro e w' ⟨rfl, rfl⟩
        have hdl : (cs.drop i).length = xs.length - i := by simp [hcl]
        have e1 := setCells_setRow (cs.drop i) (L.o + (i + 1)) C w.drew (show w.drew.heap[L.b]? = _ from hh) (by omega)
        have hh2 := setRow_heap w.drew L.b C (C.toList.take (L.o + (i + 1)) ++ cs.drop i ++ C.toList.drop (L.o + (i + 1) + (cs.drop i).length)).toArray T fz hh
        have e2 := setCells_setRow vs (L.o + i) _ _ hh2 (by simp; omega)
        rw [← e1] at hh2 e2
        refine inpl _ _ hroom (by rw [e2]; exact setRow_heap _ _ _ _ _ _ hh2) (by simp; omega) (one_splice (one_splice hth.2 (fun x hx => hcone x (List.mem_of_mem_drop hx))) hvone) (fun b hb => by rw [e2, setRow_other _ _ _ _ hb, e1, setRow_other _ _ _ _ hb]; rfl) (by rw [e2, e1]; simp) (by rw [e2, e1]; rfl) (by rw [e2, e1]; rfl) (by rw [e2, e1]; rfl) fun j hj => ?_
        by_cases hj1 : j < i
        · rw [World.cell?_setCells_out _ _ _ _ _ (fun _ _ => by left; show L.o + j < L.o + i; omega), World.cell?_setCells_out _ _ _ _ _ (fun _ _ => by left; show L.o + j < L.o + (i + 1); omega)]
          rw [List.getElem?_append_left (by simp [hcl, hvl]; omega), List.getElem?_append_left (by simp [hcl]; omega), List.getElem?_take, if_pos hj1, ← hcc j (by omega)]
          rfl
        · by_cases hj2 : j = i
          · subst hj2
            rw [List.getElem?_append_left (by simp [hcl, hvl]; omega), List.getElem?_append_right (by simp [hcl]; omega), show j - (cs.take j).length = 0 by simp [hcl]; omega]
            have := World.cell?_setCells_in L.b vs (L.o + j) (w.drew.setCells L.b (L.o + (j + 1)) (cs.drop j)) (fun q hq => by
              rw [e1, cell_setRow_same (w := w.drew) (hg := hh)]
              simp; omega) 0 (by omega)
            rw [List.getElem?_eq_getElem (by omega)]
            simpa using this
          · rw [World.cell?_setCells_out _ _ _ _ _ (fun _ _ => by right; show L.o + i + vs.length ≤ L.o + j; omega)]
            have := World.cell?_setCells_in L.b (cs.drop i) (L.o + (i + 1)) w.drew (fun q hq => by
              show (w.cell? ⟨L.b, L.o + (i + 1) + q, none⟩).isSome = true
              rw [show L.o + (i + 1) + q = L.o + (i + 1 + q) by omega]
              exact hsome _ (by omega)) (j - (i + 1)) (by omega)
            rw [show L.o + (i + 1) + (j - (i + 1)) = L.o + j by omega] at this
            rw [this, List.getElem?_append_right (by simp [hcl, hvl]; omega), show j - (cs.take i ++ vs).length = j - (i + 1) by simp [hcl, hvl]; omega, List.getElem?_eq_getElem]
      · have hc := Any2.slices_Insert_string_grow Try.laysNm222 L.b L.o xs.length L.cap i L1.b L1.o 1 L1.cap cs vs w hin (by omega) (by omega) (by omega) hb hcl hvl hcs hvs hone hone1
        refine hc.mono ?_
        rintro e w' ⟨rfl, rfl⟩
        have hg := grownCap_ge w (xs.length + 1) L.cap (Try.laysNm222_ren.t 9)
        generalize hcap' : grownCap w (xs.length + 1) L.cap (Try.laysNm222_ren.t 9) = cap' at hg
        have hmx : cap' ≤ maxLen := hcap' ▸ grownCap_le_maxLen w _ _ _ hmax
        generalize hA : (cs.take i).toArray ++ Builtin.zeroCells (.string ⟨#[]⟩ : Value).cells (xs.length + 1 - i) ++ Builtin.zeroCells (.string ⟨#[]⟩ : Value).cells (cap' - (xs.length + 1)) = A
        have hAs : A.size = cap' := by rw [← hA, Array.size_append, Array.size_append, hzs, hzs]; simp [hcl]; omega
        have hA1 : A.toList.take i = cs.take i := by
          rw [← hA, Array.toList_append, Array.toList_append, List.append_assoc]
          rw [List.take_append_of_le_length (by simp [hcl]; omega), List.take_of_length_le (by simp; omega)]
        have hAo : ∀ x ∈ A.toList, one x := by
          rw [← hA]
          intro x hx
          rw [Array.toList_append] at hx
          rcases List.mem_append.1 hx with hx | hx
          · exact one_app (fun x hx => hcone x (List.mem_of_mem_take hx)) (one_zeros hz1 _) x hx
          · exact one_zeros hz1 _ x hx
        have ha1 : (w.alloc (.cells A (Try.laysNm222_ren.t 9))).drew.heap[w.heap.size]? = some (.cells A (Try.laysNm222_ren.t 9) (0, 0)) := heap_alloc_new _ _
        have e1 := setCells_setRow vs i A _ ha1 (by omega)
        have ha2 := setRow_heap _ w.heap.size A (A.toList.take i ++ vs ++ A.toList.drop (i + vs.length)).toArray _ _ ha1
        rw [← e1] at ha2
        have ha3 : ((w.alloc (.cells A (Try.laysNm222_ren.t 9))).drew.setCells w.heap.size i vs).drew.heap[w.heap.size]? = some (.cells (A.toList.take i ++ vs ++ A.toList.drop (i + vs.length)).toArray (Try.laysNm222_ren.t 9) (0, 0)) := ha2
        have hdl : (cs.drop i).length = xs.length - i := by simp [hcl]
        have e2 := setCells_setRow (cs.drop i) (i + 1) _ _ ha3 (by simp; omega)
        have ha4 := setRow_heap _ w.heap.size _ ((A.toList.take i ++ vs ++ A.toList.drop (i + vs.length)).toArray.toList.take (i + 1) ++ cs.drop i ++ (A.toList.take i ++ vs ++ A.toList.drop (i + vs.length)).toArray.toList.drop (i + 1 + (cs.drop i).length)).toArray _ _ ha3
        rw [← e2] at ha4
        refine fresh cap' _ _ _ hg hmx ha4 (by simp; omega) (one_splice (one_splice hAo hvone) (fun x hx => hcone x (List.mem_of_mem_drop hx))) (fun b hb => ?_) (by rw [e2]; simp only [setRow_size]; rw [show ∀ w : World, w.drew.heap.size = w.heap.size from fun _ => rfl, e1]; simp) (by rw [e2]; show (World.setCells _ _ _ _).os = _; rw [e1]; rfl) (by rw [e2]; show (World.setCells _ _ _ _).tape = _; rw [e1]; rfl) (by rw [e2]; show (World.setCells _ _ _ _).output = _; rw [e1]; rfl) cs hN (fun j hj => ?_)
        · rw [e2, setRow_other _ _ _ _ (by omega)]
          show (World.setCells _ _ _ _).heap[b]? = _
          rw [e1, setRow_other _ _ _ _ (by omega)]
          exact alloc_keep hb
        · have ht : (A.toList.take i ++ vs ++ A.toList.drop (i + vs.length)).take (i + 1) = cs.take i ++ vs := by
            rw [hA1, List.take_append_of_le_length (by simp [hcl, hvl]; omega), List.take_of_length_le (by simp [hcl, hvl]; omega)]
          simp only [List.getElem?_toArray]
          rw [ht, List.getElem?_append_left (by simp [hcl, hvl]; omega)]
    · obtain rfl : i = xs.length := by omega
      by_cases hroom : xs.length + 1 ≤ L.cap
      · have hc := Any2.slices_Insert_string_end_room Try.laysNm222 L.b L.o xs.length L.cap L1.b L1.o 1 L1.cap vs w (by omega) hroom hm63 hvl (fun j hj => by rw [Nat.add_assoc]; exact hsome _ (by omega)) (fun j hj => by rw [Nat.add_assoc]; exact hfro _ (by omega)) hvs hone1
        refine hc.mono ?_
        rintro e w' ⟨rfl, rfl⟩
        have e1 := setCells_setRow vs (L.o + xs.length) C w hh (by omega)
        refine inpl _ _ hroom (by rw [e1]; exact setRow_heap _ _ _ _ _ _ hh) (by simp; omega) (one_splice hth.2 hvone) (fun b hb => by rw [e1, setRow_other _ _ _ _ hb]) (by rw [e1]; simp) (by rw [e1]; rfl) (by rw [e1]; rfl) (by rw [e1]; rfl) fun j hj => ?_
        by_cases hj1 : j < xs.length
        · rw [World.cell?_setCells_out _ _ _ _ _ (fun _ _ => by left; show L.o + j < L.o + xs.length; omega)]
          rw [List.getElem?_append_left (by simp [hcl, hvl]; omega), List.getElem?_append_left (by simp [hcl]; omega), List.getElem?_take, if_pos hj1, ← hcc j (by omega)]
        · obtain rfl : j = xs.length := by omega
          rw [List.getElem?_append_left (by simp [hcl, hvl]), List.getElem?_append_right (by simp [hcl]), show xs.length - (cs.take xs.length).length = 0 by simp [hcl]]
          have := World.cell?_setCells_in L.b vs (L.o + xs.length) w (fun q hq => by rw [Nat.add_assoc]; exact hsome _ (by omega)) 0 (by omega)
          rw [List.getElem?_eq_getElem (by omega)]
          simpa using this
      · have hc := Any2.slices_Insert_string_end_grow Try.laysNm222 (some ⟨L.b, L.o, none⟩) xs.length L.cap L1.b L1.o 1 L1.cap cs vs w (by omega) (by omega) (by omega) hb hcl hvl (fun h => by cases h) (fun a ha j v hj => by cases ha; rw [addr_add]; exact hcs j v hj) hvs hone1
        refine hc.mono ?_
        rintro e w' ⟨rfl, rfl⟩
        have hg := grownCap_ge w (xs.length + 1) L.cap (Try.laysNm222_ren.t 9)
        refine fresh _ _ _ _ hg (grownCap_le_maxLen w _ _ (Try.laysNm222_ren.t 9) hmax) (heap_alloc_new _ _) ?_ ?_ (fun b hb => alloc_keep hb) (by simp) rfl rfl rfl cs hN (fun j hj => ?_)
        · rw [Array.size_append, hzs]; simp [hvl, hcl]; omega
        · exact one_app (fun x hx => (List.mem_append.1 hx).elim (hcone x) (hvone x)) (one_zeros hz1 _)
        · rw [Array.getElem?_append_left (by simp [hvl, hcl]; omega), List.getElem?_toArray, List.take_of_length_le (by omega), List.drop_eq_nil_of_le (by omega), List.append_nil]
theorem ins_int (xs : List D) (y : D) (i : Nat) (mv mv2 : Bool) (hi : i ≤ xs.length) (hb : (xs.length + 1) * 8 ≤ 140737488355328) : CallsA Try.prog 101 [.row 0, .d (.int .i64 i), .row 1] [.row 1 xs mv, .row 1 [y] mv2] fun r σ' => r = .ret (.row 0) ∧ σ' = [.row 1 (xs.take i ++ y :: xs.drop i) true, .row 1 [y] mv2] := by
  intro w I ρ ags has hO
  simp only [vrL] at has
  obtain ⟨v0, _, rfl, h0, v1, _, rfl, h1, v2, _, rfl, h2, rfl⟩ := has
  simp only [vr, Dr] at h1
  subst h1
  obtain ⟨L1, C1, T1, fz1, hL1, hs1, hh1, hth1, hC1, hle1, hE1, rfl⟩ := row_laid (n := 1) hO (l := 1) rfl h2 (by simp)
  obtain ⟨vs, hN1, hc1⟩ := DrN_of_E hE1
  have hvl : vs.length = 1 := by have := DrN_len hN1; simpa using this
  have hvone := DrN_one hN1
  have hvs : ∀ j v, vs[j]? = some v → w.cell? ⟨L1.b, L1.o + j, none⟩ = some v := fun j v hj => by rw [hc1 j (List.getElem?_eq_some_iff.1 hj).1]; exact hj
  have hone1 : ∀ v ∈ vs, v.oneCell' = true := hvone
  have hmax : xs.length + 1 ≤ maxLen := by simp only [maxLen]; omega
  have hy : ∀ (ys zs : List D) (a b : List Value) {w' : World}, (∀ b, I b → I b ∧ w'.heap[b]? = w.heap[b]?) → DrN w I 1 ys a → DrN w I 1 zs b → DrN w' I 1 (ys ++ y :: zs) (a ++ vs ++ b) := fun ys zs a b w' hI ha hb => by
    have := DrN_append (DrN_append ha hN1) hb
    rw [List.append_assoc, List.singleton_append] at this
    exact DrN_mono hI this
  have hdst : ∀ l : List D, l.length = xs.length + 1 → ((([O.row 1 xs mv, O.row 1 [y] mv2].map (O.kill (Nat.beq 0))).set 0 (O.row 1 l true))) = [.row 1 l true, .row 1 [y] mv2] := fun l _ => rfl
  have hz1 : ∀ x ∈ (.int .i64 0 : Value).cells.toList, one x := by intro x hx; simp [Value.cells] at hx; subst hx; rfl
  have hzs : ∀ n, (Builtin.zeroCells (.int .i64 0 : Value).cells n).size = n := fun n => by rw [size_zeroCells]; simp [Value.cells]
  have hlen : (xs.take i ++ y :: xs.drop i).length = xs.length + 1 := by simp; omega
  -- a new row
  have fresh : ∀ (cap : Nat) (C' : Array Value) (w' : World) (T' : TypeId), xs.length + 1 ≤ cap → cap ≤ maxLen → w'.heap[w.heap.size]? = some (.cells C' T' (0, 0)) → C'.size = cap → (∀ x ∈ C'.toList, one x) → (∀ b, b < w.heap.size → w'.heap[b]? = w.heap[b]?) → w.heap.size ≤ w'.heap.size → w'.os = w.os → w'.tape = w.tape → w'.output = w.output →
      ∀ cs, DrN w I 1 xs cs → (∀ j, j < xs.length + 1 → C'[j]? = (cs.take i ++ vs ++ cs.drop i)[j]?) →
      Fin 2 w I ρ [.row 1 xs mv, .row 1 [y] mv2] (fun r σ' => r = .ret (.row 0) ∧ σ' = [.row 1 (xs.take i ++ y :: xs.drop i) true, .row 1 [y] mv2]) (.returned (.slice (some ⟨w.heap.size, 0, none⟩) (xs.length + 1) cap)) w' := by
    intro cap C' w' T' k1 k2 k3 k4 k5 k6 k7 k8 k9 k10 cs hN k11
    have hI : ∀ b, I b → I b ∧ w'.heap[b]? = w.heap[b]? := fun b hb => ⟨hb, k6 b (hO.imm b hb).1⟩
    have hcl : cs.length = xs.length := by have := DrN_len hN; simpa using this
    have := row_moved (w' := w') (n := 2) (xs' := xs.take i ++ y :: xs.drop i) hO (l := 0) (sz := 1) (xs := xs) (mv := mv) rfl ⟨w.heap.size, 0, 1, cap⟩ rfl k3 ⟨thaw_zero _, k5⟩ (by simpa using k4) (by rw [hlen]; exact k1) k2 (by
      refine DrE_of_N (hy _ _ _ _ hI (by simpa using DrN_take i hN) (by simpa using DrN_drop i hN)) fun j hj => ?_
      simp only [List.length_append, List.length_take, List.length_drop, hcl, hvl] at hj
      rw [← k11 j (by omega)]
      simp only [World.cell?, k3, Nat.zero_add]
      rfl) (fun b hb _ => k6 b hb) k7 (.inl (Nat.le_refl _)) k8 k9 k10 (Nat.le_refl _)
    rw [hlen] at this
    exact this
  have h0' := h0
  simp only [vr] at h0
  rcases h0.2.2 _ _ _ rfl with ⟨hz, a, rfl⟩ | ⟨L, hL, hle, rfl⟩
  · -- nothing there
    have hxs : xs = [] := List.eq_nil_of_length_eq_zero hz
    subst hxs
    obtain rfl : i = 0 := by simpa using hi
    have hc := Any2.slices_Insert_int_end_grow Try.laysNm221 a 0 0 L1.b L1.o 1 L1.cap [] vs w (by omega) (by omega) (by omega) (by omega) rfl hvl (fun _ => rfl) (fun _ _ j v hj => by simp at hj) hvs hone1
    refine hc.mono ?_
    rintro e w' ⟨rfl, rfl⟩
    have hg := grownCap_ge w 1 0 (Try.laysNm221_ren.t 3)
    refine fresh _ _ _ _ (by simpa using hg) (grownCap_le_maxLen w 1 0 (Try.laysNm221_ren.t 3) (by simp [maxLen])) (heap_alloc_new _ _) ?_ ?_ (fun b hb => alloc_keep hb) (by simp) rfl rfl rfl [] (by simp [DrN]) (fun j hj => ?_)
    · rw [Array.size_append, hzs]; simp [hvl]; omega
    · exact one_app (fun x hx => hvone x (by simpa using hx)) (one_zeros hz1 _)
    · rw [Array.getElem?_append_left (by simp [hvl]; simpa using hj)]
      simp
  · have ho := hO.objs 0 _ rfl
    simp only [orel] at ho
    rcases ho with ⟨hx, _⟩ | ⟨L', C, T, fz, hL', hs, hh, hth, hC, hle2, hcap, hE⟩
    · rw [hL] at hx; cases hx
    rw [hL] at hL'; cases hL'
    obtain ⟨cs, hN, hcc⟩ := DrN_of_E hE
    have hcl : cs.length = xs.length := by have := DrN_len hN; simpa using this
    have hcone := DrN_one hN
    have hone : ∀ v ∈ cs, v.oneCell' = true := hcone
    have hcs : ∀ j v, cs[j]? = some v → w.cell? ⟨L.b, L.o + j, none⟩ = some v := fun j v hj => by rw [hcc j (List.getElem?_eq_some_iff.1 hj).1]; exact hj
    have hne : L1.b ≠ L.b := fun e => by have := hO.inj 1 0 L1 L ⟨_, rfl, by simp⟩ ⟨_, rfl, by simp⟩ hL1 hL e; omega
    have hCs : C.size = L.o + L.cap := by rw [hC]; simp
    have hsome : ∀ j, j < L.cap → (w.cell? ⟨L.b, L.o + j, none⟩).isSome = true := fun j hj => by simp [World.cell?, hh]; omega
    have hfro : ∀ j, j < L.cap → w.frozen? ⟨L.b, L.o + j, none⟩ = false := fun j hj => by
      have := hth.1.2 (L.o + j) (by omega)
      simp only [World.frozen?, hh, Bool.and_eq_false_iff, decide_eq_false_iff_not]
      omega
    have hv0 : (Value.slice (some ⟨L.b, L.o + 0 * L.sz, none⟩) xs.length (L.cap - 0)) = .slice (some ⟨L.b, L.o, none⟩) xs.length L.cap := by simp
    have hm63 : L.cap ≤ 9223372036854775807 := by simp only [maxLen] at hcap; exact hcap
    rw [hv0]
    -- in its place
    have inpl : ∀ (C' : Array Value) (w' : World), xs.length + 1 ≤ L.cap → w'.heap[L.b]? = some (.cells C' T fz) → C'.size = C.size → (∀ x ∈ C'.toList, one x) → (∀ b, b ≠ L.b → w'.heap[b]? = w.heap[b]?) → w'.heap.size = w.heap.size → w'.os = w.os → w'.tape = w.tape → w'.output = w.output →
        (∀ j, j < xs.length + 1 → w'.cell? ⟨L.b, L.o + j, none⟩ = (cs.take i ++ vs ++ cs.drop i)[j]?) →
        Fin 2 w I ρ [.row 1 xs mv, .row 1 [y] mv2] (fun r σ' => r = .ret (.row 0) ∧ σ' = [.row 1 (xs.take i ++ y :: xs.drop i) true, .row 1 [y] mv2]) (.returned (.slice (some ⟨L.b, L.o, none⟩) (xs.length + 1) L.cap)) w' := by
      intro C' w' k1 k3 k4 k5 k6 k7 k8 k9 k10 k11
      have hI : ∀ b, I b → I b ∧ w'.heap[b]? = w.heap[b]? := fun b hb => ⟨hb, k6 b fun e => (hO.imm b hb).2 ⟨0, _, L, rfl, by simp, hL, e.symm⟩⟩
      have := row_moved (w' := w') (n := 2) (xs' := xs.take i ++ y :: xs.drop i) hO (l := 0) (sz := 1) (xs := xs) (mv := mv) rfl L hs k3 ⟨by rw [k4]; exact hth.1, k5⟩ (by rw [k4, hC]) (by rw [hlen]; exact k1) hcap (by
        refine DrE_of_N (hy _ _ _ _ hI (by simpa using DrN_take i hN) (by simpa using DrN_drop i hN)) fun j hj => ?_
        simp only [List.length_append, List.length_take, List.length_drop, hcl, hvl] at hj
        exact k11 j (by omega)) (fun b _ hb => k6 b fun e => hb L hL e.symm) (by omega) (.inr ⟨L, hL, rfl⟩) k8 k9 k10 (Nat.le_refl _)
      rw [hlen] at this
      exact this
    by_cases hin : i < xs.length
    · by_cases hroom : xs.length + 1 ≤ L.cap
      · have hc := Any2.slices_Insert_int_shift Try.laysNm221 L.b L.o xs.length L.cap i L1.b L1.o 1 L1.cap cs vs w hin (by omega) hroom hm63 hne hcl hvl hcs (fun j hj => hsome j (by omega)) (fun j hj => hfro j (by omega)) hvs hone hone1
          T1 T C1.size C.size (by simp [World.shape?, hh1]) (by simp [World.shape?, hh]) (by omega) (by
            have := hth1.1.2 L1.o (by omega)
            simp only [World.frozen?, hh1, Bool.and_eq_false_iff, decide_eq_false_iff_not]
            omega) (by
            have := hth1.1.2 C1.size (Nat.le_refl _)
            simp only [World.frozen?, hh1, Bool.and_eq_false_iff, decide_eq_false_iff_not]
            omega)
        refine hc.mono ?_
        rintro e w' ⟨rfl, rfl⟩
        have hdl : (cs.drop i).length = xs.length - i := by simp [hcl]
        have e1 := setCells_setRow (cs.drop i) (L.o + (i + 1)) C w.drew (show w.drew.heap[L.b]? = _ from hh) (by omega)
        have hh2 := setRow_heap w.drew L.b C (C.toList.take (L.o + (i + 1)) ++ cs.drop i ++ C.toList.drop (L.o + (i + 1) + (cs.drop i).length)).toArray T fz hh
        have e2 := setCells_setRow vs (L.o + i) _ _ hh2 (by simp; omega)
        rw [← e1] at hh2 e2
        refine inpl _ _ hroom (by rw [e2]; exact setRow_heap _ _ _ _ _ _ hh2) (by simp; omega) (one_splice (one_splice hth.2 (fun x hx => hcone x (List.mem_of_mem_drop hx))) hvone) (fun b hb => by rw [e2, setRow_other _ _ _ _ hb, e1, setRow_other _ _ _ _ hb]; rfl) (by rw [e2, e1]; simp) (by rw [e2, e1]; rfl) (by rw [e2, e1]; rfl) (by rw [e2, e1]; rfl) fun j hj => ?_
        by_cases hj1 : j < i
        · rw [World.cell?_setCells_out _ _ _ _ _ (fun _ _ => by left; show L.o + j < L.o + i; omega), World.cell?_setCells_out _ _ _ _ _ (fun _ _ => by left; show L.o + j < L.o + (i + 1); omega)]
          rw [List.getElem?_append_left (by simp [hcl, hvl]; omega), List.getElem?_append_left (by simp [hcl]; omega), List.getElem?_take, if_pos hj1, ← hcc j (by omega)]
          rfl
        · by_cases hj2 : j = i
          · subst hj2
            rw [List.getElem?_append_left (by simp [hcl, hvl]; omega), List.getElem?_append_right (by simp [hcl]; omega), show j - (cs.take j).length = 0 by simp [hcl]; omega]
            have := World.cell?_setCells_in L.b vs (L.o + j) (w.drew.setCells L.b (L.o + (j + 1)) (cs.drop j)) (fun q hq => by
              rw [e1, cell_setRow_same (w := w.drew) (hg := hh)]
              simp; omega) 0 (by omega)
            rw [List.getElem?_eq_getElem (by omega)]
            simpa using this
          · rw [World.cell?_setCells_out _ _ _ _ _ (fun _ _ => by right; show L.o + i + vs.length ≤ L.o + j; omega)]
            have := World.cell?_setCells_in L.b (cs.drop i) (L.o + (i + 1)) w.drew (fun q hq => by
              show (w.cell? ⟨L.b, L.o + (i + 1) + q, none⟩).isSome = true
              rw [show L.o + (i + 1) + q = L.o + (i + 1 + q) by omega]
              exact hsome _ (by omega)) (j - (i + 1)) (by omega)
            rw [show L.o + (i + 1) + (j - (i + 1)) = L.o + j by omega] at this
            rw [this, List.getElem?_append_right (by simp [hcl, hvl]; omega), show j - (cs.take i ++ vs).length = j - (i + 1) by simp [hcl, hvl]; omega, List.getElem?_eq_getElem]
      · have hc := Any2.slices_Insert_int_grow Try.laysNm221 L.b L.o xs.length L.cap i L1.b L1.o 1 L1.cap cs vs w hin (by omega) (by omega) (by omega) hb hcl hvl hcs hvs hone hone1
        refine hc.mono ?_
        rintro e w' ⟨rfl, rfl⟩
        have hg := grownCap_ge w (xs.length + 1) L.cap (Try.laysNm221_ren.t 3)
        generalize hcap' : grownCap w (xs.length + 1) L.cap (Try.laysNm221_ren.t 3) = cap' at hg
        have hmx : cap' ≤ maxLen := hcap' ▸ grownCap_le_maxLen w _ _ _ hmax
        generalize hA : (cs.take i).toArray ++ Builtin.zeroCells (.int .i64 0 : Value).cells (xs.length + 1 - i) ++ Builtin.zeroCells (.int .i64 0 : Value).cells (cap' - (xs.length + 1)) = A
        have hAs : A.size = cap' := by rw [← hA, Array.size_append, Array.size_append, hzs, hzs]; simp [hcl]; omega
        have hA1 : A.toList.take i = cs.take i := by
          rw [← hA, Array.toList_append, Array.toList_append, List.append_assoc]
          rw [List.take_append_of_le_length (by simp [hcl]; omega), List.take_of_length_le (by simp; omega)]
        have hAo : ∀ x ∈ A.toList, one x := by
          rw [← hA]
          intro x hx
          rw [Array.toList_append] at hx
          rcases List.mem_append.1 hx with hx | hx
          · exact one_app (fun x hx => hcone x (List.mem_of_mem_take hx)) (one_zeros hz1 _) x hx
          · exact one_zeros hz1 _ x hx
        have ha1 : (w.alloc (.cells A (Try.laysNm221_ren.t 3))).drew.heap[w.heap.size]? = some (.cells A (Try.laysNm221_ren.t 3) (0, 0)) := heap_alloc_new _ _
        have e1 := setCells_setRow vs i A _ ha1 (by omega)
        have ha2 := setRow_heap _ w.heap.size A (A.toList.take i ++ vs ++ A.toList.drop (i + vs.length)).toArray _ _ ha1
        rw [← e1] at ha2
        have ha3 : ((w.alloc (.cells A (Try.laysNm221_ren.t 3))).drew.setCells w.heap.size i vs).drew.heap[w.heap.size]? = some (.cells (A.toList.take i ++ vs ++ A.toList.drop (i + vs.length)).toArray (Try.laysNm221_ren.t 3) (0, 0)) := ha2
        have hdl : (cs.drop i).length = xs.length - i := by simp [hcl]
        have e2 := setCells_setRow (cs.drop i) (i + 1) _ _ ha3 (by simp; omega)
        have ha4 := setRow_heap _ w.heap.size _ ((A.toList.take i ++ vs ++ A.toList.drop (i + vs.length)).toArray.toList.take (i + 1) ++ cs.drop i ++ (A.toList.take i ++ vs ++ A.toList.drop (i + vs.length)).toArray.toList.drop (i + 1 + (cs.drop i).length)).toArray _ _ ha3
        rw [← e2] at ha4
        refine fresh cap' _ _ _ hg hmx ha4 (by simp; omega) (one_splice (one_splice hAo hvone) (fun x hx => hcone x (List.mem_of_mem_drop hx))) (fun b hb => ?_) (by rw [e2]; simp only [setRow_size]; rw [show ∀ w : World, w.drew.heap.size = w.heap.size from fun _ => rfl, e1]; simp) (by rw [e2]; show (World.setCells _ _ _ _).os = _; rw [e1]; rfl) (by rw [e2]; show (World.setCells _ _ _ _).tape = _; rw [e1]; rfl) (by rw [e2]; show (World.setCells _ _ _ _).output = _; rw [e1]; rfl) cs hN (fun j hj => ?_)
        · rw [e2, setRow_other _ _ _ _ (by omega)]
          show (World.setCells _ _ _ _).heap[b]? = _
          rw [e1, setRow_other _ _ _ _ (by omega)]
          exact alloc_keep hb
        · have ht : (A.toList.take i ++ vs ++ A.toList.drop (i + vs.length)).take (i + 1) = cs.take i ++ vs := by
            rw [hA1, List.take_append_of_le_length (by simp [hcl, hvl]; omega), List.take_of_length_le (by simp [hcl, hvl]; omega)]
          simp only [List.getElem?_toArray]
          rw [ht, List.getElem?_append_left (by simp [hcl, hvl]; omega)]
    · obtain rfl : i = xs.length := by omega
      by_cases hroom : xs.length + 1 ≤ L.cap
      · have hc := Any2.slices_Insert_int_end_room Try.laysNm221 L.b L.o xs.length L.cap L1.b L1.o 1 L1.cap vs w (by omega) hroom hm63 hvl (fun j hj => by rw [Nat.add_assoc]; exact hsome _ (by omega)) (fun j hj => by rw [Nat.add_assoc]; exact hfro _ (by omega)) hvs hone1
        refine hc.mono ?_
        rintro e w' ⟨rfl, rfl⟩
        have e1 := setCells_setRow vs (L.o + xs.length) C w hh (by omega)
        refine inpl _ _ hroom (by rw [e1]; exact setRow_heap _ _ _ _ _ _ hh) (by simp; omega) (one_splice hth.2 hvone) (fun b hb => by rw [e1, setRow_other _ _ _ _ hb]) (by rw [e1]; simp) (by rw [e1]; rfl) (by rw [e1]; rfl) (by rw [e1]; rfl) fun j hj => ?_
        by_cases hj1 : j < xs.length
        · rw [World.cell?_setCells_out _ _ _ _ _ (fun _ _ => by left; show L.o + j < L.o + xs.length; omega)]
          rw [List.getElem?_append_left (by simp [hcl, hvl]; omega), List.getElem?_append_left (by simp [hcl]; omega), List.getElem?_take, if_pos hj1, ← hcc j (by omega)]
        · obtain rfl : j = xs.length := by omega
          rw [List.getElem?_append_left (by simp [hcl, hvl]), List.getElem?_append_right (by simp [hcl]), show xs.length - (cs.take xs.length).length = 0 by simp [hcl]]
          have := World.cell?_setCells_in L.b vs (L.o + xs.length) w (fun q hq => by rw [Nat.add_assoc]; exact hsome _ (by omega)) 0 (by omega)
          rw [List.getElem?_eq_getElem (by omega)]
          simpa using this
      · have hc := Any2.slices_Insert_int_end_grow Try.laysNm221 (some ⟨L.b, L.o, none⟩) xs.length L.cap L1.b L1.o 1 L1.cap cs vs w (by omega) (by omega) (by omega) hb hcl hvl (fun h => by cases h) (fun a ha j v hj => by cases ha; rw [addr_add]; exact hcs j v hj) hvs hone1
        refine hc.mono ?_
        rintro e w' ⟨rfl, rfl⟩
        have hg := grownCap_ge w (xs.length + 1) L.cap (Try.laysNm221_ren.t 3)
        refine fresh _ _ _ _ hg (grownCap_le_maxLen w _ _ (Try.laysNm221_ren.t 3) hmax) (heap_alloc_new _ _) ?_ ?_ (fun b hb => alloc_keep hb) (by simp) rfl rfl rfl cs hN (fun j hj => ?_)
        · rw [Array.size_append, hzs]; simp [hvl, hcl]; omega
        · exact one_app (fun x hx => (List.mem_append.1 hx).elim (hcone x) (hvone x)) (one_zeros hz1 _)
        · rw [Array.getElem?_append_left (by simp [hvl, hcl]; omega), List.getElem?_toArray, List.take_of_length_le (by omega), List.drop_eq_nil_of_le (by omega), List.append_nil]
def strD (s : ByteArray) : D := .str s
def intD (n : Int) : D := .int .i64 n
theorem cells_scal {α : Type} {w : World} {I : Nat → Prop} {b : Nat} (g : α → D) (e : α → Value) (hg : ∀ a v, Dr w I (g a) v → v = e a) (h1 : ∀ a, (e a).cells = #[e a]) : ∀ {l : List α} {o : Nat}, DrE w I 1 b o (l.map g) → ∀ j (h : j < l.length), w.cell? ⟨b, o + j, none⟩ = some (e l[j]) := by
 intro l o hE j h
 obtain ⟨v, k1, k2, k3⟩ := DrE_get hE (i := j) (d := g l[j]) (by simp [h])
 obtain rfl := hg _ _ k1
 have := k3 0 (by omega)
 simp only [Nat.mul_one, Nat.add_zero, h1] at this
 simpa using this
theorem cells_str {w : World} {I : Nat → Prop} {b o : Nat} {l : List ByteArray} (h : DrE w I 1 b o (l.map strD)) (j : Nat) (hj : j < l.length) : w.cell? ⟨b, o + j, none⟩ = some (.string l[j]) :=
 cells_scal strD Value.string (fun a v h => by simpa [strD, Dr] using h) (fun _ => rfl) h j hj
theorem cells_int {w : World} {I : Nat → Prop} {b o : Nat} {l : List Int} (h : DrE w I 1 b o (l.map intD)) (j : Nat) (hj : j < l.length) : w.cell? ⟨b, o + j, none⟩ = some (.int .i64 l[j]) :=
 cells_scal intD (Value.int .i64) (fun a v h => by simpa [intD, Dr] using h) (fun _ => rfl) h j hj
theorem drewN_rest (w : World) (q : Nat) : (w.drewN q).heap = w.heap ∧ (w.drewN q).os = w.os ∧ (w.drewN q).tape = w.tape ∧ (w.drewN q).output = w.output := ⟨rfl, rfl, rfl, rfl⟩
theorem fin_drew {n : Nat} {w w' : World} {I : Nat → Prop} {ρ : LM} {σ : Store} {v : V} {x : Value} (hO : ORel w I ρ σ) (hh : w'.heap = w.heap) (ho : w'.os = w.os) (ht : w'.tape = w.tape) (hp : w'.output = w.output) (hn : n ≤ σ.length) (hv : vr w I ρ σ v x) :
  Fin n w I ρ σ (fun r σ' => r = .ret v ∧ σ' = σ) (.returned x) w' := by
 have hI : ∀ b, I b → I b ∧ w'.heap[b]? = w.heap[b]? := fun b hb => ⟨hb, by rw [hh]⟩
 have hS : ∀ l, l < σ.length → Same ρ σ ρ σ l := fun l hl => ⟨hl, fun o' h1 h2 => ⟨rfl, o', h1, h2, rfl⟩⟩
 have hx := (Ext.refl w I ρ σ).less hn
 refine ⟨I, ρ, σ, .ret v, ⟨rfl, rfl⟩, ⟨x, rfl, vr_all hI hS hv⟩, ⟨fun l o hl => orel_all hI hS rfl (fun L _ => by rw [hh]) (hO.objs l o hl), hO.inj, fun b hb => by rw [hh]; exact hO.flt b hb, fun b hb => by rw [hh]; exact hO.imm b hb⟩, ⟨by rw [hh]; exact Nat.le_refl _, ho, ht, hp, fun b _ _ => by rw [hh], hx.immI, hx.immN, hx.footN, hx.len, hx.alive, hx.fixed, hx.stay⟩⟩
theorem row_cut {n l : Nat} {w w' : World} {I : Nat → Prop} {ρ : LM} {σ : Store} {xs xs' : List D} {mv : Bool} {L : Br.Loc} {C : Array Value} {T : TypeId} {fz : Nat × Nat} {vs : List Value} {q : Nat} (hO : ORel w I ρ σ) (hl : σ[l]? = some (.row 1 xs mv)) (hL : ρ l = some L) (hs : L.sz = 1)
   (hh : w.heap[L.b]? = some (.cells C T fz)) (hth : thawR fz C) (hC : C.size = L.o + L.cap * 1) (hle : xs.length ≤ L.cap) (hvl : vs.length = xs.length) (hv1 : ∀ x ∈ vs, one x) (hw : w' = (w.drewN q).setCells L.b L.o vs) (hx : xs'.length ≤ xs.length) (hcap : L.cap ≤ maxLen) (hn : n ≤ σ.length)
   (hE : ∀ w2 : World, (∀ b, I b → I b ∧ w2.heap[b]? = w.heap[b]?) → (∀ j, j < vs.length → w2.cell? ⟨L.b, L.o + j, none⟩ = vs[j]?) → DrE w2 I 1 L.b L.o xs') :
   Fin n w I ρ σ (fun r σ' => r = .ret (.row l) ∧ σ' = (σ.map (O.kill (Nat.beq l))).set l (.row 1 xs' true)) (.returned (.slice (some ⟨L.b, L.o, none⟩) xs'.length L.cap)) w' := by
 have e1 := setCells_setRow vs L.o C (w.drewN q) hh (by omega)
 have hh2 := setRow_heap (w.drewN q) L.b C (C.toList.take L.o ++ vs ++ C.toList.drop (L.o + vs.length)).toArray T fz hh
 rw [← e1, ← hw] at hh2
 have hoth : ∀ b, b ≠ L.b → w'.heap[b]? = w.heap[b]? := fun b hb => by rw [hw, e1, setRow_other _ _ _ _ hb]; rfl
 have hI : ∀ b, I b → I b ∧ w'.heap[b]? = w.heap[b]? := fun b hb => ⟨hb, hoth b fun e => (hO.imm b hb).2 ⟨l, _, L, hl, by simp, hL, e.symm⟩⟩
 refine row_moved hO hl L hs hh2 ⟨?_, one_splice hth.2 hv1⟩ (by simp; omega) (by omega) hcap (hE w' hI fun j hj => ?_) (fun b _ hb => hoth b fun e => hb L hL e.symm) (by rw [hw, e1]; simp [(drewN_rest w q).1]) (.inr ⟨L, hL, rfl⟩) (by rw [hw, e1]; rfl) (by rw [hw, e1]; rfl) (by rw [hw, e1]; rfl) hn
 · have : ∀ m, m = C.size → thaw fz m := fun m e => e ▸ hth.1
   exact this _ (by simp; omega)
 · rw [hw]
   rw [World.cell?_setCells_in L.b vs L.o (w.drewN q) (fun k hk => by
    show (w.cell? ⟨L.b, L.o + k, none⟩).isSome = true
    simp [World.cell?, hh]; omega) j hj, List.getElem?_eq_getElem hj]
theorem strs_eq (ks : List ByteArray) (x : ByteArray) : Lib.strsOf (fun i => ks.getD i x) ks.length = ks.map fun s => s.data.toList := by
 apply List.ext_getElem
 · simp [Lib.strsOf]
 · intro i h1 h2
   simp only [Lib.strsOf, List.length_map, List.length_range] at h1
   simp [Lib.strsOf, h1]
theorem enc_str (s : ByteArray) : encStr s.data.toList = .string s := by simp [encStr]
theorem drN_scal {w : World} {I : Nat → Prop} : ∀ (l : List ByteArray), DrN w I 1 (l.map strD) (l.map Value.string)
 | [] => by simp [DrN]
 | s :: l => by
   simp only [List.map_cons, DrN]
   exact ⟨.string s, l.map Value.string, by simp [strD, Dr], rfl, rfl, drN_scal l⟩
theorem drN_ints {w : World} {I : Nat → Prop} : ∀ (l : List Int), DrN w I 1 (l.map intD) (l.map (Value.int .i64))
 | [] => by simp [DrN]
 | s :: l => by
   simp only [List.map_cons, DrN]
   exact ⟨.int .i64 s, l.map (Value.int .i64), by simp [intD, Dr], rfl, rfl, drN_ints l⟩
theorem del_string (ks : List ByteArray) (i : Nat) (mv : Bool) (hi : i < ks.length) : CallsA Try.prog 107 [.row 0, .d (.int .i64 (i : Nat)), .d (.int .i64 ((i + 1 : Nat) : Int))] [.row 1 (ks.map strD) mv] fun r σ' => r = .ret (.row 0) ∧ σ' = [.row 1 ((ks.eraseIdx i).map strD) true] := by
 intro w I ρ ags has hO
 simp only [vrL] at has
 obtain ⟨v0, _, rfl, h0, v1, _, rfl, h1, v2, _, rfl, h2, rfl⟩ := has
 simp only [vr, Dr] at h1 h2
 subst h1 h2
 obtain ⟨L, C, T, fz, hL, hs, hh, hth, hC, hle, hE, rfl⟩ := row_laid (n := ks.length) hO (l := 0) rfl h0 (by simp; omega)
 have hcap : L.cap ≤ maxLen := by
  have ho := hO.objs 0 _ rfl
  simp only [orel] at ho
  rcases ho with ⟨hx, _⟩ | ⟨L', C', T', fz', hL', _, _, _, _, _, hc, _⟩
  · rw [hL] at hx; cases hx
  · rw [hL] at hL'; cases hL'; exact hc
 have hc := Any.slices_Delete_string_cells Try.laysNm224 L.b L.o ks.length L.cap i (i + 1) (fun j => ks.getD j .empty) w (by simpa using hle) (by simpa [maxLen] using hcap) (by omega) (by omega)
  (fun j hj => by rw [cells_str hE j hj]; simp [hj]) (fun j hj => by
    have := hth.1.2 (L.o + j) (by simp at hle; omega)
    simp only [World.frozen?, hh, Bool.and_eq_false_iff, decide_eq_false_iff_not]
    omega)
 rw [List.length_map]
 refine hc.mono ?_
 rintro e w' ⟨rfl, q, hw⟩
 rw [strs_eq] at hw
 have hlen : ((ks.eraseIdx i).map strD).length = ks.length - (i + 1 - i) := by simp [List.length_eraseIdx, hi]
 rw [← hlen]
 have hvs : ∀ j, j < ks.length - 1 → (((ks.map fun s => s.data.toList).take i ++ (ks.map fun s => s.data.toList).drop (i + 1) ++ List.replicate (i + 1 - i) ([] : List UInt8)).map encStr)[j]? = ((ks.eraseIdx i).map Value.string)[j]? := by
  intro j hj
  rw [← List.map_take, ← List.map_drop, ← List.map_append, ← List.eraseIdx_eq_take_drop_succ, List.map_append, List.map_map, List.getElem?_append_left (by simp [List.length_eraseIdx, hi]; omega)]
  simp only [List.getElem?_map, Function.comp_def, enc_str]
 exact row_cut (n := 1) (xs' := (ks.eraseIdx i).map strD) (q := q) hO (l := 0) rfl hL hs hh hth hC hle (by simp; omega) (fun x hx => by
  obtain ⟨l, _, rfl⟩ := List.mem_map.1 hx
  rfl) hw (by simp [List.length_eraseIdx, hi]) hcap (by simp) (fun w2 hI hcell => by
  refine DrE_of_N (vs := (ks.eraseIdx i).map Value.string) (drN_scal _) fun j hj => ?_
  simp only [List.length_map, List.length_eraseIdx, hi, if_true] at hj
  rw [hcell j (by simp; omega), hvs j hj])
theorem del_int (zs : List Int) (i : Nat) (mv : Bool) (hi : i < zs.length) : CallsA Try.prog 108 [.row 0, .d (.int .i64 (i : Nat)), .d (.int .i64 ((i + 1 : Nat) : Int))] [.row 1 (zs.map intD) mv] fun r σ' => r = .ret (.row 0) ∧ σ' = [.row 1 ((zs.eraseIdx i).map intD) true] := by
 intro w I ρ ags has hO
 simp only [vrL] at has
 obtain ⟨v0, _, rfl, h0, v1, _, rfl, h1, v2, _, rfl, h2, rfl⟩ := has
 simp only [vr, Dr] at h1 h2
 subst h1 h2
 obtain ⟨L, C, T, fz, hL, hs, hh, hth, hC, hle, hE, rfl⟩ := row_laid (n := zs.length) hO (l := 0) rfl h0 (by simp; omega)
 have hcap : L.cap ≤ maxLen := by
  have ho := hO.objs 0 _ rfl
  simp only [orel] at ho
  rcases ho with ⟨hx, _⟩ | ⟨L', C', T', fz', hL', _, _, _, _, _, hc, _⟩
  · rw [hL] at hx; cases hx
  · rw [hL] at hL'; cases hL'; exact hc
 have hc := Any.slices_Delete_int_cells Try.laysNm223 L.b L.o zs.length L.cap i (i + 1) zs w (Nat.le_refl _) (by simpa using hle) (by simpa [maxLen] using hcap) (by omega) (by omega)
  (fun j hj => by rw [cells_int hE j hj]; simp [hj]) (fun j hj => by
    have := hth.1.2 (L.o + j) (by simp at hle; omega)
    simp only [World.frozen?, hh, Bool.and_eq_false_iff, decide_eq_false_iff_not]
    omega)
 rw [List.length_map]
 refine hc.mono ?_
 rintro e w' ⟨rfl, q, hw⟩
 rw [List.take_length] at hw
 have hlen : ((zs.eraseIdx i).map intD).length = zs.length - (i + 1 - i) := by simp [List.length_eraseIdx, hi]
 rw [← hlen]
 have hvs : ∀ j, j < zs.length - 1 → ((zs.take i ++ zs.drop (i + 1) ++ List.replicate (i + 1 - i) (0 : Int)).map (Value.int .i64))[j]? = ((zs.eraseIdx i).map (Value.int .i64))[j]? := by
  intro j hj
  rw [← List.eraseIdx_eq_take_drop_succ, List.map_append, List.getElem?_append_left (by simp [List.length_eraseIdx, hi]; omega)]
 exact row_cut (n := 1) (xs' := (zs.eraseIdx i).map intD) (q := q) hO (l := 0) rfl hL hs hh hth hC hle (by simp; omega) (fun x hx => by
  obtain ⟨l, _, rfl⟩ := List.mem_map.1 hx
  rfl) hw (by simp [List.length_eraseIdx, hi]) hcap (by simp) (fun w2 hI hcell => by
  refine DrE_of_N (vs := (zs.eraseIdx i).map (Value.int .i64)) (drN_ints _) fun j hj => ?_
  simp only [List.length_map, List.length_eraseIdx, hi, if_true] at hj
  rw [hcell j (by simp; omega), hvs j hj])
def lt (a b : ByteArray) : Bool := Op.bytesLess a.toList b.toList
def pos (ks : List ByteArray) (x : ByteArray) : Nat := (ks.takeWhile fun k => lt k x).length
theorem pos_le (ks : List ByteArray) (x : ByteArray) : pos ks x ≤ ks.length := by
 unfold pos
 exact (List.takeWhile_sublist _).length_le
def Rising (ks : List ByteArray) : Prop := ks.Pairwise fun a b => lt a b = true
theorem bytesLess_irrefl : ∀ l : List UInt8, Op.bytesLess l l = false
 | [] => rfl
 | a :: l => by simp [Op.bytesLess, bytesLess_irrefl l]
theorem lt_irrefl (a : ByteArray) : lt a a = false := bytesLess_irrefl _
theorem bytesLess_trans : ∀ {a b c : List UInt8}, Op.bytesLess a b = true → Op.bytesLess b c = true → Op.bytesLess a c = true
 | _, [], _, h, _ => by simp [Op.bytesLess] at h
 | _, _ :: _, [], _, h => by simp [Op.bytesLess] at h
 | [], _ :: _, _ :: _, _, _ => by simp [Op.bytesLess]
 | x :: a, y :: b, z :: c, h, h' => by
   have ih := @bytesLess_trans a b c
   simp only [Op.bytesLess, Bool.or_eq_true, decide_eq_true_eq, Bool.and_eq_true, beq_iff_eq, UInt8.lt_iff_toNat_lt, ← UInt8.toNat_inj] at h h' ⊢
   rcases h with h | ⟨h, h2⟩ <;> rcases h' with h' | ⟨h', h3⟩
   · left; omega
   · left; omega
   · left; omega
   · right; exact ⟨by omega, ih h2 h3⟩
theorem bytesLess_total : ∀ {a b : List UInt8}, Op.bytesLess a b = false → Op.bytesLess b a = false → a = b
 | [], [], _, _ => rfl
 | [], _ :: _, h, _ => by simp [Op.bytesLess] at h
 | _ :: _, [], _, h => by simp [Op.bytesLess] at h
 | x :: a, y :: b, h, h' => by
   simp only [Op.bytesLess, Bool.or_eq_false_iff, decide_eq_false_iff_not, Bool.and_eq_false_iff, beq_eq_false_iff_ne, UInt8.lt_iff_toNat_lt, ne_eq, ← UInt8.toNat_inj] at h h'
   have hxy : x = y := UInt8.toNat_inj.1 (by omega)
   subst hxy
   rw [bytesLess_total (h.2.resolve_left (by simp)) (h'.2.resolve_left (by simp))]
theorem lt_trans {a b c : ByteArray} (h : lt a b = true) (h' : lt b c = true) : lt a c = true := bytesLess_trans h h'
theorem toList_inj {a b : ByteArray} (h : a.toList = b.toList) : a = b := by
 rw [Go.ByteArray.toList_eq, Go.ByteArray.toList_eq] at h
 cases a; cases b
 simp only [ByteArray.mk.injEq]
 exact Array.ext' h
theorem lt_total {a b : ByteArray} (h : lt a b = false) (h' : lt b a = false) : a = b := toList_inj (bytesLess_total h h')
theorem pos_cons (k : ByteArray) (ks : List ByteArray) (x : ByteArray) : pos (k :: ks) x = if lt k x = true then pos ks x + 1 else 0 := by
 unfold pos
 rw [List.takeWhile_cons]
 split <;> simp
theorem pos_low : ∀ {ks : List ByteArray} {x : ByteArray} {t : Nat} (h : t < pos ks x) (h' : t < ks.length), lt ks[t] x = true
 | [], x, t, h, h' => by simp at h'
 | k :: ks, x, t, h, h' => by
   rw [pos_cons] at h
   split at h
   · cases t with
     | zero => assumption
     | succ t => exact pos_low (ks := ks) (by omega) (by simpa using h')
   · omega
theorem pos_high : ∀ {ks : List ByteArray} {x : ByteArray} {t : Nat} (_ : Rising ks) (h : pos ks x ≤ t) (h' : t < ks.length), lt ks[t] x = false
  | [], x, t, _, h, h' => by simp at h'
  | k :: ks, x, t, hr, h, h' => by
    rw [pos_cons] at h
    have hr' := List.pairwise_cons.1 hr
    split at h
    · cases t with
      | zero => omega
      | succ t => exact pos_high (ks := ks) hr'.2 (by omega) (by simpa using h')
    · rename_i hk
      have hk : lt k x = false := by simpa using hk
      cases t with
      | zero => exact hk
      | succ t =>
        have ht : t < ks.length := by simpa using h'
        have h1 := hr'.1 ks[t] (List.getElem_mem _)
        cases h2 : lt ks[t] x with
        | false => simpa using h2
        | true => have := lt_trans h1 h2; rw [hk] at this; cases this
theorem spec_106 (ks : List ByteArray) (x : ByteArray) (hr : Rising ks) (hl : ks.length < 4611686018427387904) : Br.Pure Try.prog 106 [.d (.list 1 (ks.map strD)), .d (.str x)] (.tuple [.d (i64 (pos ks x)), .d (.bool (decide (ks[pos ks x]? = some x)))]) := by
  intro w I ρ ags has hO
  simp only [vrL] at has
  obtain ⟨v0, _, rfl, h0, v1, _, rfl, h1, rfl⟩ := has
  simp only [vr, Dr] at h0 h1
  subst h1
  obtain ⟨a, cap, rfl, hle, hcap, hE⟩ := h0
  rw [List.length_map] at *
  have hp := pos_le ks x
  by_cases hz : ks.length = 0
  · have hks : ks = [] := List.eq_nil_of_length_eq_zero hz
    subst hks
    have hc := Any2.slices_BinarySearch_string_empty Try.laysNm226 a cap x w
    refine hc.mono ?_
    rintro e w' ⟨rfl, rfl⟩
    refine fin_drew hO rfl rfl rfl rfl (Nat.le_refl _) ?_
    simp only [vr, vrL, pos]
    exact ⟨[.int .i64 0, .bool false], rfl, _, _, rfl, by simp [Dr, i64], _, _, rfl, by simp [Dr], rfl⟩
  · rcases hE with hE | ⟨b, o, rfl, hI, hE⟩
    · exact absurd (by simpa using hE) (show ¬ ks = [] by rintro rfl; exact hz rfl)
    have hc := Any2.slices_BinarySearch_string Try.laysNm226 b o ks.length cap (fun t => ks.getD t x) x w hl (fun j hj => by rw [cells_str hE j hj]; simp [hj])
    have hbs : Lib.bsGo (fun t => Op.bytesLess (ks.getD t x).toList x.toList) ks.length 0 ks.length = pos ks x := by
      refine Lib.bsGo_spec _ _ (fun t ht => ?_) (fun t ht => ?_) _ _ _ (by omega) (by omega) hp
      · have hlt : t < ks.length := by omega
        rw [List.getD_eq_getElem?_getD, List.getElem?_eq_getElem hlt]
        exact pos_low ht hlt
      · by_cases hlt : t < ks.length
        · rw [List.getD_eq_getElem?_getD, List.getElem?_eq_getElem hlt]
          exact pos_high hr ht hlt
        · rw [List.getD_eq_getElem?_getD, List.getElem?_eq_none (by omega)]
          exact lt_irrefl x
    rw [hbs] at hc
    refine hc.mono ?_
    rintro e w' ⟨rfl, q, rfl⟩
    refine fin_drew hO rfl rfl rfl rfl (Nat.le_refl _) ?_
    simp only [vr, vrL]
    refine ⟨_, rfl, _, _, rfl, by simp [Dr, i64], _, _, rfl, ?_, rfl⟩
    simp only [Dr, Value.bool.injEq, decide_eq_decide]
    by_cases hlt : pos ks x < ks.length
    · simp [hlt]
    · simp [List.getElem?_eq_none (show ks.length ≤ pos ks x by omega), hlt]
end Go.Proofs.Ytoelkgbeefoplaa
namespace Go.Proofs.Ytoelkgbeefoplaa
open Go Go.Br Go.Proofs Go.ChangeShapes Go.WideShapes Go.ChangeAt Go.RowKit
set_option maxRecDepth 100000
theorem rd_3 {n : Nat} {x : D} (h : WtE Try.prog n 3 x) : ∃ a : Int, x = .int .i64 a ∧ -9223372036854775808 ≤ a ∧ a < 9223372036854775808 := by
  obtain ⟨a, rfl, h1, h2⟩ := h.int (show Try.prog.underlying 3 = some (.int .i64) by kernel_rfl)
  simp [IntKind.min, IntKind.max, IntKind.bits, IntKind.signed] at h1 h2
  exact ⟨a, rfl, by omega, by omega⟩
theorem rd_46 {n : Nat} {x : D} (h : WtE Try.prog n 46 x) : ∃ l : List Int, x = .list 1 (l.map intD) ∧ l.length ≤ maxLen ∧ ∀ v ∈ l, -9223372036854775808 ≤ v ∧ v < 9223372036854775808 := by
  obtain ⟨l, rfl, h1, h2⟩ := WtE.slice_map (P := Try.prog) (e := 3) (t := 46) intD (fun v => -9223372036854775808 ≤ v ∧ v < 9223372036854775808) h (show Try.prog.underlying 46 = some (.slice 3) by kernel_rfl) fun y hy => rd_3 hy
  exact ⟨l, by rw [show Try.prog.cellsOf 3 = 1 by kernel_rfl], h1, h2⟩
theorem rd_48 {n : Nat} {x : D} (h : WtE Try.prog n 48 x) : ∃ a : Int × List Int, x = .agg [.int .i64 a.1, .list 1 (a.2.map intD)] ∧ (-9223372036854775808 ≤ a.1 ∧ a.1 < 9223372036854775808) ∧ a.2.length ≤ maxLen ∧ ∀ v ∈ a.2, -9223372036854775808 ≤ v ∧ v < 9223372036854775808 := by
  have hu : ∃ fs, Try.prog.underlying 48 = some (.struct fs) ∧ fs.toList.map (fun f => (f.type, f.offset)) = [(3, 0), (46, 1)] := ⟨_, rfl, by kernel_rfl⟩
  obtain ⟨fs, hu, hf⟩ := hu
  obtain ⟨cs, rfl, hl, hc⟩ := h.struct hu
  obtain ⟨f0, fs', hfs, h0, hf⟩ := List.map_eq_cons_iff.1 hf
  obtain ⟨f1, fs'', rfl, h1, -⟩ := List.map_eq_cons_iff.1 hf
  have c0 := hc f0 (by rw [hfs]; simp)
  have c1 := hc f1 (by rw [hfs]; simp)
  simp only [Prod.mk.injEq] at h0 h1
  rw [h0.1, h0.2, show Try.prog.cellsOf 3 = 1 by kernel_rfl] at c0
  rw [h1.1, h1.2, show Try.prog.cellsOf 46 = 1 by kernel_rfl] at c1
  rw [show Try.prog.cellsOf 48 = 2 by kernel_rfl] at hl
  obtain ⟨x0, e0, w0⟩ := c0.one (by kernel_rfl)
  obtain ⟨x1, e1, w1⟩ := c1.one (by kernel_rfl)
  match cs, hl with
  | [y0, y1], _ =>
    simp only [List.drop_zero, List.take_succ_cons, List.take_zero, List.drop_succ_cons, List.cons.injEq, and_true] at e0 e1
    subst e0 e1
    obtain ⟨a, rfl, ha⟩ := rd_3 w0
    obtain ⟨l, rfl, hl⟩ := rd_46 w1
    exact ⟨(a, l), rfl, ha, hl⟩
end Go.Proofs.Ytoelkgbeefoplaa
