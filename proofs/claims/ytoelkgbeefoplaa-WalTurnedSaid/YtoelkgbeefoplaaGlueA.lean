/- From a law's contract to its row: what the arguments are, and what is left of them. -/
import Derived.Test.YtoelkgbeefoplaaRefParseA
import Derived.Test.YtoelkgbeefoplaaRows
import Derived.WalkKit
import Derived.ProofKit
import Derived.OpenShut
import Derived.ShutString
import Derived.ChangeOld
import Derived.Below
import Derived.Carry
import Derived.SizedLaws
namespace Go.Proofs.Ytoelkgbeefoplaa
open Go Go.Br Go.Proofs Go.ChangeShapes Go.WideShapes Go.ChangeAt Go.RowKit

theorem own : ownKnob Try.prog.godebug = none := by kernel_rfl
theorem laidOut : laidOutB Try.prog = true := by kernel_rfl
/-- The blocks that were there when the call began. -/
def I0 (W : World) (b : Nat) : Prop := b < W.heap.size
theorem orel0 (W : World) : ORel W (I0 W) (fun _ => none) [] :=
  ⟨fun l o h => by simp at h, fun l l' L L' h => by obtain ⟨o, h, _⟩ := h; simp at h, fun b h => by obtain ⟨l, o, L, h, _⟩ := h; simp at h, fun b hb => ⟨hb, fun h => by obtain ⟨l, o, L, h, _⟩ := h; simp at h⟩⟩
theorem below0 {W W' : World} {I' : Nat → Prop} {ρ' : LM} {σ' : Store} (h : Ext 0 W (I0 W) (fun _ => none) [] W' I' ρ' σ') : Below W.heap.size W W' :=
  ⟨h.os, h.tape, h.output, h.size, fun k hk => h.old k hk fun hf => by obtain ⟨l, o, L, h, _⟩ := hf; simp at h⟩
/-- A law that answers true, called in any world. -/
theorem law_calls {P : Program} {g : FuncId} {args : List V} (h : Br.Pure P g args (.d (.bool true))) {W : World} {xs : List Value} (hx : vrL W (I0 W) (fun _ => none) [] args xs) :
    Calls P g xs.toArray W fun e W' => e = .returned (.bool true) ∧ Below W.heap.size W W' := by
  refine (h W (I0 W) (fun _ => none) xs hx (orel0 W)).mono ?_
  rintro e W' ⟨I', ρ', σ', r, ⟨rfl, rfl⟩, ⟨x, rfl, hx⟩, _, hE⟩
  simp only [vr, Dr] at hx
  subst hx
  exact ⟨rfl, below0 hE⟩
theorem cell_spot {W : World} {a : Addr} {v : Value} (h : W.cell? a = some v) : a.spot = none ∧ a.block < W.heap.size := by
  unfold World.cell? at h
  split at h
  · rename_i c _ _ hh
    split at h
    · cases h
    · rename_i hs
      exact ⟨by simpa using hs, (Array.getElem?_eq_some_iff.1 hh).1⟩
  · cases h
section
variable {H : Type} {enc : TypeId × Value → H} {W : World}
theorem drE_u8s {x : Addr} (I : Nat → Prop) (hs : x.spot = none) : ∀ {bs : List UInt8} {o : Nat}, (∀ i, i < bs.length → W.cell? ⟨x.block, o + i, none⟩ = some (.int .u8 (bs.getD i 0).toNat)) → DrE W I 1 x.block o (bs.map u8)
  | [], _, _ => by simp [DrE]
  | b :: bs, o, h => by
    simp only [List.map_cons, DrE]
    refine ⟨⟨.int .u8 b.toNat, by simp [u8, Dr], rfl, fun j hj => ?_⟩, drE_u8s I hs fun i hi => ?_⟩
    · obtain rfl : j = 0 := by omega
      have h2 : W.cell? ⟨x.block, o + 0, none⟩ = some (.int .u8 b.toNat) := by
        have := h 0 (by simp)
        simpa using this
      exact h2
    · have := h (i + 1) (by simp; omega)
      rw [show o + 1 + i = o + (i + 1) by omega]
      simpa using this
theorem read_bytes {v : Value} {d : DataW H} {ps : List MemPlace} (h : DataW.Trod enc Try.prog W 0 (fun _ => true) true 22 v d ps) (hv : ∃ a len cap, v = .slice a len cap) : ∃ bs : List UInt8, Dr W (I0 W) (bsD bs) v := by
  obtain ⟨fuel, hf⟩ := h
  obtain ⟨a, len, cap, rfl⟩ := hv
  rcases open_ints (k := .u8) (show Try.prog.underlying 22 = some (.slice 5) by kernel_rfl) (by kernel_rfl) (by kernel_rfl) hf with ⟨hcs, _⟩ | ⟨x, l, c, zs, hcs, _, hl, hm, hz, _, hcell, hwz⟩
  · simp [Value.cells] at hcs
    obtain ⟨rfl, rfl, rfl⟩ := hcs
    exact ⟨[], by simp only [bsD, Dr, List.map_nil]; exact ⟨none, 0, rfl, by simp, by simp [maxLen], .inl trivial⟩⟩
  · simp [Value.cells] at hcs
    obtain ⟨rfl, rfl, rfl⟩ := hcs
    simp only [if_true] at hz
    refine ⟨(zs.take len).map fun n => UInt8.ofNat n.toNat, ?_⟩
    have hlen : ((zs.take len).map fun n => UInt8.ofNat n.toNat).length = len := by simp; omega
    simp only [bsD, Dr, List.length_map]
    simp only [List.length_map] at hlen
    rw [hlen]
    refine ⟨some x, cap, rfl, hl, hm, ?_⟩
    by_cases h0 : len = 0
    · left
      subst h0; simp
    · right
      have hc0 := hcell 0 (by omega)
      obtain ⟨hs, hb⟩ := cell_spot hc0
      have hs' : x.spot = none := hs
      have hb' : x.block < W.heap.size := hb
      refine ⟨x.block, x.off, by cases x; simp_all, hb', drE_u8s _ hs' fun i hi => ?_⟩
      simp only [List.length_map, List.length_take] at hi
      have hci := hcell i (by omega)
      have e1 : x.add i = ⟨x.block, x.off + i, none⟩ := by cases x; simp_all [Addr.add]
      rw [e1] at hci
      rw [hci]
      have hwi := hwz (zs.getD i 0) (by rw [List.getD_eq_getElem?_getD, List.getElem?_eq_getElem (by omega)]; simp)
      have hg : ((zs.take len).map fun n => UInt8.ofNat n.toNat).getD i 0 = UInt8.ofNat (zs.getD i 0).toNat := by
        simp [List.getD_eq_getElem?_getD, List.getElem?_take, show i < len by omega, List.getElem?_eq_getElem (show i < zs.length by omega)]
      rw [hg]
      have hw2 : 0 ≤ zs.getD i 0 ∧ zs.getD i 0 < 256 := by
        simp [Lit.wf, IntKind.min, IntKind.max, IntKind.bits, IntKind.signed] at hwi
        simp only [List.getD_eq_getElem?_getD]
        omega
      congr 2
      simp only [UInt8.toNat_ofNat']
      omega
end
end Go.Proofs.Ytoelkgbeefoplaa
