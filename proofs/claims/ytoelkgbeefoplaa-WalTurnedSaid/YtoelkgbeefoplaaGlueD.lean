/- What the arguments of the laws are, by their types: words and pairs of numbers. -/
import Derived.Test.YtoelkgbeefoplaaGlueC
namespace Go.Proofs.Ytoelkgbeefoplaa
open Go Go.Br Go.Proofs

set_option maxRecDepth 100000
theorem rd_38 {n : Nat} {x : D} (h : WtE Try.prog n 38 x) : ∃ a : BitVec 32, x = u32 a ∧ True := by
  obtain ⟨a, rfl, h1, h2⟩ := h.int (show Try.prog.underlying 38 = some (.int .u32) by kernel_rfl)
  simp [IntKind.min, IntKind.max, IntKind.bits, IntKind.signed] at h1 h2
  refine ⟨BitVec.ofNat 32 a.toNat, ?_, trivial⟩
  simp only [u32, D.int.injEq, true_and, BitVec.toNat_ofNat]
  omega
theorem rd_37 {n : Nat} {x : D} (h : WtE Try.prog n 37 x) : ∃ a : Nat × Nat, x = .agg [.int .u64 a.1, .int .u64 a.2] ∧ a.1 < 18446744073709551616 ∧ a.2 < 18446744073709551616 := by
  obtain ⟨cs, rfl, h1, h2⟩ := h.array (m := 2) (e := 33) (show Try.prog.underlying 37 = some (.array 2 33) by kernel_rfl)
  rw [show Try.prog.cellsOf 37 = 2 by kernel_rfl] at h1
  obtain ⟨c0, c1, rfl⟩ : ∃ c0 c1, cs = [c0, c1] := by
    match cs, h1 with
    | [c0, c1], _ => exact ⟨c0, c1, rfl⟩
  have e0 := h2 0 (by omega)
  have e1 := h2 1 (by omega)
  rw [show Try.prog.cellsOf 33 = 1 by kernel_rfl] at e0 e1
  obtain ⟨x0, hx0, w0⟩ := e0.one (by kernel_rfl)
  obtain ⟨x1, hx1, w1⟩ := e1.one (by kernel_rfl)
  simp at hx0 hx1
  subst hx0 hx1
  obtain ⟨a, rfl, ha⟩ := rd_33 w0
  obtain ⟨b, rfl, hb⟩ := rd_33 w1
  exact ⟨(a, b), rfl, ha, hb⟩
end Go.Proofs.Ytoelkgbeefoplaa
