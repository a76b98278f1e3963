/- What the arguments of the laws are, by their types. -/
import Derived.Test.YtoelkgbeefoplaaGlueA
import Derived.Test.YtoelkgbeefoplaaBrRd
import Derived.Test.YtoelkgbeefoplaaLawA
import Derived.Test.YtoelkgbeefoplaaBackA
namespace Go.Proofs.Ytoelkgbeefoplaa
open Go Go.Br Go.Proofs Go.ChangeShapes Go.WideShapes Go.ChangeAt Go.RowKit

set_option maxRecDepth 100000
set_option linter.constructorNameAsVariable false
theorem rd_u8 {n : Nat} {y : D} (h : WtE Try.prog n 5 y) : ∃ b : UInt8, y = u8 b ∧ True := by
  obtain ⟨a, rfl, h1, h2⟩ := h.int (show Try.prog.underlying 5 = some (.int .u8) by kernel_rfl)
  simp [IntKind.min, IntKind.max, IntKind.bits, IntKind.signed] at h1 h2
  refine ⟨UInt8.ofNat a.toNat, ?_, trivial⟩
  simp only [u8, D.int.injEq, true_and, UInt8.toNat_ofNat']
  omega
theorem rd_22 {n : Nat} {x : D} (h : WtE Try.prog n 22 x) : ∃ bs : List UInt8, x = bsD bs ∧ bs.length ≤ maxLen := by
  obtain ⟨l, rfl, h1, _⟩ := WtE.slice_map (P := Try.prog) (e := 5) (t := 22) u8 (fun _ => True) h (show Try.prog.underlying 22 = some (.slice 5) by kernel_rfl) fun y hy => rd_u8 hy
  exact ⟨l, by rw [show Try.prog.cellsOf 5 = 1 by kernel_rfl]; rfl, h1⟩
theorem rd_26 {n : Nat} {x : D} (h : WtE Try.prog n 26 x) : ∃ l : List (List UInt8), x = lsD l ∧ l.length ≤ maxLen ∧ ∀ r ∈ l, r.length ≤ maxLen := by
  obtain ⟨l, rfl, h1, h2⟩ := WtE.slice_map (P := Try.prog) (e := 22) (t := 26) bsD (fun r => r.length ≤ maxLen) h (show Try.prog.underlying 26 = some (.slice 22) by kernel_rfl) fun y hy => rd_22 hy
  exact ⟨l, by rw [show Try.prog.cellsOf 22 = 1 by kernel_rfl]; rfl, h1, h2⟩
theorem rd_33 {n : Nat} {x : D} (h : WtE Try.prog n 33 x) : ∃ a : Nat, x = .int .u64 a ∧ a < 18446744073709551616 := by
  obtain ⟨a, rfl, h1, h2⟩ := h.int (show Try.prog.underlying 33 = some (.int .u64) by kernel_rfl)
  simp [IntKind.min, IntKind.max, IntKind.bits, IntKind.signed] at h1 h2
  exact ⟨a.toNat, by rw [Int.toNat_of_nonneg h1], by omega⟩
end Go.Proofs.Ytoelkgbeefoplaa
