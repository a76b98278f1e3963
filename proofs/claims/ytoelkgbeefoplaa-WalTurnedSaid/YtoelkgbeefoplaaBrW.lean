/- The base of these proofs, part W: whole numbers of the machine, under short names, and as rows of 32 bits. -/
import Derived.Test.YtoelkgbeefoplaaBrV
namespace Go.Br
open Go

def iadd (k : IntKind) (a b : Int) : Int := k.wrap (a + b)
def isub (k : IntKind) (a b : Int) : Int := k.wrap (a - b)
def imul (k : IntKind) (a b : Int) : Int := k.wrap (a * b)
def iquo (k : IntKind) (a b : Int) : Int := k.wrap (a.tdiv b)
def irem (a b : Int) : Int := a.tmod b
def iand (k : IntKind) (a b : Int) : Int := k.wrap (BitVec.ofInt k.bits a &&& BitVec.ofInt k.bits b).toNat
def ior (k : IntKind) (a b : Int) : Int := k.wrap (BitVec.ofInt k.bits a ||| BitVec.ofInt k.bits b).toNat
def ixor (k : IntKind) (a b : Int) : Int := k.wrap (BitVec.ofInt k.bits a ^^^ BitVec.ofInt k.bits b).toNat
def ishl (k : IntKind) (a b : Int) : Int := k.wrap (a * 2 ^ min b.toNat k.bits)
def ishr (k : IntKind) (a b : Int) : Int := a.fdiv (2 ^ min b.toNat k.bits)
def ineg (k : IntKind) (a : Int) : Int := k.wrap (0 - a)
def inot (k : IntKind) (a : Int) : Int := k.wrap (BitVec.ofInt k.bits (if k.signed then -1 else k.max) ^^^ BitVec.ofInt k.bits a).toNat
def iconv (k : IntKind) (a : Int) : Int := k.wrap a

theorem wrap_i64 {n : Int} (h : -9223372036854775808 ≤ n) (h' : n < 9223372036854775808) : IntKind.i64.wrap n = n := by
  simp only [IntKind.wrap, IntKind.bits, IntKind.signed, Bool.true_and]
  split <;> simp_all <;> omega
theorem iadd_i64 {a b : Int} (h : -9223372036854775808 ≤ a + b) (h' : a + b < 9223372036854775808) : iadd .i64 a b = a + b := wrap_i64 h h'
theorem isub_i64 {a b : Int} (h : -9223372036854775808 ≤ a - b) (h' : a - b < 9223372036854775808) : isub .i64 a b = a - b := wrap_i64 h h'
theorem wrap_u32 (n : Nat) : IntKind.u32.wrap (n : Int) = ((BitVec.ofNat 32 n).toNat : Int) := by
  simp [IntKind.wrap, IntKind.bits, IntKind.signed]
theorem wrap_u32' (x : Int) : IntKind.u32.wrap x = ((BitVec.ofInt 32 x).toNat : Int) := by
  simp [IntKind.wrap, IntKind.bits, IntKind.signed, BitVec.toNat_ofInt]
  omega
section
variable (x y : BitVec 32)
theorem ofInt_toNat : BitVec.ofInt 32 (x.toNat : Int) = x := by simp
theorem iand_u32 : iand .u32 (x.toNat : Int) (y.toNat : Int) = ((x &&& y).toNat : Int) := by
  show IntKind.u32.wrap (BitVec.ofInt 32 (x.toNat : Int) &&& BitVec.ofInt 32 (y.toNat : Int)).toNat = _
  rw [ofInt_toNat, ofInt_toNat, wrap_u32]; simp
theorem ior_u32 : ior .u32 (x.toNat : Int) (y.toNat : Int) = ((x ||| y).toNat : Int) := by
  show IntKind.u32.wrap (BitVec.ofInt 32 (x.toNat : Int) ||| BitVec.ofInt 32 (y.toNat : Int)).toNat = _
  rw [ofInt_toNat, ofInt_toNat, wrap_u32]; simp
theorem ixor_u32 : ixor .u32 (x.toNat : Int) (y.toNat : Int) = ((x ^^^ y).toNat : Int) := by
  show IntKind.u32.wrap (BitVec.ofInt 32 (x.toNat : Int) ^^^ BitVec.ofInt 32 (y.toNat : Int)).toNat = _
  rw [ofInt_toNat, ofInt_toNat, wrap_u32]; simp
theorem inot_u32 : inot .u32 (x.toNat : Int) = ((~~~x).toNat : Int) := by
  show IntKind.u32.wrap (BitVec.ofInt 32 (4294967295 : Int) ^^^ BitVec.ofInt 32 (x.toNat : Int)).toNat = _
  rw [ofInt_toNat, wrap_u32]
  have : BitVec.ofInt 32 4294967295 = BitVec.allOnes 32 := by decide
  rw [this, BitVec.allOnes_xor]; simp; omega
theorem ineg_u32 : ineg .u32 (x.toNat : Int) = ((-x).toNat : Int) := by
  show IntKind.u32.wrap (0 - (x.toNat : Int)) = _
  rw [wrap_u32']
  congr 1
  have : BitVec.ofInt 32 (0 - (x.toNat : Int)) = -x := by
    apply BitVec.eq_of_toInt_eq
    rw [BitVec.toInt_ofInt, BitVec.toInt_neg, BitVec.toInt_eq_toNat_bmod]
    simp
  rw [this]
theorem ishr_u32 (n : Nat) : ishr .u32 (x.toNat : Int) (n : Int) = ((x >>> n).toNat : Int) := by
  show Int.fdiv (x.toNat : Int) (2 ^ min (n : Int).toNat 32) = _
  have h1 : ((2 : Int) ^ min (n : Int).toNat 32) = ((2 ^ min n 32 : Nat) : Int) := by simp
  rw [h1, Int.fdiv_eq_ediv_of_nonneg _ (Int.natCast_nonneg _), ← Int.natCast_ediv]
  congr 1
  rw [BitVec.toNat_ushiftRight, Nat.shiftRight_eq_div_pow]
  by_cases hn : n ≤ 32
  · rw [Nat.min_eq_left hn]
  · rw [Nat.min_eq_right (by omega)]
    have h2 : x.toNat < 2 ^ 32 := x.isLt
    rw [Nat.div_eq_of_lt h2, Nat.div_eq_of_lt (Nat.lt_of_lt_of_le h2 (Nat.pow_le_pow_right (by omega) (by omega)))]
end
theorem iconv_u8_u32 (b : UInt8) : iconv .u32 (b.toNat : Int) = ((b.toBitVec.zeroExtend 32).toNat : Int) := by
  show IntKind.u32.wrap _ = _
  rw [wrap_u32]
  simp

def isRet (T : List Item) : Bool := match T with | .code .ret :: _ => true | _ => false
theorem AW.retH {P : Program} {f : FuncId} {n : Nat} {T : List Item} {tm : List V} {σ : Store} {Q : AE → Store → Prop} {fn : Func} {c : Code} {v : V} (hF : Fnc P f fn c) (hT : isRet T = true) (hres : resA P fn tm σ = some v) (hq : Q (.ret v) σ) : AW P f none n T tm σ [] Q := by
  unfold isRet at hT
  split at hT
  · exact .ret hF ⟨rfl, rfl⟩ hres hq
  · cases hT
theorem CallsA.start {P : Program} {g : FuncId} {fn : Func} {c : Code} {args : List V} {σ : Store} {Q : AE → Store → Prop} (hF : Fnc P g fn c) {tm : List V} (ht : args ++ List.replicate (fn.ntmps - args.length) .undef = tm) (h : AW P g none σ.length (cgo 0 [] [.code c]) tm σ [] Q) : CallsA P g args σ Q :=
  CallsA.of hF.get hF.body (by rw [ht]; exact h)
theorem u8s_get {bs : List UInt8} {i : Nat} (h : i < bs.length) : (bs.map u8)[((i : Nat) : Int).toNat]? = some (u8 bs[i]) := by simp [h]
/-- What the code of a function whose arguments are data makes of them. -/
def Pure (P : Program) (g : FuncId) (args : List V) (v : V) : Prop := CallsA P g args [] fun r σ' => r = .ret v ∧ σ' = []
end Go.Br
