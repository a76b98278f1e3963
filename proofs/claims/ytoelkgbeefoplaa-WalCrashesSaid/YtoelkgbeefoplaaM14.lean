/- Texts of this proof, part 14: LoneP, LossP, ListA, WalH, AllR, WalI, BegP, CrpP, CrqP, CrrP, WalL, WalK, GlueE, GlueF, CrsP, WalR, WalS. -/
import Derived.Test.YtoelkgbeefoplaaM13
set_option linter.unusedSimpArgs false
set_option linter.unusedVariables false
set_option linter.constructorNameAsVariable false
namespace Go.Proofs.Ytoelkgbeefoplaa
open Go Go.Br Go.Proofs
open List (map)
def logX : ByteArray := ⟨#[108, 111, 103]⟩
def tmpN : ByteArray := ⟨#[108, 111, 103, 46, 116, 109, 112]⟩
theorem logX_tmp : logX ++ tmpX = tmpN := by decide +kernel
theorem may_log : mayName logX = true := by decide +kernel
theorem may_tmp : mayName tmpN = true := by decide +kernel
structure Dk.On (d : Dk) : Prop where
  off : d.off = false
  stop : d.stop = -1
theorem Dk.On.begun {d : Dk} (h : d.On) : d.begun = { d with calls := d.calls + 1 } := by
  unfold Dk.begun
  rw [if_neg (by rw [h.off]; simp)]
  simp [h.off, h.stop]
structure Lone (d : Dk) (k : Nat) (A : List UInt8) : Prop where
  on : d.On
  nk : d.nk = [logX]
  nv : d.nv = [(k : Int)]
  lt : k < d.files.length
  data : (d.file k).1 = A
structure Twin (d : Dk) (k j : Nat) (A B : List UInt8) : Prop where
  on : d.On
  nk : d.nk = [logX, tmpN]
  nv : d.nv = [(k : Int), (j : Int)]
  lk : k < d.files.length
  lj : j < d.files.length
  ne : k ≠ j
  dk : (d.file k).1 = A
  dj : (d.file j).1 = B
theorem look_log (k : Int) : look [logX] [k] logX = some k := by kernel_rfl
theorem look2_log (k j : Int) : look [logX, tmpN] [k, j] logX = some k := by kernel_rfl
theorem look2_tmp (k j : Int) : look [logX, tmpN] [k, j] tmpN = some j := by kernel_rfl
theorem kap_put2 (k j : Int) : kapply [logX] [k] noName tmpN j = ([logX, tmpN], [k, j]) := by kernel_rfl
theorem kap_drop (k j z : Int) : kapply [logX, tmpN] [k, j] tmpN noName z = ([logX], [k]) := by kernel_rfl
theorem kap_ren (k j : Int) : kapply [logX, tmpN] [k, j] tmpN logX j = ([logX], [j]) := by kernel_rfl
theorem file_set {d : Dk} {k j : Nat} {f : List UInt8 × Nat} {b : Dk} (hb : b.files = d.files.set k f) (hk : k < d.files.length) : b.file j = if j = k then f else d.file j := by
  unfold Dk.file
  rw [hb, List.getD_eq_getElem?_getD, List.getD_eq_getElem?_getD, List.getElem?_set]
  by_cases h : k = j
  · subst h; simp [hk]
  · rw [if_neg h, if_neg (Ne.symm h)]
theorem file_app {d : Dk} {j : Nat} {f : List UInt8 × Nat} {b : Dk} (hb : b.files = d.files ++ [f]) (hj : j < d.files.length) : b.file j = d.file j := by
  unfold Dk.file
  rw [hb, List.getD_eq_getElem?_getD, List.getD_eq_getElem?_getD, List.getElem?_append_left hj]
theorem Lone.begun {d : Dk} {k : Nat} {A : List UInt8} (h : Lone d k A) : Lone d.begun k A := by
  rw [h.on.begun]; exact ⟨⟨h.on.off, h.on.stop⟩, h.nk, h.nv, h.lt, h.data⟩
theorem Twin.begun {d : Dk} {k j : Nat} {A B : List UInt8} (h : Twin d k j A B) : Twin d.begun k j A B := by
  rw [h.on.begun]; exact ⟨⟨h.on.off, h.on.stop⟩, h.nk, h.nv, h.lk, h.lj, h.ne, h.dk, h.dj⟩
theorem begun_quota (d : Dk) : d.begun.quota = d.quota := by unfold Dk.begun; split <;> rfl
theorem Lone.num {d : Dk} {k : Nat} {A : List UInt8} (h : Lone d k A) : d.num logX = k := by simp [Dk.num, h.nk, h.nv, look_log]
theorem Lone.err {d : Dk} {k : Nat} {A : List UInt8} (h : Lone d k A) : d.err true [logX] = 0 := by
  simp [Dk.err, h.on.off, may_log, h.nk, h.nv, look_log]
theorem Lone.used {d : Dk} {k : Nat} {A : List UInt8} (h : Lone d k A) : d.used = A.length := by
  simp [Dk.used, h.nv, h.data]
theorem Lone.appendE {d : Dk} {k : Nat} {A : List UInt8} (h : Lone d k A) {f : List UInt8} (hf : A.length + f.length ≤ 1048576) : d.appendE logX f = if (A.length : Int) + f.length ≤ d.quota then 0 else 4 := by
  unfold Dk.appendE
  rw [h.err, h.num, h.data, h.used, if_neg (by simp), if_neg (by omega)]
  split <;> split <;> omega
theorem Lone.appendD {d : Dk} {k : Nat} {A : List UInt8} (h : Lone d k A) {f : List UInt8} (hf : A.length + f.length ≤ 1048576) : Lone (d.appendD logX f) k (if (A.length : Int) + f.length ≤ d.quota then A ++ f else A) ∧ (d.appendD logX f).quota = d.quota := by
  unfold Dk.appendD
  rw [h.appendE hf]
  by_cases hq : (A.length : Int) + f.length ≤ d.quota
  · rw [if_pos hq, if_pos rfl, if_pos hq, h.num]
    refine ⟨⟨⟨h.on.off, h.on.stop⟩, h.nk, h.nv, by simpa using h.lt, ?_⟩, rfl⟩
    rw [file_set (d := d) rfl h.lt, if_pos rfl, h.data]
  · rw [if_neg hq, if_neg (by simp), if_pos rfl, if_neg hq]
    exact ⟨⟨⟨h.on.off, h.on.stop⟩, h.nk, h.nv, h.lt, h.data⟩, rfl⟩
theorem Lone.create {d : Dk} {k : Nat} {A : List UInt8} (h : Lone d k A) : d.createE tmpN = 0 ∧ Twin (d.createD tmpN) k d.files.length A [] ∧ (d.createD tmpN).quota = d.quota := by
  have e : d.createE tmpN = 0 := by
    unfold Dk.createE
    have h1 : d.err false [tmpN] = 0 := by simp [Dk.err, h.on.off, may_tmp]
    rw [h1, if_neg (by simp), if_neg (by rw [h.nk]; simp)]
  refine ⟨e, ?_, ?_⟩
  · unfold Dk.createD
    rw [if_pos e]
    have hk := kap_put2 (k : Int) (d.files.length : Int)
    refine ⟨⟨h.on.off, h.on.stop⟩, ?_, ?_, ?_, ?_, ?_, ?_, ?_⟩
    · show (kapply d.nk d.nv noName tmpN _).1 = _
      rw [h.nk, h.nv, hk]
    · show (kapply d.nk d.nv noName tmpN _).2 = _
      rw [h.nk, h.nv, hk]
    · show k < (d.files ++ [([], 0)]).length
      have := h.lt; simp; omega
    · show d.files.length < (d.files ++ [([], 0)]).length
      simp
    · have := h.lt; omega
    · rw [file_app (d := d) (f := ([], 0)) rfl h.lt, h.data]
    · simp [Dk.file, Dk.turn]
  · unfold Dk.createD
    rw [if_pos e]; rfl
theorem Twin.num {d : Dk} {k j : Nat} {A B : List UInt8} (h : Twin d k j A B) : d.num tmpN = j := by simp [Dk.num, h.nk, h.nv, look2_tmp]
theorem Twin.err {d : Dk} {k j : Nat} {A B : List UInt8} (h : Twin d k j A B) : d.err true [tmpN] = 0 := by
  simp [Dk.err, h.on.off, may_tmp, h.nk, h.nv, look2_tmp]
theorem Twin.err2 {d : Dk} {k j : Nat} {A B : List UInt8} (h : Twin d k j A B) : d.err true [tmpN, logX] = 0 := by
  simp [Dk.err, h.on.off, may_tmp, may_log, h.nk, h.nv, look2_tmp]
theorem Twin.used {d : Dk} {k j : Nat} {A B : List UInt8} (h : Twin d k j A B) : d.used = A.length + B.length := by
  simp [Dk.used, h.nv, h.dk, h.dj]
theorem Twin.appendE {d : Dk} {k j : Nat} {A B : List UInt8} (h : Twin d k j A B) {f : List UInt8} (hf : B.length + f.length ≤ 1048576) : d.appendE tmpN f = if (A.length : Int) + B.length + f.length ≤ d.quota then 0 else 4 := by
  unfold Dk.appendE
  rw [h.err, h.num, h.dj, h.used, if_neg (by simp), if_neg (by omega)]
  split <;> split <;> omega
theorem Twin.appendD {d : Dk} {k j : Nat} {A B : List UInt8} (h : Twin d k j A B) {f : List UInt8} (hf : B.length + f.length ≤ 1048576) : Twin (d.appendD tmpN f) k j A (if (A.length : Int) + B.length + f.length ≤ d.quota then B ++ f else B) ∧ (d.appendD tmpN f).quota = d.quota := by
  unfold Dk.appendD
  rw [h.appendE hf]
  by_cases hq : (A.length : Int) + B.length + f.length ≤ d.quota
  · rw [if_pos hq, if_pos rfl, if_pos hq, h.num]
    refine ⟨⟨⟨h.on.off, h.on.stop⟩, h.nk, h.nv, by simpa using h.lk, by simpa using h.lj, h.ne, ?_, ?_⟩, rfl⟩
    · rw [file_set (d := d) rfl h.lj, if_neg h.ne, h.dk]
    · rw [file_set (d := d) rfl h.lj, if_pos rfl, h.dj]
  · rw [if_neg hq, if_neg (by simp), if_pos rfl, if_neg hq]
    exact ⟨⟨⟨h.on.off, h.on.stop⟩, h.nk, h.nv, h.lk, h.lj, h.ne, h.dk, h.dj⟩, rfl⟩
theorem Twin.sync {d : Dk} {k j : Nat} {A B : List UInt8} (h : Twin d k j A B) : Twin (d.syncD tmpN) k j A B ∧ (d.syncD tmpN).quota = d.quota := by
  unfold Dk.syncD
  rw [if_pos h.err, h.num]
  refine ⟨⟨⟨h.on.off, h.on.stop⟩, h.nk, h.nv, by simpa using h.lk, by simpa using h.lj, h.ne, ?_, ?_⟩, rfl⟩
  · rw [file_set (d := d) rfl h.lj, if_neg h.ne, h.dk]
  · rw [file_set (d := d) rfl h.lj, if_pos rfl, h.dj]
theorem Twin.remove {d : Dk} {k j : Nat} {A B : List UInt8} (h : Twin d k j A B) : Lone (d.removeD tmpN) k A ∧ (d.removeD tmpN).quota = d.quota := by
  unfold Dk.removeD
  rw [if_pos h.err]
  have hk := kap_drop (k : Int) (j : Int) 0
  refine ⟨⟨⟨h.on.off, h.on.stop⟩, ?_, ?_, h.lk, h.dk⟩, rfl⟩
  · show (kapply d.nk d.nv tmpN noName 0).1 = _
    rw [h.nk, h.nv, hk]
  · show (kapply d.nk d.nv tmpN noName 0).2 = _
    rw [h.nk, h.nv, hk]
theorem Twin.rename {d : Dk} {k j : Nat} {A B : List UInt8} (h : Twin d k j A B) : Lone (d.renameD tmpN logX) j B ∧ (d.renameD tmpN logX).quota = d.quota := by
  unfold Dk.renameD
  rw [if_pos h.err2]
  have hk := kap_ren (k : Int) (j : Int)
  have hl : (look d.nk d.nv tmpN).getD 0 = (j : Int) := by rw [h.nk, h.nv, look2_tmp]; rfl
  rw [hl]
  refine ⟨⟨⟨h.on.off, h.on.stop⟩, ?_, ?_, h.lj, h.dj⟩, rfl⟩
  · show (kapply d.nk d.nv tmpN logX _).1 = _
    rw [h.nk, h.nv, hk]
  · show (kapply d.nk d.nv tmpN logX _).2 = _
    rw [h.nk, h.nv, hk]
theorem Lone.syncDir {d : Dk} {k : Nat} {A : List UInt8} (h : Lone d k A) : Lone d.syncDirD k A ∧ d.syncDirD.quota = d.quota ∧ d.err false [] = 0 := by
  unfold Dk.syncDirD
  rw [if_neg (by rw [h.on.off]; simp)]
  exact ⟨⟨⟨h.on.off, h.on.stop⟩, h.nk, h.nv, h.lt, h.data⟩, rfl, by simp [Dk.err, h.on.off]⟩
theorem wrT_twin {d : Dk} {k j : Nat} {A B : List UInt8} (h : Twin d k j A B) : (wrT tmpN logX d).1 = 0 ∧ Lone (wrT tmpN logX d).2 j B ∧ (wrT tmpN logX d).2.quota = d.quota := by
  have h1 := h.begun
  obtain ⟨h2, q2⟩ := h1.sync
  have h3 := h2.begun
  obtain ⟨h4, q4⟩ := h3.rename
  have h5 := h4.begun
  obtain ⟨h6, q6, e6⟩ := h5.syncDir
  unfold wrT
  rw [if_neg (by rw [h1.err]; simp), if_neg (by rw [h3.err2]; simp)]
  exact ⟨e6, h6, by rw [q6, begun_quota, q4, begun_quota, q2, begun_quota]⟩
theorem wrG_twin {k j : Nat} {A : List UInt8} : ∀ (fs : List (List UInt8)) (d : Dk) (B : List UInt8), Twin d k j A B → B.length + fs.flatten.length ≤ 1048576 →
    (wrG tmpN logX fs d).2.1 = 0 ∧ (wrG tmpN logX fs d).2.2.quota = d.quota ∧
    (if (A.length : Int) + B.length + fs.flatten.length ≤ d.quota then (wrG tmpN logX fs d).1 = 0 ∧ Lone (wrG tmpN logX fs d).2.2 j (B ++ fs.flatten) else (wrG tmpN logX fs d).1 = 4 ∧ Lone (wrG tmpN logX fs d).2.2 k A) ∨
    (A.length : Int) + B.length > d.quota
  | [], d, B, h, _ => by
    obtain ⟨h1, h2, h3⟩ := wrT_twin h
    by_cases hq : (A.length : Int) + B.length ≤ d.quota
    · left
      refine ⟨h1, h3, ?_⟩
      rw [if_pos (by simpa using hq)]
      exact ⟨h1, by rw [List.flatten_nil, List.append_nil]; exact h2⟩
    · right; omega
  | f :: fs, d, B, h, hl => by
    simp only [List.flatten_cons, List.length_append] at hl
    by_cases hq : (A.length : Int) + B.length ≤ d.quota
    · left
      have h1 := h.begun
      have e1 := h1.appendE (f := f) (by omega)
      obtain ⟨h2, q2⟩ := h1.appendD (f := f) (by omega)
      rw [begun_quota] at e1 h2 q2
      by_cases hf : (A.length : Int) + B.length + f.length ≤ d.quota
      · rw [if_pos hf] at e1 h2
        have ih := wrG_twin fs _ _ h2 (by simp only [List.length_append]; omega)
        have e : wrG tmpN logX (f :: fs) d = wrG tmpN logX fs (d.begun.appendD tmpN f) := by
          simp only [wrG]; rw [e1]; simp
        rw [e]
        rcases ih with ⟨i1, i2, i3⟩ | i4
        · refine ⟨i1, by rw [i2, q2], ?_⟩
          rw [q2] at i3
          simp only [List.flatten_cons, List.length_append, List.append_assoc] at i3 ⊢
          split
          · rename_i hc
            rw [if_pos (by push_cast at hc ⊢; omega)] at i3
            exact i3
          · rename_i hc
            rw [if_neg (by push_cast at hc ⊢; omega)] at i3
            exact i3
        · rw [q2] at i4
          simp only [List.length_append] at i4
          push_cast at i4
          omega
      · rw [if_neg hf] at e1 h2
        have h3 := h2.begun
        obtain ⟨h4, q4⟩ := h3.remove
        have e : wrG tmpN logX (f :: fs) d = (4, 0, (d.begun.appendD tmpN f).begun.removeD tmpN) := by
          simp only [wrG]; rw [e1, if_pos rfl, h3.err]; simp
        rw [e]
        refine ⟨rfl, by rw [q4, begun_quota, q2], ?_⟩
        rw [if_neg (by simp only [List.flatten_cons, List.length_append]; push_cast; omega)]
        exact ⟨rfl, h4⟩
    · right; omega
theorem new_lone (q : Int) : makeL (Dk.new q) logX = { files := [([], 0)], nk := [logX], nv := [0], sk := [logX], sv := [0], ch := [], quota := if 0 > q then 0 else q, full := false, off := false, stop := -1, calls := 2 } := by kernel_rfl
theorem new_e (q : Int) : makeE (Dk.new q) logX = 0 := by kernel_rfl
theorem Lone.new (q : Int) : Lone (makeL (Dk.new q) logX) 0 [] ∧ (makeL (Dk.new q) logX).quota = if 0 > q then 0 else q := by
  rw [new_lone]
  exact ⟨⟨⟨rfl, rfl⟩, rfl, rfl, by simp, rfl⟩, rfl⟩
theorem wrT_ok {t x : ByteArray} {d : Dk} {N : Nat} (h : d.Ok N) (hN : N + 10 ≤ 50000) : (wrT t x d).2.Ok (N + 10) := by
  have h1 := Dk.syncD_ok (Dk.begun_ok h (by omega)) t
  have h2 := Dk.renameD_ok (Dk.begun_ok h1 (by omega)) (by omega) t x
  have h3 := Dk.syncDirD_ok (Dk.begun_ok h2 (by omega))
  unfold wrT
  split
  · exact h1.mono (by omega) hN
  · split
    · exact h2.mono (by omega) hN
    · exact h3.mono (by omega) hN
theorem wrG_ok {t x : ByteArray} : ∀ (fs : List (List UInt8)) {d : Dk} {N : Nat} (_ : d.Ok N) (_ : N + fs.length + 10 ≤ 50000), (wrG t x fs d).2.2.Ok (N + fs.length + 10)
  | [], d, N, h, hN => wrT_ok h hN
  | f :: fs, d, N, h, hN => by
    simp only [List.length_cons] at hN ⊢
    have h1 := Dk.appendD_ok (Dk.begun_ok h (by omega)) t f
    have h2 := Dk.removeD_ok (Dk.begun_ok h1 (by omega)) (by omega) t
    simp only [wrG]
    split
    · split
      · exact h2.mono (by omega) hN
      · exact h2.mono (by omega) hN
    · split
      · exact h1.mono (by omega) hN
      · exact (wrG_ok fs h1 (by omega)).mono (by omega) hN
theorem writeR_ok {x : ByteArray} {fs : List (List UInt8)} {d : Dk} {N : Nat} (h : d.Ok N) (hN : N + fs.length + 20 ≤ 50000) : (writeR x fs d).2.2.Ok (N + fs.length + 20) := by
  have h1 := Dk.createD_ok (Dk.begun_ok h (by omega)) (by omega) (x ++ tmpX)
  unfold writeR
  split
  · exact h1.mono (by omega) hN
  · exact (wrG_ok fs h1 (by omega)).mono (by omega) hN
theorem addL_ok {d : Dk} {x : ByteArray} {bs : List UInt8} {N : Nat} (h : d.Ok N) (hN : N + 1 ≤ 50000) : (addL d x bs).Ok (N + 1) := by
  unfold addL
  split
  · exact h.mono (by omega) hN
  · exact Dk.appendD_ok (Dk.begun_ok h hN) x (frame bs)
theorem Lone.add {d : Dk} {k : Nat} {A : List UInt8} (h : Lone d k A) {bs : List UInt8} (hb : bs.length ≤ 65536) (hf : A.length + (frame bs).length ≤ 1048576) :
    addE d logX bs = (if (A.length : Int) + (frame bs).length ≤ d.quota then 0 else 4) ∧ Lone (addL d logX bs) k (if (A.length : Int) + (frame bs).length ≤ d.quota then A ++ frame bs else A) ∧ (addL d logX bs).quota = d.quota := by
  have h1 := h.begun
  have e1 := h1.appendE hf
  obtain ⟨h2, q2⟩ := h1.appendD hf
  rw [begun_quota] at e1 h2 q2
  have hn : ¬ 65536 < bs.length := by omega
  have a1 : addE d logX bs = d.begun.appendE logX (frame bs) := if_neg hn
  have a2 : addL d logX bs = d.begun.appendD logX (frame bs) := if_neg hn
  rw [a1, a2]
  exact ⟨e1, h2, q2⟩
end Go.Proofs.Ytoelkgbeefoplaa
namespace Go.Proofs.Ytoelkgbeefoplaa
open Go Go.Br Go.Proofs
open List (map)
theorem kept_at {has : Nat → Bool} {keep : List Int} : ∀ (fs : List (List UInt8 × Nat)) (i j : Nat) (f : List UInt8 × Nat), fs[j]? = some f → has (i + j) = true →
    (kept has keep i fs)[rank has (i + j) - rank has i]? = some (f.1.take (leftOf f (i + j) keep), leftOf f (i + j) keep)
  | [], i, j, f, h, _ => by simp at h
  | g :: fs, i, 0, f, h, hh => by
    simp only [List.getElem?_cons_zero, Option.some.injEq] at h
    subst h
    rw [Nat.add_zero] at hh ⊢
    simp only [kept, hh, if_true, Nat.sub_self, List.getElem?_cons_zero]
  | g :: fs, i, j + 1, f, h, hh => by
    rw [List.getElem?_cons_succ] at h
    have e : i + (j + 1) = i + 1 + j := by omega
    rw [e] at hh ⊢
    have ih := kept_at (has := has) (keep := keep) fs (i + 1) j f h hh
    have hs := rank_succ has i
    have hm := rank_mono has (show i + 1 ≤ i + 1 + j by omega)
    by_cases hi : has i = true
    · simp only [kept, hi, if_true] at hs ⊢
      rw [show rank has (i + 1 + j) - rank has i = (rank has (i + 1 + j) - rank has (i + 1)) + 1 by omega, List.getElem?_cons_succ]
      exact ih
    · simp only [kept, hi, Bool.false_eq_true, if_false] at hs ⊢
      rw [show rank has (i + 1 + j) - rank has i = rank has (i + 1 + j) - rank has (i + 1) by omega]
      exact ih
theorem rank_lt {has : Nat → Bool} {a b : Nat} (h : a < b) (ha : has a = true) : rank has a < rank has b := by
  have h1 := rank_succ has a
  rw [ha] at h1
  have h2 := rank_mono has (show a + 1 ≤ b from h)
  simp at h1; omega
theorem crash_file {d : Dk} {dir : Int} {keep : List Int} {k : Nat} {f : List UInt8 × Nat} (hf : d.files[k]? = some f) (hh : d.has dir k = true) :
    rank (d.has dir) k < (d.crash dir keep).files.length ∧ (d.crash dir keep).file (rank (d.has dir) k) = (f.1.take (leftOf f k keep), leftOf f k keep) := by
  have h1 := kept_at (has := d.has dir) (keep := keep) d.files 0 k f hf (by rw [Nat.zero_add]; exact hh)
  have h0 : rank (d.has dir) 0 = 0 := rfl
  rw [Nat.zero_add, h0, Nat.sub_zero] at h1
  refine ⟨(List.getElem?_eq_some_iff.1 h1).1, ?_⟩
  show ((kept (d.has dir) keep 0 d.files).getD _ _) = _
  rw [List.getD_eq_getElem?_getD, h1]; rfl
theorem crash_lone {d : Dk} {dir : Int} {keep : List Int} {k : Nat} {f : List UInt8 × Nat} (hn : d.names dir = ([logX], [(k : Int)])) (hf : d.files[k]? = some f) :
    ∃ k', Lone (d.crash dir keep) k' (f.1.take (leftOf f k keep)) ∧ ((d.crash dir keep).file k').2 = leftOf f k keep ∧ (d.crash dir keep).sk = [logX] ∧ (d.crash dir keep).sv = [(k' : Int)] ∧ (d.crash dir keep).ch = [] ∧ (d.crash dir keep).quota = d.quota := by
  have hh : d.has dir k = true := by simp [Dk.has, hn]
  obtain ⟨h1, h2⟩ := crash_file (keep := keep) hf hh
  have hv : (d.crash dir keep).nv = [((rank (d.has dir) k : Nat) : Int)] := by
    show (d.names dir).2.map _ = _
    rw [hn]; simp
  refine ⟨rank (d.has dir) k, ⟨⟨rfl, rfl⟩, ?_, hv, h1, by rw [h2]⟩, by rw [h2], ?_, hv, rfl, rfl⟩
  · show (d.names dir).1 = _
    rw [hn]
  · show (d.names dir).1 = _
    rw [hn]
theorem crash_twin {d : Dk} {dir : Int} {keep : List Int} {k j : Nat} {f g : List UInt8 × Nat} (hn : d.names dir = ([logX, tmpN], [(k : Int), (j : Int)])) (hf : d.files[k]? = some f) (hg : d.files[j]? = some g) (hkj : k ≠ j) :
    ∃ k' j', Twin (d.crash dir keep) k' j' (f.1.take (leftOf f k keep)) (g.1.take (leftOf g j keep)) ∧ ((d.crash dir keep).file k').2 = leftOf f k keep ∧ (d.crash dir keep).sk = [logX, tmpN] ∧ (d.crash dir keep).sv = [(k' : Int), (j' : Int)] ∧ (d.crash dir keep).ch = [] ∧ (d.crash dir keep).quota = d.quota := by
  have hk : d.has dir k = true := by simp [Dk.has, hn]
  have hj : d.has dir j = true := by simp [Dk.has, hn]
  obtain ⟨h1, h2⟩ := crash_file (keep := keep) hf hk
  obtain ⟨h3, h4⟩ := crash_file (keep := keep) hg hj
  have hv : (d.crash dir keep).nv = [((rank (d.has dir) k : Nat) : Int), ((rank (d.has dir) j : Nat) : Int)] := by
    show (d.names dir).2.map _ = _
    rw [hn]; simp
  have hne : rank (d.has dir) k ≠ rank (d.has dir) j := by
    rcases Nat.lt_or_gt_of_ne hkj with h | h
    · have := rank_lt h hk; omega
    · have := rank_lt h hj; omega
  refine ⟨rank (d.has dir) k, rank (d.has dir) j, ⟨⟨rfl, rfl⟩, ?_, hv, h1, h3, hne, by rw [h2], by rw [h4]⟩, by rw [h2], ?_, hv, rfl, rfl⟩
  · show (d.names dir).1 = _
    rw [hn]
  · show (d.names dir).1 = _
    rw [hn]
end Go.Proofs.Ytoelkgbeefoplaa
namespace Go.Proofs.Ytoelkgbeefoplaa
open Go Go.Br Go.Proofs
open List (map)
end Go.Proofs.Ytoelkgbeefoplaa
namespace Go.Proofs.Ytoelkgbeefoplaa
open Go Go.Br Go.Proofs
open List (map)
end Go.Proofs.Ytoelkgbeefoplaa
namespace Go.Proofs.Ytoelkgbeefoplaa
open Go Go.Br Go.Proofs
open List (map)
theorem allOf_snoc (acc : List (List UInt8)) (r : List UInt8) : allOf (acc ++ [r]) = allOf acc ++ frame r := by simp [allOf]
end Go.Proofs.Ytoelkgbeefoplaa
namespace Go.Proofs.Ytoelkgbeefoplaa
open Go Go.Br Go.Proofs
open List (map)
def SF (c s b : Int) (d : Dk) (m : Bool) : Store := [.cells [.row 1, .ptr 2 0 0, .ep 2 (dirD d.sk d.sv) 0, .row 5, .d (.int .i64 d.quota), .d (.bool d.full), .d (.bool d.off), .d (.int .i64 d.stop), .d (.int .i64 d.calls)],
  .row 2 (d.files.map fileD) m, .cells [.row 3, .row 4], .row 1 (d.nk.map strD) m, .row 1 (d.nv.map intD) m, .row 3 (d.ch.map chD) m, .cells [.d (.int .i64 c), .d (.int .i64 s), .d (.int .i64 b), .ptr 0 0 0, .d (.str logX)]]
theorem spec_52a (c s : Int) (x : ByteArray) (d : Dk) (N : Nat) (h : d.Ok N) (hN : N + 5 ≤ 50000) (hx : x.size < 1000000000) (bs : List UInt8) (hb : bs.length < 1000000) (hc0 : 0 ≤ c) (hc1 : c < 1000000) (hs0 : 0 ≤ s) (hs1 : s < 1000000000) (he : addE d x bs = 0) :
    CallsA Try.prog 52 [.ptr 0 0 0, .d (.list 1 (bs.map u8))] (SL c s 0 x d false) fun r σ' => r = .ret (.d (.int .i64 0)) ∧ σ' = SL (c + 1) (s + (frame bs).length) 0 x (addL d x bs) true := by
  have h1 := spec_52 c s x d N h hN hx bs hb hc0 hc1 hs0 hs1
  rw [he] at h1
  simpa using h1
theorem spec_54a (c s : Int) (x : ByteArray) (d : Dk) (N : Nat) (h : d.Ok N) (rs : List (List UInt8)) (hrs : ∀ r ∈ rs, r.length ≤ 65536) (hl : rs.length < 10000) (hN : N + rs.length + 20 ≤ 50000) (hx : x.size < 1000) (he : (writeR x (rs.map frame) d).1 = 0) (hb : (writeR x (rs.map frame) d).2.1 = 0) :
    CallsA Try.prog 54 [.ptr 0 0 0, .d (.list 1 (rs.map bsD))] (SL c s 0 x d false) fun r σ' => r = .ret (.d (.int .i64 0)) ∧ σ' = SL (rs.length : Nat) (good rs : Nat) 0 x (writeR x (rs.map frame) d).2.2 true := by
  have h1 := spec_54 c s x d N h rs hrs hl hN hx
  have e : resetR c s x rs d = (0, (rs.length : Int), (good rs : Int), 0, (writeR x (rs.map frame) d).2.2) := by simp [resetR, he, hb]
  rw [e] at h1
  exact h1
theorem parsed_all (l : List (List UInt8)) (h : ∀ r ∈ l, r.length ≤ 65536) : parsed (allOf l) = l := by
  have := recs_all l [] ((allOf l).length + 1) h (by simp) (by simp)
  rwa [List.append_nil] at this
end Go.Proofs.Ytoelkgbeefoplaa
namespace Go.Proofs.Ytoelkgbeefoplaa
open Go Go.Br Go.Proofs
open List (map)
theorem recs_app : ∀ (a : List (List UInt8)) (t : List UInt8) (m : Nat), (∀ r ∈ a, r.length ≤ 65536) → (allOf a ++ t).length < m → ∃ m', recs m (allOf a ++ t) = a ++ recs m' t
  | [], t, m, _, _ => ⟨m, by simp [allOf]⟩
  | r :: a, t, 0, _, h => by omega
  | r :: a, t, m + 1, hl, h => by
    have hr := hl r (by simp)
    rw [allOf_cons, List.append_assoc] at h ⊢
    obtain ⟨h1, h2, h3, h4, h5⟩ := front (t := allOf a ++ t) hr
    rw [List.length_append, frame_length] at h
    obtain ⟨m', hm⟩ := recs_app a t m (fun x hx => hl x (by simp [hx])) (by omega)
    refine ⟨m', ?_⟩
    rw [recs, h1, h2, h3, h4, h5, hm]
    simp
theorem allOf_split2 (l : List (List UInt8)) (s : Nat) : allOf l = allOf (l.take s) ++ allOf (l.drop s) := by
  unfold allOf
  rw [← List.flatten_append, ← List.map_append, List.take_append_drop]
theorem parsed_take {l : List (List UInt8)} (h : ∀ r ∈ l, r.length ≤ 65536) (k s : Nat) (hs : s ≤ l.length) (hk : (allOf (l.take s)).length ≤ k) :
    ∃ j, s ≤ j ∧ j ≤ l.length ∧ parsed ((allOf l).take k) = l.take j := by
  by_cases hlt : k < (allOf l).length
  · have hlen : ((allOf l).take k).length = k := by rw [List.length_take]; omega
    obtain ⟨j, hj, hrec⟩ := recs_take l k (k + 1) h hlt (by omega)
    have hp : parsed ((allOf l).take k) = l.take j := by unfold parsed; rw [hlen]; exact hrec
    refine ⟨j, ?_, by omega, hp⟩
    have e : (allOf l).take k = allOf (l.take s) ++ (allOf (l.drop s)).take (k - (allOf (l.take s)).length) := by
      rw [allOf_split2 l s, List.take_append, List.take_of_length_le hk]
    obtain ⟨m', hm⟩ := recs_app (l.take s) ((allOf (l.drop s)).take (k - (allOf (l.take s)).length)) (k + 1) (fun r hr => h r (List.mem_of_mem_take hr)) (by rw [← e, hlen]; omega)
    have h2 := hrec
    rw [e, hm] at h2
    have h3 := congrArg List.length h2
    rw [List.length_append, List.length_take, List.length_take] at h3
    omega
  · refine ⟨l.length, hs, Nat.le_refl _, ?_⟩
    rw [List.take_of_length_le (by omega), List.take_length, parsed_all l h]
theorem parsed_whole {l : List (List UInt8)} (k j : Nat) (hg : good (l.take j) = ((allOf l).take k).length) : (allOf l).take k = allOf (l.take j) := by
  rw [good_all] at hg
  have e : allOf (l.take j) = (allOf l).take (allOf (l.take j)).length := by
    conv => rhs; rw [allOf_split2 l j]
    rw [List.take_left']
    rfl
  rw [e, hg, List.length_take]
  by_cases h : k ≤ (allOf l).length
  · rw [Nat.min_eq_left h]
  · rw [Nat.min_eq_right (by omega), List.take_of_length_le (by omega), List.take_of_length_le (Nat.le_refl _)]
end Go.Proofs.Ytoelkgbeefoplaa
namespace Go.Proofs.Ytoelkgbeefoplaa
open Go Go.Br Go.Proofs
open List (map)
structure Pre (d : Dk) (k : Nat) (A : List UInt8) (s : Nat) : Prop where
  nk : d.nk = [logX]
  nv : d.nv = [(k : Int)]
  sk : d.sk = [logX]
  sv : d.sv = [(k : Int)]
  ch : d.ch = []
  fk : d.files[k]? = some (A, s)
  sl : s ≤ A.length
  q : d.quota = 1048576
structure Mid (d : Dk) (k j : Nat) (A : List UInt8) (s : Nat) (B : List UInt8) (t : Nat) : Prop where
  nk : d.nk = [logX, tmpN]
  nv : d.nv = [(k : Int), (j : Int)]
  sk : d.sk = [logX]
  sv : d.sv = [(k : Int)]
  ch : d.ch = [(noName, tmpN, (j : Int))]
  fk : d.files[k]? = some (A, s)
  fj : d.files[j]? = some (B, t)
  ne : k ≠ j
  sl : s ≤ A.length
  tl : t ≤ B.length
  q : d.quota = 1048576
structure Ren (d : Dk) (k j : Nat) (A : List UInt8) (s : Nat) (B : List UInt8) : Prop where
  nk : d.nk = [logX]
  nv : d.nv = [(j : Int)]
  sk : d.sk = [logX]
  sv : d.sv = [(k : Int)]
  ch : d.ch = [(noName, tmpN, (j : Int)), (tmpN, logX, (j : Int))]
  fk : d.files[k]? = some (A, s)
  fj : d.files[j]? = some (B, B.length)
  ne : k ≠ j
  sl : s ≤ A.length
  q : d.quota = 1048576
theorem begun_fields (d : Dk) : d.begun.nk = d.nk ∧ d.begun.nv = d.nv ∧ d.begun.sk = d.sk ∧ d.begun.sv = d.sv ∧ d.begun.ch = d.ch ∧ d.begun.files = d.files ∧ d.begun.quota = d.quota := by
  unfold Dk.begun; split <;> exact ⟨rfl, rfl, rfl, rfl, rfl, rfl, rfl⟩
theorem Pre.begun {d : Dk} {k : Nat} {A : List UInt8} {s : Nat} (h : Pre d k A s) : Pre d.begun k A s := by
  obtain ⟨h1, h2, h3, h4, h5, h6, h7⟩ := begun_fields d
  exact ⟨h1.trans h.nk, h2.trans h.nv, h3.trans h.sk, h4.trans h.sv, h5.trans h.ch, by rw [h6]; exact h.fk, h.sl, h7.trans h.q⟩
theorem Mid.begun {d : Dk} {k j : Nat} {A : List UInt8} {s : Nat} {B : List UInt8} {t : Nat} (h : Mid d k j A s B t) : Mid d.begun k j A s B t := by
  obtain ⟨h1, h2, h3, h4, h5, h6, h7⟩ := begun_fields d
  exact ⟨h1.trans h.nk, h2.trans h.nv, h3.trans h.sk, h4.trans h.sv, h5.trans h.ch, by rw [h6]; exact h.fk, by rw [h6]; exact h.fj, h.ne, h.sl, h.tl, h7.trans h.q⟩
theorem Ren.begun {d : Dk} {k j : Nat} {A : List UInt8} {s : Nat} {B : List UInt8} (h : Ren d k j A s B) : Ren d.begun k j A s B := by
  obtain ⟨h1, h2, h3, h4, h5, h6, h7⟩ := begun_fields d
  exact ⟨h1.trans h.nk, h2.trans h.nv, h3.trans h.sk, h4.trans h.sv, h5.trans h.ch, by rw [h6]; exact h.fk, by rw [h6]; exact h.fj, h.ne, h.sl, h7.trans h.q⟩
theorem file_of {d : Dk} {k : Nat} {f : List UInt8 × Nat} (h : d.files[k]? = some f) : d.file k = f := by
  unfold Dk.file; rw [List.getD_eq_getElem?_getD, h]; rfl
theorem set_get {α : Type} {l : List α} {i j : Nat} {x y : α} (h : l[i]? = some y) (hj : i ≠ j) : (l.set j x)[i]? = some y := by rw [List.getElem?_set_ne (Ne.symm hj)]; exact h
theorem set_at {α : Type} {l : List α} {i : Nat} {x y : α} (h : l[i]? = some y) : (l.set i x)[i]? = some x := List.getElem?_set_self (List.getElem?_eq_some_iff.1 h).1
section
variable {d : Dk} {k j : Nat} {A : List UInt8} {s : Nat} {B : List UInt8} {t : Nat}
theorem Pre.num (h : Pre d k A s) : d.num logX = k := by simp [Dk.num, h.nk, h.nv, look_log]
theorem Pre.err (h : Pre d k A s) : d.err true [logX] = if d.off then 5 else 0 := by
  simp [Dk.err, may_log, h.nk, h.nv, look_log]
theorem Pre.append (h : Pre d k A s) {f : List UInt8} (hf : A.length + f.length ≤ 1048576) :
    (d.off = true → d.appendE logX f = 5 ∧ d.appendD logX f = d) ∧ (d.off = false → d.appendE logX f = 0 ∧ Pre (d.appendD logX f) k (A ++ f) s) := by
  have hu : d.used = A.length := by simp [Dk.used, h.nv, file_of h.fk]
  constructor
  · intro ho
    have e : d.appendE logX f = 5 := by unfold Dk.appendE; rw [h.err, ho]; simp
    exact ⟨e, by unfold Dk.appendD; rw [e]; simp⟩
  · intro ho
    have e : d.appendE logX f = 0 := by
      unfold Dk.appendE
      rw [h.err, ho, h.num, file_of h.fk, hu, h.q, if_neg (by simp), if_neg (by dsimp only; omega), if_neg (by omega)]
    refine ⟨e, ?_⟩
    unfold Dk.appendD
    rw [if_pos e, h.num, file_of h.fk]
    exact ⟨h.nk, h.nv, h.sk, h.sv, h.ch, set_at h.fk, by have := h.sl; rw [List.length_append]; omega, h.q⟩
theorem Pre.sync (h : Pre d k A s) : (d.off = true → d.err true [logX] = 5 ∧ d.syncD logX = d) ∧ (d.off = false → d.err true [logX] = 0 ∧ Pre (d.syncD logX) k A A.length) := by
  constructor
  · intro ho
    have e : d.err true [logX] = 5 := by rw [h.err, ho]; rfl
    exact ⟨e, by unfold Dk.syncD; rw [e]; simp⟩
  · intro ho
    have e : d.err true [logX] = 0 := by rw [h.err, ho]; rfl
    refine ⟨e, ?_⟩
    unfold Dk.syncD
    rw [if_pos e, h.num, file_of h.fk]
    exact ⟨h.nk, h.nv, h.sk, h.sv, h.ch, set_at h.fk, Nat.le_refl _, h.q⟩
theorem Pre.create (h : Pre d k A s) : (d.off = true → d.createE tmpN = 5 ∧ d.createD tmpN = d) ∧ (d.off = false → d.createE tmpN = 0 ∧ Mid (d.createD tmpN) k d.files.length A s [] 0) := by
  constructor
  · intro ho
    have e : d.createE tmpN = 5 := by unfold Dk.createE; rw [show d.err false [tmpN] = 5 by simp [Dk.err, ho]]; simp
    exact ⟨e, by unfold Dk.createD; rw [e]; simp⟩
  · intro ho
    have e : d.createE tmpN = 0 := by
      unfold Dk.createE
      rw [show d.err false [tmpN] = 0 by simp [Dk.err, ho, may_tmp], if_neg (by simp), if_neg (by rw [h.nk]; simp)]
    refine ⟨e, ?_⟩
    have hlt := (List.getElem?_eq_some_iff.1 h.fk).1
    have hk := kap_put2 (k : Int) (d.files.length : Int)
    unfold Dk.createD
    rw [if_pos e]
    refine ⟨?_, ?_, h.sk, h.sv, ?_, ?_, ?_, by omega, h.sl, Nat.le_refl _, h.q⟩
    · show (kapply d.nk d.nv noName tmpN _).1 = _
      rw [h.nk, h.nv, hk]
    · show (kapply d.nk d.nv noName tmpN _).2 = _
      rw [h.nk, h.nv, hk]
    · show d.ch ++ _ = _
      rw [h.ch]; rfl
    · show (d.files ++ _)[k]? = _
      rw [List.getElem?_append_left hlt]; exact h.fk
    · show (d.files ++ _)[d.files.length]? = _
      rw [List.getElem?_append_right (Nat.le_refl _)]; simp
theorem Mid.num (h : Mid d k j A s B t) : d.num tmpN = j := by simp [Dk.num, h.nk, h.nv, look2_tmp]
theorem Mid.err (h : Mid d k j A s B t) : d.err true [tmpN] = if d.off then 5 else 0 := by
  simp [Dk.err, may_tmp, h.nk, h.nv, look2_tmp]
theorem Mid.append (h : Mid d k j A s B t) {f : List UInt8} (hf : A.length + B.length + f.length ≤ 1048576) :
    (d.off = true → d.appendE tmpN f = 5 ∧ d.appendD tmpN f = d) ∧ (d.off = false → d.appendE tmpN f = 0 ∧ Mid (d.appendD tmpN f) k j A s (B ++ f) t) := by
  have hu : d.used = A.length + B.length := by simp [Dk.used, h.nv, file_of h.fk, file_of h.fj]
  constructor
  · intro ho
    have e : d.appendE tmpN f = 5 := by unfold Dk.appendE; rw [h.err, ho]; simp
    exact ⟨e, by unfold Dk.appendD; rw [e]; simp⟩
  · intro ho
    have e : d.appendE tmpN f = 0 := by
      unfold Dk.appendE
      rw [h.err, ho, h.num, file_of h.fj, hu, h.q, if_neg (by simp), if_neg (by dsimp only; omega), if_neg (by omega)]
    refine ⟨e, ?_⟩
    unfold Dk.appendD
    rw [if_pos e, h.num, file_of h.fj]
    exact ⟨h.nk, h.nv, h.sk, h.sv, h.ch, set_get h.fk h.ne, set_at h.fj, h.ne, h.sl, by have := h.tl; rw [List.length_append]; omega, h.q⟩
theorem Mid.sync (h : Mid d k j A s B t) : (d.off = true → d.err true [tmpN] = 5 ∧ d.syncD tmpN = d) ∧ (d.off = false → d.err true [tmpN] = 0 ∧ Mid (d.syncD tmpN) k j A s B B.length) := by
  constructor
  · intro ho
    have e : d.err true [tmpN] = 5 := by rw [h.err, ho]; rfl
    exact ⟨e, by unfold Dk.syncD; rw [e]; simp⟩
  · intro ho
    have e : d.err true [tmpN] = 0 := by rw [h.err, ho]; rfl
    refine ⟨e, ?_⟩
    unfold Dk.syncD
    rw [if_pos e, h.num, file_of h.fj]
    exact ⟨h.nk, h.nv, h.sk, h.sv, h.ch, set_get h.fk h.ne, set_at h.fj, h.ne, h.sl, Nat.le_refl _, h.q⟩
theorem Mid.rename (h : Mid d k j A s B B.length) : (d.off = true → d.err true [tmpN, logX] = 5 ∧ d.renameD tmpN logX = d) ∧ (d.off = false → d.err true [tmpN, logX] = 0 ∧ Ren (d.renameD tmpN logX) k j A s B) := by
  have he : d.err true [tmpN, logX] = if d.off then 5 else 0 := by simp [Dk.err, may_tmp, may_log, h.nk, h.nv, look2_tmp]
  constructor
  · intro ho
    have e : d.err true [tmpN, logX] = 5 := by rw [he, ho]; rfl
    exact ⟨e, by unfold Dk.renameD; rw [e]; simp⟩
  · intro ho
    have e : d.err true [tmpN, logX] = 0 := by rw [he, ho]; rfl
    refine ⟨e, ?_⟩
    have hk := kap_ren (k : Int) (j : Int)
    have hl : (look d.nk d.nv tmpN).getD 0 = (j : Int) := by rw [h.nk, h.nv, look2_tmp]; rfl
    unfold Dk.renameD
    rw [if_pos e, hl]
    refine ⟨?_, ?_, h.sk, h.sv, ?_, h.fk, h.fj, h.ne, h.sl, h.q⟩
    · show (kapply d.nk d.nv tmpN logX _).1 = _
      rw [h.nk, h.nv, hk]
    · show (kapply d.nk d.nv tmpN logX _).2 = _
      rw [h.nk, h.nv, hk]
    · show d.ch ++ _ = _
      rw [h.ch]; rfl
theorem Ren.syncDir (h : Ren d k j A s B) : (d.off = true → d.err false [] = 5 ∧ d.syncDirD = d) ∧ (d.off = false → d.err false [] = 0 ∧ Pre d.syncDirD j B B.length) := by
  constructor
  · intro ho
    exact ⟨by simp [Dk.err, ho], by unfold Dk.syncDirD; rw [if_pos ho]⟩
  · intro ho
    refine ⟨by simp [Dk.err, ho], ?_⟩
    unfold Dk.syncDirD
    rw [if_neg (by rw [ho]; simp)]
    exact ⟨h.nk, h.nv, h.nk, h.nv, rfl, h.fj, Nat.le_refl _, h.q⟩
end
end Go.Proofs.Ytoelkgbeefoplaa
namespace Go.Proofs.Ytoelkgbeefoplaa
open Go Go.Br Go.Proofs
open List (map)
def Fail (d : Dk) (k : Nat) (A : List UInt8) (s : Nat) (B : List UInt8) : Prop := d.off = true ∧ (Pre d k A s ∨ (∃ j B' t, Mid d k j A s B' t ∧ B'.length ≤ B.length) ∨ ∃ j, Ren d k j A s B)
theorem wrT_mid {d : Dk} {k j : Nat} {A : List UInt8} {s : Nat} {B : List UInt8} {t : Nat} (h : Mid d k j A s B t) :
    ((wrT tmpN logX d).1 = 0 ∧ Pre (wrT tmpN logX d).2 j B B.length) ∨ ((wrT tmpN logX d).1 = 5 ∧ Fail (wrT tmpN logX d).2 k A s B) := by
  have h1 := h.begun
  obtain ⟨s0, s1⟩ := h1.sync
  unfold wrT
  cases o1 : d.begun.off with
  | true =>
    obtain ⟨e1, e2⟩ := s0 o1
    rw [if_pos (by rw [e1]; simp), e1, e2]
    exact .inr ⟨rfl, o1, .inr (.inl ⟨j, B, t, h1, Nat.le_refl _⟩)⟩
  | false =>
    obtain ⟨e1, h2⟩ := s1 o1
    rw [if_neg (by rw [e1]; simp)]
    have h3 := h2.begun
    obtain ⟨r0, r1⟩ := h3.rename
    cases o2 : (d.begun.syncD tmpN).begun.off with
    | true =>
      obtain ⟨e3, e4⟩ := r0 o2
      rw [if_pos (by rw [e3]; simp), e3, e4]
      exact .inr ⟨rfl, o2, .inr (.inl ⟨j, B, _, h3, Nat.le_refl _⟩)⟩
    | false =>
      obtain ⟨e3, h4⟩ := r1 o2
      rw [if_neg (by rw [e3]; simp)]
      have h5 := h4.begun
      obtain ⟨y0, y1⟩ := h5.syncDir
      cases o3 : ((d.begun.syncD tmpN).begun.renameD tmpN logX).begun.off with
      | true =>
        obtain ⟨e5, e6⟩ := y0 o3
        rw [e5, e6]
        exact .inr ⟨rfl, o3, .inr (.inr ⟨j, h5⟩)⟩
      | false =>
        obtain ⟨e5, h6⟩ := y1 o3
        exact .inl ⟨e5, h6⟩
theorem wrG_mid {k j : Nat} {A : List UInt8} {s : Nat} : ∀ (fs : List (List UInt8)) (d : Dk) (B : List UInt8) (t : Nat), Mid d k j A s B t → A.length + B.length + fs.flatten.length ≤ 1048576 →
    ((wrG tmpN logX fs d).1 = 0 ∧ (wrG tmpN logX fs d).2.1 = 0 ∧ ∃ j', Pre (wrG tmpN logX fs d).2.2 j' (B ++ fs.flatten) (B ++ fs.flatten).length) ∨
    ((wrG tmpN logX fs d).1 = 5 ∧ (wrG tmpN logX fs d).2.1 = 5 ∧ Fail (wrG tmpN logX fs d).2.2 k A s (B ++ fs.flatten))
  | [], d, B, t, h, _ => by
    rw [List.flatten_nil, List.append_nil]
    rcases wrT_mid h with ⟨h1, h2⟩ | ⟨h1, h2⟩
    · exact .inl ⟨h1, h1, j, h2⟩
    · exact .inr ⟨h1, h1, h2⟩
  | f :: fs, d, B, t, h, hl => by
    simp only [List.flatten_cons, List.length_append] at hl
    have h1 := h.begun
    obtain ⟨a0, a1⟩ := h1.append (f := f) (by omega)
    cases o : d.begun.off with
    | true =>
      obtain ⟨e1, e2⟩ := a0 o
      have e : wrG tmpN logX (f :: fs) d = (5, 5, d.begun) := by simp only [wrG]; rw [e1, e2]; simp
      rw [e]
      exact .inr ⟨rfl, rfl, o, .inr (.inl ⟨j, B, t, h1, by simp⟩)⟩
    | false =>
      obtain ⟨e1, h2⟩ := a1 o
      have e : wrG tmpN logX (f :: fs) d = wrG tmpN logX fs (d.begun.appendD tmpN f) := by simp only [wrG]; rw [e1]; simp
      rw [e, List.flatten_cons, ← List.append_assoc]
      exact wrG_mid fs _ _ t h2 (by rw [List.length_append]; omega)
theorem writeR_pre {d : Dk} {k : Nat} {A : List UInt8} {s : Nat} (h : Pre d k A s) (fs : List (List UInt8)) (hl : A.length + fs.flatten.length ≤ 1048576) :
    ((writeR logX fs d).1 = 0 ∧ (writeR logX fs d).2.1 = 0 ∧ ∃ j, Pre (writeR logX fs d).2.2 j fs.flatten fs.flatten.length) ∨
    ((writeR logX fs d).1 = 5 ∧ (writeR logX fs d).2.1 = 5 ∧ Fail (writeR logX fs d).2.2 k A s fs.flatten) := by
  have h1 := h.begun
  obtain ⟨c0, c1⟩ := h1.create
  unfold writeR
  rw [logX_tmp]
  cases o : d.begun.off with
  | true =>
    obtain ⟨e1, e2⟩ := c0 o
    rw [if_pos (by rw [e1]; simp), e1, e2]
    exact .inr ⟨rfl, rfl, o, .inl h1⟩
  | false =>
    obtain ⟨e1, h2⟩ := c1 o
    rw [if_neg (by rw [e1]; simp)]
    have := wrG_mid fs _ _ _ h2 (by simpa using hl)
    rw [List.nil_append] at this
    exact this
def Behind (d : Dk) (X : List UInt8) : Prop :=
  (∃ k : Nat, Lone d k X ∧ d.sk = [logX] ∧ d.sv = [(k : Int)] ∧ d.ch = [] ∧ d.quota = 1048576) ∨
  (∃ (k j : Nat) (Y : List UInt8), Twin d k j X Y ∧ Y.length ≤ 400000 ∧ d.sk = [logX, tmpN] ∧ d.sv = [(k : Int), (j : Int)] ∧ d.ch = [] ∧ d.quota = 1048576)
theorem names_nil {d : Dk} (h : d.ch = []) (dir : Int) : d.names dir = (d.sk, d.sv) := by
  unfold Dk.names; rw [h]; simp [kfold]
theorem crash_pre {d : Dk} {k : Nat} {A : List UInt8} {s : Nat} (h : Pre d k A s) (dir : Int) (keep : List Int) : ∃ n, s ≤ n ∧ n ≤ A.length ∧ Behind (d.crash dir keep) (A.take n) := by
  have hle := leftOf_le (f := (A, s)) h.sl k keep
  obtain ⟨k', h1, _, h3, h4, h5, h6⟩ := crash_lone (keep := keep) (by rw [names_nil h.ch dir, h.sk, h.sv]) h.fk
  exact ⟨leftOf (A, s) k keep, hle.1, hle.2, .inl ⟨k', h1, h3, h4, h5, h6.trans h.q⟩⟩
theorem kf1 (k j : Int) : kfold [(noName, tmpN, j)] ([logX], [k]) = ([logX, tmpN], [k, j]) := by kernel_rfl
theorem kf2 (k j : Int) : kfold [(noName, tmpN, j), (tmpN, logX, j)] ([logX], [k]) = ([logX], [j]) := by kernel_rfl
theorem crash_mid {d : Dk} {k j : Nat} {A : List UInt8} {s : Nat} {B : List UInt8} {t : Nat} (h : Mid d k j A s B t) (hB : B.length ≤ 400000) (dir : Int) (keep : List Int) : ∃ n, s ≤ n ∧ n ≤ A.length ∧ Behind (d.crash dir keep) (A.take n) := by
  have hle := leftOf_le (f := (A, s)) h.sl k keep
  refine ⟨leftOf (A, s) k keep, hle.1, hle.2, ?_⟩
  by_cases hd : dir ≤ 0
  · have hn : d.names dir = ([logX], [(k : Int)]) := by
      unfold Dk.names
      rw [h.ch, h.sk, h.sv, show (min dir (([(noName, tmpN, (j : Int))] : List (ByteArray × ByteArray × Int)).length : Int)).toNat = 0 by simp; omega]
      rfl
    obtain ⟨k', h1, _, h3, h4, h5, h6⟩ := crash_lone (keep := keep) hn h.fk
    exact .inl ⟨k', h1, h3, h4, h5, h6.trans h.q⟩
  · have hn : d.names dir = ([logX, tmpN], [(k : Int), (j : Int)]) := by
      unfold Dk.names
      rw [h.ch, h.sk, h.sv, show (min dir (([(noName, tmpN, (j : Int))] : List (ByteArray × ByteArray × Int)).length : Int)).toNat = 1 by simp; omega]
      exact kf1 k j
    obtain ⟨k', j', h1, _, h3, h4, h5, h6⟩ := crash_twin (keep := keep) hn h.fk h.fj h.ne
    exact .inr ⟨k', j', _, h1, by simp only [List.length_take]; omega, h3, h4, h5, h6.trans h.q⟩
theorem leftOf_full {B : List UInt8} {k : Nat} {keep : List Int} : leftOf (B, B.length) k keep = B.length := by
  have := leftOf_le (f := (B, B.length)) (Nat.le_refl _) k keep
  dsimp only at this; omega
theorem crash_ren {d : Dk} {k j : Nat} {A : List UInt8} {s : Nat} {B : List UInt8} (h : Ren d k j A s B) (hB : B.length ≤ 400000) (dir : Int) (keep : List Int) : (∃ n, s ≤ n ∧ n ≤ A.length ∧ Behind (d.crash dir keep) (A.take n)) ∨ Behind (d.crash dir keep) B := by
  have hle := leftOf_le (f := (A, s)) h.sl k keep
  by_cases hd : dir ≤ 0
  · have hn : d.names dir = ([logX], [(k : Int)]) := by
      unfold Dk.names
      rw [h.ch, h.sk, h.sv, show (min dir (([(noName, tmpN, (j : Int)), (tmpN, logX, (j : Int))] : List (ByteArray × ByteArray × Int)).length : Int)).toNat = 0 by simp; omega]
      rfl
    obtain ⟨k', h1, _, h3, h4, h5, h6⟩ := crash_lone (keep := keep) hn h.fk
    exact .inl ⟨_, hle.1, hle.2, .inl ⟨k', h1, h3, h4, h5, h6.trans h.q⟩⟩
  · by_cases hd2 : dir = 1
    · have hn : d.names dir = ([logX, tmpN], [(k : Int), (j : Int)]) := by
        unfold Dk.names
        rw [h.ch, h.sk, h.sv, show (min dir (([(noName, tmpN, (j : Int)), (tmpN, logX, (j : Int))] : List (ByteArray × ByteArray × Int)).length : Int)).toNat = 1 by simp; omega]
        exact kf1 k j
      obtain ⟨k', j', h1, _, h3, h4, h5, h6⟩ := crash_twin (keep := keep) hn h.fk h.fj h.ne
      exact .inl ⟨_, hle.1, hle.2, .inr ⟨k', j', _, h1, by simp only [List.length_take]; omega, h3, h4, h5, h6.trans h.q⟩⟩
    · have hn : d.names dir = ([logX], [(j : Int)]) := by
        unfold Dk.names
        rw [h.ch, h.sk, h.sv, show (min dir (([(noName, tmpN, (j : Int)), (tmpN, logX, (j : Int))] : List (ByteArray × ByteArray × Int)).length : Int)).toNat = 2 by simp; omega]
        exact kf2 k j
      obtain ⟨k', h1, _, h3, h4, h5, h6⟩ := crash_lone (keep := keep) hn h.fj
      rw [leftOf_full, List.take_length] at h1
      exact .inr (.inl ⟨k', h1, h3, h4, h5, h6.trans h.q⟩)
theorem crash_fail {d : Dk} {k : Nat} {A : List UInt8} {s : Nat} {B : List UInt8} (h : Fail d k A s B) (hB : B.length ≤ 400000) (dir : Int) (keep : List Int) : (∃ n, s ≤ n ∧ n ≤ A.length ∧ Behind (d.crash dir keep) (A.take n)) ∨ Behind (d.crash dir keep) B := by
  rcases h.2 with h1 | ⟨j, B', t, h1, h2⟩ | ⟨j, h1⟩
  · exact .inl (crash_pre h1 dir keep)
  · exact .inl (crash_mid h1 (by omega) dir keep)
  · exact crash_ren h1 hB dir keep
end Go.Proofs.Ytoelkgbeefoplaa
namespace Go.Proofs.Ytoelkgbeefoplaa
open Go Go.Br Go.Proofs
open List (map)
theorem Behind.file {d : Dk} {X : List UInt8} (h : Behind d X) : d.On ∧ (look d.nk d.nv logX).isSome = true ∧ (d.file (d.num logX)).1 = X ∧ d.quota = 1048576 := by
  rcases h with ⟨k, h1, _, _, _, h5⟩ | ⟨k, j, Y, h1, _, _, _, _, h5⟩
  · exact ⟨h1.on, by rw [h1.nk, h1.nv, look_log]; rfl, by rw [h1.num, h1.data], h5⟩
  · have e : d.num logX = k := by simp [Dk.num, h1.nk, h1.nv, look2_log]
    exact ⟨h1.on, by rw [h1.nk, h1.nv, look2_log]; rfl, by rw [e, h1.dk], h5⟩
theorem wrT_sure {t x : ByteArray} {d : Dk} (h : (wrT t x d).1 = 0) : (wrT t x d).2.sk = (wrT t x d).2.nk ∧ (wrT t x d).2.sv = (wrT t x d).2.nv ∧ (wrT t x d).2.ch = [] := by
  unfold wrT at h ⊢
  split at h
  · rename_i h1; exact absurd h h1
  · rename_i h1
    rw [if_neg h1]
    split at h
    · rename_i h2; exact absurd h h2
    · rename_i h2
      rw [if_neg h2]
      generalize ((d.begun.syncD t).begun.renameD t x).begun = e at h
      have ho : e.off = false := by
        cases ho : e.off with
        | false => rfl
        | true => simp [Dk.err, ho] at h
      unfold Dk.syncDirD
      rw [if_neg (by rw [ho]; simp)]
      exact ⟨rfl, rfl, rfl⟩
theorem wrG_sure {t x : ByteArray} : ∀ (fs : List (List UInt8)) {d : Dk}, (wrG t x fs d).1 = 0 → (wrG t x fs d).2.2.sk = (wrG t x fs d).2.2.nk ∧ (wrG t x fs d).2.2.sv = (wrG t x fs d).2.2.nv ∧ (wrG t x fs d).2.2.ch = []
  | [], d, h => wrT_sure h
  | f :: fs, d, h => by
    simp only [wrG] at h ⊢
    split at h
    · rename_i h1
      split at h
      · rename_i h2; exact absurd h h2
      · cases h
    · rename_i h1
      rw [if_neg h1]
      split at h
      · rename_i h2; exact absurd h h2
      · rename_i h2
        rw [if_neg h2]
        exact wrG_sure fs h
theorem writeR_sure {x : ByteArray} {fs : List (List UInt8)} {d : Dk} (h : (writeR x fs d).1 = 0) : (writeR x fs d).2.2.sk = (writeR x fs d).2.2.nk ∧ (writeR x fs d).2.2.sv = (writeR x fs d).2.2.nv ∧ (writeR x fs d).2.2.ch = [] := by
  unfold writeR at h ⊢
  split at h
  · rename_i h1; exact absurd h h1
  · rename_i h1
    rw [if_neg h1]
    exact wrG_sure fs h
theorem kap_put3 (k j i : Int) : kapply [logX, tmpN] [k, j] noName tmpN i = ([logX, tmpN], [k, i]) := by kernel_rfl
theorem Twin.create {d : Dk} {k j : Nat} {A B : List UInt8} (h : Twin d k j A B) : d.createE tmpN = 0 ∧ Twin (d.createD tmpN) k d.files.length A [] ∧ (d.createD tmpN).quota = d.quota := by
  have e : d.createE tmpN = 0 := by
    unfold Dk.createE
    have h1 : d.err false [tmpN] = 0 := by simp [Dk.err, h.on.off, may_tmp]
    rw [h1, if_neg (by simp), if_neg (by rw [h.nk]; simp)]
  refine ⟨e, ?_, ?_⟩
  · unfold Dk.createD
    rw [if_pos e]
    have hk := kap_put3 (k : Int) (j : Int) (d.files.length : Int)
    refine ⟨⟨h.on.off, h.on.stop⟩, ?_, ?_, ?_, ?_, ?_, ?_, ?_⟩
    · show (kapply d.nk d.nv noName tmpN _).1 = _
      rw [h.nk, h.nv, hk]
    · show (kapply d.nk d.nv noName tmpN _).2 = _
      rw [h.nk, h.nv, hk]
    · show k < (d.files ++ [([], 0)]).length
      have := h.lk; simp; omega
    · show d.files.length < (d.files ++ [([], 0)]).length
      simp
    · have := h.lk; omega
    · rw [file_app (d := d) (f := ([], 0)) rfl h.lk, h.dk]
    · simp [Dk.file, Dk.turn]
  · unfold Dk.createD
    rw [if_pos e]; rfl
theorem Behind.write {d : Dk} {X : List UInt8} (h : Behind d X) (fs : List (List UInt8)) (hl : X.length + fs.flatten.length ≤ 1048576) :
    (writeR logX fs d).1 = 0 ∧ (writeR logX fs d).2.1 = 0 ∧ Behind (writeR logX fs d).2.2 fs.flatten := by
  have key : ∀ (k i : Nat), d.begun.createE tmpN = 0 → Twin (d.begun.createD tmpN) k i X [] → (d.begun.createD tmpN).quota = 1048576 →
      (writeR logX fs d).1 = 0 ∧ (writeR logX fs d).2.1 = 0 ∧ (writeR logX fs d).2.2.quota = 1048576 ∧ Lone (writeR logX fs d).2.2 i fs.flatten := by
    intro k i e h2 q2
    have hw : writeR logX fs d = wrG tmpN logX fs (d.begun.createD tmpN) := by
      unfold writeR
      rw [logX_tmp, e]; simp
    rw [hw]
    rcases wrG_twin fs _ _ h2 (by rw [List.length_nil]; omega) with ⟨i1, i2, i3⟩ | i4
    · rw [q2, if_pos (by rw [List.length_nil]; omega), List.nil_append] at i3
      exact ⟨i3.1, i1, i2.trans q2, i3.2⟩
    · rw [q2, List.length_nil] at i4
      omega
  have fin : ∀ (k i : Nat), d.begun.createE tmpN = 0 → Twin (d.begun.createD tmpN) k i X [] → (d.begun.createD tmpN).quota = 1048576 →
      (writeR logX fs d).1 = 0 ∧ (writeR logX fs d).2.1 = 0 ∧ Behind (writeR logX fs d).2.2 fs.flatten := by
    intro k i e h2 q2
    obtain ⟨r1, r2, r3, r4⟩ := key k i e h2 q2
    obtain ⟨s1, s2, s3⟩ := writeR_sure r1
    exact ⟨r1, r2, .inl ⟨i, r4, by rw [s1, r4.nk], by rw [s2, r4.nv], s3, r3⟩⟩
  rcases h with ⟨k, h1, _, _, _, h5⟩ | ⟨k, j, Y, h1, _, _, _, _, h5⟩
  · obtain ⟨e, h2, q2⟩ := h1.begun.create
    exact fin k _ e h2 (by rw [q2, begun_quota, h5])
  · obtain ⟨e, h2, q2⟩ := h1.begun.create
    exact fin k _ e h2 (by rw [q2, begun_quota, h5])
end Go.Proofs.Ytoelkgbeefoplaa
namespace Go.Proofs.Ytoelkgbeefoplaa
open Go Go.Br Go.Proofs
open List (map)
theorem spec_51r (d : Dk) (N : Nat) (h : d.Ok N) (x : ByteArray) (hx : x.size < 1000) (hm1 : mayName x = true) (hm2 : mayName (x ++ tmpX) = true) (ho : d.off = false) (hl : (look d.nk d.nv x).isSome = true) (rs : List (List UInt8)) (hp : parsed (d.file (d.num x)).1 = rs) (hg : good rs < (d.file (d.num x)).1.length)
    (hrs : ∀ r ∈ rs, r.length ≤ 65536) (hrl : rs.length < 10000) (hN : N + rs.length + 20 ≤ 50000) (he : (writeR x (rs.map frame) d).1 = 0) (hb : (writeR x (rs.map frame) d).2.1 = 0) :
    CallsA Try.prog 51 [.ptr 0 0 0, .d (.str x)] (SD d false) fun r σ' => r = .ret (.tuple [.ptr 6 0 0, .d (.list 1 (rs.map bsD)), .d (.int .i64 0)]) ∧ σ' = SD (writeR x (rs.map frame) d).2.2 true ++ [.cells [.d (.int .i64 (rs.length : Nat)), .d (.int .i64 (good rs : Nat)), .d (.int .i64 0), .ptr 0 0 0, .d (.str x)]] := by
  refine CallsA.start F51 (tm := mk (Try.f51.ntmps) [(0, .ptr 0 0 0), (1, .d (.str x))]) (by kernel_rfl) ?_
  have hs : (⟨#[46, 116, 109, 112]⟩ : ByteArray).size = 4 := rfl
  have hx1 : (x ++ (⟨#[46, 116, 109, 112]⟩ : ByteArray)).size = x.size + 4 := by simp [hs]
  have hm3 : mayName (x ++ (⟨#[46, 116, 109, 112]⟩ : ByteArray)) = true := hm2
  have hf : (d.file (d.num x)).1.length ≤ 1048576 := (h.fs _ (Dk.file_mem (Dk.num_lt h hl))).2
  have hf2 : (d.file (d.num x)).1.length ≤ 1099511627776 := by omega
  subst hp
  refine .sg0 10 [0, 1, 4, 5, 6, 14] (cgo 10 [] [.code B51]) [(4, .d (.raw (Value.pointer none))), (5, .nils), (6, .d (.int .i64 0)), (14, .d (.str x))] ?_
  refine .semH (o := (opOf (cgo 10 [] [Item.code B51])).getD default) (v := .d (.bool (mayName x))) (by kernel_rfl) (by kernel_rfl) (T' := cgo 11 [] [Item.code B51]) (by kernel_rfl) (fun kz => sem_data0 (x := (.func 28)) (args := #[(.tmp 14)]) (ts := #[9]) (first := []) (cap := []) (ds := [.d (.str x)]) (v := .d (.bool (mayName x))) F28 (@spec_28 (x) (by omega)) (by kernel_rfl) (by kernel_rfl) (by kernel_rfl) (by kernel_rfl) (by kernel_rfl) (by kernel_rfl) _) ?_
  refine .sg0 2 [0, 1, 4, 5, 6, 14, 15, 16, 17] (cgo 13 [] [.code B51]) [(16, .d (.bool !mayName x)), (17, .d (.bool !mayName x))] ?_
  rcases Bool.eq_false_or_eq_true (!mayName x) with h1 | h1
  · rw [h1]
    simp only [bsX] at h1
    simp_all
  · rw [h1]
    simp only [bsX] at h1
    refine .sg0 1 [0, 1, 4, 5, 6, 14, 15, 16, 17, 18] (cgo 14 [] [.code B51]) [(18, .d (.str x))] ?_
    refine .op' (cgo 15 [] [.code B51]) (cat_ok (t := 9) (ty := 9) (x := (.tmp 18)) (y := (.const (Value.string (ByteArray.mk #[46, 116, 109, 112])))) (s := x) (u := ByteArray.mk #[46, 116, 109, 112]) (by kernel_rfl) (by kernel_rfl) (by kernel_rfl) (by omega)) ?_
    refine .semH (o := (opOf (cgo 15 [] [Item.code B51])).getD default) (v := .d (.bool (mayName (x ++ ByteArray.mk #[46, 116, 109, 112])))) (by kernel_rfl) (by kernel_rfl) (T' := cgo 16 [] [Item.code B51]) (by kernel_rfl) (fun kz => sem_data0 (x := (.func 28)) (args := #[(.tmp 19)]) (ts := #[9]) (first := []) (cap := []) (ds := [.d (.str (x ++ ByteArray.mk #[46, 116, 109, 112]))]) (v := .d (.bool (mayName (x ++ ByteArray.mk #[46, 116, 109, 112])))) F28 (@spec_28 (x ++ ByteArray.mk #[46, 116, 109, 112]) (by omega)) (by kernel_rfl) (by kernel_rfl) (by kernel_rfl) (by kernel_rfl) (by kernel_rfl) (by kernel_rfl) _) ?_
    refine .sg0 3 [0, 1, 4, 5, 6, 22] (cgo 19 [] [.code B51]) [(22, .d (.bool !mayName (x ++ ByteArray.mk #[46, 116, 109, 112])))] ?_
    refine .if' (!mayName (x ++ ByteArray.mk #[46, 116, 109, 112])) (cgo 20 [true] [.code B51]) (cgo 20 [false] [.code B51]) (fun h2 => ?_) (fun h2 => ?_)
    · simp only [bsX] at h2
      simp_all
    · simp only [bsX] at h2
      refine .sg0 5 [0, 1, 4, 5, 6, 23] (cgo 25 [false] [.code B51]) [(23, .ptr 0 0 0)] ?_
      refine .ca [0, 1, 2, 3, 4, 5] (cgo 26 [false] [.code B51]) F41 (@spec_41 (d)) ?_
      rintro r2 s2 ⟨rfl, rfl⟩
      refine ⟨_, rfl, ?_⟩
      refine .sg0 1 [0, 1, 4, 5, 6, 24] (cgo 27 [false] [.code B51]) [] ?_
      refine .if' (d.off) (cgo 28 [false, true] [.code B51]) (cgo 28 [false, false] [.code B51]) (fun h4 => ?_) (fun h4 => ?_)
      · simp_all
      · refine .sg 13 [0, 1, 4, 5, 6, 7, 30, 31] (cgo 41 [false, false] [.code B51]) [(7, .ptr 6 0 0), (30, .ptr 0 0 0), (31, .d (.str x))] [(6, .cells [.d (.int .i64 0), .d (.int .i64 0), .d (.int .i64 0), .ptr 0 0 0, .d (.str x)])] ?_
        refine .ca [0, 1, 2, 3, 4, 5] (cgo 42 [false, false] [.code B51]) F27 (@spec_27a (d) (N) (by assumption) (x) (by assumption)) ?_
        rintro r4 s4 ⟨rfl, rfl⟩
        refine ⟨_, rfl, ?_⟩
        refine .sg0 17 [4, 5, 6, 7, 8, 44] (cgo 59 [false, false, false] [.code B51]) [(8, .d (.list 1 (map u8 (d.file (d.num x)).fst))), (44, .d (.list 1 (map u8 (d.file (d.num x)).fst)))] ?_
        refine .semH (o := (opOf (cgo 59 [false, false, false] [Item.code B51])).getD default) (v := .tuple [.d (.list 1 (map bsD (parsed (d.file (d.num x)).fst))), .d (.int .i64 (↑(good (parsed (d.file (d.num x)).fst)) : Int))]) (by kernel_rfl) (by kernel_rfl) (T' := cgo 60 [false, false, false] [Item.code B51]) (by kernel_rfl) (fun kz => sem_data0 (x := (.func 17)) (args := #[(.tmp 44)]) (ts := #[22]) (first := []) (cap := []) (ds := [.d (.list 1 (map u8 (d.file (d.num x)).fst))]) (v := .tuple [.d (.list 1 (map bsD (parsed (d.file (d.num x)).fst))), .d (.int .i64 (↑(good (parsed (d.file (d.num x)).fst)) : Int))]) F17 (@spec_17 ((d.file (d.num x)).fst) (by assumption)) (by kernel_rfl) (by kernel_rfl) (by kernel_rfl) (by kernel_rfl) (by kernel_rfl) (by kernel_rfl) _) ?_
        refine .sg0 14 [4, 5, 6, 7, 11, 12, 51] (cgo 74 [false, false, false] [.code B51]) [(11, .d (.list 1 (map bsD (parsed (d.file (d.num x)).fst)))), (12, .d (.int .i64 (↑(good (parsed (d.file (d.num x)).fst)) : Int))), (51, .d (.bool (decide ((↑(good (parsed (d.file (d.num x)).fst)) : Int) < (↑(map u8 (d.file (d.num x)).fst).length : Int)))))] ?_
        simp only [List.length_map]
        refine .if' (decide ((↑(good (parsed (d.file (d.num x)).fst)) : Int) < (↑(d.file (d.num x)).fst.length : Int))) (cgo 75 [false, false, false, true] [.code B51]) (cgo 75 [false, false, false, false] [.code B51]) (fun h6 => ?_) (fun h6 => ?_)
        · simp only [bsX] at h6
          refine .sg0 4 [4, 5, 6, 7, 11, 12, 52, 53] (cgo 79 [false, false, false, true] [.code B51]) [(52, .ptr 6 0 0), (53, .d (.list 1 (map bsD (parsed (d.file (d.num x)).fst))))] ?_
          refine .ca [6, 0, 1, 2, 3, 4, 5] (cgo 80 [false, false, false, true] [.code B51]) F54 (@spec_54a (0) (0) (x) (d) (N) (by assumption) (parsed (d.file (d.num x)).fst) (by assumption) (by assumption) (by assumption) (by assumption) (by assumption) (by assumption)) ?_
          rintro r6 s6 ⟨rfl, rfl⟩
          refine ⟨_, rfl, ?_⟩
          refine .seg 33 [4, 5, 6] (T' := cgo 113 [false, false, false, true, false] [.code B51]) (tm' := mk 71 [(4, .ptr 6 0 0), (5, .d (.list 1 (map bsD (parsed (d.file (d.num x)).fst)))), (6, .d (.int .i64 0))]) (σ' := [.cells [.row 1, .ptr 2 0 0, .ep 2 (D.agg [D.list 1 (map strD (writeR x (map frame (parsed (d.file (d.num x)).fst)) d).snd.snd.sk), D.list 1 (map intD (writeR x (map frame (parsed (d.file (d.num x)).fst)) d).snd.snd.sv)]) 0, .row 5, .d (.int .i64 (writeR x (map frame (parsed (d.file (d.num x)).fst)) d).snd.snd.quota), .d (.bool (writeR x (map frame (parsed (d.file (d.num x)).fst)) d).snd.snd.full), .d (.bool (writeR x (map frame (parsed (d.file (d.num x)).fst)) d).snd.snd.off), .d (.int .i64 (writeR x (map frame (parsed (d.file (d.num x)).fst)) d).snd.snd.stop), .d (.int .i64 (writeR x (map frame (parsed (d.file (d.num x)).fst)) d).snd.snd.calls)], .row 2 (map fileD (writeR x (map frame (parsed (d.file (d.num x)).fst)) d).snd.snd.files) true, .cells [.row 3, .row 4], .row 1 (map strD (writeR x (map frame (parsed (d.file (d.num x)).fst)) d).snd.snd.nk) true, .row 1 (map intD (writeR x (map frame (parsed (d.file (d.num x)).fst)) d).snd.snd.nv) true, .row 3 (map chD (writeR x (map frame (parsed (d.file (d.num x)).fst)) d).snd.snd.ch) true, .cells [.d (.int .i64 (↑(map bsD (parsed (d.file (d.num x)).fst)).length : Int)), .d (.int .i64 (↑(good (parsed (d.file (d.num x)).fst)) : Int)), .d (.int .i64 0), .ptr 0 0 0, .d (.str x)]]) (by kernel_rfl) ?_
          simp only [List.length_map]
          refine .retH F51 (v := V.tuple [V.ptr 6 0 0, V.d (D.list 1 (map bsD (parsed (d.file (d.num x)).fst))), V.d (D.int IntKind.i64 0)]) (by kernel_rfl) (by kernel_rfl) ?_
          exact ⟨rfl, rfl⟩
        · simp only [bsX] at h6
          omega
end Go.Proofs.Ytoelkgbeefoplaa
namespace Go.Proofs.Ytoelkgbeefoplaa
open Go Go.Br Go.Proofs
open List (map)
theorem spec_53a (c s : Int) (x : ByteArray) (d : Dk) (N : Nat) (h : d.Ok N) (hN : N + 5 ≤ 50000) (hx : x.size < 1000000000) (he : d.begun.err true [x] = 0) :
    CallsA Try.prog 53 [.ptr 0 0 0] (SL c s 0 x d false) fun r σ' => r = .ret (.d (.int .i64 0)) ∧ σ' = SL c s 0 x (d.begun.syncD x) true := by
  have h1 := spec_53 c s x d N h hN hx
  rw [he] at h1
  exact h1
theorem Lone.sync {d : Dk} {k : Nat} {A : List UInt8} (h : Lone d k A) : d.begun.err true [logX] = 0 ∧ Lone (d.begun.syncD logX) k A ∧ (d.begun.syncD logX).quota = d.quota := by
  have h1 := h.begun
  refine ⟨h1.err, ?_, ?_⟩
  · unfold Dk.syncD
    rw [if_pos h1.err, h1.num]
    refine ⟨⟨h1.on.off, h1.on.stop⟩, h1.nk, h1.nv, by simpa using h1.lt, ?_⟩
    rw [file_set (d := d.begun) rfl h1.lt, if_pos rfl, h1.data]
  · unfold Dk.syncD
    rw [if_pos h1.err, ← begun_quota d]
end Go.Proofs.Ytoelkgbeefoplaa
namespace Go.Proofs.Ytoelkgbeefoplaa
open Go Go.Br Go.Proofs Go.ChangeShapes Go.WideShapes Go.ChangeAt Go.RowKit
set_option maxRecDepth 100000
theorem rd_3 {n : Nat} {x : D} (h : WtE Try.prog n 3 x) : ∃ a : Int, x = .int .i64 a ∧ -9223372036854775808 ≤ a ∧ a < 9223372036854775808 := by
  obtain ⟨a, rfl, h1, h2⟩ := h.int (show Try.prog.underlying 3 = some (.int .i64) by kernel_rfl)
  simp [IntKind.min, IntKind.max, IntKind.bits, IntKind.signed] at h1 h2
  exact ⟨a, rfl, by omega, by omega⟩
theorem rd_46 {n : Nat} {x : D} (h : WtE Try.prog n 46 x) : ∃ l : List Int, x = .list 1 (l.map intD) ∧ l.length ≤ maxLen ∧ ∀ v ∈ l, -9223372036854775808 ≤ v ∧ v < 9223372036854775808 := by
  obtain ⟨l, rfl, h1, h2⟩ := WtE.slice_map (P := Try.prog) (e := 3) (t := 46) intD (fun v => -9223372036854775808 ≤ v ∧ v < 9223372036854775808) h (show Try.prog.underlying 46 = some (.slice 3) by kernel_rfl) fun y hy => rd_3 hy
  exact ⟨l, by rw [show Try.prog.cellsOf 3 = 1 by kernel_rfl], h1, h2⟩
theorem rd_48 {n : Nat} {x : D} (h : WtE Try.prog n 48 x) : ∃ a : Int × List Int, x = .agg [.int .i64 a.1, .list 1 (a.2.map intD)] ∧ (-9223372036854775808 ≤ a.1 ∧ a.1 < 9223372036854775808) ∧ a.2.length ≤ maxLen ∧ ∀ v ∈ a.2, -9223372036854775808 ≤ v ∧ v < 9223372036854775808 := by
  have hu : ∃ fs, Try.prog.underlying 48 = some (.struct fs) ∧ fs.toList.map (fun f => (f.type, f.offset)) = [(3, 0), (46, 1)] := ⟨_, rfl, by kernel_rfl⟩
  obtain ⟨fs, hu, hf⟩ := hu
  obtain ⟨cs, rfl, hl, hc⟩ := h.struct hu
  obtain ⟨f0, fs', hfs, h0, hf⟩ := List.map_eq_cons_iff.1 hf
  obtain ⟨f1, fs'', rfl, h1, -⟩ := List.map_eq_cons_iff.1 hf
  have c0 := hc f0 (by rw [hfs]; simp)
  have c1 := hc f1 (by rw [hfs]; simp)
  simp only [Prod.mk.injEq] at h0 h1
  rw [h0.1, h0.2, show Try.prog.cellsOf 3 = 1 by kernel_rfl] at c0
  rw [h1.1, h1.2, show Try.prog.cellsOf 46 = 1 by kernel_rfl] at c1
  rw [show Try.prog.cellsOf 48 = 2 by kernel_rfl] at hl
  obtain ⟨x0, e0, w0⟩ := c0.one (by kernel_rfl)
  obtain ⟨x1, e1, w1⟩ := c1.one (by kernel_rfl)
  match cs, hl with
  | [y0, y1], _ =>
    simp only [List.drop_zero, List.take_succ_cons, List.take_zero, List.drop_succ_cons, List.cons.injEq, and_true] at e0 e1
    subst e0 e1
    obtain ⟨a, rfl, ha⟩ := rd_3 w0
    obtain ⟨l, rfl, hl⟩ := rd_46 w1
    exact ⟨(a, l), rfl, ha, hl⟩
end Go.Proofs.Ytoelkgbeefoplaa
namespace Go.Proofs.Ytoelkgbeefoplaa
open Go Go.Br Go.Proofs
open List (map)
structure LOp where
  kind : Nat
  b : List UInt8
  n : Nat
def lopD (o : LOp) : D := .agg [.int .u64 o.kind, bsD o.b, .int .u64 o.n]
def LOp.fits (o : LOp) : Prop := o.kind < 18446744073709551616 ∧ o.b.length ≤ maxLen ∧ o.n < 18446744073709551616
set_option maxRecDepth 100000 in
theorem rd_94 {n : Nat} {x : D} (h : WtE Try.prog n 94 x) : ∃ o : LOp, x = lopD o ∧ o.fits := by
  have hu : ∃ fs, Try.prog.underlying 94 = some (.struct fs) ∧ fs.toList.map (fun f => (f.type, f.offset)) = [(33, 0), (22, 1), (33, 2)] := ⟨_, rfl, by kernel_rfl⟩
  obtain ⟨fs, hu, hf⟩ := hu
  obtain ⟨cs, rfl, hl, hc⟩ := h.struct hu
  obtain ⟨f0, fs', hfs, h0, hf⟩ := List.map_eq_cons_iff.1 hf
  obtain ⟨f1, fs'', rfl, h1, hf⟩ := List.map_eq_cons_iff.1 hf
  obtain ⟨f2, fs''', rfl, h2, -⟩ := List.map_eq_cons_iff.1 hf
  have c0 := hc f0 (by rw [hfs]; simp)
  have c1 := hc f1 (by rw [hfs]; simp)
  have c2 := hc f2 (by rw [hfs]; simp)
  simp only [Prod.mk.injEq] at h0 h1 h2
  rw [h0.1, h0.2, show Try.prog.cellsOf 33 = 1 by kernel_rfl] at c0
  rw [h1.1, h1.2, show Try.prog.cellsOf 22 = 1 by kernel_rfl] at c1
  rw [h2.1, h2.2, show Try.prog.cellsOf 33 = 1 by kernel_rfl] at c2
  rw [show Try.prog.cellsOf 94 = 3 by kernel_rfl] at hl
  obtain ⟨x0, e0, w0⟩ := c0.one (by kernel_rfl)
  obtain ⟨x1, e1, w1⟩ := c1.one (by kernel_rfl)
  obtain ⟨x2, e2, w2⟩ := c2.one (by kernel_rfl)
  match cs, hl with
  | [y0, y1, y2], _ =>
    simp only [List.drop_zero, List.take_succ_cons, List.take_zero, List.drop_succ_cons, List.cons.injEq, and_true] at e0 e1 e2
    subst e0 e1 e2
    obtain ⟨a, rfl, ha⟩ := rd_33 w0
    obtain ⟨l, rfl, hl2⟩ := rd_22 w1
    obtain ⟨c, rfl, hn2⟩ := rd_33 w2
    exact ⟨⟨a, l, c⟩, rfl, ha, hl2, hn2⟩
set_option maxRecDepth 100000 in
theorem rd_92 {n : Nat} {x : D} (h : WtE Try.prog n 92 x) : ∃ l : List LOp, x = .list 3 (l.map lopD) ∧ l.length ≤ maxLen ∧ ∀ o ∈ l, o.fits := by
  obtain ⟨l, rfl, h1, h2⟩ := WtE.slice_map (P := Try.prog) (e := 94) (t := 92) lopD (fun o => o.fits) h (show Try.prog.underlying 92 = some (.slice 94) by kernel_rfl) fun y hy => rd_94 hy
  exact ⟨l, by rw [show Try.prog.cellsOf 94 = 3 by kernel_rfl], h1, h2⟩
end Go.Proofs.Ytoelkgbeefoplaa
namespace Go.Proofs.Ytoelkgbeefoplaa
open Go Go.Br Go.Proofs
open List (map)
theorem Twin.numL {d : Dk} {k j : Nat} {A B : List UInt8} (h : Twin d k j A B) : d.num logX = k := by simp [Dk.num, h.nk, h.nv, look2_log]
theorem Twin.errL {d : Dk} {k j : Nat} {A B : List UInt8} (h : Twin d k j A B) : d.err true [logX] = 0 := by
  simp [Dk.err, h.on.off, may_log, h.nk, h.nv, look2_log]
theorem Twin.appendL {d : Dk} {k j : Nat} {A B : List UInt8} (h : Twin d k j A B) (hq : d.quota = 1048576) {f : List UInt8} (hf : A.length + B.length + f.length ≤ 1048576) :
    d.appendE logX f = 0 ∧ Twin (d.appendD logX f) k j (A ++ f) B := by
  have e : d.appendE logX f = 0 := by
    unfold Dk.appendE
    rw [h.errL, h.numL, h.dk, h.used, hq, if_neg (by simp), if_neg (by omega), if_neg (by omega)]
  refine ⟨e, ?_⟩
  unfold Dk.appendD
  rw [if_pos e, h.numL]
  refine ⟨⟨h.on.off, h.on.stop⟩, h.nk, h.nv, by simpa using h.lk, by simpa using h.lj, h.ne, ?_, ?_⟩
  · rw [file_set (d := d) rfl h.lk, if_pos rfl, h.dk]
  · rw [file_set (d := d) rfl h.lk, if_neg (Ne.symm h.ne), h.dj]
theorem appendD_dirs {d : Dk} {x : ByteArray} {f : List UInt8} (e : d.appendE x f = 0) : (d.appendD x f).sk = d.sk ∧ (d.appendD x f).sv = d.sv ∧ (d.appendD x f).ch = d.ch ∧ (d.appendD x f).quota = d.quota := by
  unfold Dk.appendD; rw [if_pos e]; exact ⟨rfl, rfl, rfl, rfl⟩
theorem Behind.add {d : Dk} {X : List UInt8} (h : Behind d X) (bs : List UInt8) (hb : bs.length ≤ 300) (hX : X.length ≤ 400000) : addE d logX bs = 0 ∧ Behind (addL d logX bs) (X ++ frame bs) := by
  have hfl := frame_length bs
  have hn : ¬ 65536 < bs.length := by omega
  have a1 : addE d logX bs = d.begun.appendE logX (frame bs) := if_neg hn
  have a2 : addL d logX bs = d.begun.appendD logX (frame bs) := if_neg hn
  rw [a1, a2]
  obtain ⟨b1, b2, b3, b4, b5, b6, b7⟩ := begun_fields d
  rcases h with ⟨k, h1, h2, h3, h4, h5⟩ | ⟨k, j, Y, h1, hY, h2, h3, h4, h5⟩
  · have g1 := h1.begun
    have e := g1.appendE (f := frame bs) (by omega)
    obtain ⟨g2, g3⟩ := g1.appendD (f := frame bs) (by omega)
    rw [b7, h5, if_pos (by omega)] at e g2
    obtain ⟨c1, c2, c3, c4⟩ := appendD_dirs e
    exact ⟨e, .inl ⟨k, g2, by rw [c1, b3, h2], by rw [c2, b4, h3], by rw [c3, b5, h4], by rw [c4, b7, h5]⟩⟩
  · have g1 := h1.begun
    obtain ⟨e, g2⟩ := g1.appendL (by rw [b7, h5]) (f := frame bs) (by omega)
    obtain ⟨c1, c2, c3, c4⟩ := appendD_dirs e
    exact ⟨e, .inr ⟨k, j, Y, g2, hY, by rw [c1, b3, h2], by rw [c2, b4, h3], by rw [c3, b5, h4], by rw [c4, b7, h5]⟩⟩
theorem Behind.keep {d : Dk} {X : List UInt8} (h : Behind d X) : d.begun.err true [logX] = 0 ∧ Behind ((d.begun.syncD logX).crash 0 []) X := by
  obtain ⟨b1, b2, b3, b4, b5, b6, b7⟩ := begun_fields d
  rcases h with ⟨k, h1, h2, h3, h4, h5⟩ | ⟨k, j, Y, h1, hY, h2, h3, h4, h5⟩
  · have g1 := h1.begun
    have hs : d.begun.syncD logX = { d.begun with files := d.begun.files.set k (X, X.length) } := by
      unfold Dk.syncD; rw [if_pos g1.err, g1.num, g1.data]
    have hf : (d.begun.syncD logX).files[k]? = some (X, X.length) := by
      rw [hs]; exact List.getElem?_set_self g1.lt
    have hn : (d.begun.syncD logX).names 0 = ([logX], [(k : Int)]) := by
      rw [hs, names_nil (by show d.begun.ch = []; rw [b5, h4])]
      show (d.begun.sk, d.begun.sv) = _
      rw [b3, b4, h2, h3]
    obtain ⟨k', q1, _, q3, q4, q5, q6⟩ := crash_lone (keep := []) hn hf
    rw [leftOf_full, List.take_length] at q1
    exact ⟨g1.err, .inl ⟨k', q1, q3, q4, q5, q6.trans (by rw [hs]; show d.begun.quota = _; rw [b7, h5])⟩⟩
  · have g1 := h1.begun
    have hs : d.begun.syncD logX = { d.begun with files := d.begun.files.set k (X, X.length) } := by
      unfold Dk.syncD; rw [if_pos g1.errL, g1.numL, g1.dk]
    have hf : (d.begun.syncD logX).files[k]? = some (X, X.length) := by
      rw [hs]; exact List.getElem?_set_self g1.lk
    obtain ⟨y, hy⟩ := get_some (l := d.begun.files) (i := j) g1.lj
    have hyd : y.1 = Y := by rw [← g1.dj, file_of hy]
    have hg : (d.begun.syncD logX).files[j]? = some y := by
      rw [hs]; exact set_get hy (Ne.symm g1.ne)
    have hn : (d.begun.syncD logX).names 0 = ([logX, tmpN], [(k : Int), (j : Int)]) := by
      rw [hs, names_nil (by show d.begun.ch = []; rw [b5, h4])]
      show (d.begun.sk, d.begun.sv) = _
      rw [b3, b4, h2, h3]
    obtain ⟨k', j', q1, _, q3, q4, q5, q6⟩ := crash_twin (keep := []) hn hf hg g1.ne
    rw [leftOf_full, List.take_length, hyd] at q1
    exact ⟨g1.errL, .inr ⟨k', j', _, q1, by rw [List.length_take]; omega, q3, q4, q5, q6.trans (by rw [hs]; show d.begun.quota = _; rw [b7, h5])⟩⟩
end Go.Proofs.Ytoelkgbeefoplaa
namespace Go.Proofs.Ytoelkgbeefoplaa
open Go Go.Br Go.Proofs
open List (map)
theorem spec_51t (d : Dk) (N : Nat) (h : d.Ok N) (x : ByteArray) (hx : x.size < 1000) (hm1 : mayName x = true) (hm2 : mayName (x ++ tmpX) = true) (ho : d.off = false) (hl : (look d.nk d.nv x).isSome = true) (hg : good (parsed (d.file (d.num x)).1) = (d.file (d.num x)).1.length) :
    CallsA Try.prog 51 [.ptr 0 0 0, .d (.str x)] (SD d false) fun r σ' => r = .ret (.tuple [.ptr 6 0 0, .d (.list 1 ((parsed (d.file (d.num x)).1).map bsD)), .d (.int .i64 0)]) ∧ σ' = [.cells [.row 1, .ptr 2 0 0, .ep 2 (dirD d.sk d.sv) 0, .row 5, .d (.int .i64 d.quota), .d (.bool d.full), .d (.bool d.off), .d (.int .i64 d.stop), .d (.int .i64 d.calls)],
      .row 2 (d.files.map fileD) true, .cells [.row 3, .row 4], .row 1 (d.nk.map strD) true, .row 1 (d.nv.map intD) true, .row 3 (d.ch.map chD) true, .cells [.d (.int .i64 ((parsed (d.file (d.num x)).1).length : Nat)), .d (.int .i64 ((d.file (d.num x)).1.length : Nat)), .d (.int .i64 0), .ptr 0 0 0, .d (.str x)]] := by
  refine CallsA.start F51 (tm := mk (Try.f51.ntmps) [(0, .ptr 0 0 0), (1, .d (.str x))]) (by kernel_rfl) ?_
  have hs : (⟨#[46, 116, 109, 112]⟩ : ByteArray).size = 4 := rfl
  have hx1 : (x ++ tmpX).size = x.size + 4 := by simp [tmpX, hs]
  simp only [tmpX] at *
  have hf : (d.file (d.num x)).1.length ≤ 1048576 := (h.fs _ (Dk.file_mem (Dk.num_lt h hl))).2
  have hf2 : (d.file (d.num x)).1.length ≤ 1099511627776 := by omega
  generalize hA : (d.file (d.num x)).1 = A at *
  refine .sg0 10 [0, 1, 4, 5, 6, 14] (cgo 10 [] [.code B51]) [(4, .d (.raw (Value.pointer none))), (5, .nils), (6, .d (.int .i64 0)), (14, .d (.str x))] ?_
  refine .semH (o := (opOf (cgo 10 [] [Item.code B51])).getD default) (v := .d (.bool (mayName x))) (by kernel_rfl) (by kernel_rfl) (T' := cgo 11 [] [Item.code B51]) (by kernel_rfl) (fun kz => sem_data0 (x := (.func 28)) (args := #[(.tmp 14)]) (ts := #[9]) (first := []) (cap := []) (ds := [.d (.str x)]) (v := .d (.bool (mayName x))) F28 (@spec_28 (x) (by omega)) (by kernel_rfl) (by kernel_rfl) (by kernel_rfl) (by kernel_rfl) (by kernel_rfl) (by kernel_rfl) _) ?_
  refine .sg0 2 [0, 1, 4, 5, 6, 14, 15, 16, 17] (cgo 13 [] [.code B51]) [(16, .d (.bool !mayName x)), (17, .d (.bool !mayName x))] ?_
  rcases Bool.eq_false_or_eq_true (!mayName x) with h1 | h1
  · rw [h1]
    simp only [bsX] at h1
    simp_all
  · rw [h1]
    simp only [bsX] at h1
    refine .sg0 1 [0, 1, 4, 5, 6, 14, 15, 16, 17, 18] (cgo 14 [] [.code B51]) [(18, .d (.str x))] ?_
    refine .op' (cgo 15 [] [.code B51]) (cat_ok (t := 9) (ty := 9) (x := (.tmp 18)) (y := (.const (Value.string (ByteArray.mk #[46, 116, 109, 112])))) (s := x) (u := ByteArray.mk #[46, 116, 109, 112]) (by kernel_rfl) (by kernel_rfl) (by kernel_rfl) (by omega)) ?_
    refine .semH (o := (opOf (cgo 15 [] [Item.code B51])).getD default) (v := .d (.bool (mayName (x ++ ByteArray.mk #[46, 116, 109, 112])))) (by kernel_rfl) (by kernel_rfl) (T' := cgo 16 [] [Item.code B51]) (by kernel_rfl) (fun kz => sem_data0 (x := (.func 28)) (args := #[(.tmp 19)]) (ts := #[9]) (first := []) (cap := []) (ds := [.d (.str (x ++ ByteArray.mk #[46, 116, 109, 112]))]) (v := .d (.bool (mayName (x ++ ByteArray.mk #[46, 116, 109, 112])))) F28 (@spec_28 (x ++ ByteArray.mk #[46, 116, 109, 112]) (by omega)) (by kernel_rfl) (by kernel_rfl) (by kernel_rfl) (by kernel_rfl) (by kernel_rfl) (by kernel_rfl) _) ?_
    refine .sg0 3 [0, 1, 4, 5, 6, 22] (cgo 19 [] [.code B51]) [(22, .d (.bool !mayName (x ++ ByteArray.mk #[46, 116, 109, 112])))] ?_
    refine .if' (!mayName (x ++ ByteArray.mk #[46, 116, 109, 112])) (cgo 20 [true] [.code B51]) (cgo 20 [false] [.code B51]) (fun h2 => ?_) (fun h2 => ?_)
    · simp only [bsX] at h2
      simp_all
    · simp only [bsX] at h2
      refine .sg0 5 [0, 1, 4, 5, 6, 23] (cgo 25 [false] [.code B51]) [(23, .ptr 0 0 0)] ?_
      refine .ca [0, 1, 2, 3, 4, 5] (cgo 26 [false] [.code B51]) F41 (@spec_41 (d)) ?_
      rintro r2 s2 ⟨rfl, rfl⟩
      refine ⟨_, rfl, ?_⟩
      refine .sg0 1 [0, 1, 4, 5, 6, 24] (cgo 27 [false] [.code B51]) [] ?_
      refine .if' (d.off) (cgo 28 [false, true] [.code B51]) (cgo 28 [false, false] [.code B51]) (fun h4 => ?_) (fun h4 => ?_)
      · simp_all
      · refine .sg 13 [0, 1, 4, 5, 6, 7, 30, 31] (cgo 41 [false, false] [.code B51]) [(7, .ptr 6 0 0), (30, .ptr 0 0 0), (31, .d (.str x))] [(6, .cells [.d (.int .i64 0), .d (.int .i64 0), .d (.int .i64 0), .ptr 0 0 0, .d (.str x)])] ?_
        refine .ca [0, 1, 2, 3, 4, 5] (cgo 42 [false, false] [.code B51]) F27 (@spec_27a (d) (N) (by assumption) (x) (by assumption)) ?_
        rintro r4 s4 ⟨rfl, rfl⟩
        refine ⟨_, rfl, ?_⟩
        refine .sg0 17 [4, 5, 6, 7, 8, 44] (cgo 59 [false, false, false] [.code B51]) [(8, .d (.list 1 (map u8 (d.file (d.num x)).fst))), (44, .d (.list 1 (map u8 (d.file (d.num x)).fst)))] ?_
        refine .semH (o := (opOf (cgo 59 [false, false, false] [Item.code B51])).getD default) (v := .tuple [.d (.list 1 (map bsD (parsed (d.file (d.num x)).fst))), .d (.int .i64 (↑(good (parsed (d.file (d.num x)).fst)) : Int))]) (by kernel_rfl) (by kernel_rfl) (T' := cgo 60 [false, false, false] [Item.code B51]) (by kernel_rfl) (fun kz => sem_data0 (x := (.func 17)) (args := #[(.tmp 44)]) (ts := #[22]) (first := []) (cap := []) (ds := [.d (.list 1 (map u8 (d.file (d.num x)).fst))]) (v := .tuple [.d (.list 1 (map bsD (parsed (d.file (d.num x)).fst))), .d (.int .i64 (↑(good (parsed (d.file (d.num x)).fst)) : Int))]) F17 (@spec_17 ((d.file (d.num x)).fst) (by grind)) (by kernel_rfl) (by kernel_rfl) (by kernel_rfl) (by kernel_rfl) (by kernel_rfl) (by kernel_rfl) _) ?_
        refine .sg0 14 [4, 5, 6, 7, 11, 12, 51] (cgo 74 [false, false, false] [.code B51]) [(11, .d (.list 1 (map bsD (parsed (d.file (d.num x)).fst)))), (12, .d (.int .i64 (↑(good (parsed (d.file (d.num x)).fst)) : Int))), (51, .d (.bool (decide ((↑(good (parsed (d.file (d.num x)).fst)) : Int) < (↑(map u8 (d.file (d.num x)).fst).length : Int)))))] ?_
        simp only [List.length_map]
        refine .if' (decide ((↑(good (parsed (d.file (d.num x)).fst)) : Int) < (↑(d.file (d.num x)).fst.length : Int))) (cgo 75 [false, false, false, true] [.code B51]) (cgo 75 [false, false, false, false] [.code B51]) (fun h6 => ?_) (fun h6 => ?_)
        · simp only [bsX] at h6
          simp_all
        · simp only [bsX] at h6
          refine .seg 25 [4, 5, 6] (T' := cgo 100 [false, false, false, false] [.code B51]) (tm' := mk 71 [(4, .ptr 6 0 0), (5, .d (.list 1 (map bsD (parsed (d.file (d.num x)).fst)))), (6, .d (.int .i64 0))]) (σ' := [.cells [.row 1, .ptr 2 0 0, .ep 2 (D.agg [D.list 1 (map strD d.sk), D.list 1 (map intD d.sv)]) 0, .row 5, .d (.int .i64 d.quota), .d (.bool d.full), .d (.bool d.off), .d (.int .i64 d.stop), .d (.int .i64 d.calls)], .row 2 (map fileD d.files) false, .cells [.row 3, .row 4], .row 1 (map strD d.nk) false, .row 1 (map intD d.nv) false, .row 3 (map chD d.ch) false, .cells [.d (.int .i64 (↑(map bsD (parsed (d.file (d.num x)).fst)).length : Int)), .d (.int .i64 (↑(good (parsed (d.file (d.num x)).fst)) : Int)), .d (.int .i64 0), .ptr 0 0 0, .d (.str x)]]) (by kernel_rfl) ?_
          simp only [List.length_map]
          refine .raise 1 rfl rfl ?_
          refine .raise 3 rfl rfl ?_
          refine .raise 4 rfl rfl ?_
          refine .raise 5 rfl rfl ?_
          refine .retH F51 (v := V.tuple [V.ptr 6 0 0, V.d (D.list 1 (map bsD (parsed (d.file (d.num x)).fst))), V.d (D.int IntKind.i64 0)]) (by kernel_rfl) (by kernel_rfl) ?_
          simp_all [dirD]
theorem open_behind (d : Dk) (M : Nat) (X : List UInt8) (rs : List (List UInt8)) (h : Behind d X) (hk : d.Ok M) (hp : parsed X = rs) (hrs : ∀ r ∈ rs, r.length ≤ 65536) (hrl : rs.length ≤ 100) (hg : good rs ≤ X.length) (hw : good rs = X.length → X = allOf rs) (hX : X.length ≤ 400000) (hM : M + 200 ≤ 50000) :
    CallsA Try.prog 51 [.ptr 0 0 0, .d (.str logX)] (SD d false) fun r σ' => r = .ret (.tuple [.ptr 6 0 0, .d (.list 1 (rs.map bsD)), .d (.int .i64 0)]) ∧ ∃ d', σ' = SD d' true ++ [.cells [.d (.int .i64 (rs.length : Nat)), .d (.int .i64 ((allOf rs).length : Nat)), .d (.int .i64 0), .ptr 0 0 0, .d (.str logX)]] ∧ Behind d' (allOf rs) ∧ d'.Ok (M + 150) := by
  obtain ⟨e1, e2, e3, e4⟩ := h.file
  have hx : logX.size < 1000 := by decide
  have hm2 : mayName (logX ++ tmpX) = true := by rw [logX_tmp]; exact may_tmp
  by_cases hq : good rs = X.length
  · have h1 := spec_51t d M hk logX hx may_log hm2 e1.off e2 (by rw [e3, hp, hq])
    rw [e3, hp] at h1
    have hx2 := hw hq
    refine h1.mono ?_
    rintro r σ' ⟨rfl, rfl⟩
    refine ⟨rfl, d, ?_, by rw [← hx2]; exact h, hk.mono (by omega) (by omega)⟩
    rw [← hx2]; rfl
  · obtain ⟨w1, w2, w3⟩ := h.write (rs.map frame) (by
      have : (rs.map frame).flatten.length = good rs := (good_all rs).symm
      omega)
    have h1 := spec_51r d M hk logX hx may_log hm2 e1.off e2 rs (by rw [e3, hp]) (by rw [e3]; omega) hrs (by omega) (by omega) w1 w2
    refine h1.mono ?_
    rintro r σ' ⟨rfl, rfl⟩
    refine ⟨rfl, _, by rw [good_all], w3, ?_⟩
    have := writeR_ok (x := logX) (fs := rs.map frame) hk (by rw [List.length_map]; omega)
    rw [List.length_map] at this
    exact this.mono (by omega) (by omega)
end Go.Proofs.Ytoelkgbeefoplaa
namespace Go.Proofs.Ytoelkgbeefoplaa
open Go Go.Br Go.Proofs
open List (map)
noncomputable def B15 : Code := (Try.f15.body).getD .skip
theorem F15 : Fnc Try.prog 15 Try.f15 B15 := ⟨Try.func15, by kernel_rfl, by kernel_rfl⟩
def SG (dir : Int) (keep : List Int) (c s b : Int) (d : Dk) (m : Bool) : Store := [.cells [.row 1, .ptr 2 0 0, .ep 2 (dirD d.sk d.sv) 0, .row 5, .d (.int .i64 d.quota), .d (.bool d.full), .d (.bool d.off), .d (.int .i64 d.stop), .d (.int .i64 d.calls)],
  .row 2 (d.files.map fileD) m, .cells [.row 3, .row 4], .row 1 (d.nk.map strD) m, .row 1 (d.nv.map intD) m, .row 3 (d.ch.map chD) m, .cells [.d (.int .i64 dir), .d (.list 1 (keep.map intD))], .cells [.d (.int .i64 c), .d (.int .i64 s), .d (.int .i64 b), .ptr 0 0 0, .d (.str logX)]]
def TG (l : List LOp) (i : Nat) (all other : List (List UInt8)) (sure : Nat) (laid : Bool) (more : List (Nat × V)) : List V :=
  mk 212 ([(5, .ptr 6 0 0), (6, .d (.bool false)), (7, .ptr 0 0 0), (8, .ptr 7 0 0), (11, .d (.list 1 (all.map bsD))), (12, .d (.list 1 (other.map bsD))), (13, .d (.int .i64 (sure : Nat))), (14, .d (.bool laid)), (45, .d (.list 3 (l.map lopD))), (46, .d (.int .i64 (l.length : Nat))), (47, .d (.int .i64 (i : Nat)))] ++ more)
def EG (dir : Int) (keep : List Int) (all other : List (List UInt8)) (sure : Nat) (laid : Bool) : List V :=
  mk 212 [(5, .ptr 6 0 0), (6, .d (.bool false)), (7, .ptr 0 0 0), (11, .d (.list 1 (all.map bsD))), (12, .d (.list 1 (other.map bsD))), (13, .d (.int .i64 (sure : Nat))), (14, .d (.bool laid)), (121, .ptr 0 0 0), (122, .d (.agg [.int .i64 dir, .list 1 (keep.map intD)]))]
def Fin (d : Dk) (all other : List (List UInt8)) (s : Nat) (laid : Bool) : Prop := ∀ dir keep, (∃ n, s ≤ n ∧ n ≤ (allOf all).length ∧ Behind (d.crash dir keep) ((allOf all).take n)) ∨ (laid = true ∧ Behind (d.crash dir keep) (allOf other))
theorem add_pre {d : Dk} {k s : Nat} {all : List (List UInt8)} (h : Pre d k (allOf all) s) (bs : List UInt8) (hb : bs.length ≤ 300) (hA : (allOf all).length ≤ 400000) :
    (d.begun.off = true ∧ addE d logX bs = 5 ∧ addL d logX bs = d.begun ∧ Pre (addL d logX bs) k (allOf all) s) ∨ (addE d logX bs = 0 ∧ Pre (addL d logX bs) k (allOf (all ++ [bs])) s) := by
  have hfl := frame_length bs
  have hn : ¬ 65536 < bs.length := by omega
  have a1 : addE d logX bs = d.begun.appendE logX (frame bs) := if_neg hn
  have a2 : addL d logX bs = d.begun.appendD logX (frame bs) := if_neg hn
  obtain ⟨b0, b1⟩ := h.begun.append (f := frame bs) (by omega)
  rw [a1, a2]
  cases ho : d.begun.off with
  | true =>
    obtain ⟨e1, e2⟩ := b0 ho
    exact .inl ⟨rfl, e1, e2, by rw [e2]; exact h.begun⟩
  | false =>
    obtain ⟨e1, e2⟩ := b1 ho
    exact .inr ⟨e1, by rw [allOf_snoc]; exact e2⟩
theorem spec_52b (c s : Int) (x : ByteArray) (d : Dk) (N : Nat) (h : d.Ok N) (hN : N + 5 ≤ 50000) (hx : x.size < 1000000000) (bs : List UInt8) (hb : bs.length < 1000000) (hc0 : 0 ≤ c) (hc1 : c < 1000000) (hs0 : 0 ≤ s) (hs1 : s < 1000000000) (he : addE d x bs = 5) :
    CallsA Try.prog 52 [.ptr 0 0 0, .d (.list 1 (bs.map u8))] (SL c s 0 x d false) fun r σ' => r = .ret (.d (.int .i64 5)) ∧ σ' = SL c s 5 x (addL d x bs) true := by
  have h1 := spec_52 c s x d N h hN hx bs hb hc0 hc1 hs0 hs1
  rw [he] at h1
  simpa using h1
theorem kdA (dir : Int) (keep : List Int) (o : LOp) (h3 : o.kind % 5 ≠ 3) (h4 : o.kind % 5 ≠ 4) (hb : o.b.length ≤ 300) (l : List LOp) (i : Nat) (hi : i < 40) (d : Dk) (k s M : Nat) (all other : List (List UInt8)) (sure : Nat) (hd : Pre d k (allOf all) s) (hk : d.Ok M) (hM : M + 70 ≤ 50000) (hal : all.length < 40) (hr : ∀ r ∈ all, r.length ≤ 300) {Q : AE → Store → Prop}
    (g1 : Pre (addL d logX o.b) k (allOf (all ++ [o.b])) s → AW Try.prog 15 none 0 (cgo 66 [false, false] [Item.code B15]) (TG l (i + 1) (all ++ [o.b]) other sure false []) (SG dir keep ((all ++ [o.b]).length : Nat) ((allOf (all ++ [o.b])).length : Nat) 0 (addL d logX o.b) true) [] Q)
    (g2 : (addL d logX o.b).off = true → Pre (addL d logX o.b) k (allOf all) s → AW Try.prog 15 none 0 (cgo 118 [false, false, true, true, false] [Item.code B15]) (EG dir keep all other sure false) (SG dir keep (all.length : Nat) ((allOf all).length : Nat) 5 (addL d logX o.b) true) [] Q) :
    AW Try.prog 15 none 0 (cgo 105 [false, false, true, false] [Item.code B15]) (TG l i all other sure false [(16, .ptr 8 0 0), (62, .d (.int .u64 (o.kind % 5 : Nat)))]) (SG dir keep (all.length : Nat) ((allOf all).length : Nat) 0 d true ++ [.cells [.d (.int .u64 o.kind), .d (bsD o.b), .d (.int .u64 o.n)]]) [] Q := by
  have hx : logX.size < 1000000000 := by decide
  have hA := allOf_le 300 all hr
  have hfl := frame_length o.b
  refine .sg0 6 [5, 6, 7, 8, 11, 12, 13, 14, 16, 45, 46, 47, 62, 78, 79] (cgo 111 [false, false, true, false] [.code B15]) [(78, .d (.bool ((↑(o.kind % 5) : Int) == 3))), (79, .d (.bool ((↑(o.kind % 5) : Int) == 3)))] ?_
  refine .if' ((↑(o.kind % 5) : Int) == 3) (cgo 112 [false, false, true, false, true] [.code B15]) (cgo 112 [false, false, true, false, false] [.code B15]) (fun h1 => ?_) (fun h1 => ?_)
  · simp only [bsX] at h1
    omega
  · simp only [bsX] at h1
    refine .sg0 5 [5, 6, 7, 8, 11, 12, 13, 14, 16, 45, 46, 47, 62, 78, 79, 85, 86] (cgo 117 [false, false, true, false, false] [.code B15]) [(85, .d (.bool ((↑(o.kind % 5) : Int) == 4))), (86, .d (.bool ((↑(o.kind % 5) : Int) == 4)))] ?_
    refine .if' ((↑(o.kind % 5) : Int) == 4) (cgo 118 [false, false, true, false, false, true] [.code B15]) (cgo 118 [false, false, true, false, false, false] [.code B15]) (fun h2 => ?_) (fun h2 => ?_)
    · simp only [bsX] at h2
      omega
    · simp only [bsX] at h2
      refine .sg0 5 [5, 6, 7, 8, 11, 12, 13, 14, 16, 45, 46, 47, 62, 63, 64, 65, 78, 79, 85, 86] (cgo 123 [false, false, true, false, false, false] [.code B15]) [(63, .ptr 7 0 0), (64, .ptr 8 0 1), (65, .d (.list 1 (map u8 o.b)))] ?_
      rcases add_pre hd o.b hb (by omega) with ⟨o1, o2, o3, o4⟩ | ⟨o2, o4⟩
      · have g2 := g2 (by rw [o3]; exact o1) o4
        refine .ca [7, 0, 1, 2, 3, 4, 5] (cgo 124 [false, false, true, false, false, false] [.code B15]) F52 (spec_52b (all.length : Nat) ((allOf all).length : Nat) logX d M hk (by omega) hx o.b (by omega) (by omega) (by omega) (by omega) (by omega) o2) ?_
        rintro r0 s0 ⟨rfl, rfl⟩
        refine ⟨_, rfl, ?_⟩
        clear g1
        refine .sg0 8 [5, 6, 7, 8, 11, 12, 13, 14, 16, 45, 46, 47, 62, 63, 64, 65, 66, 67, 78, 79, 85, 86, 107] (cgo 132 [false, false, true, false, false, false, false] [.code B15]) [(67, .d (.bool false)), (107, .ptr 7 0 0)] ?_
        refine .ca [7, 0, 1, 2, 3, 4, 5] (cgo 133 [false, false, true, false, false, false, false] [.code B15]) F55 (@spec_55 ((↑all.length : Int)) ((↑(allOf all).length : Int)) (5) (logX) (addL d logX o.b)) ?_
        rintro r0 s0 ⟨rfl, rfl⟩
        refine ⟨_, rfl, ?_⟩
        refine .sg0 8 [5, 6, 7, 8, 11, 12, 13, 14, 111] (cgo 141 [false, false, true, false, false, false, false, true] [.code B15]) [(111, .ptr 7 0 0)] ?_
        refine .ca [7, 0, 1, 2, 3, 4, 5] (cgo 142 [false, false, true, false, false, false, false, true] [.code B15]) F55 (@spec_55 ((↑all.length : Int)) ((↑(allOf all).length : Int)) (5) (logX) (addL d logX o.b)) ?_
        rintro r1 s1 ⟨rfl, rfl⟩
        refine ⟨_, rfl, ?_⟩
        refine .sg0 15 [5, 6, 7, 11, 12, 13, 14, 121, 122] (cgo 157 [false, false, true, false, false, false, false, true, false] [.code B15]) [(121, .ptr 0 0 0), (122, .d (.agg [D.int IntKind.i64 dir, D.list 1 (map intD keep)]))] ?_
        refine .su [0, 1, 2, 3, 4, 5, 6, 7] (EG dir keep all other sure false) (SG dir keep (all.length : Nat) ((allOf all).length : Nat) 5 (addL d logX o.b) true) ?_
        exact .goes [5, 6, 7, 11, 12, 13, 14, 121, 122] (by kernel_rfl) (by kernel_rfl) rfl g2
      · have g1 := g1 o4
        refine .ca [7, 0, 1, 2, 3, 4, 5] (cgo 124 [false, false, true, false, false, false] [.code B15]) F52 (spec_52a (all.length : Nat) ((allOf all).length : Nat) logX d M hk (by omega) hx o.b (by omega) (by omega) (by omega) (by omega) (by omega) o2) ?_
        rintro r0 s0 ⟨rfl, rfl⟩
        refine ⟨_, rfl, ?_⟩
        clear g2
        have e1 : ((all.length : Nat) : Int) + 1 = ((all ++ [o.b]).length : Nat) := by simp
        have e2 : (((allOf all).length : Nat) : Int) + ((frame o.b).length : Int) = ((allOf (all ++ [o.b])).length : Nat) := by rw [allOf_snoc, List.length_append]; omega
        rw [e2, e1]
        clear e1 e2
        refine .sg0 3 [5, 6, 7, 8, 11, 12, 13, 14, 16, 45, 46, 47, 62, 63, 64, 65, 66, 67, 78, 79, 85, 86] (cgo 127 [false, false, true, false, false, false, true] [.code B15]) [(67, .d (.bool true))] ?_
        refine .newVirt 1 ?_
        refine .dr (cgo 128 [false, false, true, false, false, false, true] [.code B15]) [(11, .d (.list 1 (List.drop 0 (List.take (map bsD all).length (map bsD all)) ++ [D.list 1 (map u8 o.b)]))), (68, .d (.list 1 (map bsD all))), (69, .d (.list 1 (map bsD all))), (70, .d (.int .i64 (↑(map bsD all).length : Int))), (71, .d (.list 1 (map bsD all))), (72, .d (.int .i64 (↑(map bsD all).length : Int))), (73, .ex 1 (List.drop 0 (List.take (map bsD all).length (map bsD all)))), (74, .ptr 8 0 1), (75, .d (.list 1 (map u8 o.b))), (76, .row 9), (77, .d (.list 1 (List.drop 0 (List.take (map bsD all).length (map bsD all)) ++ [D.list 1 (map u8 o.b)])))] [(9, .row 1 [D.list 1 (map u8 o.b)] true)] (fun kz L hL => ?_) ?_
        · refine ⟨[nF, nF, nF, nF, nF, nF, ⟨[], [], [], [8], [8], [8], true, false⟩, ⟨[8], [], [], [], [8], [], true, false⟩, ⟨[9], [9], [9], [9], [], [], true, false⟩, ⟨[9], [], [], [], [9], [], true, false⟩, nF], run_amongF hL _ [] [0, 1, 3, 6, 7, 8, 2, 4, 5, 9, 10] (by intro p hp; cases hp) (by kernel_rfl) ?_⟩
          refine Run.ap [0, 1, 3, 6, 7] [(68, .d (.list 1 (map bsD all))), (69, .d (.list 1 (map bsD all))), (71, .d (.list 1 (map bsD all))), (74, .ptr 8 0 1), (75, .d (.list 1 (map u8 o.b)))] [] ?_
          refine Run.one (StepF.build (o := ((drawOf (cgo 127 [false, false, true, false, false, false, true] [.code B15]))[8]?).getD default) (t := 26) (len := 1) (parts := #[(0, (.tmp 75))]) (l := 9) (ds := [D.list 1 (map u8 o.b)]) (sz := 1) (mv := false) (by kernel_rfl) rfl (by kernel_rfl) (by kernel_rfl) (by kernel_rfl) (by kernel_rfl) (by kernel_rfl) (by kernel_rfl) (by kernel_rfl) (by kernel_rfl)) ?_
          refine Run.ap [2, 4] [(70, .d (.int .i64 (↑(map bsD all).length : Int))), (72, .d (.int .i64 (↑(map bsD all).length : Int)))] [] ?_
          refine Run.one (StepF.look (o := ((drawOf (cgo 127 [false, false, true, false, false, false, true] [.code B15]))[5]?).getD default) (v := .ex 1 (List.drop 0 (List.take (map bsD all).length (map bsD all)))) [(.tmp 68), (.tmp 70), (.tmp 72)] (by kernel_rfl) rfl (by kernel_rfl) (by kernel_rfl) (by kernel_rfl) (by kernel_rfl) (by kernel_rfl) (fun tm' σ2 hv hr => sl3Data_ok (t := 26) (x := (.tmp 68)) (lo := none) (y := (.tmp 70)) (z := (.tmp 72)) (sz := 1) (xs := map bsD all) (0) ((map bsD all).length) (by kernel_rfl) (by rw [hv _ (by simp)]; kernel_rfl) (by kernel_rfl) rfl (bnd_some (k := IntKind.i64) (i := (↑(map bsD all).length : Int)) (by rw [hv _ (by simp)]; kernel_rfl) (by omega) (by rfl)) (bnd_some (k := IntKind.i64) (i := (↑(map bsD all).length : Int)) (by rw [hv _ (by simp)]; kernel_rfl) (by omega) (by rfl)) (by omega) (by omega))) ?_
          refine Run.one (StepF.look (o := ((drawOf (cgo 127 [false, false, true, false, false, false, true] [.code B15]))[9]?).getD default) (v := .d (.list 1 (List.drop 0 (List.take (map bsD all).length (map bsD all)) ++ [D.list 1 (map u8 o.b)]))) [(.tmp 73), (.tmp 76)] (by kernel_rfl) rfl (by kernel_rfl) (by kernel_rfl) (by kernel_rfl) (by kernel_rfl) (by kernel_rfl) (fun tm' σ2 hv hr => appExD_ok (s := (.tmp 73)) (x := (.tmp 76)) (t := 26) (t2 := 26) (sz := 1) (by' := 24) (ys := [D.list 1 (map u8 o.b)]) (xs := List.drop 0 (List.take (map bsD all).length (map bsD all))) (by kernel_rfl) (by rw [hv _ (by simp)]; kernel_rfl) (by rw [hv _ (by simp)]; exact (cont_at fun l hl => hr l (subB_in (by kernel_rfl) hl)).trans (by kernel_rfl)) (by kernel_rfl) (by kernel_rfl) (by simp <;> omega) (by first | (simp [maxLen] <;> omega) | omega))) ?_
          exact Run.fin
        refine .sg0 4 [5, 6, 7, 8, 11, 12, 13, 14, 16, 45, 46, 47, 62, 63, 64, 65, 66, 67, 68, 69, 70, 71, 72, 73, 74, 75, 76, 77, 78, 79, 85, 86, 107] (cgo 132 [false, false, true, false, false, false, true] [.code B15]) [(107, .ptr 7 0 0)] ?_
        simp only [List.length_map]
        refine .ca [7, 0, 1, 2, 3, 4, 5] (cgo 133 [false, false, true, false, false, false, true] [.code B15]) F55 (@spec_55 ((↑(all ++ [o.b]).length : Int)) ((↑(allOf (all ++ [o.b])).length : Int)) (0) (logX) (addL d logX o.b)) ?_
        rintro r0 s0 ⟨rfl, rfl⟩
        refine ⟨_, rfl, ?_⟩
        refine .sg0 9 [5, 6, 7, 8, 11, 12, 13, 14, 16, 45, 46, 47, 62, 63, 64, 65, 66, 67, 68, 69, 70, 71, 72, 73, 74, 75, 76, 77, 78, 79, 85, 86, 107, 108, 109, 110] (cgo 142 [false, false, true, false, false, false, true, false] [.code B15]) [(47, .d (.int .i64 (IntKind.i64.wrap ((↑i : Int) + 1)))), (109, .d (.bool false)), (110, .d (.int .i64 (IntKind.i64.wrap ((↑i : Int) + 1))))] ?_
        simp only [List.length_map]
        simp (disch := omega) only [wrap_i64, wrap_u64s, wrap_u32s, wrap_u8s, wrap_i32s, iadd_i64, isub_i64, irem_n, iquo_n, tdiv_nn, tmod_nn]
        have e3 : List.drop 0 (List.take all.length (List.map bsD all)) ++ [D.list 1 (List.map u8 o.b)] = List.map bsD (all ++ [o.b]) := by
          rw [List.drop_zero, List.take_of_length_le (by simp)]; simp [bsD]
        rw [e3]
        refine .kp [5, 6, 7, 8, 11, 12, 13, 14, 45, 46, 47] ?_
        refine .su [0, 1, 2, 3, 4, 5, 6, 7] (TG l (i + 1) (all ++ [o.b]) other sure false []) (SG dir keep ((all ++ [o.b]).length : Nat) ((allOf (all ++ [o.b])).length : Nat) 0 (addL d logX o.b) true) ?_
        exact .seg 1 [5, 6, 7, 8, 11, 12, 13, 14, 45, 46, 47] (by kernel_rfl) g1
end Go.Proofs.Ytoelkgbeefoplaa
