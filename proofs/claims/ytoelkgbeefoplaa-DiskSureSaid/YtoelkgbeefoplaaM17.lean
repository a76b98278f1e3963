/- Texts of this proof, part 17: SureP, PlayA, SureA. -/
import Derived.Test.YtoelkgbeefoplaaM16
set_option linter.unusedSimpArgs false
set_option linter.unusedVariables false
set_option linter.constructorNameAsVariable false
namespace Go.Proofs.Ytoelkgbeefoplaa
open Go Go.Br Go.Proofs
open List (map)
def Dk.Sz (d : Dk) (M : Nat) : Prop := ∀ f ∈ d.files, f.1.length ≤ M
theorem Sz_set {d : Dk} {M : Nat} (h : d.Sz M) (k : Nat) {f : List UInt8 × Nat} (hf : f.1.length ≤ M) : ({ d with files := d.files.set k f } : Dk).Sz M := by
 intro g hg
 rcases List.mem_or_eq_of_mem_set hg with h1 | rfl
 · exact h g h1
 · exact hf
theorem Dk.Sz.mono {d : Dk} {M M' : Nat} (h : d.Sz M) (hm : M ≤ M') : d.Sz M' := fun f hf => Nat.le_trans (h f hf) hm
theorem Sz_begun {d : Dk} {M : Nat} (h : d.Sz M) : d.begun.Sz M := by
 unfold Dk.Sz
 rw [(begun_dir d).1]
 exact h
theorem Sz_create {b : Dk} {M : Nat} (h : b.Sz M) (x : ByteArray) : (b.createD x).Sz M := by
 unfold Dk.createD
 split
 · intro f hf
   rcases List.mem_append.1 (show f ∈ b.files ++ [([], 0)] from hf) with h1 | h1
   · exact h f h1
   · rw [List.mem_singleton.1 h1]; exact Nat.zero_le _
 · exact h
theorem file_len {b : Dk} {M : Nat} (h : b.Sz M) (k : Nat) : (b.file k).1.length ≤ M := by
 unfold Dk.file
 rw [List.getD_eq_getElem?_getD]
 cases hk : b.files[k]? with
 | none => simp
 | some f => exact h f (List.mem_of_getElem? hk)
theorem Sz_step {d : Dk} {M : Nat} (h : d.Sz M) (o : DOp) (hs : o.small) : (stepA d o).Sz (M + 300) := by
  have hb := Sz_begun h
  have hd := hs.d
  unfold stepA
  split
  · unfold stepD
    split
    · exact (Sz_create hb _).mono (by omega)
    split
    · unfold Dk.appendD
      split
      · refine Sz_set (hb.mono (by omega)) _ ?_
        have := file_len hb (d.begun.num o.a)
        simp only [List.length_append]; omega
      · split
        · exact hb.mono (by omega)
        · exact hb.mono (by omega)
    split
    · unfold Dk.syncD
      split
      · exact Sz_set (hb.mono (by omega)) _ (by have := file_len hb (d.begun.num o.a); simp only; omega)
      · exact hb.mono (by omega)
    split
    · unfold Dk.syncDirD
      split
      · exact hb.mono (by omega)
      · exact hb.mono (by omega)
    split
    · unfold Dk.renameD; split <;> exact hb.mono (by omega)
    · unfold Dk.removeD; split <;> exact hb.mono (by omega)
  split
  · exact h.mono (by omega)
  split
  · exact h.mono (by omega)
  split
  · intro f hf
    obtain ⟨g, hg, j, rfl⟩ := kept_mem f hf
    have := h g hg
    simp only [List.length_take]; omega
  · unfold Dk.turnD
    split
    · exact Sz_set (h.mono (by omega)) _ (by rw [turnB_len]; have := file_len h (d.num o.a); omega)
    · exact h.mono (by omega)
theorem Sz_run : ∀ (l : List DOp) {p : Dk × Int} {M : Nat}, p.1.Sz M → (∀ o ∈ l, o.small) → (runA p l).1.Sz (M + 300 * l.length)
 | [], _, _, h, _ => h
 | o :: l, p, M, h, hs => by
   have := Sz_run l (p := (stepA p.1 o, tA p.1 p.2 o)) (Sz_step h o (hs o (by simp))) fun o' ho => hs o' (by simp [ho])
   rw [show M + 300 * (o :: l).length = M + 300 + 300 * l.length by simp; omega]
   exact this
theorem sum_le {M : Nat} : ∀ (l : List Nat), (∀ n ∈ l, n ≤ M) → l.sum ≤ l.length * M
 | [], _ => by simp
 | n :: l, h => by
   have ih := sum_le l fun m hm => h m (by simp [hm])
   have := h n (by simp)
   simp only [List.sum_cons, List.length_cons, Nat.succ_mul]; omega
theorem used_le {d : Dk} {M N : Nat} (h : d.Sz M) (hk : d.Ok N) : d.used ≤ N * M := by
 unfold Dk.used
 have h1 := sum_le (M := M) (d.nv.map fun k => (d.file k.toNat).1.length) (fun n hn => by
  obtain ⟨k, _, rfl⟩ := List.mem_map.1 hn
  exact file_len h _)
 rw [List.length_map, hk.nl] at h1
 exact Nat.le_trans h1 (Nat.mul_le_mul_right M hk.nkl)
theorem begun_free {d : Dk} (ho : d.off = false) (hs : d.stop = -1) : d.begun = { d with calls := d.calls + 1 } := by
 unfold Dk.begun
 rw [if_neg (by simp [ho])]
 cases d
 simp_all
def sN : ByteArray := ⟨#[115, 117, 114, 101]⟩
structure Roomy (d : Dk) (N : Nat) : Prop where
  off : d.off = false
  stop : d.stop = -1
  ok : d.Ok N
  le : N ≤ 200
  q : d.quota = 1073741824
  sz : d.Sz 18600
structure SureF (d : Dk) (k : Nat) (A : List UInt8) (s : Nat) : Prop where
  at_ : look d.nk d.nv sN = some (k : Int)
  f : d.files[k]? = some (A, s)
theorem Roomy.begun {d : Dk} {N : Nat} (h : Roomy d N) (hN : N + 1 ≤ 200) : Roomy d.begun (N + 1) ∧ d.begun.nk = d.nk ∧ d.begun.nv = d.nv ∧ d.begun.files = d.files ∧ d.begun.sk = d.sk ∧ d.begun.sv = d.sv ∧ d.begun.ch = d.ch := by
 have e := begun_free h.off h.stop
 have k := Dk.begun_ok h.ok (by omega)
 rw [e] at k ⊢
 exact ⟨⟨h.off, h.stop, k, hN, h.q, h.sz⟩, rfl, rfl, rfl, rfl, rfl, rfl⟩
theorem sure_create {d : Dk} {N : Nat} (h : Roomy d N) (hN : N + 2 ≤ 200) : d.begun.createE sN = 0 ∧ Roomy (d.begun.createD sN) (N + 2) ∧ ∃ k, SureF (d.begun.createD sN) k [] 0 := by
 obtain ⟨hb, _⟩ := h.begun (by omega)
 generalize d.begun = b at hb
 have hl := hb.ok.nkl
 have e0 : b.err false [sN] = 0 := by rw [errF hb.off]; rfl
 have e : b.createE sN = 0 := by
   unfold Dk.createE
   rw [e0, if_neg (by simp), if_neg (by omega)]
 have e2 : b.createD sN = ({ b with files := b.files ++ [([], 0)] } : Dk).turn noName sN b.files.length := by unfold Dk.createD; rw [if_pos e]
 have k2 := Dk.createD_ok hb.ok (by omega) sN
 have z2 := Sz_create hb.sz sN
 have e3 := createD_end b sN
 refine ⟨e, ⟨by rw [e3.1]; exact hb.off, by rw [e3.2.1]; exact hb.stop, k2, hN, ?_, z2⟩, b.files.length, ?_⟩
 · rw [e2]; exact hb.q
 · rw [e2]
   refine ⟨?_, ?_⟩
   · show look (kapply b.nk b.nv noName sN b.files.length).1 (kapply b.nk b.nv noName sN b.files.length).2 sN = _
     rw [look_apply hb.ok.nr hb.ok.nl, if_pos ⟨by decide, rfl⟩]
   · show (b.files ++ [([], 0)])[b.files.length]? = _
     simp
theorem SureF.num {d : Dk} {k : Nat} {A : List UInt8} {s : Nat} (h : SureF d k A s) : d.num sN = k ∧ d.file k = (A, s) ∧ k < d.files.length := by
 refine ⟨by unfold Dk.num; rw [h.at_]; rfl, by unfold Dk.file; rw [List.getD_eq_getElem?_getD, h.f]; rfl, (List.getElem?_eq_some_iff.1 h.f).1⟩
theorem sure_err {b : Dk} {N : Nat} (hb : Roomy b N) {k : Nat} {A : List UInt8} {s : Nat} (hs : SureF b k A s) : b.err true [sN] = 0 := by
 rw [errT hb.off, if_pos (by rfl), hs.at_]; rfl
theorem sure_append {d : Dk} {N : Nat} (h : Roomy d N) (hN : N + 1 ≤ 200) {k : Nat} {A : List UInt8} {s : Nat} (hs : SureF d k A s) (bs : List UInt8) (hl : A.length + bs.length ≤ 600) :
  d.begun.appendE sN bs = 0 ∧ Roomy (d.begun.appendD sN bs) (N + 1) ∧ SureF (d.begun.appendD sN bs) k (A ++ bs) s ∧ (d.begun.appendD sN bs).nk = d.nk ∧ (d.begun.appendD sN bs).nv = d.nv ∧ (d.begun.appendD sN bs).sk = d.sk ∧ (d.begun.appendD sN bs).sv = d.sv ∧ (d.begun.appendD sN bs).ch = d.ch := by
 obtain ⟨hb, b1, b2, b3, b4, b5, b6⟩ := h.begun hN
 have hs : SureF d.begun k A s := ⟨by rw [b1, b2]; exact hs.at_, by rw [b3]; exact hs.f⟩
 rw [← b1, ← b2, ← b4, ← b5, ← b6]
 generalize d.begun = b at *
 obtain ⟨n1, n2, n3⟩ := hs.num
 have hu := used_le hb.sz hb.ok
 have hu2 : (N + 1) * 18600 ≤ 200 * 18600 := Nat.mul_le_mul_right _ hN
 have e : b.appendE sN bs = 0 := by
  unfold Dk.appendE
  rw [sure_err hb hs, if_neg (by simp), n1, n2, hb.q, if_neg (by simp; omega), if_neg (by omega)]
 have e2 : b.appendD sN bs = { b with files := b.files.set k (A ++ bs, s) } := by unfold Dk.appendD; rw [if_pos e, n1, n2]
 have k2 := Dk.appendD_ok hb.ok sN bs
 rw [e2] at k2 ⊢
 exact ⟨e, ⟨hb.off, hb.stop, k2, hN, hb.q, Sz_set hb.sz _ (by simp; omega)⟩, ⟨hs.at_, by show (b.files.set k (A ++ bs, s))[k]? = _; rw [List.getElem?_set_self n3]⟩, rfl, rfl, rfl, rfl, rfl⟩
theorem sure_sync {d : Dk} {N : Nat} (h : Roomy d N) (hN : N + 1 ≤ 200) {k : Nat} {A : List UInt8} {s : Nat} (hs : SureF d k A s) :
  d.begun.err true [sN] = 0 ∧ Roomy (d.begun.syncD sN) (N + 1) ∧ SureF (d.begun.syncD sN) k A A.length := by
 obtain ⟨hb, b1, b2, b3, _⟩ := h.begun hN
 have hs : SureF d.begun k A s := ⟨by rw [b1, b2]; exact hs.at_, by rw [b3]; exact hs.f⟩
 generalize d.begun = b at *
 obtain ⟨n1, n2, n3⟩ := hs.num
 have e := sure_err hb hs
 have e2 : b.syncD sN = { b with files := b.files.set k (A, A.length) } := by unfold Dk.syncD; rw [if_pos e, n1, n2]
 have k2 := Dk.syncD_ok hb.ok sN
 have hA := hb.sz _ (List.mem_of_getElem? hs.f)
 rw [e2] at k2 ⊢
 exact ⟨e, ⟨hb.off, hb.stop, k2, hN, hb.q, Sz_set hb.sz _ hA⟩, ⟨hs.at_, by show (b.files.set k (A, A.length))[k]? = _; rw [List.getElem?_set_self n3]⟩⟩
theorem sure_syncDir {d : Dk} {N : Nat} (h : Roomy d N) (hN : N + 1 ≤ 200) {k : Nat} {A : List UInt8} {s : Nat} (hs : SureF d k A s) :
  d.begun.err false [] = 0 ∧ Roomy d.begun.syncDirD (N + 1) ∧ SureF d.begun.syncDirD k A s ∧ d.begun.syncDirD.sk = d.begun.syncDirD.nk ∧ d.begun.syncDirD.sv = d.begun.syncDirD.nv ∧ d.begun.syncDirD.ch = [] := by
 obtain ⟨hb, b1, b2, b3, _⟩ := h.begun hN
 have hs : SureF d.begun k A s := ⟨by rw [b1, b2]; exact hs.at_, by rw [b3]; exact hs.f⟩
 generalize d.begun = b at *
 have e : b.err false [] = 0 := by unfold Dk.err; rw [if_neg (by simp [hb.off])]; simp
 have e2 : b.syncDirD = { b with sk := b.nk, sv := b.nv, ch := [] } := by unfold Dk.syncDirD; rw [if_neg (by simp [hb.off])]
 have k2 := Dk.syncDirD_ok hb.ok
 rw [e2] at k2 ⊢
 exact ⟨e, ⟨hb.off, hb.stop, k2, hN, hb.q, hb.sz⟩, ⟨hs.at_, hs.f⟩, rfl, rfl, rfl⟩
theorem sure_crash {d : Dk} {N : Nat} (h : Roomy d N) {k : Nat} {A : List UInt8} {s : Nat} (hs : SureF d k A s) (h1 : d.sk = d.nk) (h2 : d.sv = d.nv) (h3 : d.ch = []) (dir : Int) (keep : List Int) :
  (look (d.crash dir keep).nk (d.crash dir keep).nv sN).isSome = true ∧ ∃ n, s ≤ n ∧ n ≤ A.length ∧ ((d.crash dir keep).file ((d.crash dir keep).num sN)).1 = A.take n := by
 have en : d.names dir = (d.nk, d.nv) := by
  unfold Dk.names
  rw [h1, h2, h3]; simp [kfold]
 have hh : d.has dir k = true := by
  unfold Dk.has
  rw [en]
  simpa using look_mem hs.at_
 obtain ⟨f1, f2⟩ := crash_file (keep := keep) hs.f hh
 have hl : look (d.crash dir keep).nk (d.crash dir keep).nv sN = some ((rank (d.has dir) k : Nat) : Int) := by
  obtain ⟨i, g1, g2⟩ := (look_iff h.ok.nr).1 hs.at_
  have hr : Rising (d.crash dir keep).nk := by
    show Rising (d.names dir).1
    rw [en]; exact h.ok.nr
  refine (look_iff hr).2 ⟨i, ?_, ?_⟩
  · show (d.names dir).1[i]? = _
    rw [en]; exact g1
  · show ((d.names dir).2.map _)[i]? = _
    rw [en, List.getElem?_map, g2]
    simp
 have hA := (h.ok.fs _ (List.mem_of_getElem? hs.f)).1
 obtain ⟨l1, l2⟩ := leftOf_le hA k keep
 refine ⟨by rw [hl]; rfl, leftOf (A, s) k keep, l1, l2, ?_⟩
 have hn : (d.crash dir keep).num sN = rank (d.has dir) k := by unfold Dk.num; rw [hl]; rfl
 rw [hn, f2]
end Go.Proofs.Ytoelkgbeefoplaa
namespace Go.Proofs.Ytoelkgbeefoplaa
open Go Go.Br Go.Proofs
open List (map)
theorem cutA_le (l : List DOp) : (cutD l).length ≤ 60 := by
 unfold cutD; split <;> simp <;> omega
theorem cutA_fits {l : List DOp} (hf : ∀ o ∈ l, o.fits) : ∀ o ∈ cutD l, o.small ∧ o.fits := by
 unfold cutD
 split
 · rename_i h
   intro o ho
   have h1 := List.all_eq_true.1 h o ho
   simp only [DOp.ok, Bool.and_eq_true, decide_eq_true_eq] at h1
   exact ⟨⟨h1.1.1.1, h1.1.1.2, h1.1.2, h1.2⟩, hf o (List.mem_of_mem_take ho)⟩
 · intro o ho; simp at ho
noncomputable def B36 : Code := (Try.f36.body).getD .skip
noncomputable def G36 (n : Nat) (l : List Bool) : List Item := cgo n l [.code B36]
theorem F36 : Fnc Try.prog 36 Try.f36 B36 := ⟨Try.func36, by kernel_rfl, by kernel_rfl⟩
theorem lo36 (l : List DOp) (hl : l.length ≤ 60) (hf : ∀ o ∈ l, o.small ∧ o.fits) (p : Dk × Int) (hp : Both p.1 p.2 0) : ∀ (m i : Nat), i + m = l.length →
    AW Try.prog 36 none 0 (G36 25 []) (mk 30 [(4, .d (.raw (Value.pointer none))), (5, .d (.raw (Value.pointer none))), (6, .d (.bool false)), (7, .ptr 0 0 0), (8, .ptr 6 0 0), (16, .d (.list 7 (l.map dopD))), (17, .d (.int .i64 (l.length : Nat))), (18, .d (.int .i64 (i : Nat)))])
      (SX (runA p (l.take i)).1 (runA p (l.take i)).2 true) [] fun r σ' => r = .ret (.tuple [.ptr 0 0 0, .ptr 6 0 0, .d (.bool true)]) ∧ σ' = SX (runA p l).1 (runA p l).2 true := by
  intro m
  induction m with
  | zero =>
    intro i hi
    have hi : i = l.length := by omega
    subst hi
    rw [List.take_length]
    generalize runA p l = q
    clear hf hp
    refine .sg0 5 [4, 5, 6, 7, 8, 16, 17, 18, 19] (G36 30 []) [(19, .d (.bool (decide ((↑l.length : Int) < (↑l.length : Int)))))] ?_
    refine .if' (decide ((↑l.length : Int) < (↑l.length : Int))) (G36 31 [true]) (G36 31 [false]) (fun h1 => ?_) (fun h1 => ?_)
    · simp only [bsX] at h1
      omega
    · simp only [bsX] at h1
      refine .seg 9 [4, 5, 6] (T' := cgo 40 [false] [.code B36]) (tm' := mk 30 [(4, .ptr 0 0 0), (5, .ptr 6 0 0), (6, .d (.bool true))]) (σ' := [.cells (hC 1 2 5 q.fst), .row 2 (map fileD q.fst.files) true, .cells [.row 3, .row 4], .row 1 (map strD q.fst.nk) true, .row 1 (map intD q.fst.nv) true, .row 3 (map chD q.fst.ch) true, .cells [.row 7, .d (.list 2 (map nmD (Rof q.fst q.snd).now)), .d (.list 2 (map nmD (Rof q.fst q.snd).sure)), .row 8, .d (.int .i64 q.fst.quota), .d (.bool q.fst.full), .d (.bool q.fst.off), .d (.int .i64 q.snd), .d (.int .i64 q.fst.calls)], .row 2 (map fileD q.fst.files) true, .row 3 (map chD q.fst.ch) true]) (by kernel_rfl) ?_
      refine .rt F36 (V.tuple [V.ptr 0 0 0, V.ptr 6 0 0, V.d (D.bool true)]) ?_
      exact ⟨rfl, rfl⟩
  | succ m ih =>
    intro i hi
    obtain ⟨o, ho⟩ := get_some (l := l) (i := i) (by omega)
    have ih := ih (i + 1) (by omega)
    rw [take_get ho, runA_snoc] at ih
    have hb := runA_both (l.take i) hp (by rw [List.length_take]; omega) (fun o' h' => (hf o' (List.mem_of_mem_take h')).2)
    obtain ⟨hs, hfo⟩ := hf o (List.mem_of_getElem? ho)
    have hN : 0 + 2 * (l.take i).length + 5 ≤ 50000 := by rw [List.length_take]; omega
    generalize 0 + 2 * (l.take i).length = N at hb hN
    generalize runA p (l.take i) = q at *
    obtain ⟨d, t⟩ := q
    dsimp only at *
    have hc := spec_42x d t N hb hN o hs hfo
    clear hf hp
    refine .sg0 5 [4, 5, 6, 7, 8, 16, 17, 18, 19] (G36 30 []) [(19, .d (.bool (decide ((↑i : Int) < (↑l.length : Int)))))] ?_
    refine .if' (decide ((↑i : Int) < (↑l.length : Int))) (G36 31 [true]) (G36 31 [false]) (fun h1 => ?_) (fun h1 => ?_)
    · simp only [bsX] at h1
      refine .sg0 5 [4, 5, 6, 7, 8, 16, 17, 18, 19] (G36 36 [true]) [] ?_
      refine .op' (G36 37 [true]) (ixData_ok (t := 54) (x := (.tmp 16)) (i := (.tmp 18)) (k := IntKind.i64) (n := (↑i : Int)) (sz := 7) (xs := map dopD l) (d := dopD o) (by kernel_rfl) (by kernel_rfl) (by kernel_rfl) (by kernel_rfl) (by omega) (map_get ho)) ?_
      refine .sg 9 [4, 5, 6, 7, 8, 10, 16, 17, 18, 19, 20, 21, 22, 23, 24] (G36 46 [true]) [(10, .ptr 9 0 0), (21, .d (.agg [D.int IntKind.u64 (↑o.kind : Int), D.str o.a, D.str o.b, D.list 1 (map u8 o.data), D.int IntKind.i64 o.n, D.int IntKind.i64 o.dir, D.list 1 (map intD o.keep)])), (22, .ptr 0 0 0), (23, .ptr 6 0 0), (24, .d (.agg [D.int IntKind.u64 (↑o.kind : Int), D.str o.a, D.str o.b, D.list 1 (map u8 o.data), D.int IntKind.i64 o.n, D.int IntKind.i64 o.dir, D.list 1 (map intD o.keep)]))] [(9, .cells [.d (.int .u64 (↑o.kind : Int)), .d (.str o.a), .d (.str o.b), .d (.list 1 (map u8 o.data)), .d (.int .i64 o.n), .d (.int .i64 o.dir), .d (.list 1 (map intD o.keep))])] ?_
      have hgo : AW Try.prog 36 none 0 (G36 47 [true]) (mk 30 [(4, .d (.raw (Value.pointer none))), (5, .d (.raw (Value.pointer none))), (6, .d (.bool false)), (7, .ptr 0 0 0), (8, .ptr 6 0 0), (16, .d (.list 7 (l.map dopD))), (17, .d (.int .i64 (l.length : Nat))), (18, .d (.int .i64 (i : Nat))), (25, .d (.bool true))]) (SX (stepA d o) (tA d t o) true) [] fun r σ' => r = .ret (.tuple [.ptr 0 0 0, .ptr 6 0 0, .d (.bool true)]) ∧ σ' = SX (runA p l).1 (runA p l).2 true := by
        generalize stepA d o = d' at *
        generalize tA d t o = t' at *
        clear hc hb
        refine .sg0 9 [4, 5, 6, 7, 8, 16, 17, 18, 25, 26, 27] (G36 56 [true, false]) [(18, .d (.int .i64 (IntKind.i64.wrap ((↑i : Int) + 1)))), (26, .d (.bool false)), (27, .d (.int .i64 (IntKind.i64.wrap ((↑i : Int) + 1))))] ?_
        simp (disch := omega) only [bsW]
        refine .kp [4, 5, 6, 7, 8, 16, 17, 18] ?_
        refine .seg 1 [4, 5, 6, 7, 8, 16, 17, 18] (by kernel_rfl) ih
      refine .ca [0, 1, 2, 3, 4, 5, 6, 7, 8] (G36 47 [true]) F42 hc ?_
      rintro r0 s0 ⟨rfl, hs0⟩
      refine ⟨_, rfl, ?_⟩
      rcases hs0 with rfl | rfl
      · refine .kp [4, 5, 6, 7, 8, 16, 17, 18, 25] ?_
        refine .su [0, 1, 2, 3, 4, 5, 6, 7, 8] (mk 30 [(4, .d (.raw (Value.pointer none))), (5, .d (.raw (Value.pointer none))), (6, .d (.bool false)), (7, .ptr 0 0 0), (8, .ptr 6 0 0), (16, .d (.list 7 (l.map dopD))), (17, .d (.int .i64 (l.length : Nat))), (18, .d (.int .i64 (i : Nat))), (25, .d (.bool true))]) (SX (stepA d o) (tA d t o) true) ?_
        exact hgo
      · refine .kp [4, 5, 6, 7, 8, 16, 17, 18, 25] ?_
        refine .su [0, 1, 10, 11, 12, 5, 6, 7, 8] (mk 30 [(4, .d (.raw (Value.pointer none))), (5, .d (.raw (Value.pointer none))), (6, .d (.bool false)), (7, .ptr 0 0 0), (8, .ptr 6 0 0), (16, .d (.list 7 (l.map dopD))), (17, .d (.int .i64 (l.length : Nat))), (18, .d (.int .i64 (i : Nat))), (25, .d (.bool true))]) (SX (stepA d o) (tA d t o) true) ?_
        exact hgo
    · simp only [bsX] at h1
      omega
theorem spec_36 (q : Int) (hq : q < 9223372036854775808) (l : List DOp) (hl : l.length ≤ 9223372036854775807) (hf : ∀ o ∈ l, o.fits) :
  CallsA Try.prog 36 [.d (.int .i64 q), .d (.list 7 (l.map dopD))] [] fun r σ' => r = .ret (.tuple [.ptr 0 0 0, .ptr 6 0 0, .d (.bool true)]) ∧ σ' = SX (runA (Dk.new q, -1) (cutD l)).1 (runA (Dk.new q, -1) (cutD l)).2 true := by
 refine CallsA.start F36 (tm := mk (Try.f36.ntmps) [(0, .d (.int .i64 q)), (1, .d (.list 7 (l.map dopD)))]) (by kernel_rfl) ?_
 have hnext := lo36 (cutD l) (cutA_le l) (cutA_fits hf) (Dk.new q, -1) (Both.new hq) (cutD l).length 0 (by omega)
 rw [List.take_zero] at hnext
 have hr : runA (Dk.new q, -1) [] = (Dk.new q, -1) := rfl
 rw [hr] at hnext
 clear hr
 refine .sg0 9 [0, 1, 4, 5, 6, 11] (G36 9 []) [(4, .d (.raw (Value.pointer none))), (5, .d (.raw (Value.pointer none))), (6, .d (.bool false)), (11, .d (.int .i64 q))] ?_
 refine .ca [] (G36 10 []) F25 (@spec_25 (q)) ?_
 rintro r0 s0 ⟨rfl, rfl⟩
 refine ⟨_, rfl, ?_⟩
 refine .sg0 1 [0, 1, 4, 5, 6, 11, 12, 13] (G36 11 []) [(13, .d (.int .i64 q))] ?_
 refine .ca [] (G36 12 []) F39 (@spec_39 (q)) ?_
 rintro r1 s1 ⟨rfl, rfl⟩
 refine ⟨_, rfl, ?_⟩
 refine .sg0 7 [1, 4, 5, 6, 7, 8, 15] (G36 19 []) [(7, .ptr 0 0 0), (8, .ptr 6 0 0), (15, .d (.list 7 (map dopD l)))] ?_
 refine .cd (G36 20 []) F38 (@spec_38 (l) (by assumption)) ?_
 refine .seg 4 [4, 5, 6, 7, 8, 16, 17, 18] (T' := cgo 24 [] [.code B36]) (tm' := mk 30 [(4, .d (.raw (Value.pointer none))), (5, .d (.raw (Value.pointer none))), (6, .d (.bool false)), (7, .ptr 0 0 0), (8, .ptr 6 0 0), (16, .d (.list 7 (map dopD (cutD l)))), (17, .d (.int .i64 (↑(map dopD (cutD l)).length : Int))), (18, .d (.int .i64 0))]) (σ' := [.cells [.row 1, .ptr 2 0 0, .ep 2 (D.agg [D.list 1 [], D.list 1 []]) 0, .row 5, .d (.int .i64 (Dk.new q).quota), .d (.bool false), .d (.bool false), .d (.int .i64 (Dk.new q).stop), .d (.int .i64 (Dk.new q).calls)], .row 2 [] true, .cells [.row 3, .row 4], .row 1 [] true, .row 1 [] true, .row 3 [] true, .cells [.row 7, .d (.list 2 []), .d (.list 2 []), .row 8, .d (.int .i64 (Rk.new q).quota), .d (.bool false), .d (.bool false), .d (.int .i64 (Rk.new q).stop), .d (.int .i64 (Rk.new q).calls)], .row 2 [] true, .row 3 [] true]) (by kernel_rfl) ?_
 simp only [List.length_map]
 exact .seg 1 [4, 5, 6, 7, 8, 16, 17, 18] (by kernel_rfl) hnext
end Go.Proofs.Ytoelkgbeefoplaa
namespace Go.Proofs.Ytoelkgbeefoplaa
open Go Go.Br Go.Proofs
open List (map)
noncomputable def B8 : Code := (Try.f8.body).getD .skip
noncomputable def G8 (n : Nat) (l : List Bool) : List Item := cgo n l [.code B8]
theorem F8 : Fnc Try.prog 8 Try.f8 B8 := ⟨Try.func8, by kernel_rfl, by kernel_rfl⟩
section calls
variable {d : Dk} {N k s : Nat} {A : List UInt8}
theorem spec_26s (h : Roomy d N) (hN : N + 2 ≤ 200) : CallsA Try.prog 26 [.ptr 0 0 0, .d (.str sN)] (SD d false) fun r σ' => r = .ret (.d (.int .i64 0)) ∧ σ' = SD (d.begun.createD sN) true := by
 have hc := spec_26 d N h.ok (by omega) sN (by decide)
 rw [(sure_create h hN).1] at hc
 exact hc
theorem spec_31s (h : Roomy d N) (hN : N + 1 ≤ 200) (hs : SureF d k A s) (bs : List UInt8) (hl : A.length + bs.length ≤ 600) :
  CallsA Try.prog 31 [.ptr 0 0 0, .d (.str sN), .d (.list 1 (bs.map u8))] (SD d false) fun r σ' => r = .ret (.d (.int .i64 0)) ∧ σ' = SD (d.begun.appendD sN bs) true := by
 have hc := spec_31 d N h.ok (by omega) sN (by decide) bs (by omega)
 rw [(sure_append h hN hs bs hl).1] at hc
 exact hc
theorem spec_32s (h : Roomy d N) (hN : N + 1 ≤ 200) (hs : SureF d k A s) : CallsA Try.prog 32 [.ptr 0 0 0, .d (.str sN)] (SD d false) fun r σ' => r = .ret (.d (.int .i64 0)) ∧ σ' = SD (d.begun.syncD sN) true := by
 have hc := spec_32 d N h.ok (by omega) sN (by decide)
 rw [(sure_sync h hN hs).1] at hc
 exact hc
theorem spec_33s (h : Roomy d N) (hN : N + 1 ≤ 200) (hs : SureF d k A s) : CallsA Try.prog 33 [.ptr 0 0 0] (SD d false) fun r σ' => r = .ret (.d (.int .i64 0)) ∧ σ' = SD d.begun.syncDirD true := by
 have hc := spec_33 d N h.ok (by omega)
 rw [(sure_syncDir h hN hs).1] at hc
 exact hc
theorem spec_27s (N : Nat) (h : d.Ok N) (x : List UInt8) (hl : (look d.nk d.nv sN).isSome = true) (hx : (d.file (d.num sN)).1 = x) : CallsA Try.prog 27 [.ptr 0 0 0, .d (.str sN)] (SD d false) fun r σ' => r = .ret (.tuple [.d (.list 1 (x.map u8)), .d (.int .i64 0)]) ∧ σ' = SD d false := by
 have hc := spec_27 d N h sN
 rw [if_pos hl, if_pos hl, hx] at hc
 exact hc
end calls
theorem strOf_size (a : List UInt8) : (strOf a).size = a.length := rfl
theorem strOf_app (a b : List UInt8) : strOf a ++ strOf b = strOf (a ++ b) := by
 apply ByteArray.ext
 rw [ByteArray.data_append]
 simp [strOf]
theorem strOf_cut (a : List UInt8) (n : Nat) : (strOf a).extract 0 n = strOf (a.take n) := by
 apply ByteArray.ext
 simp [strOf, ByteArray.data_extract]
theorem fi8 (data more x : List UInt8) (h1 : data.length ≤ 300) (h2 : more.length ≤ 300) (hx1 : data.length ≤ x.length) (hx2 : x.length ≤ data.length + more.length) (hx3 : x = (data ++ more).take x.length) :
   AW Try.prog 8 none 0 (G8 106 [false, false]) (mk 127 [(6, .d (.bool false)), (7, .d (.list 1 (data.map u8))), (8, .d (.list 1 (more.map u8))), (12, .d (.int .i64 0)), (13, .d (.int .i64 0)), (14, .d (.int .i64 0)), (15, .d (.int .i64 0)), (16, .d (.list 1 (x.map u8))), (17, .d (.int .i64 0))]) [] [] fun r σ' => r = .ret (.d (.bool true)) := by
 have hs1 : (strOf data).size = data.length := strOf_size data
 have hs2 : (strOf more).size = more.length := strOf_size more
 refine .sg0 3 [6, 7, 8, 12, 13, 14, 15, 16, 17, 78] (G8 109 [false, false]) [(78, .d (.list 1 (map u8 data)))] ?_
 refine .op' (G8 110 [false, false]) (bts_data (s := 22) (t := 9) (x := (.tmp 78)) (bs := data) (by kernel_rfl) (by kernel_rfl) (by kernel_rfl) (by kernel_rfl)) ?_
 refine .sg0 1 [6, 7, 8, 12, 13, 14, 15, 16, 17, 78, 79, 80] (G8 111 [false, false]) [(80, .d (.list 1 (map u8 more)))] ?_
 refine .op' (G8 112 [false, false]) (bts_data (s := 22) (t := 9) (x := (.tmp 80)) (bs := more) (by kernel_rfl) (by kernel_rfl) (by kernel_rfl) (by kernel_rfl)) ?_
 refine .op' (G8 113 [false, false]) (cat_ok (t := 9) (ty := 9) (x := (.tmp 79)) (y := (.tmp 81)) (s := strOf data) (u := strOf more) (by kernel_rfl) (by kernel_rfl) (by kernel_rfl) (by omega)) ?_
 refine .seg 3 [6, 7, 12, 13, 14, 15, 16, 17, 18] (T' := cgo 116 [false, false] [.code B8]) (tm' := mk 127 [(6, .d (.bool false)), (7, .d (.list 1 (map u8 data))), (12, .d (.int .i64 0)), (13, .d (.int .i64 0)), (14, .d (.int .i64 0)), (15, .d (.int .i64 0)), (16, .d (.list 1 (map u8 x))), (17, .d (.int .i64 0)), (18, .d (.str (strOf data ++ strOf more)))]) (σ' := []) (by kernel_rfl) ?_
 rw [strOf_app]
 have hs3 : (strOf (data ++ more)).size = data.length + more.length := by rw [strOf_size, List.length_append]
 generalize data ++ more = all at *
 have hg1 : decide ((↑(List.map u8 x).length : Int) ≥ (↑(List.map u8 data).length : Int)) = true := by simp; omega
 have hg2 : decide ((↑(List.map u8 x).length : Int) ≤ (↑(strOf all).size : Int)) = true := by simp; omega
 have hg3 : ((strOf x).toList == ((strOf all).extract 0 (List.map u8 x).length).toList) = true := by
   rw [strOf_cut, strOf_eq, decide_eq_true_eq, List.length_map]
   exact hx3
 refine .drawF (T' := cgo 117 [false, false] [.code B8]) (tm' := mk 127 [(6, .d (.bool true)), (7, .d (.list 1 (map u8 data))), (12, .d (.int .i64 0)), (13, .d (.int .i64 0)), (14, .d (.int .i64 0)), (15, .d (.int .i64 0)), (16, .d (.list 1 (map u8 x))), (17, .d (.int .i64 0)), (18, .d (.str (strOf all))), (83, .d (.int .i64 0)), (84, .d (.bool true)), (85, .d (.bool true)), (86, .d (.int .i64 0)), (87, .d (.bool true)), (88, .d (.bool true)), (89, .d (.bool true)), (90, .d (.int .i64 0)), (91, .d (.bool true)), (92, .d (.bool true)), (93, .d (.bool true)), (94, .d (.int .i64 0)), (95, .d (.bool true)), (96, .d (.bool true)), (97, .d (.bool true)), (98, .d (.int .i64 0)), (99, .d (.bool true)), (100, .d (.bool true)), (101, .d (.bool true)), (102, .d (.list 1 (map u8 x))), (103, .d (.int .i64 (↑(map u8 x).length : Int))), (104, .d (.list 1 (map u8 data))), (105, .d (.int .i64 (↑(map u8 data).length : Int))), (106, .d (.bool true)), (107, .d (.bool true)), (108, .d (.bool true)), (109, .d (.list 1 (map u8 x))), (110, .d (.int .i64 (↑(map u8 x).length : Int))), (111, .d (.str (strOf all))), (112, .d (.int .i64 (↑(strOf all).size : Int))), (113, .d (.bool true)), (114, .d (.bool true)), (115, .d (.bool true)), (116, .d (.list 1 (map u8 x))), (117, .d (.str (strOf x))), (118, .d (.str (strOf all))), (119, .d (.list 1 (map u8 x))), (120, .d (.int .i64 (↑(map u8 x).length : Int))), (121, .d (.str ((strOf all).extract 0 (map u8 x).length))), (122, .d (.bool true)), (123, .d (.bool true)), (124, .d (.bool true)), (125, .d (.bool true)), (126, .d (.bool true))]) (σ' := []) (by kernel_rfl) (by kernel_rfl) (by kernel_rfl) (by kernel_rfl) (fun kz L hL => ?_) ?_
 · refine ⟨[nF, nF, nF, nF, nF, nF, nF, nF, nF, nF, nF, nF, nF, nF, nF, nF, nF, nF, nF, nF, nF, nF, nF, nF, nF, nF, nF, nF, nF, nF, nF, nF, nF, nF, nF, nF, nF, nF, nF, nF, nF, nF, nF, nF, nF], run_amongF hL _ [] [0, 1, 2, 3, 4, 5, 6, 7, 8, 9, 10, 11, 12, 13, 14, 15, 16, 17, 18, 19, 21, 20, 22, 23, 24, 25, 26, 28, 27, 29, 30, 31, 32, 33, 34, 35, 36, 37, 38, 39, 40, 41, 42, 43, 44] (by intro p hp; cases hp) (by kernel_rfl) ?_⟩
   refine Run.append (A := [0, 1, 2, 3, 4, 5, 6, 7, 8, 9, 10, 11, 12, 13, 14, 15, 16, 17, 18, 19, 21, 20, 22, 23]) (srunF_ok (tm' := mk 127 [(6, .d (.bool false)), (7, .d (.list 1 (map u8 data))), (12, .d (.int .i64 0)), (13, .d (.int .i64 0)), (14, .d (.int .i64 0)), (15, .d (.int .i64 0)), (16, .d (.list 1 (map u8 x))), (17, .d (.int .i64 0)), (18, .d (.str (strOf all))), (83, .d (.int .i64 0)), (84, .d (.bool true)), (85, .d (.bool true)), (86, .d (.int .i64 0)), (87, .d (.bool true)), (88, .d (.bool true)), (89, .d (.bool true)), (90, .d (.int .i64 0)), (91, .d (.bool true)), (92, .d (.bool true)), (93, .d (.bool true)), (94, .d (.int .i64 0)), (95, .d (.bool true)), (96, .d (.bool true)), (97, .d (.bool true)), (98, .d (.int .i64 0)), (99, .d (.bool true)), (100, .d (.bool true)), (101, .d (.bool true)), (102, .d (.list 1 (map u8 x))), (103, .d (.int .i64 (↑(map u8 x).length : Int))), (104, .d (.list 1 (map u8 data))), (105, .d (.int .i64 (↑(map u8 data).length : Int))), (106, .d (.bool (decide ((↑(map u8 x).length : Int) ≥ (↑(map u8 data).length : Int)))))]) (σ' := []) (by kernel_rfl)) ?_
   rw [hg1]
   refine Run.append (A := [24, 25, 26, 28, 27, 29, 30]) (srunF_ok (tm' := mk 127 [(6, .d (.bool false)), (7, .d (.list 1 (map u8 data))), (12, .d (.int .i64 0)), (13, .d (.int .i64 0)), (14, .d (.int .i64 0)), (15, .d (.int .i64 0)), (16, .d (.list 1 (map u8 x))), (17, .d (.int .i64 0)), (18, .d (.str (strOf all))), (83, .d (.int .i64 0)), (84, .d (.bool true)), (85, .d (.bool true)), (86, .d (.int .i64 0)), (87, .d (.bool true)), (88, .d (.bool true)), (89, .d (.bool true)), (90, .d (.int .i64 0)), (91, .d (.bool true)), (92, .d (.bool true)), (93, .d (.bool true)), (94, .d (.int .i64 0)), (95, .d (.bool true)), (96, .d (.bool true)), (97, .d (.bool true)), (98, .d (.int .i64 0)), (99, .d (.bool true)), (100, .d (.bool true)), (101, .d (.bool true)), (102, .d (.list 1 (map u8 x))), (103, .d (.int .i64 (↑(map u8 x).length : Int))), (104, .d (.list 1 (map u8 data))), (105, .d (.int .i64 (↑(map u8 data).length : Int))), (106, .d (.bool true)), (107, .d (.bool true)), (108, .d (.bool true)), (109, .d (.list 1 (map u8 x))), (110, .d (.int .i64 (↑(map u8 x).length : Int))), (111, .d (.str (strOf all))), (112, .d (.int .i64 (↑(strOf all).size : Int))), (113, .d (.bool (decide ((↑(map u8 x).length : Int) ≤ (↑(strOf all).size : Int)))))]) (σ' := []) (by kernel_rfl)) ?_
   rw [hg2]
   refine Run.ap [31, 32, 33] [(114, .d (.bool true)), (115, .d (.bool true)), (116, .d (.list 1 (map u8 x)))] [] ?_
   refine Run.lk 34 (.d (.str (strOf x))) [(.tmp 116)] (fun tm' σ2 hv hr => bts_data (s := 22) (t := 9) (x := (.tmp 116)) (bs := x) (by kernel_rfl) (by kernel_rfl) (by kernel_rfl) (evv hv)) ?_
   refine Run.ap [35, 36, 37] [(118, .d (.str (strOf all))), (119, .d (.list 1 (map u8 x))), (120, .d (.int .i64 (↑(map u8 x).length : Int)))] [] ?_
   refine Run.lk 38 (.d (.str ((strOf all).extract 0 (map u8 x).length))) [(.tmp 118), (.tmp 120)] (fun tm' σ2 hv hr => slStr_ok (t := 9) (x := (.tmp 118)) (lo := none) (hi := (some (.tmp 120))) (s := strOf all) (0) ((map u8 x).length) (by kernel_rfl) (evv hv) (by kernel_rfl) rfl (bnd_some (k := IntKind.i64) (i := (↑(map u8 x).length : Int)) (evv hv) (by omega) (by rfl)) (by omega) (by simp <;> omega)) ?_
   refine Run.append (A := [39]) (srunF_ok (tm' := mk 127 [(6, .d (.bool false)), (7, .d (.list 1 (map u8 data))), (12, .d (.int .i64 0)), (13, .d (.int .i64 0)), (14, .d (.int .i64 0)), (15, .d (.int .i64 0)), (16, .d (.list 1 (map u8 x))), (17, .d (.int .i64 0)), (18, .d (.str (strOf all))), (83, .d (.int .i64 0)), (84, .d (.bool true)), (85, .d (.bool true)), (86, .d (.int .i64 0)), (87, .d (.bool true)), (88, .d (.bool true)), (89, .d (.bool true)), (90, .d (.int .i64 0)), (91, .d (.bool true)), (92, .d (.bool true)), (93, .d (.bool true)), (94, .d (.int .i64 0)), (95, .d (.bool true)), (96, .d (.bool true)), (97, .d (.bool true)), (98, .d (.int .i64 0)), (99, .d (.bool true)), (100, .d (.bool true)), (101, .d (.bool true)), (102, .d (.list 1 (map u8 x))), (103, .d (.int .i64 (↑(map u8 x).length : Int))), (104, .d (.list 1 (map u8 data))), (105, .d (.int .i64 (↑(map u8 data).length : Int))), (106, .d (.bool true)), (107, .d (.bool true)), (108, .d (.bool true)), (109, .d (.list 1 (map u8 x))), (110, .d (.int .i64 (↑(map u8 x).length : Int))), (111, .d (.str (strOf all))), (112, .d (.int .i64 (↑(strOf all).size : Int))), (113, .d (.bool true)), (114, .d (.bool true)), (115, .d (.bool true)), (116, .d (.list 1 (map u8 x))), (117, .d (.str (strOf x))), (118, .d (.str (strOf all))), (119, .d (.list 1 (map u8 x))), (120, .d (.int .i64 (↑(map u8 x).length : Int))), (121, .d (.str ((strOf all).extract 0 (map u8 x).length))), (122, .d (.bool ((strOf x).toList == ((strOf all).extract 0 (map u8 x).length).toList)))]) (σ' := []) (by kernel_rfl)) ?_
   rw [hg3]
   refine Run.ap [40, 41] [(123, .d (.bool true)), (124, .d (.bool true))] [] ?_
   refine Run.one (StepF.data (o := ((drawOf (G8 116 [false, false]))[42]?).getD default) (v := .d (.bool true)) (by kernel_rfl) rfl (by kernel_rfl) (by kernel_rfl) (by kernel_rfl) (fun s => sem_data0 (x := (.func 30)) (args := #[]) (ts := #[]) (first := []) (cap := []) (ds := []) (v := .d (.bool true)) F30 (@spec_30) (by kernel_rfl) (by kernel_rfl) (by kernel_rfl) (by kernel_rfl) (by kernel_rfl) (by kernel_rfl) _)) ?_
   exact Run.fin
 refine .rt F8 (V.d (D.bool true)) ?_
 exact rfl
theorem Roomy.mono {d : Dk} {N M : Nat} (h : Roomy d N) (hm : N ≤ M) (hb : M ≤ 200) : Roomy d M := ⟨h.off, h.stop, h.ok.mono hm (by omega), hb, h.q, h.sz⟩
theorem mi8d (data more : List UInt8) (h1 : data.length ≤ 300) (h2 : more.length ≤ 300) (d : Dk) (k s : Nat) (A : List UInt8) (h : Roomy d 128) (hs : SureF d k A s) (e1 : d.sk = d.nk) (e2 : d.sv = d.nv) (e3 : d.ch = []) (hA : A = data ++ more) (hsl : s = data.length) (dir : Int) (keep : List Int) (hk : keep.length ≤ 300) (hkv : ∀ v ∈ keep, -9223372036854775808 ≤ v ∧ v < 9223372036854775808) :
  AW Try.prog 8 none 0 (G8 90 [false, false]) (mk 127 [(5, .ptr 6 0 0), (6, .d (.bool false)), (7, .d (.list 1 (data.map u8))), (8, .d (.list 1 (more.map u8))), (9, .ptr 0 0 0), (12, .d (.int .i64 0)), (13, .d (.int .i64 0)), (14, .d (.int .i64 0)), (15, .d (.int .i64 0))]) (SD d true ++ [.cells [.d (.int .i64 dir), .d (.list 1 (keep.map intD))]]) [] fun r σ' => r = .ret (.d (.bool true)) := by
 obtain ⟨g1, n, g2, g3, g4⟩ := sure_crash h hs e1 e2 e3 dir keep
 have hc := spec_35 d 128 h.ok dir keep (by omega) hkv
 have hk1 := Dk.crash_ok h.ok dir keep
 refine .seg 4 [5, 6, 7, 8, 9, 12, 13, 14, 15, 70, 71] (T' := cgo 94 [false, false] [.code B8]) (tm' := mk 127 [(5, .ptr 6 0 0), (6, .d (.bool false)), (7, .d (.list 1 (data.map u8))), (8, .d (.list 1 (more.map u8))), (9, .ptr 0 0 0), (12, .d (.int .i64 0)), (13, .d (.int .i64 0)), (14, .d (.int .i64 0)), (15, .d (.int .i64 0)), (70, .ptr 0 0 0), (71, .d (.agg [.int .i64 dir, .list 1 (keep.map intD)]))]) (σ' := (SD d true ++ [.cells [.d (.int .i64 dir), .d (.list 1 (keep.map intD))]])) (by kernel_rfl) ?_
 refine .ca [0, 1, 2, 3, 4, 5] (G8 95 [false, false]) F35 (hc) ?_
 rintro r1 s1 ⟨rfl, rfl⟩
 refine ⟨_, rfl, ?_⟩
 generalize d.crash dir keep = d1 at *
 subst hA; subst hsl
 have hx := fi8 data more ((data ++ more).take n) h1 h2 (by simp only [List.length_take, List.length_append] at *; omega) (by simp only [List.length_take, List.length_append] at *; omega) (by rw [List.length_take, List.take_eq_take_iff]; simp at *; try omega)
 have hr := spec_27s 128 hk1 _ g1 g4
 generalize (data ++ more).take n = x at *
 clear hs h hc hk1 g1 g4 g2 g3 e1 e2 e3
 refine .kp [5, 6, 7, 8, 9, 12, 13, 14, 15] ?_
 refine .su [0, 1, 7, 8, 9, 5, 6] (mk 127 [(5, .ptr 6 0 0), (6, .d (.bool false)), (7, .d (.list 1 (data.map u8))), (8, .d (.list 1 (more.map u8))), (9, .ptr 0 0 0), (12, .d (.int .i64 0)), (13, .d (.int .i64 0)), (14, .d (.int .i64 0)), (15, .d (.int .i64 0))]) (SD d1 true ++ [.cells [.d (.int .i64 dir), .d (.list 1 (keep.map intD))]]) ?_
 refine .seg 4 [6, 7, 8, 12, 13, 14, 15, 74] (T' := cgo 99 [false, false] [.code B8]) (tm' := mk 127 [(6, .d (.bool false)), (7, .d (.list 1 (data.map u8))), (8, .d (.list 1 (more.map u8))), (12, .d (.int .i64 0)), (13, .d (.int .i64 0)), (14, .d (.int .i64 0)), (15, .d (.int .i64 0)), (74, .ptr 0 0 0)]) (σ' := (SD d1 true ++ [.cells [.d (.int .i64 dir), .d (.list 1 (keep.map intD))]])) (by kernel_rfl) ?_
 refine .ca [0, 1, 2, 3, 4, 5] (G8 100 [false, false]) F27 hr ?_
 rintro r1 s1 ⟨rfl, rfl⟩
 refine ⟨_, rfl, ?_⟩
 refine .seg 6 [6, 7, 8, 12, 13, 14, 15, 16, 17] (T' := cgo 106 [false, false] [.code B8]) (tm' := mk 127 [(6, .d (.bool false)), (7, .d (.list 1 (data.map u8))), (8, .d (.list 1 (more.map u8))), (12, .d (.int .i64 0)), (13, .d (.int .i64 0)), (14, .d (.int .i64 0)), (15, .d (.int .i64 0)), (16, .d (.list 1 (x.map u8))), (17, .d (.int .i64 0))]) (σ' := (SD d1 true ++ [.cells [.d (.int .i64 dir), .d (.list 1 (keep.map intD))]])) (by kernel_rfl) ?_
 refine .su [] (mk 127 [(6, .d (.bool false)), (7, .d (.list 1 (data.map u8))), (8, .d (.list 1 (more.map u8))), (12, .d (.int .i64 0)), (13, .d (.int .i64 0)), (14, .d (.int .i64 0)), (15, .d (.int .i64 0)), (16, .d (.list 1 (x.map u8))), (17, .d (.int .i64 0))]) [] ?_
 exact hx
theorem mi8c (data more : List UInt8) (h1 : data.length ≤ 300) (h2 : more.length ≤ 300) (d : Dk) (k : Nat) (h : Roomy d 127) (hs : SureF d k data data.length) (e1 : d.sk = d.nk) (e2 : d.sv = d.nv) (e3 : d.ch = []) (dir : Int) (keep : List Int) (hk : keep.length ≤ 300) (hkv : ∀ v ∈ keep, -9223372036854775808 ≤ v ∧ v < 9223372036854775808) :
  AW Try.prog 8 none 0 (G8 83 [false, false]) (mk 127 [(5, .ptr 6 0 0), (6, .d (.bool false)), (7, .d (.list 1 (data.map u8))), (8, .d (.list 1 (more.map u8))), (9, .ptr 0 0 0), (12, .d (.int .i64 0)), (13, .d (.int .i64 0)), (14, .d (.int .i64 0))]) (SD d true ++ [.cells [.d (.int .i64 dir), .d (.list 1 (keep.map intD))]]) [] fun r σ' => r = .ret (.d (.bool true)) := by
 obtain ⟨g1, g2, g3, g4, g5, g6, g7, g8⟩ := sure_append h (by decide) hs more (by omega)
 have hnext := mi8d data more h1 h2 (d.begun.appendD sN more) k data.length (data ++ more) g2 g3 (by rw [g6, g4, e1]) (by rw [g7, g5, e2]) (by rw [g8, e3]) rfl rfl dir keep hk hkv
 refine .seg 4 [5, 6, 7, 8, 9, 12, 13, 14, 67, 68] (T' := cgo 87 [false, false] [.code B8]) (tm' := mk 127 [(5, .ptr 6 0 0), (6, .d (.bool false)), (7, .d (.list 1 (data.map u8))), (8, .d (.list 1 (more.map u8))), (9, .ptr 0 0 0), (12, .d (.int .i64 0)), (13, .d (.int .i64 0)), (14, .d (.int .i64 0)), (67, .ptr 0 0 0), (68, .d (.list 1 (more.map u8)))]) (σ' := (SD d true ++ [.cells [.d (.int .i64 dir), .d (.list 1 (keep.map intD))]])) (by kernel_rfl) ?_
 refine .ca [0, 1, 2, 3, 4, 5] (G8 88 [false, false]) F31 (spec_31s h (by decide) hs more (by omega)) ?_
 rintro r1 s1 ⟨rfl, rfl⟩
 refine ⟨_, rfl, ?_⟩
 exact .seg 2 [5, 6, 7, 8, 9, 12, 13, 14, 15] (by kernel_rfl) hnext
theorem mi8b (data more : List UInt8) (h1 : data.length ≤ 300) (h2 : more.length ≤ 300) (d : Dk) (k : Nat) (h : Roomy d 125) (hs : SureF d k data 0) (dir : Int) (keep : List Int) (hk : keep.length ≤ 300) (hkv : ∀ v ∈ keep, -9223372036854775808 ≤ v ∧ v < 9223372036854775808) :
  AW Try.prog 8 none 0 (G8 71 [false, false]) (mk 127 [(5, .ptr 6 0 0), (6, .d (.bool false)), (7, .d (.list 1 (data.map u8))), (8, .d (.list 1 (more.map u8))), (9, .ptr 0 0 0), (12, .d (.int .i64 0))]) (SD d true ++ [.cells [.d (.int .i64 dir), .d (.list 1 (keep.map intD))]]) [] fun r σ' => r = .ret (.d (.bool true)) := by
 obtain ⟨g1, g2, g3⟩ := sure_sync h (by decide) hs
 have hca := spec_32s h (by decide) hs
 refine .seg 3 [5, 6, 7, 8, 9, 12, 63] (T' := cgo 74 [false, false] [.code B8]) (tm' := mk 127 [(5, .ptr 6 0 0), (6, .d (.bool false)), (7, .d (.list 1 (data.map u8))), (8, .d (.list 1 (more.map u8))), (9, .ptr 0 0 0), (12, .d (.int .i64 0)), (63, .ptr 0 0 0)]) (σ' := (SD d true ++ [.cells [.d (.int .i64 dir), .d (.list 1 (keep.map intD))]])) (by kernel_rfl) ?_
 refine .ca [0, 1, 2, 3, 4, 5] (G8 75 [false, false]) F32 (hca) ?_
 rintro r1 s1 ⟨rfl, rfl⟩
 refine ⟨_, rfl, ?_⟩
 generalize d.begun.syncD sN = d1 at *
 clear hca h hs
 obtain ⟨f1, f2, f3, f4, f5, f6⟩ := sure_syncDir g2 (by decide) g3
 have hnext := mi8c data more h1 h2 d1.begun.syncDirD k f2 f3 f4 f5 f6 dir keep hk hkv
 refine .seg 5 [5, 6, 7, 8, 9, 12, 13, 65] (T' := cgo 80 [false, false] [.code B8]) (tm' := mk 127 [(5, .ptr 6 0 0), (6, .d (.bool false)), (7, .d (.list 1 (data.map u8))), (8, .d (.list 1 (more.map u8))), (9, .ptr 0 0 0), (12, .d (.int .i64 0)), (13, .d (.int .i64 0)), (65, .ptr 0 0 0)]) (σ' := (SD d1 true ++ [.cells [.d (.int .i64 dir), .d (.list 1 (keep.map intD))]])) (by kernel_rfl) ?_
 refine .ca [0, 1, 2, 3, 4, 5] (G8 81 [false, false]) F33 (spec_33s g2 (by decide) g3) ?_
 rintro r1 s1 ⟨rfl, rfl⟩
 refine ⟨_, rfl, ?_⟩
 exact .seg 2 [5, 6, 7, 8, 9, 12, 13, 14] (by kernel_rfl) hnext
theorem mi8 (data more : List UInt8) (h1 : data.length ≤ 300) (h2 : more.length ≤ 300) (d : Dk) (h : Roomy d 120) (dir : Int) (keep : List Int) (hk : keep.length ≤ 300) (hkv : ∀ v ∈ keep, -9223372036854775808 ≤ v ∧ v < 9223372036854775808) :
  AW Try.prog 8 none 0 (G8 55 [false]) (mk 127 [(5, .ptr 6 0 0), (6, .d (.bool false)), (7, .d (.list 1 (data.map u8))), (8, .d (.list 1 (more.map u8))), (9, .ptr 0 0 0)]) (SD d true ++ [.cells [.d (.int .i64 dir), .d (.list 1 (keep.map intD))]]) [] fun r σ' => r = .ret (.d (.bool true)) := by
 obtain ⟨g1, g2, k, g3⟩ := sure_create h (by decide)
 refine .seg 4 [5, 6, 7, 8, 9, 56] (T' := cgo 59 [false] [.code B8]) (tm' := mk 127 [(5, .ptr 6 0 0), (6, .d (.bool false)), (7, .d (.list 1 (data.map u8))), (8, .d (.list 1 (more.map u8))), (9, .ptr 0 0 0), (56, .ptr 0 0 0)]) (σ' := (SD d true ++ [.cells [.d (.int .i64 dir), .d (.list 1 (keep.map intD))]])) (by kernel_rfl) ?_
 refine .ca [0, 1, 2, 3, 4, 5] (G8 60 [false]) F26 (spec_26s h (by decide)) ?_
 rintro r1 s1 ⟨rfl, rfl⟩
 refine ⟨_, rfl, ?_⟩
 generalize d.begun.createD sN = d1 at *
 clear h
 obtain ⟨f1, f2, f3, _⟩ := sure_append g2 (by decide) g3 data (by simp; omega)
 rw [List.nil_append] at f3
 have hnext := mi8b data more h1 h2 (d1.begun.appendD sN data) k (f2.mono (by decide) (by decide)) f3 dir keep hk hkv
 refine .seg 8 [5, 6, 7, 8, 9, 60, 61] (T' := cgo 68 [false, false] [.code B8]) (tm' := mk 127 [(5, .ptr 6 0 0), (6, .d (.bool false)), (7, .d (.list 1 (data.map u8))), (8, .d (.list 1 (more.map u8))), (9, .ptr 0 0 0), (60, .ptr 0 0 0), (61, .d (.list 1 (data.map u8)))]) (σ' := (SD d1 true ++ [.cells [.d (.int .i64 dir), .d (.list 1 (keep.map intD))]])) (by kernel_rfl) ?_
 refine .ca [0, 1, 2, 3, 4, 5] (G8 69 [false, false]) F31 (spec_31s g2 (by decide) g3 data (by simp; omega)) ?_
 rintro r1 s1 ⟨rfl, rfl⟩
 refine ⟨_, rfl, ?_⟩
 exact .seg 2 [5, 6, 7, 8, 9, 12] (by kernel_rfl) hnext
theorem st8 (data more : List UInt8) (d : Dk) (t : Int) (N : Nat) (h : Both d t N) (hN : N ≤ 120) (hz : d.Sz 18000) (dir : Int) (keep : List Int) (hkv : ∀ v ∈ keep, -9223372036854775808 ≤ v ∧ v < 9223372036854775808) (hk : keep.length ≤ maxLen) (hd : data.length ≤ maxLen) (hm : more.length ≤ maxLen) :
    AW Try.prog 8 none 0 (G8 20 []) (mk 127 [(5, .ptr 10 0 0), (6, .d (.bool false)), (7, .d (.list 1 (data.map u8))), (8, .d (.list 1 (more.map u8))), (9, .ptr 0 0 0), (11, .d (.bool true))]) (SX d t true ++ [.cells [.d (bsD data), .d (bsD more)], .cells [.d (.int .i64 dir), .d (.list 1 (keep.map intD))]]) [] fun r σ' => r = .ret (.d (.bool true)) := by
  refine .su [0, 1, 2, 3, 4, 5, 10] (mk 127 [(5, .ptr 6 0 0), (6, .d (.bool false)), (7, .d (.list 1 (data.map u8))), (8, .d (.list 1 (more.map u8))), (9, .ptr 0 0 0), (11, .d (.bool true))]) (SD d true ++ [.cells [.d (.int .i64 dir), .d (.list 1 (keep.map intD))]]) ?_
  refine .sg0 11 [5, 6, 7, 8, 9, 11, 29, 30, 31, 32, 33, 34, 35, 36] (G8 31 []) [(29, .d (.bool true)), (30, .d (.bool false)), (31, .d (.bool false)), (32, .d (.list 1 (map u8 data))), (33, .d (.int .i64 (↑(map u8 data).length : Int))), (34, .d (.bool (decide ((↑(map u8 data).length : Int) > 300)))), (35, .d (.bool (decide ((↑(map u8 data).length : Int) > 300)))), (36, .d (.bool (decide ((↑(map u8 data).length : Int) > 300))))] ?_
  simp only [List.length_map]
  rcases Bool.eq_false_or_eq_true (decide ((↑data.length : Int) > 300)) with h1 | h1
  · rw [h1]
    simp only [bsX] at h1
    refine .sg0 16 [5, 6, 7, 8, 9, 11, 47, 48] (G8 47 [true]) [(47, .d (.bool true)), (48, .d (.bool true))] ?_
    refine .cd (G8 48 [true]) F30 (@spec_30) ?_
    refine .sg0 3 [5, 6, 7, 8, 9] (G8 51 [true]) [(6, .d (.bool true))] ?_
    refine .kp [6] ?_
    refine .su [] (mk 127 [(6, .d (.bool true))]) [] ?_
    refine .rt F8 (V.d (D.bool true)) ?_
    exact rfl
  · rw [h1]
    simp only [bsX] at h1
    refine .sg0 5 [5, 6, 7, 8, 9, 11, 29, 30, 31, 32, 33, 34, 35, 36, 37, 38, 39, 40, 41] (G8 36 []) [(37, .d (.list 1 (map u8 more))), (38, .d (.int .i64 (↑(map u8 more).length : Int))), (39, .d (.bool (decide ((↑(map u8 more).length : Int) > 300)))), (40, .d (.bool (decide ((↑(map u8 more).length : Int) > 300)))), (41, .d (.bool (decide ((↑(map u8 more).length : Int) > 300))))] ?_
    simp only [List.length_map]
    rcases Bool.eq_false_or_eq_true (decide ((↑more.length : Int) > 300)) with h2 | h2
    · rw [h2]
      simp only [bsX] at h2
      refine .sg0 11 [5, 6, 7, 8, 9, 11, 47, 48] (G8 47 [true]) [(47, .d (.bool true)), (48, .d (.bool true))] ?_
      refine .cd (G8 48 [true]) F30 (@spec_30) ?_
      refine .sg0 3 [5, 6, 7, 8, 9] (G8 51 [true]) [(6, .d (.bool true))] ?_
      refine .kp [6] ?_
      refine .su [] (mk 127 [(6, .d (.bool true))]) [] ?_
      refine .rt F8 (V.d (D.bool true)) ?_
      exact rfl
    · rw [h2]
      simp only [bsX] at h2
      refine .sg0 6 [5, 6, 7, 8, 9, 11, 46] (G8 42 []) [(46, .d (.bool (decide ((↑(map intD keep).length : Int) > 300))))] ?_
      simp only [List.length_map]
      refine .if' (decide ((↑keep.length : Int) > 300)) (G8 43 [true]) (G8 43 [false]) (fun h3 => ?_) (fun h3 => ?_)
      · simp only [bsX] at h3
        refine .sg0 4 [5, 6, 7, 8, 9, 11, 47, 48] (G8 47 [true]) [(47, .d (.bool true)), (48, .d (.bool true))] ?_
        refine .cd (G8 48 [true]) F30 (@spec_30) ?_
        refine .sg0 3 [5, 6, 7, 8, 9] (G8 51 [true]) [(6, .d (.bool true))] ?_
        refine .kp [6] ?_
        refine .su [] (mk 127 [(6, .d (.bool true))]) [] ?_
        refine .rt F8 (V.d (D.bool true)) ?_
        exact rfl
      · simp only [bsX] at h3
        refine .sg0 5 [5, 6, 7, 8, 9, 51, 52] (G8 48 [false]) [(51, .ptr 0 0 0), (52, .agg [.d (.int .i64 0), .ex 1 []])] ?_
        clear hk hd hm
        have hc1 := spec_35 d N h.ok 0 [] (by decide) (by simp)
        have hk1 := Dk.crash_ok h.ok 0 []
        have hz1 : (d.crash 0 []).Sz 18000 := fun f hf => by
          obtain ⟨g, hg, j, rfl⟩ := kept_mem f hf
          have := hz g hg
          simp only [List.length_take]; omega
        have ho1 : (d.crash 0 []).off = false := rfl
        have hs1 : (d.crash 0 []).stop = -1 := rfl
        refine .ca [0, 1, 2, 3, 4, 5] (G8 49 [false]) F35 hc1 ?_
        rintro r1 s1 ⟨rfl, rfl⟩
        refine ⟨_, rfl, ?_⟩
        generalize d.crash 0 [] = d1 at *
        refine .kp [5, 6, 7, 8, 9] ?_
        refine .su [0, 1, 7, 8, 9, 5, 6] (mk 127 [(5, .ptr 6 0 0), (6, .d (.bool false)), (7, .d (.list 1 (data.map u8))), (8, .d (.list 1 (more.map u8))), (9, .ptr 0 0 0)]) (SD d1 true ++ [.cells [.d (.int .i64 dir), .d (.list 1 (keep.map intD))]]) ?_
        have hq : Roomy { d1 with quota := 1073741824, full := false } 120 := ⟨ho1, hs1, (Dk.quota_ok hk1 1073741824 (by decide)).mono hN (by decide), by decide, rfl, hz1.mono (by decide)⟩
        have hnext := mi8 data more (by omega) (by omega) _ hq dir keep (by omega) hkv
        clear hc1 hk1 hz1 ho1 hs1 hq hz h
        refine .seg 4 [5, 6, 7, 8, 9, 54] (T' := cgo 53 [false] [.code B8]) (tm' := mk 127 [(5, .ptr 6 0 0), (6, .d (.bool false)), (7, .d (.list 1 (data.map u8))), (8, .d (.list 1 (more.map u8))), (9, .ptr 0 0 0), (54, .ptr 0 0 0)]) (σ' := SD d1 true ++ [.cells [.d (.int .i64 dir), .d (.list 1 (keep.map intD))]]) (by kernel_rfl) ?_
        refine .ca [0, 1, 2, 3, 4, 5] (G8 54 [false]) F37 (spec_37 d1 1073741824) ?_
        rintro r1 s1 ⟨rfl, rfl⟩
        refine ⟨_, rfl, ?_⟩
        exact .seg 1 [5, 6, 7, 8, 9] (by kernel_rfl) hnext
theorem spec_8 (l : List DOp) (hl : l.length ≤ maxLen) (hf : ∀ o ∈ l, o.fits) (data more : List UInt8) (hd : data.length ≤ maxLen) (hm : more.length ≤ maxLen) (dir : Int) (keep : List Int) (hk : keep.length ≤ maxLen) (hkv : ∀ v ∈ keep, -9223372036854775808 ≤ v ∧ v < 9223372036854775808) :
   Br.Pure Try.prog 8 [.d (.list 7 (l.map dopD)), .d (.agg [bsD data, bsD more]), .d (.agg [.int .i64 dir, .list 1 (keep.map intD)])] (.d (.bool true)) := by
 refine CallsA.pure ?_ rfl
 refine CallsA.start F8 (tm := mk (Try.f8.ntmps) [(0, .d (.list 7 (l.map dopD))), (1, .d (.agg [bsD data, bsD more])), (2, .d (.agg [.int .i64 dir, .list 1 (keep.map intD)]))]) (by kernel_rfl) ?_
 have hl2 : l.length ≤ 9223372036854775807 := Nat.le_trans hl (by decide)
 refine .sg 7 [0, 4, 5, 6] (G8 7 []) [(4, .ptr 0 0 0), (5, .ptr 1 0 0), (6, .d (.bool false))] [(0, .cells [.d (.list 1 (map u8 data)), .d (.list 1 (map u8 more))]), (1, .cells [.d (.int .i64 dir), .d (.list 1 (map intD keep))])] ?_
 refine .dr (G8 8 []) [(7, .d (.list 1 (map u8 data))), (8, .d (.list 1 (map u8 more))), (19, .ptr 0 0 0), (20, .d (.list 1 (map u8 data))), (21, .ptr 0 0 1), (22, .d (.list 1 (map u8 more)))] [] (fun kz L hL => ?_) ?_
 · refine ⟨[⟨[0], [], [], [0], [0], [], true, false⟩, fR 0, ⟨[0], [], [], [0], [0], [], true, false⟩, fR 0, nF, nF], run_amongF hL _ [] [0, 1, 2, 3, 4, 5] (by intro p hp; cases hp) (by kernel_rfl) ?_⟩
   refine Run.lk 0 (.ptr 0 0 0) [(.tmp 4), (.const (Value.int IntKind.i64 0))] (fun tm' σ2 hv hr => ixArr_ok (t := 45) (x := (.tmp 4)) (i := (.const (Value.int IntKind.i64 0))) (k := IntKind.i64) (n := 0) (l := 0) (j := 0) (s := 0) (m := 2) (sz := 1) (by kernel_rfl) (evv hv) (evv hv) ((liveB_at (hr _ (inK_iff.1 (by kernel_rfl)))).trans (by kernel_rfl)) (by kernel_rfl) (by omega) (by omega)) ?_
   refine Run.ap [1] [(20, .d (.list 1 (map u8 data)))] [] ?_
   refine Run.lk 2 (.ptr 0 0 1) [(.tmp 4), (.const (Value.int IntKind.i64 1))] (fun tm' σ2 hv hr => ixArr_ok (t := 45) (x := (.tmp 4)) (i := (.const (Value.int IntKind.i64 1))) (k := IntKind.i64) (n := 1) (l := 0) (j := 0) (s := 0) (m := 2) (sz := 1) (by kernel_rfl) (evv hv) (evv hv) ((liveB_at (hr _ (inK_iff.1 (by kernel_rfl)))).trans (by kernel_rfl)) (by kernel_rfl) (by omega) (by omega)) ?_
   exact Run.fin
 refine .sg0 3 [0, 5, 6, 7, 8, 24] (G8 11 []) [(24, .d (.list 7 (map dopD l)))] ?_
 refine .ca [] (G8 12 []) F36 (@spec_36 (1048576) (by omega) (l) (by assumption) (by assumption)) ?_
 rintro r0 s0 ⟨rfl, rfl⟩
 refine ⟨_, rfl, ?_⟩
 refine .sg0 8 [5, 6, 7, 8, 9, 11] (G8 20 []) [(9, .ptr 2 0 0), (11, .d (.bool true))] ?_
 have hb := runA_both (cutD l) (Both.new (q := 1048576) (by decide)) (by have := cutA_le l; omega) fun o ho => (cutA_fits hf o ho).2
 have hz := Sz_run (cutD l) (p := (Dk.new 1048576, -1)) (M := 0) (fun f hf => by simp [Dk.new] at hf) fun o ho => (cutA_fits hf o ho).1
 have hc := cutA_le l
 generalize runA (Dk.new 1048576, -1) (cutD l) = p at *
 refine .su [2, 3, 4, 5, 6, 7, 8, 9, 10, 0, 1] (mk 127 [(5, .ptr 10 0 0), (6, .d (.bool false)), (7, .d (.list 1 (data.map u8))), (8, .d (.list 1 (more.map u8))), (9, .ptr 0 0 0), (11, .d (.bool true))]) (SX p.1 p.2 true ++ [.cells [.d (bsD data), .d (bsD more)], .cells [.d (.int .i64 dir), .d (.list 1 (keep.map intD))]]) ?_
 exact st8 data more p.1 p.2 _ hb (by omega) (hz.mono (by omega)) dir keep hkv hk hd hm
end Go.Proofs.Ytoelkgbeefoplaa
