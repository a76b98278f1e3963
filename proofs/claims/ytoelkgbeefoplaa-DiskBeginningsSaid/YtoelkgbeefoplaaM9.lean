/- Part 9 of this proof. -/
import Derived.Test.YtoelkgbeefoplaaM8
set_option linter.unusedSimpArgs false
set_option linter.unusedVariables false
set_option linter.constructorNameAsVariable false
namespace Go.Proofs.Ytoelkgbeefoplaa
open Go Go.Br Go.Proofs
open List (map)
def Dk.new (q : Int) : Dk := { files := [], nk := [], nv := [], sk := [], sv := [], ch := [], quota := if 0 > q then 0 else q, full := false, off := false, stop := -1, calls := 0 }
def Dk.err (b : Dk) (there : Bool) (names : List ByteArray) : Int :=
  if b.off then 5 else if names.all mayName then (if there && (look b.nk b.nv (names.headD default)).isNone then 3 else 0) else 1
def Dk.turn (d : Dk) (g n : ByteArray) (k : Int) : Dk := { d with nk := (kapply d.nk d.nv g n k).1, nv := (kapply d.nk d.nv g n k).2, ch := d.ch ++ [(g, n, k)] }
def Dk.num (d : Dk) (x : ByteArray) : Nat := ((look d.nk d.nv x).getD 0).toNat
def Dk.file (d : Dk) (k : Nat) : List UInt8 × Nat := d.files.getD k ([], 0)
def Dk.used (d : Dk) : Nat := (d.nv.map fun k => (d.file k.toNat).1.length).sum
def noName : ByteArray := ⟨#[]⟩
def Dk.createE (b : Dk) (x : ByteArray) : Int :=
  if b.err false [x] ≠ 0 then b.err false [x] else if (look b.nk b.nv x).isNone ∧ 1024 ≤ b.nk.length then 2 else 0
def Dk.createD (b : Dk) (x : ByteArray) : Dk := if b.createE x = 0 then ({ b with files := b.files ++ [([], 0)] } : Dk).turn noName x b.files.length else b
def Dk.appendE (b : Dk) (x : ByteArray) (bs : List UInt8) : Int :=
  if b.err true [x] ≠ 0 then b.err true [x] else if 1048576 - ((b.file (b.num x)).1.length : Int) < bs.length then 2 else if b.quota - (b.used : Int) < bs.length then 4 else 0
def Dk.appendD (b : Dk) (x : ByteArray) (bs : List UInt8) : Dk :=
  if b.appendE x bs = 0 then { b with files := b.files.set (b.num x) ((b.file (b.num x)).1 ++ bs, (b.file (b.num x)).2) } else if b.appendE x bs = 4 then { b with full := true } else b
def Dk.syncD (b : Dk) (x : ByteArray) : Dk := if b.err true [x] = 0 then { b with files := b.files.set (b.num x) ((b.file (b.num x)).1, (b.file (b.num x)).1.length) } else b
def Dk.syncDirD (b : Dk) : Dk := if b.off then b else { b with sk := b.nk, sv := b.nv, ch := [] }
def Dk.renameD (b : Dk) (x y : ByteArray) : Dk := if b.err true [x, y] = 0 then b.turn x y ((look b.nk b.nv x).getD 0) else b
def Dk.removeD (b : Dk) (x : ByteArray) : Dk := if b.err true [x] = 0 then b.turn x noName 0 else b
def leftOf (f : List UInt8 × Nat) (i : Nat) (keep : List Int) : Nat :=
  if keep = [] then f.2 else f.2 + (min (keep.getD (i % keep.length) 0) ((f.1.length : Int) - f.2)).toNat
def kfold : List (ByteArray × ByteArray × Int) → List ByteArray × List Int → List ByteArray × List Int
  | [], p => p
  | c :: cs, p => kfold cs (kapply p.1 p.2 c.1 c.2.1 c.2.2)
def kept (has : Nat → Bool) (keep : List Int) : Nat → List (List UInt8 × Nat) → List (List UInt8 × Nat)
  | _, [] => []
  | i, f :: fs => if has i then (f.1.take (leftOf f i keep), leftOf f i keep) :: kept has keep (i + 1) fs else kept has keep (i + 1) fs
def rank (has : Nat → Bool) (k : Nat) : Nat := ((List.range k).filter has).length
def Dk.names (d : Dk) (dir : Int) : List ByteArray × List Int := kfold (d.ch.take (min dir d.ch.length).toNat) (d.sk, d.sv)
def Dk.has (d : Dk) (dir : Int) (i : Nat) : Bool := decide ((i : Int) ∈ (d.names dir).2)
def Dk.crash (d : Dk) (dir : Int) (keep : List Int) : Dk :=
  let v := (d.names dir).2.map fun k => (rank (d.has dir) k.toNat : Int)
  { d with files := kept (d.has dir) keep 0 d.files, nk := (d.names dir).1, nv := v, sk := (d.names dir).1, sv := v, ch := [], off := false, stop := -1, full := false }
def numsOk (n : Nat) (vs : List Int) : Prop := ∀ v ∈ vs, 0 ≤ v ∧ v < n
structure Dk.Ok (d : Dk) (N : Nat) : Prop where
  nr : Rising d.nk
  sr : Rising d.sk
  nl : d.nv.length = d.nk.length
  sl : d.sv.length = d.sk.length
  nn : numsOk d.files.length d.nv
  sn : numsOk d.files.length d.sv
  cn : ∀ c ∈ d.ch, 0 ≤ c.2.2 ∧ (c.2.1.size ≠ 0 → c.2.2 < d.files.length)
  fs : ∀ f ∈ d.files, f.2 ≤ f.1.length ∧ f.1.length ≤ 1048576
  fl : d.files.length ≤ N
  chl : d.ch.length ≤ N
  nkl : d.nk.length ≤ N
  skl : d.sk.length ≤ N
  skc : d.sk.length + d.ch.length ≤ N
  c0 : 0 ≤ d.calls
  cl : d.calls ≤ N
  s0 : -1 ≤ d.stop
  s1 : d.stop < 9223372036854775808
  q0 : 0 ≤ d.quota
  q1 : d.quota < 9223372036854775808
  nb : N ≤ 50000
theorem Dk.Ok.mono {d : Dk} {N M : Nat} (h : d.Ok N) (hm : N ≤ M) (hb : M ≤ 50000) : d.Ok M :=
 ⟨h.nr, h.sr, h.nl, h.sl, h.nn, h.sn, h.cn, h.fs, by have := h.fl; omega, by have := h.chl; omega, by have := h.nkl; omega, by have := h.skl; omega, by have := h.skc; omega, h.c0, by have := h.cl; omega, h.s0, h.s1, h.q0, h.q1, hb⟩
theorem Dk.new_ok {q : Int} (h : q < 9223372036854775808) : (Dk.new q).Ok 0 := by
 refine ⟨List.Pairwise.nil, List.Pairwise.nil, rfl, rfl, ?_, ?_, ?_, ?_, ?_, ?_, ?_, ?_, ?_, ?_, ?_, ?_, ?_, ?_, ?_, ?_⟩ <;> simp [Dk.new, numsOk]
 · split <;> omega
 · split <;> omega
theorem Dk.begun_ok {d : Dk} {N : Nat} (h : d.Ok N) (hb : N + 1 ≤ 50000) : d.begun.Ok (N + 1) := by
 unfold Dk.begun
 split
 · exact h.mono (by omega) hb
 · have := h.cl; have := h.c0; have := h.s0; have := h.s1
   have := h.fl; have := h.chl; have := h.nkl; have := h.skl; have := h.skc
   refine ⟨h.nr, h.sr, h.nl, h.sl, h.nn, h.sn, h.cn, h.fs, ?_, ?_, ?_, ?_, ?_, ?_, ?_, ?_, ?_, h.q0, h.q1, hb⟩ <;> (dsimp only; first | omega | (split <;> omega))
theorem look_mem {ks : List ByteArray} {V2 : List Int} {x : ByteArray} {k : Int} (h : look ks V2 x = some k) : k ∈ V2 := by
 unfold look at h
 split at h
 · exact List.mem_of_getElem? h
 · cases h
theorem numsOk.more {n m : Nat} {vs : List Int} (h : numsOk n vs) (hm : n ≤ m) : numsOk m vs := fun v hv => ⟨(h v hv).1, by have := (h v hv).2; omega⟩
theorem kput_mem {ks : List ByteArray} {V2 : List Int} {x : ByteArray} {y : Int} : ∀ v ∈ (kput ks V2 x y).2, v ∈ V2 ∨ v = y := by
 intro v hv
 unfold kput at hv
 split at hv
 · exact List.mem_or_eq_of_mem_set hv
 · simp only [List.mem_append, List.mem_cons] at hv
   rcases hv with h | h | h
   · exact .inl (List.mem_of_mem_take h)
   · exact .inr h
   · exact .inl (List.mem_of_mem_drop h)
theorem kdrop_mem {ks : List ByteArray} {V2 : List Int} {x : ByteArray} : ∀ v ∈ (kdrop ks V2 x).2, v ∈ V2 := by
 intro v hv
 unfold kdrop at hv
 split at hv
 · exact List.mem_of_mem_eraseIdx hv
 · exact hv
theorem kapply_mem {ks : List ByteArray} {V2 : List Int} {g n : ByteArray} {k : Int} : ∀ v ∈ (kapply ks V2 g n k).2, v ∈ V2 ∨ (n.size ≠ 0 ∧ v = k) := by
 intro v hv
 unfold kapply at hv
 dsimp only at hv
 split at hv <;> split at hv <;> rename_i h1 h2
 · exact .inl hv
 · exact .inl (kdrop_mem v hv)
 · exact (kput_mem v hv).imp id fun h => ⟨h1, h⟩
 · exact ((kput_mem v hv).imp (kdrop_mem v) fun h => ⟨h1, h⟩)
theorem Dk.turn_ok {d : Dk} {N : Nat} (h : d.Ok N) (hb : N + 1 ≤ 50000) (g n : ByteArray) (k : Int) (hk : 0 ≤ k) (hk' : n.size ≠ 0 → k < d.files.length) : (d.turn g n k).Ok (N + 1) := by
 have hle := @kapply_le d.nk d.nv g n k
 have := h.cl; have := h.chl; have := h.nkl; have := h.skl; have := h.skc; have := h.fl
 refine ⟨kapply_rising h.nr, h.sr, kapply_len h.nl, h.sl, fun v hv => ?_, h.sn, fun c hc => ?_, h.fs, ?_, ?_, ?_, ?_, ?_, h.c0, ?_, h.s0, h.s1, h.q0, h.q1, hb⟩
 · rcases kapply_mem v hv with h1 | ⟨h1, rfl⟩
   · exact h.nn v h1
   · exact ⟨hk, hk' h1⟩
 · simp only [Dk.turn, List.mem_append, List.mem_singleton] at hc
   rcases hc with h1 | rfl
   · exact h.cn c h1
   · exact ⟨hk, hk'⟩
 all_goals simp only [Dk.turn, List.length_append, List.length_singleton]; omega
theorem Dk.createD_ok {b : Dk} {N : Nat} (h : b.Ok N) (hb : N + 1 ≤ 50000) (x : ByteArray) : (b.createD x).Ok (N + 1) := by
 unfold Dk.createD
 split
 · have h' : ({ b with files := b.files ++ [([], 0)] } : Dk).turn noName x b.files.length = ({ (b.turn noName x b.files.length) with files := b.files ++ [([], 0)] } : Dk) := rfl
   have := h.cl; have := h.chl; have := h.nkl; have := h.skl; have := h.skc; have := h.fl
   have hle := @kapply_le b.nk b.nv noName x b.files.length
   rw [h']
   refine ⟨kapply_rising h.nr, h.sr, kapply_len h.nl, h.sl, fun v hv => ?_, h.sn.more (by simp [Dk.turn]), fun c hc => ?_, fun f hf => ?_, ?_, ?_, ?_, ?_, ?_, h.c0, ?_, h.s0, h.s1, h.q0, h.q1, hb⟩
   · rcases kapply_mem v hv with h1 | ⟨h1, rfl⟩
     · exact (h.nn.more (by simp)) v h1
     · simp; omega
   · simp only [Dk.turn, List.mem_append, List.mem_singleton] at hc
     rcases hc with h1 | rfl
     · exact ⟨(h.cn c h1).1, fun hs => by have := (h.cn c h1).2 hs; simp only [List.length_append, List.length_singleton]; omega⟩
     · refine ⟨by simp, fun _ => by simp; omega⟩
   · simp only [List.mem_append, List.mem_singleton] at hf
     rcases hf with h1 | rfl
     · exact h.fs f h1
     · simp
   all_goals simp only [Dk.turn, List.length_append, List.length_singleton]; omega
 · exact h.mono (by omega) hb
theorem Dk.num_lt {d : Dk} {N : Nat} (h : d.Ok N) {x : ByteArray} (hx : (look d.nk d.nv x).isSome) : d.num x < d.files.length := by
 obtain ⟨k, hk⟩ := Option.isSome_iff_exists.1 hx
 have := h.nn k (look_mem hk)
 simp only [Dk.num, hk, Option.getD_some]; omega
theorem Dk.file_mem {d : Dk} {k : Nat} (h : k < d.files.length) : d.file k ∈ d.files := by
 unfold Dk.file
 rw [List.getD_eq_getElem?_getD, List.getElem?_eq_getElem h]; simp
theorem Dk.err_there {d : Dk} {x : ByteArray} {l : List ByteArray} (h : d.err true (x :: l) = 0) : (look d.nk d.nv x).isSome ∧ d.off = false ∧ (x :: l).all mayName = true := by
  unfold Dk.err at h
  split at h
  · cases h
  · split at h
    · split at h
      · cases h
      · rename_i h1 h2 h3
        simp only [List.headD_cons, Bool.true_and] at h3
        exact ⟨by cases hl : look d.nk d.nv x <;> simp_all, by simpa using h1, h2⟩
    · cases h
theorem Dk.set_ok {b : Dk} {N : Nat} (h : b.Ok N) (k : Nat) (f : List UInt8 × Nat) (hf : f.2 ≤ f.1.length ∧ f.1.length ≤ 1048576) : ({ b with files := b.files.set k f } : Dk).Ok N := by
 refine ⟨h.nr, h.sr, h.nl, h.sl, ?_, ?_, ?_, ?_, ?_, h.chl, h.nkl, h.skl, h.skc, h.c0, h.cl, h.s0, h.s1, h.q0, h.q1, h.nb⟩
 · simpa using h.nn
 · simpa using h.sn
 · simpa using h.cn
 · intro g hg
   rcases List.mem_or_eq_of_mem_set hg with h1 | rfl
   · exact h.fs g h1
   · exact hf
 · simpa using h.fl
theorem Dk.full_ok {b : Dk} {N : Nat} (h : b.Ok N) (f : Bool) : ({ b with full := f } : Dk).Ok N := ⟨h.nr, h.sr, h.nl, h.sl, h.nn, h.sn, h.cn, h.fs, h.fl, h.chl, h.nkl, h.skl, h.skc, h.c0, h.cl, h.s0, h.s1, h.q0, h.q1, h.nb⟩
theorem Dk.err_appendE {b : Dk} {x : ByteArray} {bs : List UInt8} (h : b.appendE x bs = 0) : b.err true [x] = 0 ∧ (bs.length : Int) ≤ 1048576 - ((b.file (b.num x)).1.length : Int) ∧ (bs.length : Int) ≤ b.quota - (b.used : Int) := by
  unfold Dk.appendE at h
  split at h
  · contradiction
  · split at h
    · cases h
    · split at h
      · cases h
      · rename_i h1 h2 h3
        exact ⟨by simpa using h1, by omega, by omega⟩
theorem Dk.appendD_ok {b : Dk} {N : Nat} (h : b.Ok N) (x : ByteArray) (bs : List UInt8) : (b.appendD x bs).Ok N := by
 unfold Dk.appendD
 split
 · rename_i he
   obtain ⟨h1, h2, h3⟩ := Dk.err_appendE he
   have hm := h.fs _ (Dk.file_mem (Dk.num_lt h (Dk.err_there h1).1))
   refine Dk.set_ok h _ _ ⟨?_, ?_⟩ <;> simp <;> omega
 · split
   · exact Dk.full_ok h true
   · exact h
theorem Dk.syncD_ok {b : Dk} {N : Nat} (h : b.Ok N) (x : ByteArray) : (b.syncD x).Ok N := by
 unfold Dk.syncD
 split
 · rename_i h1
   have hm := h.fs _ (Dk.file_mem (Dk.num_lt h (Dk.err_there h1).1))
   exact Dk.set_ok h _ _ ⟨Nat.le_refl _, hm.2⟩
 · exact h
theorem Dk.syncDirD_ok {b : Dk} {N : Nat} (h : b.Ok N) : b.syncDirD.Ok N := by
 unfold Dk.syncDirD
 split
 · exact h
 · refine ⟨h.nr, h.nr, h.nl, h.nl, h.nn, h.nn, by simp, h.fs, h.fl, by simp, h.nkl, h.nkl, by simpa using h.nkl, h.c0, h.cl, h.s0, h.s1, h.q0, h.q1, h.nb⟩
theorem Dk.renameD_ok {b : Dk} {N : Nat} (h : b.Ok N) (hb : N + 1 ≤ 50000) (x y : ByteArray) : (b.renameD x y).Ok (N + 1) := by
 unfold Dk.renameD
 split
 · rename_i h1
   obtain ⟨k, hk⟩ := Option.isSome_iff_exists.1 (Dk.err_there h1).1
   have hn := h.nn k (look_mem hk)
   exact Dk.turn_ok h hb _ _ _ (by rw [hk]; exact hn.1) (fun _ => by rw [hk]; exact hn.2)
 · exact h.mono (by omega) hb
theorem Dk.removeD_ok {b : Dk} {N : Nat} (h : b.Ok N) (hb : N + 1 ≤ 50000) (x : ByteArray) : (b.removeD x).Ok (N + 1) := by
 unfold Dk.removeD
 split
 · exact Dk.turn_ok h hb _ _ _ (by omega) (fun hn => absurd rfl hn)
 · exact h.mono (by omega) hb
theorem kfold_ok {n : Nat} : ∀ (cs : List (ByteArray × ByteArray × Int)) (p : List ByteArray × List Int), Rising p.1 → p.2.length = p.1.length → numsOk n p.2 → (∀ c ∈ cs, 0 ≤ c.2.2 ∧ (c.2.1.size ≠ 0 → c.2.2 < n)) →
   Rising (kfold cs p).1 ∧ (kfold cs p).2.length = (kfold cs p).1.length ∧ numsOk n (kfold cs p).2 ∧ (kfold cs p).1.length ≤ p.1.length + cs.length
 | [], p, h1, h2, h3, _ => ⟨h1, h2, h3, by simp [kfold]⟩
 | c :: cs, p, h1, h2, h3, h4 => by
   have hle := @kapply_le p.1 p.2 c.1 c.2.1 c.2.2
   have ih := kfold_ok cs (kapply p.1 p.2 c.1 c.2.1 c.2.2) (kapply_rising h1) (kapply_len h2) (fun v hv => by
     rcases kapply_mem v hv with h5 | ⟨h5, rfl⟩
     · exact h3 v h5
     · exact ⟨(h4 c (by simp)).1, (h4 c (by simp)).2 h5⟩) (fun c' hc => h4 c' (by simp [hc]))
   refine ⟨ih.1, ih.2.1, ih.2.2.1, ?_⟩
   have := ih.2.2.2
   simp only [kfold, List.length_cons]; omega
theorem Dk.names_ok {d : Dk} {N : Nat} (h : d.Ok N) (dir : Int) : Rising (d.names dir).1 ∧ (d.names dir).2.length = (d.names dir).1.length ∧ numsOk d.files.length (d.names dir).2 ∧ (d.names dir).1.length ≤ N := by
 obtain ⟨h1, h2, h3, h4⟩ := kfold_ok (d.ch.take (min dir d.ch.length).toNat) (d.sk, d.sv) h.sr h.sl h.sn (fun c hc => h.cn c (List.mem_of_mem_take hc))
 refine ⟨h1, h2, h3, ?_⟩
 have := h.skc
 simp only [List.length_take] at h4
 show (kfold _ _).1.length ≤ N
 omega
theorem leftOf_le {f : List UInt8 × Nat} (h : f.2 ≤ f.1.length) (i : Nat) (keep : List Int) : f.2 ≤ leftOf f i keep ∧ leftOf f i keep ≤ f.1.length := by
 unfold leftOf; split <;> omega
theorem rank_succ (has : Nat → Bool) (k : Nat) : rank has (k + 1) = rank has k + if has k then 1 else 0 := by
 unfold rank
 rw [List.range_succ, List.filter_append, List.length_append]
 congr 1
 by_cases h : has k <;> simp [h]
theorem rank_mono (has : Nat → Bool) {a b : Nat} (h : a ≤ b) : rank has a ≤ rank has b := by
 induction h with
 | refl => exact Nat.le_refl _
 | step _ ih => rw [rank_succ]; omega
theorem kept_length (has : Nat → Bool) (keep : List Int) : ∀ (fs : List (List UInt8 × Nat)) (i : Nat), (kept has keep i fs).length + rank has i = rank has (i + fs.length)
 | [], i => by simp [kept]
 | f :: fs, i => by
   have ih := kept_length has keep fs (i + 1)
   rw [rank_succ] at ih
   simp only [kept]
   rw [show i + (f :: fs).length = i + 1 + fs.length by simp; omega, ← ih]
   split <;> simp <;> omega
theorem kept_mem {has : Nat → Bool} {keep : List Int} : ∀ {fs : List (List UInt8 × Nat)} {i : Nat}, ∀ g ∈ kept has keep i fs, ∃ f ∈ fs, ∃ j, g = (f.1.take (leftOf f j keep), leftOf f j keep)
 | [], i, g, h => by simp [kept] at h
 | f :: fs, i, g, h => by
   simp only [kept] at h
   split at h
   · rcases List.mem_cons.1 h with rfl | h
     · exact ⟨f, by simp, i, rfl⟩
     · obtain ⟨f', h1, h2⟩ := kept_mem g h; exact ⟨f', by simp [h1], h2⟩
   · obtain ⟨f', h1, h2⟩ := kept_mem g h; exact ⟨f', by simp [h1], h2⟩
theorem Dk.crash_ok {d : Dk} {N : Nat} (h : d.Ok N) (dir : Int) (keep : List Int) : (d.crash dir keep).Ok N := by
 obtain ⟨h1, h2, h3, h4⟩ := d.names_ok h dir
 have hl : (kept (d.has dir) keep 0 d.files).length = rank (d.has dir) d.files.length := by
   have := kept_length (d.has dir) keep d.files 0
   simpa [rank] using this
 have hn : numsOk (kept (d.has dir) keep 0 d.files).length ((d.names dir).2.map fun k => (rank (d.has dir) k.toNat : Int)) := by
   intro v hv
   obtain ⟨k, hk, rfl⟩ := List.mem_map.1 hv
   have hk' := h3 k hk
   refine ⟨by omega, ?_⟩
   rw [hl]
   have hr := rank_mono (d.has dir) (show k.toNat + 1 ≤ d.files.length by omega)
   rw [rank_succ] at hr
   have : d.has dir k.toNat = true := by
    simp only [Dk.has, decide_eq_true_eq]
    rw [show ((k.toNat : Nat) : Int) = k by omega]; exact hk
   rw [this] at hr
   simp only [if_true] at hr
   omega
 have hrk : rank (d.has dir) d.files.length ≤ d.files.length := by
   unfold rank
   exact Nat.le_trans (List.length_filter_le _ _) (by simp)
 refine ⟨h1, h1, by simpa [Dk.crash] using h2, by simpa [Dk.crash] using h2, hn, hn, by simp [Dk.crash], fun g hg => ?_, ?_, by simp [Dk.crash], h4, h4, by simpa [Dk.crash] using h4, h.c0, h.cl, by simp [Dk.crash], by simp [Dk.crash], h.q0, h.q1, h.nb⟩
 · obtain ⟨f, hf, j, rfl⟩ := kept_mem g hg
   have hf' := h.fs f hf
   have := leftOf_le hf'.1 j keep
   simp only [List.length_take]
   omega
 · show (kept _ _ _ _).length ≤ N
   rw [hl]; have := h.fl; omega
theorem Dk.quota_ok {b : Dk} {N : Nat} (h : b.Ok N) (n : Int) (hn : n < 9223372036854775808) : ({ b with quota := if 0 > n then 0 else n, full := false } : Dk).Ok N :=
 ⟨h.nr, h.sr, h.nl, h.sl, h.nn, h.sn, h.cn, h.fs, h.fl, h.chl, h.nkl, h.skl, h.skc, h.c0, h.cl, h.s0, h.s1, by dsimp only; split <;> omega, by dsimp only; split <;> omega, h.nb⟩
theorem Dk.stop_ok {b : Dk} {N : Nat} (h : b.Ok N) (n : Int) (hn : n < 9223372036854775808) : ({ b with stop := if -1 > n then -1 else n } : Dk).Ok N :=
 ⟨h.nr, h.sr, h.nl, h.sl, h.nn, h.sn, h.cn, h.fs, h.fl, h.chl, h.nkl, h.skl, h.skc, h.c0, h.cl, by dsimp only; split <;> omega, by dsimp only; split <;> omega, h.q0, h.q1, h.nb⟩
theorem pos_at {ks : List ByteArray} {x : ByteArray} (hr : Rising ks) {i : Nat} (h : ks[i]? = some x) : pos ks x = i := by
 obtain ⟨hi, rfl⟩ := List.getElem?_eq_some_iff.1 h
 have hp := pos_le ks ks[i]
 rcases Nat.lt_trichotomy (pos ks ks[i]) i with h1 | h1 | h1
 · have h2 := pos_high hr (Nat.le_refl (pos ks ks[i])) (by omega)
   have h3 := List.pairwise_iff_getElem.1 hr (pos ks ks[i]) i (by omega) hi h1
   rw [h2] at h3; cases h3
 · exact h1
 · have h2 := pos_low h1 hi
   rw [lt_irrefl] at h2; cases h2
theorem look_iff {ks : List ByteArray} {V2 : List Int} (hr : Rising ks) {x : ByteArray} {v : Int} : look ks V2 x = some v ↔ ∃ i : Nat, ks[i]? = some x ∧ V2[i]? = some v := by
 constructor
 · intro h
   unfold look at h
   split at h
   · exact ⟨_, by assumption, h⟩
   · cases h
 · rintro ⟨i, h1, h2⟩
   have hp := pos_at hr h1
   unfold look
   rw [hp, if_pos h1, h2]
theorem look_ext {o o' : Option Int} (h : ∀ v, o = some v ↔ o' = some v) : o = o' := by
 cases o with
 | none =>
   cases o' with
   | none => rfl
   | some v => exact absurd ((h v).2 rfl) (by simp)
 | some v => exact ((h v).1 rfl).symm
theorem ins_get {α : Type} (l : List α) (p : Nat) (x : α) (hp : p ≤ l.length) (i : Nat) : (l.take p ++ x :: l.drop p)[i]? = if i < p then l[i]? else if i = p then some x else l[i - 1]? := by
 have hlen : (l.take p).length = p := by simp; omega
 by_cases h1 : i < p
 · rw [if_pos h1, List.getElem?_append_left (by omega), List.getElem?_take, if_pos h1]
 · rw [if_neg h1, List.getElem?_append_right (by omega), hlen]
   by_cases h2 : i = p
   · rw [if_pos h2, h2, Nat.sub_self]; rfl
   · rw [if_neg h2]
     obtain ⟨j, rfl⟩ : ∃ j, i = p + 1 + j := ⟨i - p - 1, by omega⟩
     rw [show p + 1 + j - p = j + 1 by omega, List.getElem?_cons_succ, List.getElem?_drop, show p + 1 + j - 1 = p + j by omega]
theorem at_inj {ks : List ByteArray} (hr : Rising ks) {i j : Nat} {x : ByteArray} (h : ks[i]? = some x) (h' : ks[j]? = some x) : i = j := by
 rw [← pos_at hr h, ← pos_at hr h']
theorem put_at {ks : List ByteArray} {V2 : List Int} (hr : Rising ks) (hv : V2.length = ks.length) (x : ByteArray) (y : Int) (z : ByteArray) (v : Int) :
    (∃ i : Nat, (kput ks V2 x y).1[i]? = some z ∧ (kput ks V2 x y).2[i]? = some v) ↔ (z = x ∧ v = y) ∨ (z ≠ x ∧ ∃ i : Nat, ks[i]? = some z ∧ V2[i]? = some v) := by
  have hp := pos_le ks x
  unfold kput
  split
  · rename_i hk
    have hpl : pos ks x < V2.length := by have := (List.getElem?_eq_some_iff.1 hk).1; omega
    constructor
    · rintro ⟨i, h1, h2⟩
      dsimp only at h1 h2
      rw [List.getElem?_set] at h2
      by_cases h3 : pos ks x = i
      · subst h3
        rw [if_pos rfl, if_pos hpl] at h2
        rw [hk] at h1
        cases h1; cases h2
        exact .inl ⟨rfl, rfl⟩
      · rw [if_neg h3] at h2
        refine .inr ⟨?_, i, h1, h2⟩
        rintro rfl
        exact h3 (at_inj hr hk h1)
    · rintro (⟨rfl, rfl⟩ | ⟨h0, i, h1, h2⟩)
      · exact ⟨pos ks z, hk, by rw [List.getElem?_set_self hpl]⟩
      · refine ⟨i, h1, ?_⟩
        rw [List.getElem?_set, if_neg, h2]
        rintro rfl
        rw [hk] at h1; cases h1; exact h0 rfl
  · rename_i hk
    have hno : ∀ i : Nat, ks[i]? ≠ some x := fun i h => hk (by rw [pos_at hr h]; exact h)
    constructor
    · rintro ⟨i, h1, h2⟩
      dsimp only at h1 h2
      rw [ins_get _ _ _ hp] at h1
      rw [ins_get _ _ _ (by omega)] at h2
      by_cases h3 : i < pos ks x
      · rw [if_pos h3] at h1 h2
        exact .inr ⟨fun e => hno i (by rw [← e]; exact h1), i, h1, h2⟩
      · rw [if_neg h3] at h1 h2
        by_cases h4 : i = pos ks x
        · rw [if_pos h4] at h1 h2
          cases h1; cases h2; exact .inl ⟨rfl, rfl⟩
        · rw [if_neg h4] at h1 h2
          exact .inr ⟨fun e => hno (i - 1) (by rw [← e]; exact h1), i - 1, h1, h2⟩
    · rintro (⟨rfl, rfl⟩ | ⟨h0, i, h1, h2⟩)
      · refine ⟨pos ks z, ?_, ?_⟩
        · rw [ins_get _ _ _ hp, if_neg (by omega), if_pos rfl]
        · rw [ins_get _ _ _ (by omega), if_neg (by omega), if_pos rfl]
      · by_cases h3 : i < pos ks x
        · refine ⟨i, ?_, ?_⟩
          · rw [ins_get _ _ _ hp, if_pos h3, h1]
          · rw [ins_get _ _ _ (by omega), if_pos h3, h2]
        · refine ⟨i + 1, ?_, ?_⟩
          · rw [ins_get _ _ _ hp, if_neg (by omega), if_neg (by omega)]; exact h1
          · rw [ins_get _ _ _ (by omega), if_neg (by omega), if_neg (by omega)]; exact h2
theorem drop_at {ks : List ByteArray} {V2 : List Int} (hr : Rising ks) (x z : ByteArray) (v : Int) :
    (∃ i : Nat, (kdrop ks V2 x).1[i]? = some z ∧ (kdrop ks V2 x).2[i]? = some v) ↔ (z ≠ x ∧ ∃ i : Nat, ks[i]? = some z ∧ V2[i]? = some v) := by
  unfold kdrop
  split
  · rename_i hk
    constructor
    · rintro ⟨i, h1, h2⟩
      dsimp only at h1 h2
      rw [List.getElem?_eraseIdx] at h1 h2
      by_cases h3 : i < pos ks x
      · rw [if_pos h3] at h1 h2
        refine ⟨?_, i, h1, h2⟩
        rintro rfl
        have := at_inj hr hk h1; omega
      · rw [if_neg h3] at h1 h2
        refine ⟨?_, i + 1, h1, h2⟩
        rintro rfl
        have := at_inj hr hk h1; omega
    · rintro ⟨h0, i, h1, h2⟩
      have h3 : i ≠ pos ks x := by
        rintro rfl
        rw [hk] at h1; cases h1; exact h0 rfl
      by_cases h4 : i < pos ks x
      · exact ⟨i, by dsimp only; rw [List.getElem?_eraseIdx, if_pos h4, h1], by dsimp only; rw [List.getElem?_eraseIdx, if_pos h4, h2]⟩
      · refine ⟨i - 1, ?_, ?_⟩
        · dsimp only; rw [List.getElem?_eraseIdx, if_neg (by omega), show i - 1 + 1 = i by omega, h1]
        · dsimp only; rw [List.getElem?_eraseIdx, if_neg (by omega), show i - 1 + 1 = i by omega, h2]
  · rename_i hk
    have hno : ∀ i : Nat, ks[i]? ≠ some x := fun i h => hk (by rw [pos_at hr h]; exact h)
    constructor
    · rintro ⟨i, h1, h2⟩
      exact ⟨fun e => hno i (by rw [← e]; exact h1), i, h1, h2⟩
    · rintro ⟨_, h⟩; exact h
theorem look_put {ks : List ByteArray} {V2 : List Int} (hr : Rising ks) (hv : V2.length = ks.length) (x : ByteArray) (y : Int) (z : ByteArray) : look (kput ks V2 x y).1 (kput ks V2 x y).2 z = if z = x then some y else look ks V2 z := by
 apply look_ext
 intro v
 rw [look_iff (kput_rising hr), put_at hr hv]
 by_cases h : z = x
 · rw [if_pos h]
   constructor
   · rintro (⟨_, rfl⟩ | ⟨h0, _⟩)
     · rfl
     · exact absurd h h0
   · intro e; cases e; exact .inl ⟨h, rfl⟩
 · rw [if_neg h, look_iff hr]
   constructor
   · rintro (⟨h0, _⟩ | ⟨_, h1⟩)
     · exact absurd h0 h
     · exact h1
   · exact fun h1 => .inr ⟨h, h1⟩
theorem look_drop {ks : List ByteArray} {V2 : List Int} (hr : Rising ks) (x z : ByteArray) : look (kdrop ks V2 x).1 (kdrop ks V2 x).2 z = if z = x then none else look ks V2 z := by
 apply look_ext
 intro v
 rw [look_iff (kdrop_rising hr), drop_at hr]
 by_cases h : z = x
 · rw [if_pos h]
   constructor
   · rintro ⟨h0, _⟩; exact absurd h h0
   · intro e; cases e
 · rw [if_neg h, look_iff hr]
   constructor
   · rintro ⟨_, h1⟩; exact h1
   · exact fun h1 => ⟨h, h1⟩
theorem look_apply {ks : List ByteArray} {V2 : List Int} (hr : Rising ks) (hv : V2.length = ks.length) (g n : ByteArray) (k : Int) (z : ByteArray) : look (kapply ks V2 g n k).1 (kapply ks V2 g n k).2 z = if n.size ≠ 0 ∧ z = n then some k else if g.size ≠ 0 ∧ z = g then none else look ks V2 z := by
 unfold kapply
 dsimp only
 by_cases h1 : g.size = 0 <;> by_cases h2 : n.size = 0
 · simp only [h1, h2, if_true, ne_eq, not_true_eq_false, false_and, if_false]
 · simp only [h1, h2, if_true, if_false, ne_eq, not_true_eq_false, not_false_eq_true, false_and, true_and]
   rw [look_put hr hv]
 · simp only [h1, h2, if_true, if_false, ne_eq, not_true_eq_false, not_false_eq_true, false_and, true_and]
   rw [look_drop hr]
 · simp only [h1, h2, if_false, ne_eq, not_false_eq_true, true_and]
   rw [look_put (kdrop_rising hr) (kdrop_len hv), look_drop hr]
noncomputable def B41 : Code := (Try.f41.body).getD .skip
noncomputable def G41 (n l) := cgo n l [.code B41]
theorem F41 : Fnc Try.prog 41 Try.f41 B41 := ⟨Try.func41, by kernel_rfl, by kernel_rfl⟩
noncomputable def B48 : Code := (Try.f48.body).getD .skip
noncomputable def G48 (n l) := cgo n l [.code B48]
theorem F48 : Fnc Try.prog 48 Try.f48 B48 := ⟨Try.func48, by kernel_rfl, by kernel_rfl⟩
noncomputable def B37 : Code := (Try.f37.body).getD .skip
noncomputable def G37 (n l) := cgo n l [.code B37]
theorem F37 : Fnc Try.prog 37 Try.f37 B37 := ⟨Try.func37, by kernel_rfl, by kernel_rfl⟩
noncomputable def B40 : Code := (Try.f40.body).getD .skip
noncomputable def G40 (n l) := cgo n l [.code B40]
theorem F40 : Fnc Try.prog 40 Try.f40 B40 := ⟨Try.func40, by kernel_rfl, by kernel_rfl⟩
theorem spec_41 (d : Dk) : CallsA Try.prog 41 [.ptr 0 0 0] (SD d false) fun r σ' => r = .ret (.d (.bool d.off)) ∧ σ' = SD d false := by
 refine CallsA.start F41 (tm := mk (Try.f41.ntmps) [(0, .ptr 0 0 0)]) (by kernel_rfl) ?_
 refine .sge 16 [2] (cgo 16 [] [.code B41]) ?_
 refine .rt F41 (V.d (D.bool d.off)) ?_
 exact ⟨rfl, by kernel_rfl⟩
theorem spec_48 (d : Dk) : CallsA Try.prog 48 [.ptr 0 0 0] (SD d false) fun r σ' => r = .ret (.d (.bool d.full)) ∧ σ' = SD d false := by
 refine CallsA.start F48 (tm := mk (Try.f48.ntmps) [(0, .ptr 0 0 0)]) (by kernel_rfl) ?_
 refine .sge 16 [2] (cgo 16 [] [.code B48]) ?_
 refine .rt F48 (V.d (D.bool d.full)) ?_
 exact ⟨rfl, by kernel_rfl⟩
theorem spec_37 (d : Dk) (n : Int) : CallsA Try.prog 37 [.ptr 0 0 0, .d (.int .i64 n)] (SD d false) fun r σ' => r = .ret (.tuple []) ∧ σ' = SD { d with quota := if 0 > n then 0 else n, full := false } false := by
 refine CallsA.start F37 (tm := mk (Try.f37.ntmps) [(0, .ptr 0 0 0), (1, .d (.int .i64 n))]) (by kernel_rfl) ?_
 refine .sge 18 [] (cgo 18 [true] [.code B37]) ?_
 refine .rt F37 (V.tuple []) ?_
 exact ⟨rfl, by kernel_rfl⟩
theorem spec_40 (d : Dk) (n : Int) : CallsA Try.prog 40 [.ptr 0 0 0, .d (.int .i64 n)] (SD d false) fun r σ' => r = .ret (.tuple []) ∧ σ' = SD { d with stop := if -1 > n then -1 else n } false := by
 refine CallsA.start F40 (tm := mk (Try.f40.ntmps) [(0, .ptr 0 0 0), (1, .d (.int .i64 n))]) (by kernel_rfl) ?_
 refine .sge 14 [] (cgo 14 [true] [.code B40]) ?_
 refine .rt F40 (V.tuple []) ?_
 exact ⟨rfl, by kernel_rfl⟩
noncomputable def B65 : Code := (Try.f65.body).getD .skip
noncomputable def G65 (n l) := cgo n l [.code B65]
theorem F65 : Fnc Try.prog 65 Try.f65 B65 := ⟨Try.func65, by kernel_rfl, by kernel_rfl⟩
def atV : Option Int → V
  | some k => .tuple [.ptr 1 k.toNat 0, .d (.bool true)]
  | none => .tuple [.d (.raw (.pointer none)), .d (.bool false)]
theorem spec_65 (d : Dk) (x : ByteArray) (o : Option Int) (ho : look d.nk d.nv x = o) (h1 : Rising d.nk) (h2 : d.nv.length = d.nk.length) (h3 : d.nk.length < 4611686018427387904) (h4 : ∀ k, look d.nk d.nv x = some k → 0 ≤ k ∧ k < d.files.length) :
   CallsA Try.prog 65 [.ptr 0 0 0, .d (.str x)] (SD d false) fun r σ' => r = .ret (atV o) ∧ σ' = SD d false := by
 refine CallsA.start F65 (tm := mk (Try.f65.ntmps) [(0, .ptr 0 0 0), (1, .d (.str x))]) (by kernel_rfl) ?_
 cases o with
 | none =>
   refine .sg0 20 [0, 1, 4, 5, 11, 12, 13, 14, 15] (G65 20 [false]) [(4, .d (.raw (Value.pointer none))), (5, .d (.bool false)), (11, .ptr 0 0 0), (12, .ptr 0 0 0), (13, .ptr 0 0 1), (14, .ptr 2 0 0), (15, .d (.str x))] ?_
   refine .ca [2, 3, 4] (G65 21 [false]) F70 (@spec_70 (d.nk) (x) (d.nv) (by assumption) (by assumption) (by assumption)) ?_
   rintro r0 s0 ⟨rfl, rfl⟩
   refine ⟨_, rfl, ?_⟩
   refine .sg0 12 [0, 4, 5, 6, 20] (G65 33 [false]) [(6, .d (.int .i64 ((look d.nk d.nv x).getD 0))), (20, .d (.bool !(look d.nk d.nv x).isSome))] ?_
   refine .if' (!(look d.nk d.nv x).isSome) (G65 34 [false, true]) (G65 34 [false, false]) (fun h5 => ?_) (fun h5 => ?_)
   · simp only [bsX] at h5
     refine .seg 5 [0, 4, 5, 6] (T' := cgo 39 [false, true] [.code B65]) (tm' := mk 27 [(0, .ptr 0 0 0), (4, .d (.raw (Value.pointer none))), (5, .d (.bool false)), (6, .d (.int .i64 ((look d.nk d.nv x).getD 0)))]) (σ' := (SP 1 2 d false [])) (by kernel_rfl) ?_
     refine .rt F65 (V.tuple [V.d (D.raw (Value.pointer none)), V.d (D.bool false)]) ?_
     exact ⟨rfl, rfl⟩
   · simp only [bsX] at h5
     simp_all
 | some k =>
   have q := h4 k ho
   have q1 := q.1
   have q2 := q.2
   refine .sg0 20 [0, 1, 4, 5, 11, 12, 13, 14, 15] (G65 20 [false]) [(4, .d (.raw (Value.pointer none))), (5, .d (.bool false)), (11, .ptr 0 0 0), (12, .ptr 0 0 0), (13, .ptr 0 0 1), (14, .ptr 2 0 0), (15, .d (.str x))] ?_
   refine .ca [2, 3, 4] (G65 21 [false]) F70 (@spec_70 (d.nk) (x) (d.nv) (by assumption) (by assumption) (by assumption)) ?_
   rintro r0 s0 ⟨rfl, rfl⟩
   refine ⟨_, rfl, ?_⟩
   refine .sg0 12 [0, 4, 5, 6, 20] (G65 33 [false]) [(6, .d (.int .i64 ((look d.nk d.nv x).getD 0))), (20, .d (.bool !(look d.nk d.nv x).isSome))] ?_
   refine .if' (!(look d.nk d.nv x).isSome) (G65 34 [false, true]) (G65 34 [false, false]) (fun h5 => ?_) (fun h5 => ?_)
   · simp only [bsX] at h5
     simp_all
   · simp only [bsX] at h5
     refine .sg0 8 [0, 4, 5, 6, 21, 22, 23, 24, 25] (G65 42 [false, false]) [(21, .ptr 0 0 0), (22, .ptr 0 0 0), (23, .ptr 0 0 0), (24, .row 1), (25, .d (.int .i64 ((look d.nk d.nv x).getD 0)))] ?_
     refine .op' (G65 43 [false, false]) (ixRow_ok (t := 105) (x := (.tmp 24)) (i := (.tmp 25)) (k := IntKind.i64) (n := (look d.nk d.nv x).getD 0) (l := 1) (sz := 2) (xs := map fileD d.files) (mv := false) (by kernel_rfl) (by kernel_rfl) (by kernel_rfl) (by kernel_rfl) (by kernel_rfl) (by grind) (by grind)) ?_
     refine .seg 3 [4, 5] (T' := cgo 46 [false, false] [.code B65]) (tm' := mk 27 [(4, .ptr 1 ((look d.nk d.nv x).getD 0).toNat 0), (5, .d (.bool true))]) (σ' := (SP 1 2 d false [])) (by kernel_rfl) ?_
     refine .rt F65 (V.tuple [V.ptr 1 ((look d.nk d.nv x).getD 0).toNat 0, V.d (D.bool true)]) ?_
     simp_all [hC, SD, dirD, atV]
theorem emptyStr (g : ByteArray) : g.toList = (ByteArray.mk #[]).toList ↔ g.size = 0 := by
  rw [Go.ByteArray.toList_eq, Go.ByteArray.toList_eq]
  cases g with
  | mk a =>
    have h : (ByteArray.mk a).size = a.size := rfl
    rw [h]
    cases hd : a.toList with
    | nil => have : a.size = 0 := by rw [← Array.length_toList, hd]; rfl
             simp [this]
    | cons x l => have : a.size ≠ 0 := by rw [← Array.length_toList, hd]; simp
                  simp [this]
noncomputable def B71 : Code := (Try.f71.body).getD .skip
noncomputable def G71 (n l) := cgo n l [.code B71]
theorem F71 : Fnc Try.prog 71 Try.f71 B71 := ⟨Try.func71, by kernel_rfl, by kernel_rfl⟩
theorem spec_71 (ks : List ByteArray) (V2 : List Int) (g n : ByteArray) (k : Int) (hr : Rising ks) (hl : ks.length < 999990) (hv : V2.length = ks.length) :
   CallsA Try.prog 71 [.ptr 0 0 0, .d (.agg [.str g, .str n, .int .i64 k])] [.cells [.row 1, .row 2], .row 1 (ks.map strD) false, .row 1 (V2.map intD) false] fun r σ' => r = .ret (.tuple []) ∧ σ' = [.cells [.row 1, .row 2], .row 1 ((kapply ks V2 g n k).1.map strD) true, .row 1 ((kapply ks V2 g n k).2.map intD) true] := by
 refine CallsA.start F71 (tm := mk (Try.f71.ntmps) [(0, .ptr 0 0 0), (1, .d (.agg [.str g, .str n, .int .i64 k]))]) (by kernel_rfl) ?_
 have e1 := emptyStr g
 have e2 := emptyStr n
 have d1 := @kdrop_rising ks V2 g hr
 have d2 := @kdrop_len ks V2 g hv
 have d3 := @kdrop_le ks V2 g
 refine .sge 11 [0, 3, 6] (G71 11 []) ?_
 refine .if' (!g.toList == (ByteArray.mk #[]).toList) (G71 12 [true]) (G71 12 [false]) (fun h1 => ?_) (fun h1 => ?_)
 · simp only [bsX] at h1
   refine .sge 4 [0, 3, 7, 8, 9] (G71 16 [true]) ?_
   refine .ca [0, 1, 2] (G71 17 [true]) F96 (@spec_96 (ks) (g) (V2) (by assumption) (by omega) (by assumption)) ?_
   rintro r1 s1 ⟨rfl, rfl⟩
   refine ⟨_, rfl, ?_⟩
   refine .sge 7 [0, 3, 13] (G71 24 [true]) ?_
   refine .if' (!n.toList == (ByteArray.mk #[]).toList) (G71 25 [true, true]) (G71 25 [true, false]) (fun h3 => ?_) (fun h3 => ?_)
   · simp only [bsX] at h3
     refine .sge 6 [0, 3, 14, 15, 16, 17, 18] (G71 31 [true, true]) ?_
     refine .ca [0, 1, 2] (G71 32 [true, true]) F76 (@spec_76 ((kdrop ks V2 g).fst) (n) ((kdrop ks V2 g).snd) (k) (by assumption) (by omega) (by assumption)) ?_
     rintro r3 s3 ⟨rfl, rfl⟩
     refine ⟨_, rfl, ?_⟩
     refine .sg0 1 [] (G71 33 [true, true]) [] ?_
     refine .kp [] ?_
     refine .su [0, 1, 2] (mk 20 []) [O.cells [V.row 1, V.row 2], O.row 1 (map strD (kput (kdrop ks V2 g).fst (kdrop ks V2 g).snd n k).fst) true, O.row 1 (map intD (kput (kdrop ks V2 g).fst (kdrop ks V2 g).snd n k).snd) true] ?_
     refine .rt F71 (V.tuple []) ?_
     simp_all [kapply]
   · simp only [bsX] at h3
     refine .sg0 1 [] (G71 26 [true, false]) [] ?_
     refine .kp [] ?_
     refine .su [0, 1, 2] (mk 20 []) [O.cells [V.row 1, V.row 2], O.row 1 (map strD (kdrop ks V2 g).fst) true, O.row 1 (map intD (kdrop ks V2 g).snd) true] ?_
     refine .rt F71 (V.tuple []) ?_
     simp_all [kapply]
 · simp only [bsX] at h1
   refine .sge 7 [0, 3, 13] (G71 19 [false]) ?_
   refine .if' (!n.toList == (ByteArray.mk #[]).toList) (G71 20 [false, true]) (G71 20 [false, false]) (fun h5 => ?_) (fun h5 => ?_)
   · simp only [bsX] at h5
     refine .sge 6 [0, 3, 14, 15, 16, 17, 18] (G71 26 [false, true]) ?_
     refine .ca [0, 1, 2] (G71 27 [false, true]) F76 (@spec_76 (ks) (n) (V2) (k) (by assumption) (by omega) (by assumption)) ?_
     rintro r5 s5 ⟨rfl, rfl⟩
     refine ⟨_, rfl, ?_⟩
     refine .sg0 1 [] (G71 28 [false, true]) [] ?_
     refine .kp [] ?_
     refine .su [0, 1, 2] (mk 20 []) [O.cells [V.row 1, V.row 2], O.row 1 (map strD (kput ks V2 n k).fst) true, O.row 1 (map intD (kput ks V2 n k).snd) true] ?_
     refine .rt F71 (V.tuple []) ?_
     simp_all [kapply]
   · simp only [bsX] at h5
     refine .sg0 1 [] (G71 21 [false, false]) [] ?_
     refine .raises [1, 2] ?_
     refine .kp [] ?_
     refine .su [0, 1, 2] (mk 20 []) [O.cells [V.row 1, V.row 2], O.row 1 (map strD ks) true, O.row 1 (map intD V2) true] ?_
     refine .rt F71 (V.tuple []) ?_
     simp_all [kapply]
noncomputable def B110 : Code := (Try.f110.body).getD .skip
noncomputable def G110 (n l) := cgo n l [.code B110]
theorem F110 : Fnc Try.prog 110 Try.f110 B110 := ⟨Try.func110, by kernel_rfl, by kernel_rfl⟩
theorem spec_110 (xs : List D) (hlen : xs.length ≤ 1000000) : Br.Pure Try.prog 110 [.d (.list 1 xs)] (.d (.list 1 xs)) := by
 refine CallsA.start F110 (tm := (mk 8 [(0, .d (.list 1 xs))])) (by kernel_rfl) ?_
 refine .sge 8 [0, 3] (cgo 8 [] [.code B110]) ?_
 refine .anyH (o := (opOf (G110 8 [])).getD default) (by kernel_rfl) (by kernel_rfl) (by kernel_rfl) (T' := (G110 9 [])) (by kernel_rfl) (nilEq_ok (x := .tmp 3) (y := .const (.slice none 0 0)) (t := 66) (ty := 66) (sz := 1) (xs := xs) (neg := false) (by kernel_rfl) (by kernel_rfl) (by kernel_rfl) (by kernel_rfl)) ?_
 rintro v ⟨b, rfl, hb⟩
 cases b with
 | true =>
   have h0 : xs = [] := hb rfl
   subst h0
   refine .seg 6 [2] (T' := cgo 15 [true] [.code B110]) (tm' := mk 8 [(2, .nils)]) (σ' := []) (by kernel_rfl) ?_
   refine .coerce [66, 66, 66] ?_
   exact .retH (v := .d (.list 1 [])) F110 (by kernel_rfl) (by kernel_rfl) ⟨rfl, rfl⟩
 | false =>
   refine .sge 5 [0] (cgo 14 [false] [.code B110]) ?_
   refine .opH (o := (opOf (G110 14 [false])).getD default) (by kernel_rfl) (by kernel_rfl) (by kernel_rfl) (T' := cgo 15 [false] [.code B110]) (by kernel_rfl) (build0_ok (t := 66) (e := 9) (sz := 1) (sz' := 1) (by kernel_rfl) (by kernel_rfl) (by kernel_rfl)) ?_
   refine .seg 1 [5, 6] (T' := cgo 16 [false] [.code B110]) (tm' := mk 8 [(5, .ex 1 []), (6, .d (.list 1 xs))]) (σ' := []) (by kernel_rfl) ?_
   cases xs with
   | nil =>
     refine .opH (o := (opOf (G110 16 [false])).getD default) (by kernel_rfl) (by kernel_rfl) (by kernel_rfl) (T' := cgo 17 [false] [.code B110]) (by kernel_rfl) (appNone_ok (s := .tmp 5) (x := .tmp 6) (t := 66) (t2 := 66) (sz := 1) (by' := 16) (xs := []) (by kernel_rfl) (by kernel_rfl) (by kernel_rfl) (by kernel_rfl) (by kernel_rfl)) ?_
     refine .seg 2 [2] (T' := cgo 19 [false] [.code B110]) (tm' := mk 8 [(2, .ex 1 [])]) (σ' := []) (by kernel_rfl) ?_
     refine .coerce [66, 66, 66] ?_
     exact .retH (v := .d (.list 1 [])) F110 (by kernel_rfl) (by kernel_rfl) ⟨rfl, rfl⟩
   | cons b bs =>
     refine .opH (o := (opOf (G110 16 [false])).getD default) (by kernel_rfl) (by kernel_rfl) (by kernel_rfl) (T' := cgo 17 [false] [.code B110]) (by kernel_rfl) (appEx_ok (s := .tmp 5) (x := .tmp 6) (t := 66) (t2 := 66) (sz := 1) (by' := 16) (xs := []) (ys := b :: bs) (by kernel_rfl) (by kernel_rfl) (by kernel_rfl) (by kernel_rfl) (by kernel_rfl) (by simp) (by simp at hlen ⊢; omega) (by simp [maxLen] at hlen ⊢; omega)) ?_
     refine .sge 2 [2] (cgo 19 [false] [.code B110]) ?_
     refine .freeze 0 (sz := 1) (xs := b :: bs) (mv := false) rfl ?_
     refine .sub [] ((mk 8 [(2, .d (.list 1 (b :: bs)))])) [] none [] ⟨rfl, rfl, rfl⟩ rfl ⟨by simp, rfl⟩ rfl ⟨rfl, rfl⟩ ⟨rfl, rfl⟩ ?_
     exact .retH F110 (by kernel_rfl) (by kernel_rfl) (⟨rfl, rfl⟩)
theorem spec_110b (xs : List D) (off n : Nat) (c : Option Nat) (hn : off + n ≤ xs.length) (hlen : xs.length ≤ 1000000) : CallsA Try.prog 110 [.sl 0 off n c] [.row 1 xs false] fun r σ' => r = .ret (.d (.list 1 ((xs.drop off).take n))) ∧ σ' = [.row 1 xs false] := by
 refine CallsA.start F110 (tm := (mk 8 [(0, .sl 0 off n c)])) (by kernel_rfl) ?_
 refine .sge 8 [0, 3] (cgo 8 [] [.code B110]) ?_
 refine .anyH (o := (opOf (G110 8 [])).getD default) (by kernel_rfl) (by kernel_rfl) (by kernel_rfl) (T' := (G110 9 [])) (by kernel_rfl) (nilEqC_ok (x := .tmp 3) (y := .const (.slice none 0 0)) (t := 66) (ty := 66) (sz := 1) (xs := (xs.drop off).take n) (neg := false) (by kernel_rfl) (by kernel_rfl) (by kernel_rfl) (by kernel_rfl) (by kernel_rfl)) ?_
 rintro v ⟨b, rfl, hb⟩
 cases b with
 | true =>
   have h0 : (xs.drop off).take n = [] := hb rfl
   refine .seg 6 [2] (T' := cgo 15 [true] [.code B110]) (tm' := mk 8 [(2, .nils)]) (σ' := [.row 1 xs false]) (by kernel_rfl) ?_
   refine .coerce [66, 66, 66] ?_
   exact .retH (v := .d (.list 1 [])) F110 (by kernel_rfl) (by kernel_rfl) ⟨by rw [h0], rfl⟩
 | false =>
   refine .sge 5 [0] (cgo 14 [false] [.code B110]) ?_
   refine .opH (o := (opOf (G110 14 [false])).getD default) (by kernel_rfl) (by kernel_rfl) (by kernel_rfl) (T' := cgo 15 [false] [.code B110]) (by kernel_rfl) (build0_ok (t := 66) (e := 9) (sz := 1) (sz' := 1) (by kernel_rfl) (by kernel_rfl) (by kernel_rfl)) ?_
   refine .seg 1 [5, 6] (T' := cgo 16 [false] [.code B110]) (tm' := mk 8 [(5, .ex 1 []), (6, .sl 0 off n c)]) (σ' := [.row 1 xs false]) (by kernel_rfl) ?_
   generalize hys : (xs.drop off).take n = ys
   have hl : ys.length ≤ 1000000 := by rw [← hys]; simp; omega
   have hc : cont [.row 1 xs false] (.sl 0 off n c) = some (1, ys) := by rw [← hys]; rfl
   cases ys with
   | nil =>
     refine .opH (o := (opOf (G110 16 [false])).getD default) (by kernel_rfl) (by kernel_rfl) (by kernel_rfl) (T' := cgo 17 [false] [.code B110]) (by kernel_rfl) (appNone_ok (s := .tmp 5) (x := .tmp 6) (t := 66) (t2 := 66) (sz := 1) (by' := 16) (xs := []) (by kernel_rfl) (by kernel_rfl) hc (by kernel_rfl) (by kernel_rfl)) ?_
     refine .seg 2 [2] (T' := cgo 19 [false] [.code B110]) (tm' := mk 8 [(2, .ex 1 [])]) (σ' := [.row 1 xs false]) (by kernel_rfl) ?_
     refine .coerce [66, 66, 66] ?_
     exact .retH (v := .d (.list 1 [])) F110 (by kernel_rfl) (by kernel_rfl) ⟨rfl, rfl⟩
   | cons b bs =>
     refine .opH (o := (opOf (G110 16 [false])).getD default) (by kernel_rfl) (by kernel_rfl) (by kernel_rfl) (T' := cgo 17 [false] [.code B110]) (by kernel_rfl) (appEx_ok (s := .tmp 5) (x := .tmp 6) (t := 66) (t2 := 66) (sz := 1) (by' := 16) (xs := []) (ys := b :: bs) (by kernel_rfl) (by kernel_rfl) hc (by kernel_rfl) (by kernel_rfl) (by simp) (by simp at hl ⊢; omega) (by simp [maxLen] at hl ⊢; omega)) ?_
     refine .sge 2 [2] (cgo 19 [false] [.code B110]) ?_
     refine .freeze 1 (sz := 1) (xs := b :: bs) (mv := false) rfl ?_
     refine .sub [0] ((mk 8 [(2, .d (.list 1 (b :: bs)))])) [.row 1 xs false] none [] ⟨rfl, rfl, rfl⟩ rfl ⟨by simp, rfl⟩ rfl ⟨rfl, rfl⟩ ⟨rfl, rfl⟩ ?_
     exact .retH F110 (by kernel_rfl) (by kernel_rfl) (⟨rfl, rfl⟩)
noncomputable def B111 : Code := (Try.f111.body).getD .skip
noncomputable def G111 (n l) := cgo n l [.code B111]
theorem F111 : Fnc Try.prog 111 Try.f111 B111 := ⟨Try.func111, by kernel_rfl, by kernel_rfl⟩
theorem spec_111 (xs : List D) (hlen : xs.length ≤ 1000000) : Br.Pure Try.prog 111 [.d (.list 1 xs)] (.d (.list 1 xs)) := by
 refine CallsA.start F111 (tm := (mk 8 [(0, .d (.list 1 xs))])) (by kernel_rfl) ?_
 refine .sge 8 [0, 3] (cgo 8 [] [.code B111]) ?_
 refine .anyH (o := (opOf (G111 8 [])).getD default) (by kernel_rfl) (by kernel_rfl) (by kernel_rfl) (T' := (G111 9 [])) (by kernel_rfl) (nilEq_ok (x := .tmp 3) (y := .const (.slice none 0 0)) (t := 46) (ty := 46) (sz := 1) (xs := xs) (neg := false) (by kernel_rfl) (by kernel_rfl) (by kernel_rfl) (by kernel_rfl)) ?_
 rintro v ⟨b, rfl, hb⟩
 cases b with
 | true =>
   have h0 : xs = [] := hb rfl
   subst h0
   refine .seg 6 [2] (T' := cgo 15 [true] [.code B111]) (tm' := mk 8 [(2, .nils)]) (σ' := []) (by kernel_rfl) ?_
   refine .coerce [46, 46, 46] ?_
   exact .retH (v := .d (.list 1 [])) F111 (by kernel_rfl) (by kernel_rfl) ⟨rfl, rfl⟩
 | false =>
   refine .sge 5 [0] (cgo 14 [false] [.code B111]) ?_
   refine .opH (o := (opOf (G111 14 [false])).getD default) (by kernel_rfl) (by kernel_rfl) (by kernel_rfl) (T' := cgo 15 [false] [.code B111]) (by kernel_rfl) (build0_ok (t := 46) (e := 3) (sz := 1) (sz' := 1) (by kernel_rfl) (by kernel_rfl) (by kernel_rfl)) ?_
   refine .seg 1 [5, 6] (T' := cgo 16 [false] [.code B111]) (tm' := mk 8 [(5, .ex 1 []), (6, .d (.list 1 xs))]) (σ' := []) (by kernel_rfl) ?_
   cases xs with
   | nil =>
     refine .opH (o := (opOf (G111 16 [false])).getD default) (by kernel_rfl) (by kernel_rfl) (by kernel_rfl) (T' := cgo 17 [false] [.code B111]) (by kernel_rfl) (appNone_ok (s := .tmp 5) (x := .tmp 6) (t := 46) (t2 := 46) (sz := 1) (by' := 8) (xs := []) (by kernel_rfl) (by kernel_rfl) (by kernel_rfl) (by kernel_rfl) (by kernel_rfl)) ?_
     refine .seg 2 [2] (T' := cgo 19 [false] [.code B111]) (tm' := mk 8 [(2, .ex 1 [])]) (σ' := []) (by kernel_rfl) ?_
     refine .coerce [46, 46, 46] ?_
     exact .retH (v := .d (.list 1 [])) F111 (by kernel_rfl) (by kernel_rfl) ⟨rfl, rfl⟩
   | cons b bs =>
     refine .opH (o := (opOf (G111 16 [false])).getD default) (by kernel_rfl) (by kernel_rfl) (by kernel_rfl) (T' := cgo 17 [false] [.code B111]) (by kernel_rfl) (appEx_ok (s := .tmp 5) (x := .tmp 6) (t := 46) (t2 := 46) (sz := 1) (by' := 8) (xs := []) (ys := b :: bs) (by kernel_rfl) (by kernel_rfl) (by kernel_rfl) (by kernel_rfl) (by kernel_rfl) (by simp) (by simp at hlen ⊢; omega) (by simp [maxLen] at hlen ⊢; omega)) ?_
     refine .sge 2 [2] (cgo 19 [false] [.code B111]) ?_
     refine .freeze 0 (sz := 1) (xs := b :: bs) (mv := false) rfl ?_
     refine .sub [] ((mk 8 [(2, .d (.list 1 (b :: bs)))])) [] none [] ⟨rfl, rfl, rfl⟩ rfl ⟨by simp, rfl⟩ rfl ⟨rfl, rfl⟩ ⟨rfl, rfl⟩ ?_
     exact .retH F111 (by kernel_rfl) (by kernel_rfl) (⟨rfl, rfl⟩)
theorem spec_111b (xs : List D) (off n : Nat) (c : Option Nat) (hn : off + n ≤ xs.length) (hlen : xs.length ≤ 1000000) : CallsA Try.prog 111 [.sl 0 off n c] [.row 1 xs false] fun r σ' => r = .ret (.d (.list 1 ((xs.drop off).take n))) ∧ σ' = [.row 1 xs false] := by
 refine CallsA.start F111 (tm := (mk 8 [(0, .sl 0 off n c)])) (by kernel_rfl) ?_
 refine .sge 8 [0, 3] (cgo 8 [] [.code B111]) ?_
 refine .anyH (o := (opOf (G111 8 [])).getD default) (by kernel_rfl) (by kernel_rfl) (by kernel_rfl) (T' := (G111 9 [])) (by kernel_rfl) (nilEqC_ok (x := .tmp 3) (y := .const (.slice none 0 0)) (t := 46) (ty := 46) (sz := 1) (xs := (xs.drop off).take n) (neg := false) (by kernel_rfl) (by kernel_rfl) (by kernel_rfl) (by kernel_rfl) (by kernel_rfl)) ?_
 rintro v ⟨b, rfl, hb⟩
 cases b with
 | true =>
   have h0 : (xs.drop off).take n = [] := hb rfl
   refine .seg 6 [2] (T' := cgo 15 [true] [.code B111]) (tm' := mk 8 [(2, .nils)]) (σ' := [.row 1 xs false]) (by kernel_rfl) ?_
   refine .coerce [46, 46, 46] ?_
   exact .retH (v := .d (.list 1 [])) F111 (by kernel_rfl) (by kernel_rfl) ⟨by rw [h0], rfl⟩
 | false =>
   refine .sge 5 [0] (cgo 14 [false] [.code B111]) ?_
   refine .opH (o := (opOf (G111 14 [false])).getD default) (by kernel_rfl) (by kernel_rfl) (by kernel_rfl) (T' := cgo 15 [false] [.code B111]) (by kernel_rfl) (build0_ok (t := 46) (e := 3) (sz := 1) (sz' := 1) (by kernel_rfl) (by kernel_rfl) (by kernel_rfl)) ?_
   refine .seg 1 [5, 6] (T' := cgo 16 [false] [.code B111]) (tm' := mk 8 [(5, .ex 1 []), (6, .sl 0 off n c)]) (σ' := [.row 1 xs false]) (by kernel_rfl) ?_
   generalize hys : (xs.drop off).take n = ys
   have hl : ys.length ≤ 1000000 := by rw [← hys]; simp; omega
   have hc : cont [.row 1 xs false] (.sl 0 off n c) = some (1, ys) := by rw [← hys]; rfl
   cases ys with
   | nil =>
     refine .opH (o := (opOf (G111 16 [false])).getD default) (by kernel_rfl) (by kernel_rfl) (by kernel_rfl) (T' := cgo 17 [false] [.code B111]) (by kernel_rfl) (appNone_ok (s := .tmp 5) (x := .tmp 6) (t := 46) (t2 := 46) (sz := 1) (by' := 8) (xs := []) (by kernel_rfl) (by kernel_rfl) hc (by kernel_rfl) (by kernel_rfl)) ?_
     refine .seg 2 [2] (T' := cgo 19 [false] [.code B111]) (tm' := mk 8 [(2, .ex 1 [])]) (σ' := [.row 1 xs false]) (by kernel_rfl) ?_
     refine .coerce [46, 46, 46] ?_
     exact .retH (v := .d (.list 1 [])) F111 (by kernel_rfl) (by kernel_rfl) ⟨rfl, rfl⟩
   | cons b bs =>
     refine .opH (o := (opOf (G111 16 [false])).getD default) (by kernel_rfl) (by kernel_rfl) (by kernel_rfl) (T' := cgo 17 [false] [.code B111]) (by kernel_rfl) (appEx_ok (s := .tmp 5) (x := .tmp 6) (t := 46) (t2 := 46) (sz := 1) (by' := 8) (xs := []) (ys := b :: bs) (by kernel_rfl) (by kernel_rfl) hc (by kernel_rfl) (by kernel_rfl) (by simp) (by simp at hl ⊢; omega) (by simp [maxLen] at hl ⊢; omega)) ?_
     refine .sge 2 [2] (cgo 19 [false] [.code B111]) ?_
     refine .freeze 1 (sz := 1) (xs := b :: bs) (mv := false) rfl ?_
     refine .sub [0] ((mk 8 [(2, .d (.list 1 (b :: bs)))])) [.row 1 xs false] none [] ⟨rfl, rfl, rfl⟩ rfl ⟨by simp, rfl⟩ rfl ⟨rfl, rfl⟩ ⟨rfl, rfl⟩ ?_
     exact .retH F111 (by kernel_rfl) (by kernel_rfl) (⟨rfl, rfl⟩)
noncomputable def B72 : Code := (Try.f72.body).getD .skip
noncomputable def G72 (n l) := cgo n l [.code B72]
theorem F72 : Fnc Try.prog 72 Try.f72 B72 := ⟨Try.func72, by kernel_rfl, by kernel_rfl⟩
noncomputable def B97 : Code := (Try.f97.body).getD .skip
noncomputable def G97 (n l) := cgo n l [.code B97]
theorem F97 : Fnc Try.prog 97 Try.f97 B97 := ⟨Try.func97, by kernel_rfl, by kernel_rfl⟩
noncomputable def B98 : Code := (Try.f98.body).getD .skip
noncomputable def G98 (n l) := cgo n l [.code B98]
theorem F98 : Fnc Try.prog 98 Try.f98 B98 := ⟨Try.func98, by kernel_rfl, by kernel_rfl⟩
noncomputable def B109 : Code := (Try.f109.body).getD .skip
noncomputable def G109 (n l) := cgo n l [.code B109]
theorem F109 : Fnc Try.prog 109 Try.f109 B109 := ⟨Try.func109, by kernel_rfl, by kernel_rfl⟩
theorem spec_98 : Br.Pure Try.prog 98 [] (.d (.int .i64 0)) := by
 refine CallsA.start F98 (tm := mk (Try.f98.ntmps) []) (by kernel_rfl) ?_
 refine .sge 8 [0] (cgo 8 [] [.code B98]) ?_
 refine .rt F98 (V.d (D.int IntKind.i64 0)) ?_
 exact ⟨rfl, by kernel_rfl⟩
theorem spec_97 (ks V2 : List D) : CallsA Try.prog 97 [.ptr 0 0 0, .fn (.func 98) [] []] [.cells [.row 1, .row 2], .row 1 ks false, .row 1 V2 false] fun r σ' => r = .ret (.fn (.func 109) [] [.ptr 3 0 0, .ptr 4 0 0]) ∧ σ' = [.cells [.row 1, .row 2], .row 1 ks false, .row 1 V2 false, .cells [.ptr 0 0 0], .cells [.fn (.func 98) [] []]] := by
 refine CallsA.start F97 (tm := mk (Try.f97.ntmps) [(0, .ptr 0 0 0), (1, .fn (.func 98) [] [])]) (by kernel_rfl) ?_
 refine .sge 11 [4] (cgo 11 [] [.code B97]) ?_
 refine .rt F97 (V.fn (Fn.func 109) [] [V.ptr 3 0 0, V.ptr 4 0 0]) ?_
 exact ⟨rfl, by kernel_rfl⟩
theorem spec_72 (ks V2 : List D) : CallsA Try.prog 72 [.ptr 0 0 0] [.cells [.row 1, .row 2], .row 1 ks false, .row 1 V2 false] fun r σ' => r = .ret (.fn (.func 109) [] [.ptr 3 0 0, .ptr 4 0 0]) ∧ σ' = [.cells [.row 1, .row 2], .row 1 ks false, .row 1 V2 false, .cells [.ptr 0 0 0], .cells [.fn (.func 98) [] []]] := by
 refine CallsA.start F72 (tm := mk (Try.f72.ntmps) [(0, .ptr 0 0 0)]) (by kernel_rfl) ?_
 refine .sge 7 [0, 2, 3] (G72 7 []) ?_
 refine .ca [0, 1, 2] (G72 8 []) F97 (@spec_97 (ks) (V2)) ?_
 rintro r0 s0 ⟨rfl, rfl⟩
 refine ⟨_, rfl, ?_⟩
 refine .sge 2 [2] (cgo 10 [] [.code B72]) ?_
 refine .rt F72 (V.fn (Fn.func 109) [] [V.ptr 3 0 0, V.ptr 4 0 0]) ?_
 exact ⟨rfl, by kernel_rfl⟩
theorem eachL {α : Type} (l : List α) (g : α → D) : List.take (l.length - 0) (List.drop 0 (List.map g l)) = List.map g l := by
 rw [Nat.sub_zero, List.drop_zero, List.take_of_length_le (by simp)]
theorem eachM {α : Type} (l : List α) (g : α → D) : List.drop 0 (List.take l.length (List.map g l)) = List.map g l := by
 rw [List.drop_zero, List.take_of_length_le (by simp)]
noncomputable def B69 : Code := (Try.f69.body).getD .skip
noncomputable def G69 (n l) := cgo n l [.code B69]
theorem F69 : Fnc Try.prog 69 Try.f69 B69 := ⟨Try.func69, by kernel_rfl, by kernel_rfl⟩
noncomputable def R69 : List Item := [.code (rfAs (G69 18 [])), .beginRound, .code (rfBd (G69 18 []))]
noncomputable def S69 (ks : List ByteArray) (V2 : List Int) (i : Nat) (st : LoopState) : Store :=
  [.cells [.row 1, .row 2], .row 1 (ks.map strD) false, .row 1 (V2.map intD) false, .cells [.row 7, .row 8], .cells [.ptr 3 0 0], .cells [.ptr 0 0 0], .cells [.fn (.func 98) [] []], .row 1 ((ks.take i).map strD) true, .row 1 ((V2.take i).map intD) true, .defd,
    lp (G69 18 []) 69 (mk 17 [(2, V.d (D.raw (Value.pointer none))), (3, V.ptr 4 0 0), (9, V.fn (Fn.func 109) [] [V.ptr 5 0 0, V.ptr 6 0 0])]) st]
theorem body69 (ks : List ByteArray) (V2 : List Int) (hr : Rising ks) (hl : ks.length < 60000) (hv : V2.length = ks.length) (i : Nat) (x : ByteArray) (v : Int) (hx : ks[i]? = some x) (hy : V2[i]? = some v) :
  AW Try.prog 69 (some 10) 11 R69 (mk 17 [(2, V.d (D.raw (Value.pointer none))), (3, V.ptr 4 0 0), (9, V.fn (Fn.func 109) [] [V.ptr 5 0 0, V.ptr 6 0 0]), (10, .d (.str x)), (11, .d (.int .i64 v))]) (S69 ks V2 i .ready) [] fun a σ' => a = .ret (.d (.bool true)) ∧ σ' = S69 ks V2 (i + 1) .ready := by
 refine .at (T' := cgo 0 [] R69) rfl ?_
 have hi := (List.getElem?_eq_some_iff.1 hx).1
 have hk : kput (ks.take i) (V2.take i) x v = (ks.take (i + 1), V2.take (i + 1)) := by
  obtain ⟨_, rfl⟩ := List.getElem?_eq_some_iff.1 hx
  obtain ⟨_, rfl⟩ := List.getElem?_eq_some_iff.1 hy
  exact kput_next hr hv i hi
 have hr2 : Rising (ks.take i) := List.Pairwise.sublist (List.take_sublist _ _) hr
 have hl2 : (ks.take i).length < 1000000 := by simp; omega
 have hv2 : (V2.take i).length = (ks.take i).length := by simp [hv]
 refine .sg0 7 [2, 3, 4, 5, 9, 10, 11] (cgo 7 [] R69) [(4, .d (.str x)), (5, .d (.int .i64 v))] ?_
 refine .beginL (T0 := cgo 18 [] [Item.code B69]) (fn := 69) (tml := (mk 17 [(2, V.d (D.raw (Value.pointer none))), (3, V.ptr 4 0 0), (9, V.fn (Fn.func 109) [] [V.ptr 5 0 0, V.ptr 6 0 0])])) (by kernel_rfl) (T' := cgo 8 [] R69) (by kernel_rfl) (σ' := [.cells [.row 1, .row 2], .row 1 (map strD ks) false, .row 1 (map intD V2) false, .cells [.row 7, .row 8], .cells [.ptr 3 0 0], .cells [.ptr 0 0 0], .cells [.fn (Fn.func 98) [] []], .row 1 (map strD (List.take i ks)) true, .row 1 (map intD (List.take i V2)) true, .defd, lp (G69 18 []) 69 (mk 17 [(2, .d (.raw (Value.pointer none))), (3, .ptr 4 0 0), (9, .fn (Fn.func 109) [] [.ptr 5 0 0, .ptr 6 0 0])]) LoopState.busy]) (by kernel_rfl) (by kernel_rfl) ?_
 refine .sge 5 [2, 3, 4, 5, 12, 13, 14] (cgo 13 [] R69) ?_
 refine .ca [3, 7, 8] (cgo 14 [] R69) F76 (@spec_76 (List.take i ks) (x) (List.take i V2) (v) (by assumption) (by assumption) (by assumption)) ?_
 rintro r0 s0 ⟨rfl, rfl⟩
 refine ⟨_, rfl, ?_⟩
 refine .sg 2 [2] (cgo 16 [] R69) [] [(10, lp (G69 18 []) 69 (mk 17 [(2, .d (.raw (Value.pointer none))), (3, .ptr 4 0 0), (9, .fn (Fn.func 109) [] [.ptr 5 0 0, .ptr 6 0 0])]) LoopState.busy)] ?_
 refine .roundEndL (T0 := cgo 18 [] [Item.code B69]) (fn := 69) (tml := (mk 17 [(2, V.d (D.raw (Value.pointer none))), (3, V.ptr 4 0 0), (9, V.fn (Fn.func 109) [] [V.ptr 5 0 0, V.ptr 6 0 0])])) (st := LoopState.busy) (by kernel_rfl) (by kernel_rfl) (σ' := [.cells [.row 1, .row 2], .row 1 (map strD ks) false, .row 1 (map intD V2) false, .cells [.row 7, .row 8], .cells [.ptr 3 0 0], .cells [.ptr 0 0 0], .cells [.fn (Fn.func 98) [] []], .row 1 (map strD (kput (List.take i ks) (List.take i V2) x v).fst) true, .row 1 (map intD (kput (List.take i ks) (List.take i V2) x v).snd) true, .defd, lp (G69 18 []) 69 (mk 17 [(2, .d (.raw (Value.pointer none))), (3, .ptr 4 0 0), (9, .fn (Fn.func 109) [] [.ptr 5 0 0, .ptr 6 0 0])]) LoopState.ready]) (by kernel_rfl) ?_
 simp_all [S69]
theorem lo69 (ks : List ByteArray) (V2 : List Int) (hr : Rising ks) (hl : ks.length < 60000) (hv : V2.length = ks.length) : ∀ (m i : Nat), i + m = (ks).length →
    AW Try.prog 109 none 11 (G109 24 [false]) (mk 43 [(0, V.yield 10), (5, V.d (.list 1 ((ks).map strD))), (6, V.d (.list 1 ((V2).map intD))), (27, V.d (.int .i64 ((ks).length : Nat))), (28, V.d (.int .i64 (i : Nat)))]) (S69 ks V2 i .ready) [] fun r σ' => r = .ret (.tuple []) ∧ σ' = S69 ks V2 (ks).length .ready := by
  intro m
  induction m with
  | zero =>
    intro i hi
    have hi : i = (ks).length := by omega
    subst hi
    refine .sge 5 [0, 5, 6, 27, 28, 29] (G109 29 [false]) ?_
    refine .if' (decide ((↑ks.length : Int) < (↑ks.length : Int))) (G109 30 [false, true]) (G109 30 [false, false]) (fun h1 => ?_) (fun h1 => ?_)
    · simp only [bsX] at h1
      omega
    · simp only [bsX] at h1
      refine .sge 1 [] (cgo 31 [false, false] [.code B109]) ?_
      refine .rt F109 (V.tuple []) ?_
      exact ⟨rfl, by kernel_rfl⟩
  | succ m ih =>
    intro i hi
    obtain ⟨x, hx⟩ := get_some (l := ks) (i := i) (by omega)
    obtain ⟨v, hy⟩ := get_some (l := V2) (i := i) (by omega)
    have hYi := body69 ks V2 hr hl hv i x v hx hy
    refine .sge 5 [0, 5, 6, 27, 28, 29] (G109 29 [false]) ?_
    refine .if' (decide ((↑i : Int) < (↑ks.length : Int))) (G109 30 [false, true]) (G109 30 [false, false]) (fun h1 => ?_) (fun h1 => ?_)
    · simp only [bsX] at h1
      refine .sge 9 [0, 5, 6, 7, 27, 28, 29, 30] (G109 39 [false, true]) ?_
      refine .dr (G109 40 [false, true]) [(31, .yield 10), (32, .d (.list 1 (map strD ks))), (33, .d (.int .i64 (↑i : Int))), (34, .ep 1 (D.str x) 0), (35, .d (.str x)), (36, .d (.list 1 (map intD V2))), (37, .d (.int .i64 (↑i : Int))), (38, .ep 1 (D.int IntKind.i64 v) 0), (39, .d (.int .i64 v)), (40, .d (.bool true)), (41, .d (.bool false))] [(7, .row 1 (map strD (List.take (i + 1) ks)) true), (8, .row 1 (map intD (List.take (i + 1) V2)) true)] (fun kz L hL => ?_) ?_
      · refine ⟨[fO 10, nF, nF, nF, nF, nF, nF, nF, nF, ⟨[], [], [], [], [], [], false, true⟩, nF], run_amongF hL _ [] [0, 1, 2, 3, 4, 5, 6, 7, 8, 9, 10] (by intro p hp; cases hp) (by kernel_rfl) ?_⟩
        refine Run.ap [0, 1, 2] [(31, .yield 10), (32, .d (.list 1 (map strD ks))), (33, .d (.int .i64 (↑i : Int)))] [] ?_
        refine Run.lk 3 (.ep 1 (D.str x) 0) [(.tmp 32), (.tmp 33)] (fun tm' σ2 hv hr => ixData_ok (t := 66) (x := (.tmp 32)) (i := (.tmp 33)) (k := IntKind.i64) (n := (↑i : Int)) (sz := 1) (xs := map strD ks) (d := strD x) (by kernel_rfl) (evl hv) (evv hv) (by kernel_rfl) (by omega) (map_get hx)) ?_
        refine Run.ap [4, 5, 6] [(35, .d (.str x)), (36, .d (.list 1 (map intD V2))), (37, .d (.int .i64 (↑i : Int)))] [] ?_
        refine Run.lk 7 (.ep 1 (D.int IntKind.i64 v) 0) [(.tmp 36), (.tmp 37)] (fun tm' σ2 hv hr => ixData_ok (t := 46) (x := (.tmp 36)) (i := (.tmp 37)) (k := IntKind.i64) (n := (↑i : Int)) (sz := 1) (xs := map intD V2) (d := intD v) (by kernel_rfl) (evl hv) (evv hv) (by kernel_rfl) (by omega) (map_get hy)) ?_
        refine Run.ap [8] [(39, .d (.int .i64 v))] [] ?_
        refine Run.yi 9 (cgo 18 [] [.code B69]) hYi ?_
        exact Run.fin
      refine .sg0 7 [0, 5, 6, 27, 28] (cgo 47 [false, true, false] [.code B109]) [(28, .d (.int .i64 (IntKind.i64.wrap ((↑i : Int) + 1))))] ?_
      simp (disch := omega) only [bsW]
      exact .seg 1 [0, 5, 6, 27, 28] (by kernel_rfl) (ih (i + 1) (by omega))
    · simp only [bsX] at h1
      omega
theorem it69 (ks : List ByteArray) (V2 : List Int) (hr : Rising ks) (hl : ks.length < 60000) (hv : V2.length = ks.length) : CallsA Try.prog 109 [.yield 10, .ptr 5 0 0, .ptr 6 0 0] (S69 ks V2 0 .ready) fun r σ' => r = .ret (.tuple []) ∧ σ' = S69 ks V2 (ks).length .ready := by
 refine CallsA.start F109 (tm := mk (Try.f109.ntmps) [(0, .yield 10), (1, .ptr 5 0 0), (2, .ptr 6 0 0)]) (by kernel_rfl) ?_
 refine .sg0 11 [0, 1, 2, 10] (G109 11 [false]) [(10, .fn (Fn.func 98) [] [])] ?_
 refine .cd (G109 12 [false]) F98 (@spec_98) ?_
 refine .sg0 3 [0, 1, 4] (G109 15 [false]) [(4, .d (.int .i64 0))] ?_
 refine .dr (G109 16 [false]) [(5, .d (.list 1 (List.take ((map strD ks).length - 0) (List.drop 0 (map strD ks))))), (6, .d (.list 1 (List.take ((map intD V2).length - 0) (List.drop 0 (map intD V2))))), (12, .ptr 0 0 0), (13, .ptr 0 0 0), (14, .ptr 0 0 0), (15, .row 1), (16, .d (.int .i64 0)), (17, .sl 1 0 ((map strD ks).length - 0) none), (18, .d (.list 1 (List.take ((map strD ks).length - 0) (List.drop 0 (map strD ks))))), (19, .ptr 0 0 0), (20, .ptr 0 0 0), (21, .ptr 0 0 1), (22, .row 2), (23, .d (.int .i64 0)), (24, .sl 2 0 ((map intD V2).length - 0) none), (25, .d (.list 1 (List.take ((map intD V2).length - 0) (List.drop 0 (map intD V2)))))] [] (fun kz L hL => ?_) ?_
 · refine ⟨[fB 5 0, fA 0, fA 0, fX [0] [] [] [1] [0, 1, 2], nF, fX [1] [] [] [1] [1], fX [1] [1] [] [] [1], fB 5 0, fA 0, fA 0, fX [0] [] [] [2] [0, 1, 2], nF, fX [2] [] [] [2] [2], fR 2, nF, nF], run_amongF hL _ [] [0, 1, 2, 3, 4, 5, 7, 8, 9, 10, 11, 12, 6, 13, 14, 15] (by intro p hp; cases hp) (by kernel_rfl) ?_⟩
   refine Run.ap [0, 1, 2, 3, 4] [(12, .ptr 0 0 0), (13, .ptr 0 0 0), (14, .ptr 0 0 0), (15, .row 1), (16, .d (.int .i64 0))] [] ?_
   refine Run.lk 5 (.sl 1 0 ((map strD ks).length - 0) none) [(.tmp 15), (.tmp 16)] (fun tm' σ2 hv hr => slRow_ok (t := 66) (x := (.tmp 15)) (lo := (some (.tmp 16))) (hi := none) (lc := 1) (sz := 1) (xs := map strD ks) (mv := false) (0) ((map strD ks).length) (by kernel_rfl) (evv hv) (atr hr) (by kernel_rfl) (bnd_some (k := IntKind.i64) (i := 0) (evv hv) (by omega) (by rfl)) rfl (by omega) (by omega)) ?_
   refine Run.ap [7, 8, 9, 10, 11] [(19, .ptr 0 0 0), (20, .ptr 0 0 0), (21, .ptr 0 0 1), (22, .row 2), (23, .d (.int .i64 0))] [] ?_
   refine Run.lk 12 (.sl 2 0 ((map intD V2).length - 0) none) [(.tmp 22), (.tmp 23)] (fun tm' σ2 hv hr => slRow_ok (t := 46) (x := (.tmp 22)) (lo := (some (.tmp 23))) (hi := none) (lc := 2) (sz := 1) (xs := map intD V2) (mv := false) (0) ((map intD V2).length) (by kernel_rfl) (evv hv) (atr hr) (by kernel_rfl) (bnd_some (k := IntKind.i64) (i := 0) (evv hv) (by omega) (by rfl)) rfl (by omega) (by omega)) ?_
   refine Run.cl 6 [1] F110 (@spec_110b (map strD ks) (0) ((map strD ks).length - 0) (none) (by omega) (by simp <;> omega)) ?_
   refine Run.cll 13 [2] F111 (@spec_111b (map intD V2) (0) ((map intD V2).length - 0) (none) (by omega) (by simp <;> omega)) ?_
   exact Run.fin
 refine .seg 7 [0, 5, 6, 27, 28] (T' := cgo 23 [false] [.code B109]) (tm' := mk 43 [(0, .yield 10), (5, .d (.list 1 (List.take ((map strD ks).length - 0) (List.drop 0 (map strD ks))))), (6, .d (.list 1 (List.take ((map intD V2).length - 0) (List.drop 0 (map intD V2))))), (27, .d (.int .i64 (↑(List.take ((map strD ks).length - 0) (List.drop 0 (map strD ks))).length : Int))), (28, .d (.int .i64 0))]) (σ' := [.cells [.row 1, .row 2], .row 1 (map strD ks) false, .row 1 (map intD V2) false, .cells [.row 7, .row 8], .cells [.ptr 3 0 0], .cells [.ptr 0 0 0], .cells [.fn (Fn.func 98) [] []], .row 1 [] true, .row 1 [] true, .defd, lp (G69 18 []) 69 (mk 17 [(2, .d (.raw (Value.pointer none))), (3, .ptr 4 0 0), (9, .fn (Fn.func 109) [] [.ptr 5 0 0, .ptr 6 0 0])]) LoopState.ready]) (by kernel_rfl) ?_
 simp only [List.length_map]
 rw [show List.take ((ks).length - 0) (List.drop 0 (List.map strD (ks))) = List.map strD (ks) by rw [Nat.sub_zero, List.drop_zero, List.take_of_length_le (by simp)], show List.take ((V2).length - 0) (List.drop 0 (List.map intD (V2))) = List.map intD (V2) by rw [Nat.sub_zero, List.drop_zero, List.take_of_length_le (by simp)], List.length_map]
 exact .seg 1 [0, 5, 6, 27, 28] (by kernel_rfl) (lo69 ks V2 hr hl hv (ks).length 0 (by omega))
theorem spec_69 (ks : List ByteArray) (V2 : List Int) (hr : Rising ks) (hl : ks.length < 60000) (hv : V2.length = ks.length) :
  CallsA Try.prog 69 [.ptr 0 0 0] [.cells [.row 1, .row 2], .row 1 (ks.map strD) false, .row 1 (V2.map intD) false] fun r σ' => r = .ret (.ptr 3 0 0) ∧ σ' = [.cells [.row 1, .row 2], .row 1 (ks.map strD) false, .row 1 (V2.map intD) false, .cells [.row 4, .row 5], .row 1 (ks.map strD) true, .row 1 (V2.map intD) true] := by
 refine CallsA.start F69 (tm := mk (Try.f69.ntmps) [(0, .ptr 0 0 0)]) (by kernel_rfl) ?_
 refine .sge 15 [0, 2, 3, 8] (G69 15 []) ?_
 refine .ca [0, 1, 2] (G69 16 []) F72 (@spec_72 (map strD ks) (map intD V2)) ?_
 rintro r0 s0 ⟨rfl, rfl⟩
 refine ⟨_, rfl, ?_⟩
 refine .seg 2 [2, 3, 9] (T' := cgo 18 [] [.code B69]) (tm' := mk 17 [(2, .d (.raw (Value.pointer none))), (3, .ptr 4 0 0), (9, .fn (Fn.func 109) [] [.ptr 5 0 0, .ptr 6 0 0])]) (σ' := [.cells [.row 1, .row 2], .row 1 (map strD ks) false, .row 1 (map intD V2) false, .cells [.ex 1 [], .ex 1 []], .cells [.ptr 3 0 0], .cells [.ptr 0 0 0], .cells [.fn (Fn.func 98) [] []]]) (by kernel_rfl) ?_
 refine .virtX 3 0 1 rfl rfl ?_
 refine .virtX 3 1 1 rfl rfl ?_
 refine .raises [7, 8] ?_
 refine .rangeH (first := []) (cap := [.ptr 5 0 0, .ptr 6 0 0]) (List.range 11) [.yield 10, .ptr 5 0 0, .ptr 6 0 0] (S69 ks V2 0 .ready) F109 (by kernel_rfl) (T' := cgo 19 [] [Item.code B69]) (by kernel_rfl) (by kernel_rfl) (it69 ks V2 hr hl hv) (by kernel_rfl) (by kernel_rfl) (by refine ⟨rfl, by kernel_rfl, ?_⟩; kernel_rfl) ?_
 rintro r σc' ⟨rfl, rfl⟩
 refine ⟨.tuple [], .ready, (mk 17 [(2, V.d (D.raw (Value.pointer none))), (3, V.ptr 4 0 0), (9, V.fn (Fn.func 109) [] [V.ptr 5 0 0, V.ptr 6 0 0])]), rfPs (G69 18 []), rfAs (G69 18 []), rfBd (G69 18 []), 69, rfl, by simp, by kernel_rfl, ?_⟩
 have e1 : ks.take ks.length = ks := List.take_length
 have e2 : V2.take ks.length = V2 := by rw [← hv]; exact List.take_length
 refine .seg 6 [2] (T' := cgo 25 [] [.code B69]) (tm' := mk 17 [(2, .ptr 3 0 0)]) (σ' := [.cells [.row 1, .row 2], .row 1 (map strD ks) false, .row 1 (map intD V2) false, .cells [.row 7, .row 8], .cells [.ptr 3 0 0], .cells [.ptr 0 0 0], .cells [.fn (Fn.func 98) [] []], .row 1 (map strD (List.take ks.length ks)) true, .row 1 (map intD (List.take ks.length V2)) true, .defd, lp (G69 18 []) 69 (mk 17 [(2, .d (.raw (Value.pointer none))), (3, .ptr 4 0 0), (9, .fn (Fn.func 109) [] [.ptr 5 0 0, .ptr 6 0 0])]) LoopState.exhausted]) (by kernel_rfl) ?_
 refine .retX (v := V.ptr 3 0 0) [0, 1, 2, 3, 7, 8] (V.ptr 3 0 0) F69 (by kernel_rfl) ⟨by kernel_rfl, by kernel_rfl⟩ (σ1 := [O.cells [V.row 1, V.row 2], O.row 1 (map strD ks) false, O.row 1 (map intD V2) false, O.cells [V.row 7, V.row 8], O.cells [V.ptr 3 0 0], O.cells [V.ptr 0 0 0], O.cells [V.fn (Fn.func 98) [] []], O.row 1 (map strD (List.take ks.length ks)) true, O.row 1 (map intD (List.take ks.length V2)) true, O.dead, lp (G69 18 []) 69 (mk 17 [(2, V.d (D.raw (Value.pointer none))), (3, V.ptr 4 0 0), (9, V.fn (Fn.func 109) [] [V.ptr 5 0 0, V.ptr 6 0 0])]) LoopState.exhausted]) (by kernel_rfl) (by kernel_rfl) (σ2 := [O.cells [V.row 1, V.row 2], O.row 1 (map strD ks) false, O.row 1 (map intD V2) false, O.cells [V.row 4, V.row 5], O.row 1 (map strD (List.take ks.length ks)) true, O.row 1 (map intD (List.take ks.length V2)) true]) ⟨rfl, rfl, by kernel_rfl⟩ (by kernel_rfl) ⟨by simp, by kernel_rfl⟩ (by kernel_rfl) ?_
 simp_all
noncomputable def B64 : Code := (Try.f64.body).getD .skip
noncomputable def G64 (n l) := cgo n l [.code B64]
theorem F64 : Fnc Try.prog 64 Try.f64 B64 := ⟨Try.func64, by kernel_rfl, by kernel_rfl⟩
theorem lo64 (b : Dk) (N : Nat) (h : b.Ok N) (there : Bool) (names : List ByteArray) (hn : names ≠ []) (hs : ∀ s ∈ names, s.size < 1000000000) (hn2 : names.length < 1000000) (ho : b.off = false) : ∀ (m i : Nat), i + m = names.length → (∀ s ∈ names.take i, mayName s = true) →
    AW Try.prog 64 none 7 (G64 22 [false]) (mk 35 [(0, V.ptr 0 0 0), (1, V.d (D.bool there)), (2, V.row 6), (14, V.row 6), (15, V.d (D.int IntKind.i64 (names.length : Nat))), (16, V.d (D.int IntKind.i64 (i : Nat)))]) (SD b false ++ [.row 1 (names.map strD) false]) [] fun r σ' => r = .ret (.d (.int .i64 (b.err there names))) ∧ σ' = SD b false ++ [.row 1 (names.map strD) false] := by
  have q1 := h.nr
  have q2 := h.nl
  have q3 := h.nkl
  have q4 := h.nb
  have q5 : ∀ x k, look b.nk b.nv x = some k → 0 ≤ k ∧ k < b.files.length := fun x k hk => h.nn k (look_mem hk)
  intro m
  induction m with
  | zero =>
    intro i hi hm
    have hi : i = names.length := by omega
    subst hi
    rw [List.take_length] at hm
    have hal : names.all mayName = true := List.all_eq_true.2 hm
    have h0 : 0 < names.length := List.length_pos_iff.2 hn
    obtain ⟨x, hx⟩ := get_some (l := names) (i := 0) h0
    have hd : names.headD default = x := by
      cases names with
      | nil => simp at h0
      | cons a l => simpa using hx
    have q6 := q5 x
    cases hk : look b.nk b.nv x with
    | none =>
      refine .sg0 5 [0, 1, 2, 14, 15, 16, 17] (G64 27 [false]) [(17, .d (.bool (decide ((↑names.length : Int) < (↑names.length : Int)))))] ?_
      refine .if' (decide ((↑names.length : Int) < (↑names.length : Int))) (G64 28 [false, true]) (G64 28 [false, false]) (fun h1 => ?_) (fun h1 => ?_)
      · simp only [bsX] at h1
        omega
      · simp only [bsX] at h1
        refine .sg0 6 [0, 2, 24] (G64 34 [false, false]) [(24, .d (.bool there))] ?_
        refine .if' (there) (G64 35 [false, false, true]) (G64 35 [false, false, false]) (fun h2 => ?_) (fun h2 => ?_)
        · refine .sg0 4 [0, 2, 26, 27] (G64 39 [false, false, true]) [(26, .ptr 0 0 0), (27, .row 6)] ?_
          refine .op' (G64 40 [false, false, true]) (ixRow_ok (t := 66) (x := (.tmp 27)) (i := (.const (Value.int IntKind.i64 0))) (k := IntKind.i64) (n := 0) (l := 6) (sz := 1) (xs := map strD names) (mv := false) (by kernel_rfl) (by kernel_rfl) (by kernel_rfl) (by kernel_rfl) (by kernel_rfl) (by omega) (by simp <;> omega)) ?_
          refine .ld (G64 41 [false, false, true]) (xs := map strD names) (map_get hx) ?_
          refine .ca [0, 1, 2, 3, 4, 5] (G64 42 [false, false, true]) F65 (@spec_65 (b) (x) (none) (by assumption) (by assumption) (by assumption) (by omega) (by assumption)) ?_
          rintro r2 s2 ⟨rfl, rfl⟩
          refine ⟨_, rfl, ?_⟩
          refine .seg 16 [6] (T' := cgo 58 [false, false, true, true] [.code B64]) (tm' := mk 35 [(6, .d (.int .i64 3))]) (σ' := (SP 1 2 b false [.row 1 (map strD names) false])) (by kernel_rfl) ?_
          refine .rt F64 (V.d (D.int IntKind.i64 3)) ?_
          simp_all [hC, Dk.err, SD, dirD]
        · refine .seg 5 [6] (T' := cgo 40 [false, false, false] [.code B64]) (tm' := mk 35 [(6, .d (.int .i64 0))]) (σ' := (SP 1 2 b false [.row 1 (map strD names) false])) (by kernel_rfl) ?_
          refine .rt F64 (V.d (D.int IntKind.i64 0)) ?_
          simp_all [hC, Dk.err, SD, dirD]
    | some k =>
      refine .sg0 5 [0, 1, 2, 14, 15, 16, 17] (G64 27 [false]) [(17, .d (.bool (decide ((↑names.length : Int) < (↑names.length : Int)))))] ?_
      refine .if' (decide ((↑names.length : Int) < (↑names.length : Int))) (G64 28 [false, true]) (G64 28 [false, false]) (fun h1 => ?_) (fun h1 => ?_)
      · simp only [bsX] at h1
        omega
      · simp only [bsX] at h1
        refine .sg0 6 [0, 2, 24] (G64 34 [false, false]) [(24, .d (.bool there))] ?_
        refine .if' (there) (G64 35 [false, false, true]) (G64 35 [false, false, false]) (fun h2 => ?_) (fun h2 => ?_)
        · refine .sg0 4 [0, 2, 26, 27] (G64 39 [false, false, true]) [(26, .ptr 0 0 0), (27, .row 6)] ?_
          refine .op' (G64 40 [false, false, true]) (ixRow_ok (t := 66) (x := (.tmp 27)) (i := (.const (Value.int IntKind.i64 0))) (k := IntKind.i64) (n := 0) (l := 6) (sz := 1) (xs := map strD names) (mv := false) (by kernel_rfl) (by kernel_rfl) (by kernel_rfl) (by kernel_rfl) (by kernel_rfl) (by omega) (by simp <;> omega)) ?_
          refine .ld (G64 41 [false, false, true]) (xs := map strD names) (map_get hx) ?_
          refine .ca [0, 1, 2, 3, 4, 5] (G64 42 [false, false, true]) F65 (@spec_65 (b) (x) (some k) (by assumption) (by assumption) (by assumption) (by omega) (by assumption)) ?_
          rintro r2 s2 ⟨rfl, rfl⟩
          refine ⟨_, rfl, ?_⟩
          refine .seg 17 [6] (T' := cgo 59 [false, false, true, false] [.code B64]) (tm' := mk 35 [(6, .d (.int .i64 0))]) (σ' := (SP 1 2 b false [.row 1 (map strD names) false])) (by kernel_rfl) ?_
          refine .rt F64 (V.d (D.int IntKind.i64 0)) ?_
          simp_all [hC, Dk.err, SD, dirD]
        · refine .seg 5 [6] (T' := cgo 40 [false, false, false] [.code B64]) (tm' := mk 35 [(6, .d (.int .i64 0))]) (σ' := (SP 1 2 b false [.row 1 (map strD names) false])) (by kernel_rfl) ?_
          refine .rt F64 (V.d (D.int IntKind.i64 0)) ?_
          simp_all [hC, Dk.err, SD, dirD]
  | succ m ih =>
    intro i hi hm
    obtain ⟨x, hx⟩ := get_some (l := names) (i := i) (by omega)
    have hxs : x.size < 9223372036854775807 := by have := hs x (List.mem_of_getElem? hx); omega
    have hno : mayName x = false → b.err there names = 1 := fun e => by
      have : names.all mayName = false := by
        rw [List.all_eq_false]
        exact ⟨x, List.mem_of_getElem? hx, by simp [e]⟩
      unfold Dk.err
      rw [if_neg (by simp [ho]), if_neg (by rw [this]; simp)]
    have hyes : mayName x = true → ∀ s ∈ names.take (i + 1), mayName s = true := fun e s hsm => by
      obtain ⟨hi', rfl⟩ := List.getElem?_eq_some_iff.1 hx
      rw [List.take_succ_eq_append_getElem hi'] at hsm
      rcases List.mem_append.1 hsm with h1 | h1
      · exact hm s h1
      · rw [List.mem_singleton.1 h1]; exact e
    refine .sg0 5 [0, 1, 2, 14, 15, 16, 17] (G64 27 [false]) [(17, .d (.bool (decide ((↑i : Int) < (↑names.length : Int)))))] ?_
    refine .if' (decide ((↑i : Int) < (↑names.length : Int))) (G64 28 [false, true]) (G64 28 [false, false]) (fun h1 => ?_) (fun h1 => ?_)
    · simp only [bsX] at h1
      refine .sg0 5 [0, 1, 2, 14, 15, 16, 17] (G64 33 [false, true]) [] ?_
      refine .op' (G64 34 [false, true]) (ixRow_ok (t := 66) (x := (.tmp 14)) (i := (.tmp 16)) (k := IntKind.i64) (n := (↑i : Int)) (l := 6) (sz := 1) (xs := map strD names) (mv := false) (by kernel_rfl) (by kernel_rfl) (by kernel_rfl) (by kernel_rfl) (by kernel_rfl) (by omega) (by simp <;> omega)) ?_
      refine .ld (G64 35 [false, true]) (xs := map strD names) (map_get hx) ?_
      refine .sg0 5 [0, 1, 2, 8, 14, 15, 16, 17, 18, 19, 20] (G64 40 [false, true]) [(8, .d (.str x)), (20, .d (.str x))] ?_
      refine .cd (G64 41 [false, true]) F28 (@spec_28 (x) (by assumption)) ?_
      refine .sg0 2 [0, 1, 2, 8, 14, 15, 16, 17, 18, 19, 20, 21, 22] (G64 43 [false, true]) [(22, .d (.bool !mayName x))] ?_
      refine .if' (!mayName x) (G64 44 [false, true, true]) (G64 44 [false, true, false]) (fun h2 => ?_) (fun h2 => ?_)
      · simp only [bsX] at h2
        refine .seg 4 [0, 1, 2, 6, 8, 14, 15, 16, 17, 18, 19, 20, 21, 22] (T' := cgo 48 [false, true, true] [.code B64]) (tm' := mk 35 [(0, .ptr 0 0 0), (1, .d (.bool there)), (2, .row 6), (6, .d (.int .i64 1)), (8, .d (.str x)), (14, .row 6), (15, .d (.int .i64 (↑names.length : Int))), (16, .d (.int .i64 (↑i : Int))), (17, .d (.bool (decide ((↑i : Int) < (↑names.length : Int))))), (18, .ptr 6 (↑i : Int).toNat 0), (19, .d (.str x)), (20, .d (.str x)), (21, .d (.bool (mayName x))), (22, .d (.bool !mayName x))]) (σ' := (SP 1 2 b false [.row 1 (map strD names) false])) (by kernel_rfl) ?_
        refine .rt F64 (V.d (D.int IntKind.i64 1)) ?_
        simp_all [hC, SD, dirD]
      · simp only [bsX] at h2
        refine .seg 6 [0, 1, 2, 8, 14, 15, 16, 17, 18, 19, 20, 21, 22, 23] (T' := cgo 50 [false, true, false] [.code B64]) (tm' := mk 35 [(0, .ptr 0 0 0), (1, .d (.bool there)), (2, .row 6), (8, .d (.str x)), (14, .row 6), (15, .d (.int .i64 (↑names.length : Int))), (16, .d (.int .i64 (IntKind.i64.wrap ((↑i : Int) + 1)))), (17, .d (.bool (decide ((↑i : Int) < (↑names.length : Int))))), (18, .ptr 6 (↑i : Int).toNat 0), (19, .d (.str x)), (20, .d (.str x)), (21, .d (.bool (mayName x))), (22, .d (.bool !mayName x)), (23, .d (.int .i64 (IntKind.i64.wrap ((↑i : Int) + 1))))]) (σ' := (SP 1 2 b false [.row 1 (map strD names) false])) (by kernel_rfl) ?_
        simp (disch := omega) only [bsW]
        exact .seg 1 [0, 1, 2, 14, 15, 16] (by kernel_rfl) (ih (i + 1) (by omega) (hyes (by assumption)))
    · simp only [bsX] at h1
      omega
theorem check64 (d : Dk) (N : Nat) (h : d.Ok N) (there : Bool) (names : List ByteArray) (hn : names ≠ []) (hs : ∀ s ∈ names, s.size < 1000000000) (hn2 : names.length < 1000000) (hN : N + 1 ≤ 50000) :
   CallsA Try.prog 64 [.ptr 0 0 0, .d (.bool there), .row 6] (SD d false ++ [.row 1 (names.map strD) false]) fun r σ' => r = .ret (.d (.int .i64 (d.begun.err there names))) ∧ σ' = SD d.begun false ++ [.row 1 (names.map strD) false] := by
 have hc := h.c0
 have hc' := h.cl
 have hs1 := h.s0
 have hs2 := h.s1
 refine CallsA.start F64 (tm := mk (Try.f64.ntmps) [(0, .ptr 0 0 0), (1, .d (.bool there)), (2, .row 6)]) (by kernel_rfl) ?_
 have hk := Dk.begun_ok h hN
 refine .sg0 8 [0, 1, 2, 6, 11] (G64 8 []) [(6, .d (.int .i64 0)), (11, .ptr 0 0 0)] ?_
 refine .ca [0, 1, 2, 3, 4, 5] (G64 9 []) F94 (@spec_94 (d) (by assumption) (by omega) (by assumption) (by assumption)) ?_
 rintro r0 s0 ⟨rfl, rfl⟩
 refine ⟨_, rfl, ?_⟩
 refine .sg0 2 [0, 1, 2, 6, 13] (G64 11 []) [(13, .d (.bool !!d.begun.off))] ?_
 refine .if' (!!d.begun.off) (G64 12 [true]) (G64 12 [false]) (fun h2 => ?_) (fun h2 => ?_)
 · simp only [bsX] at h2
   refine .seg 4 [0, 1, 2, 6] (T' := cgo 16 [true] [.code B64]) (tm' := mk 35 [(0, .ptr 0 0 0), (1, .d (.bool there)), (2, .row 6), (6, .d (.int .i64 5))]) (σ' := (SP 1 2 d.begun false [.row 1 (map strD names) false])) (by kernel_rfl) ?_
   refine .rt F64 (V.d (D.int IntKind.i64 5)) ?_
   simp_all [hC, Dk.err, SD, dirD]
 · simp only [bsX] at h2
   refine .seg 9 [0, 1, 2, 6, 14, 15, 16] (T' := cgo 21 [false] [.code B64]) (tm' := mk 35 [(0, .ptr 0 0 0), (1, .d (.bool there)), (2, .row 6), (6, .d (.int .i64 0)), (14, .row 6), (15, .d (.int .i64 (↑(map strD names).length : Int))), (16, .d (.int .i64 0))]) (σ' := (SP 1 2 d.begun false [.row 1 (map strD names) false])) (by kernel_rfl) ?_
   simp only [List.length_map]
   exact .seg 1 [0, 1, 2, 14, 15, 16] (by kernel_rfl) (lo64 d.begun (N + 1) hk there names hn hs hn2 (by simp_all) names.length 0 (by omega) (by simp))
theorem spec_64b (d : Dk) (N : Nat) (h : d.Ok N) (there : Bool) (names : List ByteArray) (ds : List D) (hds : ds = names.map strD) (hn : names ≠ []) (hs : ∀ s ∈ names, s.size < 1000000000) (hn2 : names.length < 1000000) (hN : N + 1 ≤ 50000) :
  CallsA Try.prog 64 [.ptr 0 0 0, .d (.bool there), .row 6] (SD d false ++ [.row 1 ds false]) fun r σ' => r = .ret (.d (.int .i64 (d.begun.err there names))) ∧ σ' = SD d.begun false ++ [.row 1 ds false] := by
 subst hds
 exact check64 d N h there names hn hs hn2 hN
theorem lo64n (b : Dk) (ho : b.off = false) :
  AW Try.prog 64 none 6 (G64 22 [false]) (mk 35 [(0, V.ptr 0 0 0), (1, V.d (D.bool false)), (2, V.d (D.list 1 [])), (14, V.d (D.list 1 [])), (15, V.d (D.int IntKind.i64 0)), (16, V.d (D.int IntKind.i64 0))]) (SD b false) [] fun r σ' => r = .ret (.d (.int .i64 (b.err false []))) ∧ σ' = SD b false := by
 have e2 : b.err false [] = 0 := by simp [Dk.err, ho]
 refine .seg 18 [6] (T' := cgo 40 [false, false, false] [.code B64]) (tm' := mk 35 [(6, .d (.int .i64 0))]) (σ' := (SP 1 2 b false [])) (by kernel_rfl) ?_
 refine .rt F64 (V.d (D.int IntKind.i64 0)) ?_
 simp_all [hC, SD, dirD]
theorem spec_64 (d : Dk) (N : Nat) (h : d.Ok N) (hN : N + 1 ≤ 50000) :
   CallsA Try.prog 64 [.ptr 0 0 0, .d (.bool false), .d (.list 1 [])] (SD d false) fun r σ' => r = .ret (.d (.int .i64 (d.begun.err false []))) ∧ σ' = SD d.begun false := by
 have hc := h.c0
 have hc' := h.cl
 have hs1 := h.s0
 have hs2 := h.s1
 refine CallsA.start F64 (tm := mk (Try.f64.ntmps) [(0, .ptr 0 0 0), (1, .d (.bool false)), (2, .d (.list 1 []))]) (by kernel_rfl) ?_
 have e1 : d.begun.off = true → d.begun.err false [] = 5 := fun e => by simp [Dk.err, e]
 refine .sg0 8 [0, 1, 2, 6, 11] (G64 8 []) [(6, .d (.int .i64 0)), (11, .ptr 0 0 0)] ?_
 refine .ca [0, 1, 2, 3, 4, 5] (G64 9 []) F94 (@spec_94 (d) (by assumption) (by omega) (by assumption) (by assumption)) ?_
 rintro r0 s0 ⟨rfl, rfl⟩
 refine ⟨_, rfl, ?_⟩
 refine .sg0 2 [0, 1, 2, 6, 13] (G64 11 []) [(13, .d (.bool !!d.begun.off))] ?_
 refine .if' (!!d.begun.off) (G64 12 [true]) (G64 12 [false]) (fun h2 => ?_) (fun h2 => ?_)
 · simp only [bsX] at h2
   refine .seg 4 [0, 1, 2, 6] (T' := cgo 16 [true] [.code B64]) (tm' := mk 35 [(0, .ptr 0 0 0), (1, .d (.bool false)), (2, .d (.list 1 [])), (6, .d (.int .i64 5))]) (σ' := (SP 1 2 d.begun false [])) (by kernel_rfl) ?_
   refine .rt F64 (V.d (D.int IntKind.i64 5)) ?_
   simp_all [hC, SD, dirD]
 · simp only [bsX] at h2
   refine .seg 9 [0, 1, 2, 6, 14, 15, 16] (T' := cgo 21 [false] [.code B64]) (tm' := mk 35 [(0, .ptr 0 0 0), (1, .d (.bool false)), (2, .d (.list 1 [])), (6, .d (.int .i64 0)), (14, .d (.list 1 [])), (15, .d (.int .i64 0)), (16, .d (.int .i64 0))]) (σ' := (SP 1 2 d.begun false [])) (by kernel_rfl) ?_
   exact .seg 1 [0, 1, 2, 14, 15, 16] (by kernel_rfl) (lo64n d.begun (by simp_all))
end Go.Proofs.Ytoelkgbeefoplaa
