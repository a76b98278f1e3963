/- Texts of this proof, part 18: StopD. -/
import Derived.Test.YtoelkgbeefoplaaM17
set_option linter.unusedSimpArgs false
set_option linter.unusedVariables false
set_option linter.constructorNameAsVariable false
namespace Go.Proofs.Ytoelkgbeefoplaa
open Go Go.Br Go.Proofs
open List (map)
theorem cutD_le (l : List DOp) : (cutD l).length ≤ 60 := by
  unfold cutD; split
  · rw [List.length_take]; omega
  · simp
theorem DOp.ok_small {o : DOp} (h : o.ok = true) : o.small := by
  simp only [DOp.ok, Bool.and_eq_true, decide_eq_true_eq] at h
  exact ⟨h.1.1.1, h.1.1.2, h.1.2, h.2⟩
theorem cutD_fits {l : List DOp} (hf : ∀ o ∈ l, o.fits) : ∀ o ∈ cutD l, o.small ∧ o.fits := by
  intro o ho
  unfold cutD at ho
  split at ho
  · rename_i h
    exact ⟨DOp.ok_small (List.all_eq_true.1 h o ho), hf o (List.mem_of_mem_take ho)⟩
  · cases ho
theorem st9 (k : Nat) (hk : k ≤ 70) (cs : List DOp) (hcs : cs.length ≤ 60) (hsm : ∀ o ∈ cs, o.small ∧ o.fits ∧ o.kind % 10 < 6) (d : Dk) (hd : d = Dk.new 1000) :
    AW Try.prog 9 none 0 (cgo 44 [false] [Item.code B9]) (mk 138 [(1, .d (.int .i64 (k : Nat))), (4, .d (.bool false)), (5, .d (.list 7 (cs.map dopD))), (8, .ptr 0 0 0), (9, .ptr 6 0 0)]) (SY d d true) [] fun r _ => r = .ret (.d (.bool true)) := by
  have hk0 : d.Ok 0 := hd ▸ Dk.new_ok (by omega)
  have hn : d.Nm := by rw [hd]; exact ⟨by simp [Dk.new], by simp [Dk.new]⟩
  have ho : d.off = false := by rw [hd]; rfl
  have hc : d.calls = 0 := by rw [hd]; rfl
  clear hd
  have hk1 := Dk.stop_ok hk0 (k : Int) (by omega)
  have hs : Stops k 0 { d with stop := if -1 > (k : Int) then -1 else (k : Int) } { d with stop := if -1 > (k : Int) then -1 else (k : Int) } := by
    refine ⟨fun _ => ⟨rfl, ho, ?_, hc⟩, fun h => by omega, rfl, rfl, rfl⟩
    show (if -1 > (k : Int) then -1 else (k : Int)) = _
    rw [if_neg (by omega)]; simp
  have hend := lo9b k hk cs hcs hsm cs.length 0 _ _ 0 0 (by omega) hk1 hk1 ⟨hn.nk, hn.sk⟩ (by omega) (by omega) hs
  clear hs hsm hk0 hk1 hn ho hc
  refine .sg0 4 [1, 4, 5, 8, 9, 39, 40] (cgo 48 [false] [.code B9]) [(39, .ptr 0 0 0), (40, .d (.int .i64 (↑k : Int)))] ?_
  refine .ca [0, 1, 2, 3, 4, 5] (cgo 49 [false] [.code B9]) F40 (@spec_40 (d) ((↑k : Int))) ?_
  rintro r0 s0 ⟨rfl, rfl⟩
  refine ⟨_, rfl, ?_⟩
  refine .seg 9 [1, 4, 5, 8, 9, 42, 43, 44] (T' := cgo 58 [false] [.code B9]) (tm' := mk 138 [(1, .d (.int .i64 (↑k : Int))), (4, .d (.bool false)), (5, .d (.list 7 (map dopD cs))), (8, .ptr 0 0 0), (9, .ptr 6 0 0), (42, .d (.list 7 (map dopD cs))), (43, .d (.int .i64 (↑(map dopD cs).length : Int))), (44, .d (.int .i64 0))]) (σ' := [.cells [.row 1, .ptr 2 0 0, .ep 2 (D.agg [D.list 1 (map strD (Dk.mk d.files d.nk d.nv d.sk d.sv d.ch d.quota d.full d.off (if -1 > (↑k : Int) then -1 else (↑k : Int)) d.calls).sk), D.list 1 (map intD (Dk.mk d.files d.nk d.nv d.sk d.sv d.ch d.quota d.full d.off (if -1 > (↑k : Int) then -1 else (↑k : Int)) d.calls).sv)]) 0, .row 5, .d (.int .i64 (Dk.mk d.files d.nk d.nv d.sk d.sv d.ch d.quota d.full d.off (if -1 > (↑k : Int) then -1 else (↑k : Int)) d.calls).quota), .d (.bool (Dk.mk d.files d.nk d.nv d.sk d.sv d.ch d.quota d.full d.off (if -1 > (↑k : Int) then -1 else (↑k : Int)) d.calls).full), .d (.bool (Dk.mk d.files d.nk d.nv d.sk d.sv d.ch d.quota d.full d.off (if -1 > (↑k : Int) then -1 else (↑k : Int)) d.calls).off), .d (.int .i64 (Dk.mk d.files d.nk d.nv d.sk d.sv d.ch d.quota d.full d.off (if -1 > (↑k : Int) then -1 else (↑k : Int)) d.calls).stop), .d (.int .i64 (Dk.mk d.files d.nk d.nv d.sk d.sv d.ch d.quota d.full d.off (if -1 > (↑k : Int) then -1 else (↑k : Int)) d.calls).calls)], .row 2 (map fileD (Dk.mk d.files d.nk d.nv d.sk d.sv d.ch d.quota d.full d.off (if -1 > (↑k : Int) then -1 else (↑k : Int)) d.calls).files) true, .cells [.row 3, .row 4], .row 1 (map strD (Dk.mk d.files d.nk d.nv d.sk d.sv d.ch d.quota d.full d.off (if -1 > (↑k : Int) then -1 else (↑k : Int)) d.calls).nk) true, .row 1 (map intD (Dk.mk d.files d.nk d.nv d.sk d.sv d.ch d.quota d.full d.off (if -1 > (↑k : Int) then -1 else (↑k : Int)) d.calls).nv) true, .row 3 (map chD (Dk.mk d.files d.nk d.nv d.sk d.sv d.ch d.quota d.full d.off (if -1 > (↑k : Int) then -1 else (↑k : Int)) d.calls).ch) true, .cells [.row 7, .d (.list 2 (map nmD (d.nk.zip d.nv))), .d (.list 2 (map nmD (d.sk.zip d.sv))), .row 8, .d (.int .i64 d.quota), .d (.bool d.full), .d (.bool d.off), .d (.int .i64 (-1)), .d (.int .i64 d.calls)], .row 2 (map fileD d.files) true, .row 3 (map chD d.ch) true]) (by kernel_rfl) ?_
  simp only [List.length_map]
  exact .seg 1 [1, 4, 5, 8, 9, 42, 43, 44] (by kernel_rfl) hend
theorem sp9 (k : Nat) (hk : k ≤ 70) (cs : List DOp) (hcs : cs.length ≤ 60) (hsm : ∀ o ∈ cs, o.small ∧ o.fits ∧ o.kind % 10 < 6) :
    AW Try.prog 9 none 0 (cgo 37 [false] [Item.code B9]) (mk 138 [(1, .d (.int .i64 (k : Nat))), (4, .d (.bool false)), (5, .d (.list 7 (cs.map dopD)))]) [] [] fun r _ => r = .ret (.d (.bool true)) := by
  refine .sg0 2 [1, 4, 5] (cgo 39 [false] [.code B9]) [] ?_
  refine .ca [] (cgo 40 [false] [.code B9]) F25 (@spec_25 1000) ?_
  rintro r0 s0 ⟨rfl, rfl⟩
  refine ⟨_, rfl, ?_⟩
  refine .ca [] (cgo 41 [false] [.code B9]) F39 (@spec_39 1000) ?_
  rintro r1 s1 ⟨rfl, rfl⟩
  refine ⟨_, rfl, ?_⟩
  exact .seg 3 [1, 4, 5, 8, 9] (by kernel_rfl) (st9 k hk cs hcs hsm _ rfl)
theorem spec_9 (l : List DOp) (n : Int) (hl : l.length ≤ maxLen) (hf : ∀ o ∈ l, o.fits) (h0 : -9223372036854775808 ≤ n) (h1 : n < 9223372036854775808) : Br.Pure Try.prog 9 [.d (.list 7 (l.map dopD)), .d (.int .i64 n)] (.d (.bool true)) := by
  refine CallsA.pure ?_ rfl
  refine CallsA.start F9 (tm := mk (Try.f9.ntmps) [(0, .d (.list 7 (l.map dopD))), (1, .d (.int .i64 n))]) (by kernel_rfl) ?_
  have hl2 : l.length ≤ 9223372036854775807 := by simp only [maxLen] at hl; omega
  refine .sg0 7 [0, 1, 4, 17] (cgo 7 [] [.code B9]) [(4, .d (.bool false)), (17, .d (.list 7 (map dopD l)))] ?_
  refine .cd (cgo 8 [] [.code B9]) F38 (@spec_38 (l) (by assumption)) ?_
  refine .seg 21 [1, 4, 5, 22, 23, 24] (T' := cgo 29 [] [.code B9]) (tm' := mk 138 [(1, .d (.int .i64 (if (if 70 < n then 70 else n) > 0 then if 70 < n then 70 else n else 0))), (4, .d (.bool false)), (5, .nils), (22, .d (.list 7 (map dopD (cutD l)))), (23, .d (.int .i64 (↑(map dopD (cutD l)).length : Int))), (24, .d (.int .i64 0))]) (σ' := []) (by kernel_rfl) ?_
  simp only [List.length_map]
  obtain ⟨k, hke⟩ : ∃ k : Nat, (if (if 70 < n then 70 else n) > 0 then if 70 < n then 70 else n else 0) = (k : Int) := ⟨(if (if 70 < n then 70 else n) > 0 then if 70 < n then 70 else n else 0).toNat, by split <;> split <;> omega⟩
  have hk : k ≤ 70 := by split at hke <;> split at hke <;> omega
  rw [hke]
  refine .virtT 5 7 (by kernel_rfl) ?_
  refine .raise 0 rfl rfl ?_
  have hcf := cutD_fits hf
  refine .seg 1 [1, 4, 5, 22, 23, 24] (by kernel_rfl) (lo9a k (cutD l) (cutD_le l) (fun o ho => (hcf o ho).2) (sp9 k hk (sixD (cutD l)) (Nat.le_trans (sixD_le _) (cutD_le l)) (fun o ho => ?_)) (cutD l).length 0 (by omega))
  obtain ⟨h2, h3⟩ := List.mem_filter.1 ho
  exact ⟨(hcf o h2).1, (hcf o h2).2, by simpa using h3⟩
end Go.Proofs.Ytoelkgbeefoplaa
