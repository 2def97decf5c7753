/- The library's stable sort of at most forty ascending numbers, by a comparison. Condition: the comparison is an order up to ties. -/
import Derived.Test.YthhlfkeikcmnlaaZStbI
namespace Go.Proofs.Ythhlfkeikcmnlaa
open Go Go.RowKit

set_option maxRecDepth 100000 in
set_option maxHeartbeats 4000000 in
theorem stable_73 (cap0 cap1 : Value) (cf : Int → Int → Int) (C : Cmp cf) (base g n cap : Nat) (M : List Int) (w : World) (hrow : Row base 3 1 w (.slice (some ⟨g, 0, none⟩) n cap) (M.map ints)) (hn : n = M.length) (h40 : n ≤ 40) (hc : cap ≤ 9223372036854775807) (hasc : M.Pairwise (· < ·))
    (hf : ∀ W (x y : Int), x ∈ M → y ∈ M → w.grownBy W (some g) → Calls Try.prog 73 #[.int .i64 x, .int .i64 y, cap0, cap1] W fun e w' => e = .returned (.int .i64 (cf x y)) ∧ Below W.heap.size W w') :
    Calls Try.prog 98 #[.slice (some ⟨g, 0, none⟩) n cap, .int .i64 n, .func (.func 73) #[] #[cap0, cap1]] w fun e w' => e = .returned (.tuple #[]) ∧ Row base 3 1 w' (.slice (some ⟨g, 0, none⟩) n cap) ((putAll (ltC cf) M).map ints) ∧ w.grownBy w' (some g) := by
  by_cases hlt : n < 20
  · have c1 := insertion_73 cap0 cap1 cf base g n cap 0 n [] M [] w (by simpa using hrow) (by simpa using hn) rfl (by simpa using hn) hc (by omega) hf
    simp only [List.nil_append, List.append_nil] at c1
    have hb : decide ((20 : Int) ≤ (n : Int)) = false := by simp; omega
    have hb2 : decide ((20 : Int) < (n : Int)) = false := by simp; omega
    clear hn hf
    go_enter Try.func98, Try.ntmps98
    go_wp2_with fail
    refine wp_loop_rounds 1 ?_
    rw [rounds_succ]
    go_wp2_with fail
    refine c1.mono ?_
    rintro e w1 ⟨rfl, row1, hg1⟩
    go_wp2_with fail
    refine wp_loop_rounds 1 ?_
    rw [rounds_succ]
    go_wp2
    go_end0
    exact ⟨rfl, row1, hg1⟩
  obtain ⟨M1, M2, hM, hM1, hM2⟩ : ∃ M1 M2, M = M1 ++ M2 ∧ M1.length = 20 ∧ M2.length + 20 = n := ⟨M.take 20, M.drop 20, (List.take_append_drop _ _).symm, by simp; omega, by simp; omega⟩
  have hap := hasc
  rw [hM, List.pairwise_append] at hap
  obtain ⟨ha1, ha2, ha12⟩ := hap
  have HF := Lib.hid hf
  have c1 := insertion_73 cap0 cap1 cf base g n cap 0 20 [] M1 M2 w (by rw [hM] at hrow; simpa using hrow) (by rw [hn, hM]; simp) rfl (by simp [hM1]) hc (by omega) (fun W x y hx hy => hf W x y (by rw [hM]; simp [hx]) (by rw [hM]; simp [hy]))
  simp only [List.nil_append] at c1
  have lA : (putAll (ltC cf) M1).length = 20 := by rw [putAll_len]; exact hM1
  have lB : (putAll (ltC cf) M2).length + 20 = n := by rw [putAll_len]; exact hM2
  have HC2 := Lib.hid (fun w1 (row1 : Row base 3 1 w1 (.slice (some ⟨g, 0, none⟩) n cap) ((putAll (ltC cf) M1 ++ M2).map ints)) (hg1 : w.grownBy w1 (some g)) =>
    insertion_73 cap0 cap1 cf base g n cap 20 n (putAll (ltC cf) M1) M2 [] w1 (by rw [List.append_nil]; exact row1) (by simp; omega) lA.symm (by omega) hc (by omega) (fun W x y hx hy hg => HF.out W x y (by rw [hM]; simp [hx]) (by rw [hM]; simp [hy]) (grown_trans hg1 hg)))
  have HC3 := Lib.hid (fun w1 (row1 : Row base 3 1 w1 (.slice (some ⟨g, 0, none⟩) n cap) ((putAll (ltC cf) M1 ++ putAll (ltC cf) M2).map ints)) =>
    insertion_73 cap0 cap1 cf base g n cap n n (putAll (ltC cf) M1 ++ putAll (ltC cf) M2) [] [] w1 (by rw [List.append_nil, List.append_nil]; exact row1) (by simp; omega) (by simp; omega) (by simp; omega) hc (by omega) (fun W x y hx => absurd hx (by simp)))
  have HC4 := Lib.hid (fun w1 (row1 : Row base 3 1 w1 (.slice (some ⟨g, 0, none⟩) n cap) ((putAll (ltC cf) M1 ++ putAll (ltC cf) M2).map ints)) (hg1 : w.grownBy w1 (some g)) (hn0 : 20 < n) =>
    symMerge_73 cap0 cap1 cf C base g n cap (by omega) hc 1000 0 20 n [] (putAll (ltC cf) M1) (putAll (ltC cf) M2) [] w1 (by omega) (by omega) (by omega) (by simpa using row1) rfl (by omega) (by omega) (putAll_srt C ha1) (putAll_srt C ha2)
      (fun x hx y hy => ha12 x ((putAll_perm _ _).mem_iff.1 hx) y ((putAll_perm _ _).mem_iff.1 hy)) (fun W x y hx hy hg => HF.out W y x (by rw [hM]; simp [(putAll_perm _ _).mem_iff.1 hy]) (by rw [hM]; simp [(putAll_perm _ _).mem_iff.1 hx]) (grown_trans hg1 hg)))
  have HFIN := Lib.hid (fun S (hp : S.Perm (putAll (ltC cf) M1 ++ putAll (ltC cf) M2)) (hs : Srt cf S) => srt_is C hasc hs (hp.trans (((putAll_perm _ M1).append (putAll_perm _ M2)).trans (by rw [hM]))))
  have HE20 := Lib.hid (show n = 20 → putAll (ltC cf) M1 ++ putAll (ltC cf) M2 = putAll (ltC cf) M from fun h => by
    obtain rfl := List.eq_nil_of_length_eq_zero (show M2.length = 0 by omega)
    rw [hM, List.append_nil]; simp [putAll])
  have hb : decide ((20 : Int) ≤ (n : Int)) = true := by simp; omega
  clear hrow hf hM1 hM2 hM hasc ha1 ha2 ha12 lA lB hn
  by_cases h40' : n = 40
  · subst h40'
    go_enter Try.func98, Try.ntmps98
    go_wp2_with fail
    refine wp_loop_rounds 3 ?_
    rw [rounds_succ]
    go_wp2_with fail
    refine c1.mono ?_
    rintro e w1 ⟨rfl, row1, hg1⟩
    go_wp2_with fail
    rw [rounds_succ]
    go_wp2_with fail
    refine (HC2.out w1 row1 hg1).mono ?_
    rintro e w2 ⟨rfl, row2, hg2⟩
    rw [List.append_nil] at row2
    go_wp2_with fail
    rw [rounds_succ]
    go_wp2_with fail
    refine (HC3.out w2 row2).mono ?_
    rintro e w3 ⟨rfl, row3, hg3⟩
    go_wp2_with fail
    refine wp_loop_rounds 2 ?_
    rw [rounds_succ]
    go_wp2_with fail
    refine wp_loop_rounds 2 ?_
    rw [rounds_succ]
    go_wp2_with fail
    refine (HC4.out w3 (by simpa [putAll] using row3) (grown_trans hg1 (grown_trans hg2 hg3)) (by omega)).mono ?_
    rintro e w4 ⟨rfl, ⟨S, row4, hp, hs⟩, hg4⟩
    go_wp2_with fail
    rw [rounds_succ]
    go_wp2_with fail
    rw [rounds_succ]
    go_wp2
    go_end0
    exact ⟨rfl, by rw [← HFIN.out S hp hs]; simpa using row4, grown_trans hg1 (grown_trans hg2 (grown_trans hg3 hg4))⟩
  · have hb2 : decide ((40 : Int) ≤ (n : Int)) = false := by simp; omega
    by_cases h20 : n = 20
    · subst h20
      go_enter Try.func98, Try.ntmps98
      go_wp2_with fail
      refine wp_loop_rounds 2 ?_
      rw [rounds_succ]
      go_wp2_with fail
      refine c1.mono ?_
      rintro e w1 ⟨rfl, row1, hg1⟩
      go_wp2_with fail
      rw [rounds_succ]
      go_wp2_with fail
      refine (HC2.out w1 row1 hg1).mono ?_
      rintro e w2 ⟨rfl, row2, hg2⟩
      rw [List.append_nil] at row2
      go_wp2_with fail
      refine wp_loop_rounds 1 ?_
      rw [rounds_succ]
      go_wp2
      go_end0
      exact ⟨rfl, by rw [← HE20.out (by trivial)]; exact row2, grown_trans hg1 hg2⟩
    · have hb3 : decide ((20 : Int) < (n : Int)) = true := by simp; omega
      have hb4 : decide ((40 : Int) < (n : Int)) = false := by simp; omega
      go_enter Try.func98, Try.ntmps98
      go_wp2_with fail
      refine wp_loop_rounds 2 ?_
      rw [rounds_succ]
      go_wp2_with fail
      refine c1.mono ?_
      rintro e w1 ⟨rfl, row1, hg1⟩
      go_wp2_with fail
      rw [rounds_succ]
      go_wp2_with fail
      refine (HC2.out w1 row1 hg1).mono ?_
      rintro e w2 ⟨rfl, row2, hg2⟩
      rw [List.append_nil] at row2
      go_wp2_with fail
      refine wp_loop_rounds 2 ?_
      rw [rounds_succ]
      go_wp2_with fail
      refine wp_loop_rounds 1 ?_
      rw [rounds_succ]
      go_wp2_with fail
      refine (HC4.out w2 row2 (grown_trans hg1 hg2) (by omega)).mono ?_
      rintro e w4 ⟨rfl, ⟨S, row4, hp, hs⟩, hg4⟩
      go_wp2_with fail
      rw [rounds_succ]
      go_wp2
      go_end0
      exact ⟨rfl, by rw [← HFIN.out S hp hs]; simpa using row4, grown_trans hg1 (grown_trans hg2 hg4)⟩

theorem sortStable_73 (cap0 cap1 : Value) (cf : Int → Int → Int) (C : Cmp cf) (base : Nat) (v : Value) (M : List Int) (w : World) (hrow : Row base 3 1 w v (M.map ints)) (h40 : M.length ≤ 40) (hasc : M.Pairwise (· < ·))
    (hf : ∀ W (x y : Int), x ∈ M → y ∈ M → w.grownBy W v.ownBlock → Calls Try.prog 73 #[.int .i64 x, .int .i64 y, cap0, cap1] W fun e w' => e = .returned (.int .i64 (cf x y)) ∧ Below W.heap.size W w') :
    Calls Try.prog 72 #[v, .func (.func 73) #[] #[cap0, cap1]] w fun e w' => e = .returned (.tuple #[]) ∧ Row base 3 1 w' v ((putAll (ltC cf) M).map ints) ∧ w.grownBy w' v.ownBlock := by
  by_cases h0 : 0 < M.length
  · obtain ⟨g, cap, rfl, hbg, hg, hcap⟩ := hrow.form (by simpa using h0)
    have hcm : cap ≤ 9223372036854775807 := by
      obtain ⟨_, _, h1, _, h3⟩ := hrow.parts
      simp only [Value.slice.injEq] at h1
      omega
    have c := stable_73 cap0 cap1 cf C base g _ cap M w hrow (by simp) (by simpa using h40) hcm hasc hf
    simp only [List.length_map] at c hcap ⊢
    clear hrow hf
    go_enter Try.func72, Try.ntmps72
    go_wp2_with fail
    refine c.mono ?_
    rintro e w1 ⟨rfl, row1, hg1⟩
    go_wp2
    go_end0
    exact ⟨rfl, row1, hg1⟩
  · obtain rfl := List.eq_nil_of_length_eq_zero (show M.length = 0 by omega)
    obtain ⟨A, c, rfl, _, _⟩ := hrow.parts
    have hb : decide ((20 : Int) ≤ (0 : Int)) = false := by decide
    clear hf
    go_enter Try.func72, Try.ntmps72
    go_wp2_with fail
    refine (show Calls Try.prog 98 #[.slice A 0 c, .int .i64 0, .func (.func 73) #[] #[cap0, cap1]] w fun e w' => e = .returned (.tuple #[]) ∧ w.grownBy w' none from ?_).mono ?_
    · go_enter Try.func98, Try.ntmps98
      go_wp2_with fail
      refine wp_loop_rounds 1 ?_
      rw [rounds_succ]
      go_wp2_with fail
      refine (show Calls Try.prog 107 #[.slice A 0 c, .int .i64 0, .int .i64 0, .func (.func 73) #[] #[cap0, cap1]] w fun e w' => e = .returned (.tuple #[]) ∧ w.grownBy w' none from ?_).mono ?_
      · go_enter Try.func107, Try.ntmps107
        go_wp2_with fail
        refine wp_loop_rounds 1 ?_
        rw [rounds_succ]
        go_wp2
        go_end0
        exact ⟨rfl, World.grownBy.refl _ _⟩
      · rintro e w1 ⟨rfl, hg1⟩
        go_wp2_with fail
        refine wp_loop_rounds 1 ?_
        rw [rounds_succ]
        go_wp2
        go_end0
        exact ⟨rfl, hg1⟩
    · rintro e w1 ⟨rfl, hg1⟩
      go_wp2
      go_end0
      exact ⟨rfl, by simpa [putAll] using hrow.kept hg1 (by cases A <;> simp [Value.ownBlock]), ⟨hg1.os, hg1.tape, hg1.output, hg1.size, fun k hk _ => hg1.block k hk (by simp)⟩⟩
end Go.Proofs.Ythhlfkeikcmnlaa
