/- The library's stable sort at slices of scores: the outer functions. No condition. -/
import Derived.Test.YthhlfkeikcmnlaaZScoreS
namespace Go.Proofs.Ythhlfkeikcmnlaa
open Go Go.RowKit

set_option maxHeartbeats 2000000 in
theorem stable_93 (cf : Score → Score → Int) (base g n cap : Nat) (M : List Score) (w : World) (hrow : Row base 33 3 w (.slice (some ⟨g, 0, none⟩) n cap) (M.map Score.lst)) (hn : n = M.length) (h20 : n ≤ 20) (hc : cap ≤ 9223372036854775807)
    (hf : ∀ W (x y : Score), x ∈ M → y ∈ M → w.grownBy W (some g) → Calls Try.prog 93 #[x.val, y.val] W fun e w' => e = .returned (.int .i64 (cf x y)) ∧ Below W.heap.size W w') :
    Calls Try.prog 106 #[.slice (some ⟨g, 0, none⟩) n cap, .int .i64 n, .func (.func 93) #[] #[]] w fun e w' => e = .returned (.tuple #[]) ∧ Row base 33 3 w' (.slice (some ⟨g, 0, none⟩) n cap) ((putAll (ltC cf) M).map Score.lst) ∧ w.grownBy w' (some g) := by
  have HN := Lib.hid hn
  have c1 := insertion_93  cf base g n cap 0 n [] M [] w (by simpa using hrow) (by simpa using hn) rfl (by simpa using hn) hc (by omega) hf
  simp only [List.nil_append, List.append_nil] at c1
  by_cases hlt : n < 20
  · have hb : decide ((20 : Int) ≤ (n : Int)) = false := by simp; omega
    have hb2 : decide ((20 : Int) < (n : Int)) = false := by simp; omega
    clear hn hf
    go_enter Try.func106, Try.ntmps106
    go_wp2_with fail
    refine wp_loop_rounds 1 ?_
    rw [rounds_succ]
    go_wp2_with fail
    refine c1.mono ?_
    rintro e w1 ⟨rfl, row1, hg1⟩
    go_wp2_with fail
    refine wp_loop_rounds 1 ?_
    rw [rounds_succ]
    go_wp2
    go_end0
    exact ⟨rfl, row1, hg1⟩
  · obtain rfl : n = 20 := by omega
    have hpl : 20 = (putAll (ltC cf) M).length := by rw [putAll_len]; exact hn
    have HPL := Lib.hid hpl
    clear hn hf hpl
    go_enter Try.func106, Try.ntmps106
    go_wp2_with fail
    refine wp_loop_rounds 2 ?_
    rw [rounds_succ]
    go_wp2_with fail
    refine c1.mono ?_
    rintro e w1 ⟨rfl, row1, hg1⟩
    go_wp2_with fail
    rw [rounds_succ]
    go_wp2_with fail
    refine (insertion_93  cf base g 20 cap 20 20 (putAll (ltC cf) M) [] [] w1 (by simpa using row1) (by simpa using HPL.out) HPL.out (by simpa using HPL.out) hc (by omega) (fun W x y hx => absurd hx (by simp))).mono ?_
    rintro e w2 ⟨rfl, row2, hg2⟩
    go_wp2_with fail
    refine wp_loop_rounds 1 ?_
    rw [rounds_succ]
    go_wp2
    go_end0
    exact ⟨rfl, by simpa [putAll] using row2, grown_trans hg1 hg2⟩

theorem sortStable_93 (cf : Score → Score → Int) (base : Nat) (v : Value) (M : List Score) (w : World) (hrow : Row base 33 3 w v (M.map Score.lst)) (h20 : M.length ≤ 20)
    (hf : ∀ W (x y : Score), x ∈ M → y ∈ M → w.grownBy W v.ownBlock → Calls Try.prog 93 #[x.val, y.val] W fun e w' => e = .returned (.int .i64 (cf x y)) ∧ Below W.heap.size W w') :
    Calls Try.prog 92 #[v, .func (.func 93) #[] #[]] w fun e w' => e = .returned (.tuple #[]) ∧ Row base 33 3 w' v ((putAll (ltC cf) M).map Score.lst) ∧ w.grownBy w' v.ownBlock := by
  by_cases h0 : 0 < M.length
  · obtain ⟨g, cap, rfl, hbg, hg, hcap⟩ := hrow.form (by simpa using h0)
    have hcm : cap ≤ 9223372036854775807 := by
      obtain ⟨_, _, h1, _, h3⟩ := hrow.parts
      simp only [Value.slice.injEq] at h1
      omega
    have c := stable_93  cf base g _ cap M w hrow (by simp) (by simpa using h20) hcm hf
    simp only [List.length_map] at c hcap ⊢
    clear hrow hf
    go_enter Try.func92, Try.ntmps92
    go_wp2_with fail
    refine c.mono ?_
    rintro e w1 ⟨rfl, row1, hg1⟩
    go_wp2
    go_end0
    exact ⟨rfl, row1, hg1⟩
  · obtain rfl := List.eq_nil_of_length_eq_zero (show M.length = 0 by omega)
    obtain ⟨A, c, rfl, _, _⟩ := hrow.parts
    have hb : decide ((20 : Int) ≤ (0 : Int)) = false := by decide
    clear hf
    go_enter Try.func92, Try.ntmps92
    go_wp2_with fail
    refine (show Calls Try.prog 106 #[.slice A 0 c, .int .i64 0, .func (.func 93) #[] #[]] w fun e w' => e = .returned (.tuple #[]) ∧ w.grownBy w' none from ?_).mono ?_
    · go_enter Try.func106, Try.ntmps106
      go_wp2_with fail
      refine wp_loop_rounds 1 ?_
      rw [rounds_succ]
      go_wp2_with fail
      refine (show Calls Try.prog 121 #[.slice A 0 c, .int .i64 0, .int .i64 0, .func (.func 93) #[] #[]] w fun e w' => e = .returned (.tuple #[]) ∧ w.grownBy w' none from ?_).mono ?_
      · go_enter Try.func121, Try.ntmps121
        go_wp2_with fail
        refine wp_loop_rounds 1 ?_
        rw [rounds_succ]
        go_wp2
        go_end0
        exact ⟨rfl, World.grownBy.refl _ _⟩
      · rintro e w1 ⟨rfl, hg1⟩
        go_wp2_with fail
        refine wp_loop_rounds 1 ?_
        rw [rounds_succ]
        go_wp2
        go_end0
        exact ⟨rfl, hg1⟩
    · rintro e w1 ⟨rfl, hg1⟩
      go_wp2
      go_end0
      exact ⟨rfl, by simpa [putAll] using hrow.kept hg1 (by cases A <;> simp [Value.ownBlock]), ⟨hg1.os, hg1.tape, hg1.output, hg1.size, fun k hk _ => hg1.block k hk (by simp)⟩⟩

end Go.Proofs.Ythhlfkeikcmnlaa
