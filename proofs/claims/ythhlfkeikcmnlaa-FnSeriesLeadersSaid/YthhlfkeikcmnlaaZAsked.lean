/- The walks of the questions asked of a series, and TotalOf. No condition. -/
import Derived.Test.YthhlfkeikcmnlaaZTotal
namespace Go.Proofs.Ythhlfkeikcmnlaa
open Go Go.RowKit

theorem pairwise_of_step {α : Type} {R : α → α → Prop} (ht : ∀ a b c, R a b → R b c → R a c) : ∀ (xs : List α) (_ : ∀ k (h : k < xs.length), 0 < k → R (xs[k - 1]'(by omega)) xs[k]), xs.Pairwise R
  | [], _ => List.Pairwise.nil
  | [x], _ => by simp
  | x :: y :: ys, h => by
    have ih := pairwise_of_step ht (y :: ys) (fun k hk h0 => by
      have := h (k + 1) (by simp at hk ⊢; omega) (by omega)
      obtain ⟨q, rfl⟩ : ∃ q, k = q + 1 := ⟨k - 1, by omega⟩
      simpa using this)
    refine List.pairwise_cons.2 ⟨fun z hz => ?_, ih⟩
    have h1 : R x y := by have := h 1 (by simp) (by omega); simpa using this
    rcases List.mem_cons.1 hz with rfl | hz
    · exact h1
    · exact ht _ _ _ h1 ((List.pairwise_cons.1 ih).1 z hz)
theorem asc_len : ∀ (l : List Int) (lo hi : Int), Asc l → (∀ x ∈ l, lo ≤ x ∧ x ≤ hi) → (l.length : Int) ≤ max 0 (hi - lo + 1)
  | [], lo, hi, _, _ => by simp; omega
  | x :: xs, lo, hi, h, hb => by
    have h' := List.pairwise_cons.1 h
    have hx := hb x (by simp)
    have ih := asc_len xs (lo + 1) hi h'.2 (fun y hy => ⟨by have := h'.1 y hy; omega, (hb y (by simp [hy])).2⟩)
    simp only [List.length_cons]
    omega
def Lex (p q : Score) : Prop := p.runner < q.runner ∨ (p.runner = q.runner ∧ p.race < q.race)
theorem good_lex {n m : Int} {xs : List Score} (h : goodS n m xs = true) : xs.Pairwise Lex :=
  pairwise_of_step (fun a b c h1 h2 => by unfold Lex at *; omega) xs fun k hk h0 => ((goodS_iff.1 h).2.2.1 k hk).2 h0
theorem own_asc {n m : Int} {xs : List Score} (h : goodS n m xs = true) (r : Int) : Asc ((ownS xs r).map Score.race) := by
  unfold Asc ownS
  rw [List.pairwise_map]
  have h1 := (good_lex h).filter (fun s => s.runner == r)
  refine h1.imp_of_mem fun {a b} ha hb hl => ?_
  have ea : a.runner = r := by simpa using (List.mem_filter.1 ha).2
  have eb : b.runner = r := by simpa using (List.mem_filter.1 hb).2
  unfold Lex at hl
  omega
theorem good_race {n m : Int} {xs : List Score} (h : goodS n m xs = true) : ∀ s ∈ xs, 1 ≤ s.race ∧ s.race ≤ n := by
  intro s hs
  obtain ⟨k, hk, rfl⟩ := List.getElem_of_mem hs
  have := ((goodS_iff.1 h).2.2.1 k hk).1.2.1
  rw [inB_iff] at this
  exact this
theorem own_len {n m : Int} {xs : List Score} (h : goodS n m xs = true) (r : Int) : (ownS xs r).length ≤ 8 := by
  have h1 := asc_len _ 1 n (own_asc h r) (fun x hx => by
    obtain ⟨s, hs, rfl⟩ := List.mem_map.1 hx
    exact good_race h s (List.mem_filter.1 hs).1)
  have h2 := inB_iff.1 (goodS_iff.1 h).1
  rw [List.length_map] at h1
  omega
theorem good_len {n m : Int} {xs : List Score} (h : goodS n m xs = true) : xs.length ≤ 40 := (goodS_iff.1 h).2.2.2
theorem good_best {n m : Int} {xs : List Score} (h : goodS n m xs = true) : 1 ≤ m ∧ m ≤ 8 := by
  have h1 := inB_iff.1 (goodS_iff.1 h).1
  have h2 := inB_iff.1 (goodS_iff.1 h).2.1
  omega
noncomputable def askS (n m : Int) (xs : List Score) (r : Int) : Bool := goodS n m xs && decide (0 < (ofS xs r).length)

set_option maxHeartbeats 1000000 in
theorem hasScore_any (n m : Int) (xs : List Score) (r : Int) (v : Value) (w : World) (h : Sl (Flat Score.lst) 3 w v xs) :
    Calls Try.prog 61 #[.int .i64 n, .int .i64 m, v, .int .i64 r] w fun e w' => e = .returned (.bool (askS n m xs r)) ∧ Below w.heap.size w w' := by
  by_cases hg : goodS n m xs = true
  · have HA := Lib.hid (show askS n m xs r = decide (0 < (ofS xs r).length) by simp [askS, hg])
    have h20 : (ownS xs r).length ≤ 20 := by have := own_len hg r; omega
    have hn : xs.length ≤ 1048577 := by have := good_len hg; omega
    have HG := Lib.hid hg
    clear hg
    go_enter Try.func61, Try.ntmps61
    go_wp2_with fail
    refine (areScores_any n m xs _ _ h).mono ?_
    rintro e w1 ⟨rfl, hb1⟩
    rw [HG.out]
    go_wp2_with fail
    refine (scoresOf_any xs r _ _ (h.below (Flat.keeps _) hb1) hn h20).mono ?_
    rintro e w2 ⟨o, rfl, row, hb2⟩
    obtain ⟨A, c, rfl, hc, hm⟩ := row.parts
    simp only [List.length_map]
    have HB := Lib.hid (step_ hb1 (Nat.le_refl _) hb2)
    clear row hc
    obtain ⟨len, hlen⟩ : ∃ len, (ofS xs r).length = len := ⟨_, rfl⟩
    rw [hlen] at HA ⊢
    clear hlen
    go_wp2
    all_goals
      go_ret
      exact ⟨ret_bool (by first | exact HA.out.symm | (rw [HA.out]; simp)), HB.out⟩
  · have hg' : goodS n m xs = false := by simpa using hg
    have HA := Lib.hid (show askS n m xs r = false by simp [askS, hg'])
    have HG := Lib.hid hg'
    clear hg hg'
    go_enter Try.func61, Try.ntmps61
    go_wp2_with fail
    refine (areScores_any n m xs _ _ h).mono ?_
    rintro e w1 ⟨rfl, hb1⟩
    rw [HG.out]
    go_wp2
    go_ret
    exact ⟨ret_bool HA.out.symm, hb1⟩

set_option maxHeartbeats 1000000 in
theorem l20Asked_any (n m : Int) (xs : List Score) (r : Int) (v : Value) (w : World) (h : Sl (Flat Score.lst) 3 w v xs) :
    Calls Try.prog 59 #[.int .i64 n, .int .i64 m, v, .int .i64 r] w fun e w' => e = .returned (.bool (askS n m xs r)) ∧ Below w.heap.size w w' := by
  by_cases hg : goodS n m xs = true
  · have HA := Lib.hid (show askS n m xs r = decide (0 < (ofS xs r).length) by simp [askS, hg])
    have hn : xs.length ≤ 1048577 := by have := good_len hg; omega
    have HG := Lib.hid hg
    clear hg
    go_enter Try.func59, Try.ntmps59
    go_wp2_with fail
    refine (l20Good_any n m xs _ _ h).mono ?_
    rintro e w1 ⟨rfl, hb1⟩
    rw [HG.out]
    go_wp2_with fail
    refine (l20Of_any xs r _ _ (h.below (Flat.keeps _) hb1) hn).mono ?_
    rintro e w2 ⟨o, rfl, row, hb2⟩
    obtain ⟨A, c, rfl, hc, hm⟩ := row.parts
    simp only [List.length_map]
    have HB := Lib.hid (step_ hb1 (Nat.le_refl _) hb2)
    clear row hc
    obtain ⟨len, hlen⟩ : ∃ len, (ofS xs r).length = len := ⟨_, rfl⟩
    rw [hlen] at HA ⊢
    clear hlen
    go_wp2
    all_goals
      go_ret
      exact ⟨ret_bool (by first | exact HA.out.symm | (rw [HA.out]; simp)), HB.out⟩
  · have hg' : goodS n m xs = false := by simpa using hg
    have HA := Lib.hid (show askS n m xs r = false by simp [askS, hg'])
    have HG := Lib.hid hg'
    clear hg hg'
    go_enter Try.func59, Try.ntmps59
    go_wp2_with fail
    refine (l20Good_any n m xs _ _ h).mono ?_
    rintro e w1 ⟨rfl, hb1⟩
    rw [HG.out]
    go_wp2
    go_ret
    exact ⟨ret_bool HA.out.symm, hb1⟩

set_option maxHeartbeats 2000000 in
theorem l20Total_any (xs : List Score) (b r : Int) (v : Value) (w : World) (h : Sl (Flat Score.lst) 3 w v xs) (hn : xs.length ≤ 1048577) (h20 : (ownS xs r).length ≤ 20) (hb0 : 0 ≤ b) (hb1 : b ≤ 9223372036854775807) (hs : Small xs) :
    Calls Try.prog 60 #[.int .i64 b, v, .int .i64 r] w fun e w' => e = .returned (.int .i64 (totS b xs r)) ∧ Below w.heap.size w w' := by
  obtain ⟨bn, rfl⟩ : ∃ bn : Nat, b = bn := ⟨b.toNat, by omega⟩
  have HTT := Lib.hid (show totS bn xs r = ((ptsOf xs r).take bn).sum by unfold totS sumTop; simp)
  obtain ⟨pts, hpts⟩ : ∃ pts, pts = ptsOf xs r := ⟨_, rfl⟩
  have HSM := Lib.hid (show ∀ k, k ≤ 20 → 0 ≤ (pts.take k).sum ∧ (pts.take k).sum ≤ 20000 by
    intro k hk
    have := sum_le (pts.take k) 1000 (fun x hx => Small.of hs r x (by rw [hpts] at hx; exact List.mem_of_mem_take hx))
    have hl : (pts.take k).length ≤ k := List.length_take_le _ _
    omega)
  have HL := Lib.hid (show (ofS xs r).length ≤ 20 by unfold ofS; rw [putAll_len]; exact h20)
  have HPT := Lib.hid (show pts = (ofS xs r).map Score.points from hpts)
  rw [← hpts] at HTT
  clear hpts
  go_enter Try.func60, Try.ntmps60
  go_wp2_with fail
  refine (l20Of_any xs r v _ h hn).mono ?_
  rintro e w1 ⟨o, rfl, row, hb1'⟩
  obtain ⟨ys, hys⟩ : ∃ ys, ys = ofS xs r := ⟨_, rfl⟩
  obtain ⟨A, c, rfl, hc, hm⟩ := row.parts
  rw [← hys] at row HL HPT
  simp only [List.length_map, ← hys] at hc ⊢
  have HPL := Lib.hid (show pts.length = ys.length by rw [HPT.out]; simp)
  have hy20 := HL.out
  clear h h20 hs hys
  go_wp2_with fail
  go_loopw [8, 9] (fun s i wr => ∃ k : Nat, k ≤ ys.length ∧ k ≤ bn ∧ i = .int .i64 k ∧ s = .int .i64 ((pts.take k).sum) ∧ Below w1.heap.size w1 wr)
    (fun _ i _ => ys.length - (intOf i).toNat)
  case atStart => exact ⟨0, Nat.zero_le _, Nat.zero_le _, rfl, rfl, Below.refl _ _⟩
  case round =>
    obtain ⟨k, hkl, hkb, rfl, rfl, hb⟩ := hrel
    by_cases hlt : k < ys.length
    · by_cases hlb : k < bn
      · have hkp : k < pts.length := by rw [HPL.out]; exact hlt
        obtain ⟨g, cap, he, hbg, hg, hcap⟩ := row.form (by simp; omega)
        simp only [Value.slice.injEq] at he
        obtain ⟨rfl, hq, rfl⟩ := he
        have hr := row.range (k := k) (by simpa using hlt)
        rw [List.getElem_map] at hr
        have hpk : pts[k] = ys[k].points := by simp [HPT.out]
        obtain ⟨x, hx⟩ : ∃ x, x = ys[k] := ⟨_, rfl⟩
        rw [← hx] at hr hpk
        have hcn := Score.cells (rangeAt_below hr hb)
        have hsm := HSM.out k (by omega)
        have hsm' := HSM.out (k + 1) (by omega)
        have hS := sumTop_succ pts k hkp
        rw [hpk] at hS
        rw [hS] at hsm'
        have hsm1 := hsm'.1
        have hsm2 := hsm'.2
        have HS := Lib.hid hS
        clear hq hpk hx hS hsm hsm' hr
        go_wp2
        go_roundw
        case rel => exact ⟨k + 1, by omega, by omega, by go_num, by rw [HS.out], hb⟩
        case measure => simp [intOf]; omega
      · go_wp2
        go_ret
        obtain rfl : k = bn := by omega
        exact ⟨ret_int (HTT.out).symm, step_ hb1' (Nat.le_refl _) hb⟩
    · go_wp2
      go_ret
      obtain rfl : k = ys.length := by omega
      exact ⟨ret_int (by rw [HTT.out, List.take_of_length_le (by rw [HPL.out]; exact Nat.le_refl _), List.take_of_length_le (by rw [HPL.out]; exact hkb)]), step_ hb1' (Nat.le_refl _) hb⟩

noncomputable def totV (n m : Int) (xs : List Score) (r : Int) : Int := if askS n m xs r = true then totS m xs r else 0
set_option maxHeartbeats 1000000 in
theorem impl_TotalOf (n m : Int) (x : List Score) (v : Value) (r : Int) (w : World) (_ : I64 n) (_ : I64 m) (h : Sl (Flat Score.lst) 3 w v x) (_ : ∀ p ∈ x, Score.ok p) (_ : I64 r) :
    Calls Try.prog 25 #[.int .i64 n, .int .i64 m, v, .int .i64 r] w fun e w' => e = .returned (.tuple #[.int .i64 (totV n m x r), .bool (askS n m x r)]) ∧ Below w.heap.size w w' := by
  by_cases hg : askS n m x r = true
  · have HV := Lib.hid (show totV n m x r = totS m x r by unfold totV; rw [if_pos hg])
    have hgood : goodS n m x = true := by simp only [askS, Bool.and_eq_true] at hg; exact hg.1
    have h20 : (ownS x r).length ≤ 20 := by have := own_len hgood r; omega
    have hn : x.length ≤ 1048577 := by have := good_len hgood; omega
    have hm := good_best hgood
    have hm0 := hm.1
    have hm1 := hm.2
    have hs := small_good hgood
    rw [HV.out, hg]
    have HG := Lib.hid hg
    clear hg hm hgood
    go_enter Try.func25, Try.ntmps25
    go_wp2_with fail
    refine (hasScore_any n m x r _ _ h).mono ?_
    rintro e w1 ⟨rfl, hb1⟩
    rw [HG.out]
    go_wp2_with fail
    refine (totalOf_any x m r _ _ (h.below (Flat.keeps _) hb1) hn h20 (by omega) (by omega) hs).mono ?_
    rintro e w2 ⟨rfl, hb2⟩
    have HB := Lib.hid (step_ hb1 (Nat.le_refl _) hb2)
    go_wp2
    go_ret2
    exact ⟨rfl, HB.out⟩
  · have hg' : askS n m x r = false := by simpa using hg
    have HV := Lib.hid (show totV n m x r = 0 by unfold totV; rw [if_neg hg])
    rw [HV.out, hg']
    have HG := Lib.hid hg'
    clear hg hg'
    go_enter Try.func25, Try.ntmps25
    go_wp2_with fail
    refine (hasScore_any n m x r _ _ h).mono ?_
    rintro e w1 ⟨rfl, hb1⟩
    rw [HG.out]
    go_wp2
    go_ret2
    exact ⟨rfl, hb1⟩
set_option maxHeartbeats 1000000 in
theorem spec_TotalOf (n m : Int) (x : List Score) (v : Value) (r : Int) (w : World) (_ : I64 n) (_ : I64 m) (h : Sl (Flat Score.lst) 3 w v x) (_ : ∀ p ∈ x, Score.ok p) (_ : I64 r) :
    Calls Try.prog 24 #[.int .i64 n, .int .i64 m, v, .int .i64 r] w fun e w' => e = .returned (.tuple #[.int .i64 (totV n m x r), .bool (askS n m x r)]) ∧ Below w.heap.size w w' := by
  by_cases hg : askS n m x r = true
  · have HV := Lib.hid (show totV n m x r = totS m x r by unfold totV; rw [if_pos hg])
    have hgood : goodS n m x = true := by simp only [askS, Bool.and_eq_true] at hg; exact hg.1
    have h20 : (ownS x r).length ≤ 20 := by have := own_len hgood r; omega
    have hn : x.length ≤ 1048577 := by have := good_len hgood; omega
    have hm := good_best hgood
    have hm0 := hm.1
    have hm1 := hm.2
    have hs := small_good hgood
    rw [HV.out, hg]
    have HG := Lib.hid hg
    clear hg hm hgood
    go_enter Try.func24, Try.ntmps24
    go_wp2_with fail
    refine (l20Asked_any n m x r _ _ h).mono ?_
    rintro e w1 ⟨rfl, hb1⟩
    rw [HG.out]
    go_wp2_with fail
    refine (l20Total_any x m r _ _ (h.below (Flat.keeps _) hb1) hn h20 (by omega) (by omega) hs).mono ?_
    rintro e w2 ⟨rfl, hb2⟩
    have HB := Lib.hid (step_ hb1 (Nat.le_refl _) hb2)
    go_wp2
    go_ret2
    exact ⟨rfl, HB.out⟩
  · have hg' : askS n m x r = false := by simpa using hg
    have HV := Lib.hid (show totV n m x r = 0 by unfold totV; rw [if_neg hg])
    rw [HV.out, hg']
    have HG := Lib.hid hg'
    clear hg hg'
    go_enter Try.func24, Try.ntmps24
    go_wp2_with fail
    refine (l20Asked_any n m x r _ _ h).mono ?_
    rintro e w1 ⟨rfl, hb1⟩
    rw [HG.out]
    go_wp2
    go_ret2
    exact ⟨rfl, hb1⟩
end Go.Proofs.Ythhlfkeikcmnlaa
