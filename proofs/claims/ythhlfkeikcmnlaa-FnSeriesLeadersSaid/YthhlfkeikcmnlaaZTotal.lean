/- The walks of the total of a runner. No condition. -/
import Derived.Test.YthhlfkeikcmnlaaZScoresOf
import Derived.Test.YthhlfkeikcmnlaaZAreScores
namespace Go.Proofs.Ythhlfkeikcmnlaa
open Go Go.RowKit

theorem sumTop_succ (l : List Int) (k : Nat) (h : k < l.length) : (l.take (k + 1)).sum = (l.take k).sum + l[k] := by
  rw [List.take_succ_eq_append_getElem h, List.sum_append]; simp
theorem sum_le (l : List Int) (b : Int) (h : ∀ x ∈ l, 0 ≤ x ∧ x ≤ b) : 0 ≤ l.sum ∧ l.sum ≤ l.length * b := by
  induction l with
  | nil => simp
  | cons x xs ih =>
    have h1 := h x (by simp)
    have h2 := ih (fun y hy => h y (by simp [hy]))
    have e : ((xs.length + 1 : Nat) : Int) * b = xs.length * b + b := by rw [Int.natCast_add, Int.add_mul]; simp
    simp only [List.sum_cons, List.length_cons]
    rw [e]
    omega
/-- Points are small. -/
def Small (xs : List Score) : Prop := ∀ s ∈ xs, 0 ≤ s.points ∧ s.points ≤ 1000
theorem Small.of {xs : List Score} (h : Small xs) (r : Int) : ∀ x ∈ ptsOf xs r, 0 ≤ x ∧ x ≤ 1000 := by
  intro x hx
  have hx := (ptsOf_perm xs r).mem_iff.1 hx
  obtain ⟨s, hs, rfl⟩ := List.mem_map.1 hx
  exact h s (List.mem_filter.1 hs).1
theorem small_good {n m : Int} {xs : List Score} (h : goodS n m xs = true) : Small xs := by
  intro s hs
  obtain ⟨k, hk, rfl⟩ := List.getElem_of_mem hs
  have := ((goodS_iff.1 h).2.2.1 k hk).1.2.2
  rw [inB_iff] at this
  exact this

set_option maxHeartbeats 2000000 in
theorem totalOf_any (xs : List Score) (b r : Int) (v : Value) (w : World) (h : Sl (Flat Score.lst) 3 w v xs) (hn : xs.length ≤ 1048577) (h20 : (ownS xs r).length ≤ 20) (hb0 : 0 ≤ b) (hb1 : b ≤ 9223372036854775807) (hs : Small xs) :
    Calls Try.prog 62 #[v, .int .i64 b, .int .i64 r] w fun e w' => e = .returned (.int .i64 (totS b xs r)) ∧ Below w.heap.size w w' := by
  obtain ⟨bn, rfl⟩ : ∃ bn : Nat, b = bn := ⟨b.toNat, by omega⟩
  have HTT := Lib.hid (show totS bn xs r = ((ptsOf xs r).take bn).sum by unfold totS sumTop; simp)
  obtain ⟨pts, hpts⟩ : ∃ pts, pts = ptsOf xs r := ⟨_, rfl⟩
  have HSM := Lib.hid (show ∀ k, k ≤ 20 → 0 ≤ (pts.take k).sum ∧ (pts.take k).sum ≤ 20000 by
    intro k hk
    have := sum_le (pts.take k) 1000 (fun x hx => Small.of hs r x (by rw [hpts] at hx; exact List.mem_of_mem_take hx))
    have hl : (pts.take k).length ≤ k := List.length_take_le _ _
    omega)
  have HL := Lib.hid (show (ofS xs r).length ≤ 20 by unfold ofS; rw [putAll_len]; exact h20)
  have HPT := Lib.hid (show pts = (ofS xs r).map Score.points from hpts)
  rw [← hpts] at HTT
  clear hpts
  go_enter Try.func62, Try.ntmps62
  go_wp2_with fail
  refine (scoresOf_any xs r v _ h hn h20).mono ?_
  rintro e w1 ⟨o, rfl, row, hb1'⟩
  obtain ⟨ys, hys⟩ : ∃ ys, ys = ofS xs r := ⟨_, rfl⟩
  obtain ⟨A, c, rfl, hc, hm⟩ := row.parts
  rw [← hys] at row HL HPT
  simp only [List.length_map, ← hys] at hc ⊢
  have HPL := Lib.hid (show pts.length = ys.length by rw [HPT.out]; simp)
  have hy20 := HL.out
  clear h h20 hs hys
  by_cases hbn : bn ≤ ys.length
  · have HT := HTT
    have hbn' : (bn : Int) ≤ (ys.length : Int) := by omega
    have hbc : (bn : Int) ≤ (c : Int) := by omega
    have HSM := Lib.hid (fun k (hk : k ≤ bn) => HSM.out k (by omega))
    go_wp2_with fail
    go_loopw [8, 21] (fun s i wr => ∃ k : Nat, k ≤ bn ∧ i = .int .i64 k ∧ s = .int .i64 ((pts.take k).sum) ∧ Below w1.heap.size w1 wr)
      (fun _ i _ => bn - (intOf i).toNat)
    case atStart => exact ⟨0, Nat.zero_le _, rfl, rfl, Below.refl _ _⟩
    case round =>
      obtain ⟨k, hkl, rfl, rfl, hb⟩ := hrel
      by_cases hlt : k < bn
      · have hky : k < ys.length := by omega
        have hkp : k < pts.length := by rw [HPL.out]; exact hky
        obtain ⟨g, cap, he, hbg, hg, hcap⟩ := row.form (by simp; omega)
        simp only [Value.slice.injEq] at he
        obtain ⟨rfl, hq, rfl⟩ := he
        have hr := row.range (k := k) (by simpa using hky)
        rw [List.getElem_map] at hr
        have hpk : pts[k] = ys[k].points := by simp [HPT.out]
        obtain ⟨x, hx⟩ : ∃ x, x = ys[k] := ⟨_, rfl⟩
        rw [← hx] at hr hpk
        have hr := rangeAt_below hr hb
        have hcn := Score.cells (Score.rangeNew wr x 33)
        simp only [Nat.zero_add] at hcn
        have hsm := HSM.out k hkl
        have hsm' := HSM.out (k + 1) (by omega)
        have hS := sumTop_succ pts k hkp
        rw [hpk] at hS
        rw [hS] at hsm'
        have hsm1 := hsm'.1
        have hsm2 := hsm'.2
        have HS := Lib.hid hS
        clear hq hpk hx hS hsm hsm'
        go_wp2_with ((with_reducible refine at_load_ 33 ?_); refine Score.loadImpl rfl _ rfl g (k * 3) rfl x hr ?_)
        go_roundw
        case rel => exact ⟨k + 1, by omega, by go_num, by rw [HS.out], below_alloc hb _⟩
        case measure => simp [intOf]; omega
      · go_wp2
        go_ret
        obtain rfl : k = bn := by omega
        exact ⟨ret_int (HT.out).symm, step_ hb1' (Nat.le_refl _) hb⟩
  · have HT := Lib.hid (show totS bn xs r = (pts.take ys.length).sum by
      rw [HTT.out, List.take_of_length_le (by rw [HPL.out]; omega), List.take_of_length_le (by rw [HPL.out]; exact Nat.le_refl _)])
    have hbn' : ¬ (bn : Int) ≤ (ys.length : Int) := by omega
    have hbc : (ys.length : Int) ≤ (c : Int) := by omega
    have HSM := Lib.hid (fun k (hk : k ≤ ys.length) => HSM.out k (by omega))
    go_wp2_with fail
    go_loopw [8, 21] (fun s i wr => ∃ k : Nat, k ≤ ys.length ∧ i = .int .i64 k ∧ s = .int .i64 ((pts.take k).sum) ∧ Below w1.heap.size w1 wr)
      (fun _ i _ => ys.length - (intOf i).toNat)
    case atStart => exact ⟨0, Nat.zero_le _, rfl, rfl, Below.refl _ _⟩
    case round =>
      obtain ⟨k, hkl, rfl, rfl, hb⟩ := hrel
      by_cases hlt : k < ys.length
      · have hky : k < ys.length := by omega
        have hkp : k < pts.length := by rw [HPL.out]; exact hky
        obtain ⟨g, cap, he, hbg, hg, hcap⟩ := row.form (by simp; omega)
        simp only [Value.slice.injEq] at he
        obtain ⟨rfl, hq, rfl⟩ := he
        have hr := row.range (k := k) (by simpa using hky)
        rw [List.getElem_map] at hr
        have hpk : pts[k] = ys[k].points := by simp [HPT.out]
        obtain ⟨x, hx⟩ : ∃ x, x = ys[k] := ⟨_, rfl⟩
        rw [← hx] at hr hpk
        have hr := rangeAt_below hr hb
        have hcn := Score.cells (Score.rangeNew wr x 33)
        simp only [Nat.zero_add] at hcn
        have hsm := HSM.out k hkl
        have hsm' := HSM.out (k + 1) (by omega)
        have hS := sumTop_succ pts k hkp
        rw [hpk] at hS
        rw [hS] at hsm'
        have hsm1 := hsm'.1
        have hsm2 := hsm'.2
        have HS := Lib.hid hS
        clear hq hpk hx hS hsm hsm'
        go_wp2_with ((with_reducible refine at_load_ 33 ?_); refine Score.loadImpl rfl _ rfl g (k * 3) rfl x hr ?_)
        go_roundw
        case rel => exact ⟨k + 1, by omega, by go_num, by rw [HS.out], below_alloc hb _⟩
        case measure => simp [intOf]; omega
      · go_wp2
        go_ret
        obtain rfl : k = ys.length := by omega
        exact ⟨ret_int (HT.out).symm, step_ hb1' (Nat.le_refl _) hb⟩
end Go.Proofs.Ythhlfkeikcmnlaa
