/- The law's own copies and comparisons of steps. No condition. -/
import Derived.Test.YtfmgnbkneccekaaStpQ
import Derived.Test.YtfmgnbkneccekaaInts
import Derived.Test.YtfmgnbkneccekaaBase
namespace Go.Proofs.Ytfmgnbkneccekaa
open Go Go.RowKit

set_option maxHeartbeats 400000 in
theorem toRaceStep_any (p : Step) (w : World) :
    Calls Try.prog 37 #[p.val] w fun e w' => e = .returned p.val ∧ Below w.heap.size w w' := by
  obtain ⟨n0, n1, n2⟩ := p
  show Calls Try.prog 37 #[.agg #[.int .i64 n0, .int .i64 n1, .int .i64 n2]] w _
  go_enter Try.func37, Try.ntmps37
  go_wp2
  refine bodyPost_ret (v := .agg #[.int .i64 n0, .int .i64 n1, .int .i64 n2]) (by simp [results, Try.results37, go_sem]) rfl ⟨rfl, ?_⟩
  (repeat (first | exact Below.refl _ _ | assumption | refine Below.drew ?_ | refine Below.alloc ?_ (by first | exact Nat.le_refl _ | (simp; done) | (simp; omega)) _))

theorem szRaceStepS_any (ps : List Step) (v : Value) (left : Int) (w : World) (h : Sl (Flat Step.lst) 3 w v ps) (hl : 0 ≤ left) (hl2 : left ≤ 9223372036854775807) :
    Calls Try.prog 39 #[v, .int .i64 left] w fun e w' => e = .returned (.int .i64 (szLeft left ps.length)) ∧ w = w' := by
  obtain ⟨A, c, rfl, hc, hm, _⟩ := h.open_
  go_enter Try.func39, Try.ntmps39
  go_wp2
  all_goals go_ret
  · exact ⟨ret_int (by unfold szLeft; rw [if_pos (by omega)]), rfl⟩
  · exact ⟨ret_int (by unfold szLeft; rw [if_neg (by omega)]), rfl⟩

set_option maxHeartbeats 400000 in
theorem toRaceStepS_any (ps : List Step) (v : Value) (w : World) (h : Sl (Flat Step.lst) 3 w v ps) (hn : ps.length ≤ 1048576) :
    Calls Try.prog 41 #[v] w fun e w' => ∃ v', e = .returned v' ∧ Row w.heap.size 53 3 w' v' (ps.map Step.lst) ∧ Below w.heap.size w w' := by
  obtain ⟨A, c, rfl, hc, hm, hk⟩ := h.open_
  go_enter Try.func41, Try.ntmps41
  go_wp2_with (at_make; refine tyStep.make rfl _ _ rfl w.heap.size ps.length _ _ rfl rfl rfl rfl (by omega) (Nat.le_refl _) ?_; intro w1 hrow1 hb1 hz1)
  go_loopw [4] (fun i wr => ∃ k : Nat, k ≤ ps.length ∧ i = .int .i64 k ∧ Row w.heap.size 53 3 wr (.slice (some ⟨w.heap.size, 0, none⟩) ps.length ps.length) (mixed Step.lst stepZ ps k) ∧ Below w.heap.size w wr ∧ w.heap.size < wr.heap.size)
    (fun i _ => ps.length - (intOf i).toNat)
  case atStart => exact ⟨0, Nat.zero_le _, rfl, by rw [mixed_zero]; exact hrow1, hb1, hz1⟩
  case round =>
    obtain ⟨k, hkl, rfl, hrow, hb, hz⟩ := hrel
    by_cases hlt : k < ps.length
    · obtain ⟨b, off, rfl, hat⟩ := flat_at hk (by omega)
      have hr := rangeAt_below (hat k hlt) hb
      have hkm : k < (mixed Step.lst stepZ ps k).length := by rw [mixed_len hkl]; exact hlt
      go_wp2_with (first
        | (refine stStepLaws.load rfl _ rfl b (off + k * 3) rfl ps[k].lst rfl hr ?_)
        | (go_at_call 37; refine (toRaceStep_any ps[k] _).mono ?_; rintro e w2 ⟨rfl, hb2⟩; have hrow2 := hrow.below hb2)
        | (refine tyStep.store rfl _ _ rfl w.heap.size w.heap.size ps.length ps.length k _ _ ps[k].lst hrow2 hkm rfl rfl rfl rfl ps[k].one ?_; intro w3 hrow3 hg3))
      go_roundw
      case rel => exact ⟨k + 1, by omega, by go_num, by rw [← mixed_set Step.lst stepZ ps k hlt]; exact hrow3, (hb.trans (hb2.mono hb.size)).grown hg3 (Nat.le_trans hb.size hb2.size) (by simp), Nat.lt_of_lt_of_le hz (Nat.le_trans hb2.size hg3.size)⟩
      case measure => simp [intOf]; omega
    · go_wp2
      go_ret
      obtain rfl : k = ps.length := by omega
      rw [mixed_all] at hrow
      exact ⟨_, rfl, hrow, hb⟩

set_option maxHeartbeats 1000000 in
theorem eqRaceStep_refl (p : Step) (w : World) :
    Calls Try.prog 79 #[p.val, p.val] w fun e w' => e = .returned (.bool true) ∧ Below w.heap.size w w' := by
  obtain ⟨n0, n1, n2⟩ := p
  show Calls Try.prog 79 #[.agg #[.int .i64 n0, .int .i64 n1, .int .i64 n2], .agg #[.int .i64 n0, .int .i64 n1, .int .i64 n2]] w _
  go_enter Try.func79, Try.ntmps79
  go_wp2
  go_ret
  refine ⟨rfl, ?_⟩
  (repeat (first | exact Below.refl _ _ | assumption | refine Below.drew ?_ | refine Below.alloc ?_ (by first | exact Nat.le_refl _ | (simp; done) | (simp; omega)) _))

set_option maxHeartbeats 400000 in
theorem eqRaceStepS_refl (ps : List Step) (v v' : Value) (w : World) (h : Sl (Flat Step.lst) 3 w v ps) (h' : Sl (Flat Step.lst) 3 w v' ps) :
    Calls Try.prog 43 #[v, v'] w fun e w' => e = .returned (.bool true) ∧ Below w.heap.size w w' := by
  obtain ⟨A, c, rfl, hc, hm, hk⟩ := h.open_
  obtain ⟨A', c', rfl, hc', hm', hk'⟩ := h'.open_
  go_enter Try.func43, Try.ntmps43
  go_wp2
  go_loopw [5] (fun i wr => ∃ k : Nat, k ≤ ps.length ∧ i = .int .i64 k ∧ Below w.heap.size w wr)
    (fun i _ => ps.length - (intOf i).toNat)
  case atStart => exact ⟨0, Nat.zero_le _, rfl, Below.refl _ _⟩
  case round =>
    obtain ⟨k, hkl, rfl, hb⟩ := hrel
    by_cases hlt : k < ps.length
    · obtain ⟨b, off, rfl, hat⟩ := flat_at hk (by omega)
      obtain ⟨b', off', rfl, hat'⟩ := flat_at hk' (by omega)
      have hr := rangeAt_below (hat k hlt) hb
      have hr' := rangeAt_below (hat' k hlt) hb
      clear hat hat' hk hk' h h'
      go_wp2
      refine region_after (by kernel_rfl) (by kernel_rfl) ?_
      repeat (any_goals (first | go_big_quiet_step (((go_at_call 79; exact Calls.after (v := .bool true) _ (eqRaceStep_refl ps[k] _)))) | (refine Step.qloadImpl rfl _ rfl _ _ rfl ps[k] hr ?_) | (refine Step.qloadImpl rfl _ rfl _ _ rfl ps[k] hr' ?_) | quiet_step (((go_at_call 79; exact Calls.after (v := .bool true) _ (eqRaceStep_refl ps[k] _))))))
      refine wpQuiet_nil ?_
      intro s
      go_wp2
      go_roundw
      case rel => exact ⟨k + 1, by omega, by go_num, step_ hb (Nat.le_refl _) s.hb⟩
      case measure => simp [intOf]; omega
    · go_wp2
      go_ret
      exact ⟨rfl, hb⟩

def stepMark (k : Int) (i : Nat) : Step := ⟨k + (3 * i + 0 : Nat), k + (3 * i + 1 : Nat), k + (3 * i + 2 : Nat)⟩
def stepMarks (k : Int) (n : Nat) : List Step := (List.range n).map (stepMark k)
theorem stepMarks_len (k : Int) (n : Nat) : (stepMarks k n).length = n := by simp [stepMarks]
theorem stepMark_sets (l : List Value) (h : l.length = 3) (u0 u1 u2 : Value) : ((l.set 0 u0).set 1 u1).set 2 u2 = [u0, u1, u2] := by
  match l, h with
  | [_, _, _], _ => rfl

set_option maxHeartbeats 1000000 in
theorem markRaceStepS_any (base : Nat) (v : Value) (ys : List (List Value)) (k : Int) (w : World) (h : Row base 53 3 w v ys) (hl : ys.length ≤ 2147483648) (h0 : 0 ≤ k) (h1 : k ≤ 4611686018427387904) :
    Calls Try.prog 44 #[v, .int .i64 k] w fun e w' => e = .returned (.int .i64 (k + (3 * ys.length : Nat))) ∧ Row base 53 3 w' v ((stepMarks k ys.length).map Step.lst) ∧ w.grownBy w' v.ownBlock := by
  have hm0 : (stepMarks k 0).map Step.lst = [] := rfl
  by_cases hn : 0 < ys.length
  · obtain ⟨g, cap, rfl, hb, hgl, hcap⟩ := h.form hn
    have hcm : cap ≤ 9223372036854775807 := by
      rcases h.2.2 with ⟨h1, _⟩ | ⟨g', cap', cur, h1, _, _, _, hm, _⟩ <;> simp at h1
      simp only [maxLen] at hm; omega
    go_enter Try.func44, Try.ntmps44
    go_wp2
    go_loopw [1, 5] (fun kk i wr => ∃ j : Nat, j ≤ ys.length ∧ kk = .int .i64 (k + (3 * j : Nat)) ∧ i = .int .i64 j ∧ Row base 53 3 wr (.slice (some ⟨g, 0, none⟩) ys.length cap) (turned (fun i => (stepMark k i).lst) ys j) ∧ w.grownBy wr (some g))
      (fun _ i _ => ys.length - (intOf i).toNat)
    case atStart => exact ⟨0, Nat.zero_le _, by simp, rfl, by rw [turned_zero]; exact h, World.grownBy.refl _ _⟩
    case round =>
      obtain ⟨j, hjl, rfl, rfl, hrow0, hgr⟩ := hrel
      by_cases hlt : j < ys.length
      · have hlt0 : j < (turned (fun i => (stepMark k i).lst) ys j).length := by rw [turned_len hjl]; exact hlt
        go_wp2_with (first
        | (refine put1_ (e := 53) (sz := 3) rfl _ _ _ rfl infoInt base g ys.length cap j 0 _ _ _ hrow0 ?_ (by omega) rfl rfl rfl ?_; (simpa using hlt0); intro w1 hrow1 hg1)
        | (refine put1_ (e := 53) (sz := 3) rfl _ _ _ rfl infoInt base g ys.length cap j 1 _ _ _ hrow1 ?_ (by omega) rfl rfl rfl ?_; (simpa using hlt0); intro w2 hrow2 hg2)
        | (refine put1_ (e := 53) (sz := 3) rfl _ _ _ rfl infoInt base g ys.length cap j 2 _ _ _ hrow2 ?_ (by omega) rfl rfl rfl ?_; (simpa using hlt0); intro w3 hrow3 hg3))
        go_roundw
        case rel =>
          refine ⟨j + 1, by omega, by go_num, by go_num, ?_, (grown_trans (grown_trans (grown_trans hgr hg1) hg2) hg3)⟩
          rw [← turned_set _ ys j hlt]
          simp only [List.set_set, List.getElem_set_self] at hrow3
          rw [stepMark_sets _ (hrow0.1 _ (List.getElem_mem _))] at hrow3
          refine Row.set_eq hrow3 ?_
          simp [stepMark, Step.lst]
          omega
        case measure => simp [intOf]; omega
      · go_wp2
        go_ret
        obtain rfl : j = ys.length := by omega
        rw [turned_all] at hrow0
        refine ⟨rfl, ?_, hgr⟩
        simpa [stepMarks, Function.comp_def] using hrow0
  · have hy : ys = [] := List.eq_nil_of_length_eq_zero (by omega)
    subst hy
    obtain ⟨A, c, rfl⟩ : ∃ A c, v = .slice A 0 c := by
      rcases h.2.2 with ⟨h1, _⟩ | ⟨g', cap', cur, h1, _⟩
      · exact ⟨_, _, h1⟩
      · exact ⟨_, _, h1⟩
    go_enter Try.func44, Try.ntmps44
    go_wp2
    go_loop [1, 5] (fun kk i => kk = .int .i64 k ∧ i = .int .i64 0) (fun _ _ => 0)
    case atStart => exact ⟨rfl, rfl⟩
    case round =>
      obtain ⟨rfl, rfl⟩ := hrel
      go_wp2
      go_ret
      exact ⟨ret_int (by simp), by simpa using h, World.grownBy.refl _ _⟩


end Go.Proofs.Ytfmgnbkneccekaa
