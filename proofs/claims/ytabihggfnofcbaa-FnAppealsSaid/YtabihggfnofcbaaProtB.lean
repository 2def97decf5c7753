/- The walks over protests: the copies of the law's arguments. No condition. -/
import Derived.Test.YtabihggfnofcbaaProtA
import Derived.Test.YtabihggfnofcbaaInts
namespace Go.Proofs.Ytabihggfnofcbaa
open Go Go.RowKit



set_option maxHeartbeats 400000 in
theorem toProtest_any (p : Prot) (w : World) :
    Calls Try.prog 17 #[p.val] w fun e w' => e = .returned p.val ∧ Below w.heap.size w w' := by
  obtain ⟨n0, n1, n2, n3, n4, n5⟩ := p
  show Calls Try.prog 17 #[.agg #[.int .i64 n0, .int .i64 n1, .int .i64 n2, .int .i64 n3, .int .i64 n4, .int .i64 n5]] w _
  go_enter Try.func17, Try.ntmps17
  go_wp2
  refine bodyPost_ret (v := .agg #[.int .i64 n0, .int .i64 n1, .int .i64 n2, .int .i64 n3, .int .i64 n4, .int .i64 n5]) (by simp [results, Try.results17, go_sem]) rfl ⟨rfl, ?_⟩
  (repeat (first | exact Below.refl _ _ | assumption | refine Below.drew ?_ | refine Below.alloc ?_ (by first | exact Nat.le_refl _ | (simp; done) | (simp; omega)) _))

theorem szProtestS_any (ps : List Prot) (v : Value) (left : Int) (w : World) (h : Sl (Flat Prot.lst) 6 w v ps) (hl : 0 ≤ left) (hl2 : left ≤ 9223372036854775807) :
    Calls Try.prog 19 #[v, .int .i64 left] w fun e w' => e = .returned (.int .i64 (szLeft left ps.length)) ∧ w = w' := by
  obtain ⟨A, c, rfl, hc, hm, _⟩ := h.open_
  go_enter Try.func19, Try.ntmps19
  go_wp2
  all_goals go_ret
  · exact ⟨ret_int (by unfold szLeft; rw [if_pos (by omega)]), rfl⟩
  · exact ⟨ret_int (by unfold szLeft; rw [if_neg (by omega)]), rfl⟩

set_option maxHeartbeats 400000 in
theorem toProtestS_any (ps : List Prot) (v : Value) (w : World) (h : Sl (Flat Prot.lst) 6 w v ps) (hn : ps.length ≤ 1048576) :
    Calls Try.prog 21 #[v] w fun e w' => ∃ v', e = .returned v' ∧ Row w.heap.size 25 6 w' v' (ps.map Prot.lst) ∧ Below w.heap.size w w' := by
  obtain ⟨A, c, rfl, hc, hm, hk⟩ := h.open_
  go_enter Try.func21, Try.ntmps21
  go_wp2_with (at_make; refine tyProt.make rfl _ _ rfl w.heap.size ps.length _ _ rfl rfl rfl rfl (by omega) (Nat.le_refl _) ?_; intro w1 hrow1 hb1 hz1)
  go_loopw [4] (fun i wr => ∃ k : Nat, k ≤ ps.length ∧ i = .int .i64 k ∧ Row w.heap.size 25 6 wr (.slice (some ⟨w.heap.size, 0, none⟩) ps.length ps.length) (mixed Prot.lst protZ ps k) ∧ Below w.heap.size w wr ∧ w.heap.size < wr.heap.size)
    (fun i _ => ps.length - (intOf i).toNat)
  case atStart => exact ⟨0, Nat.zero_le _, rfl, by rw [mixed_zero]; exact hrow1, hb1, hz1⟩
  case round =>
    obtain ⟨k, hkl, rfl, hrow, hb, hz⟩ := hrel
    by_cases hlt : k < ps.length
    · obtain ⟨b, off, rfl, hat⟩ := flat_at hk (by omega)
      have hr := rangeAt_below (hat k hlt) hb
      have hkm : k < (mixed Prot.lst protZ ps k).length := by rw [mixed_len hkl]; exact hlt
      go_wp2_with (first
        | (refine stProtLaws.load rfl _ rfl b (off + k * 6) rfl ps[k].lst rfl hr ?_)
        | (go_at_call 17; refine (toProtest_any ps[k] _).mono ?_; rintro e w2 ⟨rfl, hb2⟩; have hrow2 := hrow.below hb2)
        | (refine tyProt.store rfl _ _ rfl w.heap.size w.heap.size ps.length ps.length k _ _ ps[k].lst hrow2 hkm rfl rfl rfl rfl ps[k].one ?_; intro w3 hrow3 hg3))
      go_roundw
      case rel => exact ⟨k + 1, by omega, by go_num, by rw [← mixed_set Prot.lst protZ ps k hlt]; exact hrow3, (hb.trans (hb2.mono hb.size)).grown hg3 (Nat.le_trans hb.size hb2.size) (by simp), Nat.lt_of_lt_of_le hz (Nat.le_trans hb2.size hg3.size)⟩
      case measure => simp [intOf]; omega
    · go_wp2
      go_ret
      obtain rfl : k = ps.length := by omega
      rw [mixed_all] at hrow
      exact ⟨_, rfl, hrow, hb⟩

set_option maxHeartbeats 1000000 in
theorem eqProtest_refl (p : Prot) (w : World) :
    Calls Try.prog 65 #[p.val, p.val] w fun e w' => e = .returned (.bool true) ∧ Below w.heap.size w w' := by
  obtain ⟨n0, n1, n2, n3, n4, n5⟩ := p
  show Calls Try.prog 65 #[.agg #[.int .i64 n0, .int .i64 n1, .int .i64 n2, .int .i64 n3, .int .i64 n4, .int .i64 n5], .agg #[.int .i64 n0, .int .i64 n1, .int .i64 n2, .int .i64 n3, .int .i64 n4, .int .i64 n5]] w _
  go_enter Try.func65, Try.ntmps65
  go_wp2
  go_ret
  refine ⟨rfl, ?_⟩
  (repeat (first | exact Below.refl _ _ | assumption | refine Below.drew ?_ | refine Below.alloc ?_ (by first | exact Nat.le_refl _ | (simp; done) | (simp; omega)) _))

set_option maxHeartbeats 400000 in
theorem eqProtestS_refl (ps : List Prot) (v v' : Value) (w : World) (h : Sl (Flat Prot.lst) 6 w v ps) (h' : Sl (Flat Prot.lst) 6 w v' ps) :
    Calls Try.prog 23 #[v, v'] w fun e w' => e = .returned (.bool true) ∧ Below w.heap.size w w' := by
  obtain ⟨A, c, rfl, hc, hm, hk⟩ := h.open_
  obtain ⟨A', c', rfl, hc', hm', hk'⟩ := h'.open_
  go_enter Try.func23, Try.ntmps23
  go_wp2
  go_loopw [5] (fun i wr => ∃ k : Nat, k ≤ ps.length ∧ i = .int .i64 k ∧ Below w.heap.size w wr)
    (fun i _ => ps.length - (intOf i).toNat)
  case atStart => exact ⟨0, Nat.zero_le _, rfl, Below.refl _ _⟩
  case round =>
    obtain ⟨k, hkl, rfl, hb⟩ := hrel
    by_cases hlt : k < ps.length
    · obtain ⟨b, off, rfl, hat⟩ := flat_at hk (by omega)
      obtain ⟨b', off', rfl, hat'⟩ := flat_at hk' (by omega)
      have hr := rangeAt_below (hat k hlt) hb
      have hr' := rangeAt_below (hat' k hlt) hb
      clear hat hat' hk hk' h h'
      go_wp2
      refine region_after (by kernel_rfl) (by kernel_rfl) ?_
      repeat (any_goals (first | go_big_quiet_step (((go_at_call 65; exact Calls.after (v := .bool true) _ (eqProtest_refl ps[k] _)))) | (refine Prot.qloadImpl rfl _ rfl _ _ rfl ps[k] hr ?_) | (refine Prot.qloadImpl rfl _ rfl _ _ rfl ps[k] hr' ?_) | quiet_step (((go_at_call 65; exact Calls.after (v := .bool true) _ (eqProtest_refl ps[k] _))))))
      refine wpQuiet_nil ?_
      intro s
      go_wp2
      go_roundw
      case rel => exact ⟨k + 1, by omega, by go_num, step_ hb (Nat.le_refl _) s.hb⟩
      case measure => simp [intOf]; omega
    · go_wp2
      go_ret
      exact ⟨rfl, hb⟩

def protMark (k : Int) (i : Nat) : Prot := ⟨k + (6 * i + 0 : Nat), k + (6 * i + 1 : Nat), k + (6 * i + 2 : Nat), k + (6 * i + 3 : Nat), k + (6 * i + 4 : Nat), k + (6 * i + 5 : Nat)⟩
def protMarks (k : Int) (n : Nat) : List Prot := (List.range n).map (protMark k)
theorem protMarks_len (k : Int) (n : Nat) : (protMarks k n).length = n := by simp [protMarks]
theorem protMark_sets (l : List Value) (h : l.length = 6) (u0 u1 u2 u3 u4 u5 : Value) : (((((l.set 0 u0).set 1 u1).set 2 u2).set 3 u3).set 4 u4).set 5 u5 = [u0, u1, u2, u3, u4, u5] := by
  match l, h with
  | [_, _, _, _, _, _], _ => rfl

set_option maxHeartbeats 1000000 in
theorem markProtestS_any (base : Nat) (v : Value) (ys : List (List Value)) (k : Int) (w : World) (h : Row base 25 6 w v ys) (hl : ys.length ≤ 2147483648) (h0 : 0 ≤ k) (h1 : k ≤ 4611686018427387904) :
    Calls Try.prog 28 #[v, .int .i64 k] w fun e w' => e = .returned (.int .i64 (k + (6 * ys.length : Nat))) ∧ Row base 25 6 w' v ((protMarks k ys.length).map Prot.lst) ∧ w.grownBy w' v.ownBlock := by
  have hm0 : (protMarks k 0).map Prot.lst = [] := rfl
  by_cases hn : 0 < ys.length
  · obtain ⟨g, cap, rfl, hb, hgl, hcap⟩ := h.form hn
    have hcm : cap ≤ 9223372036854775807 := by
      rcases h.2.2 with ⟨h1, _⟩ | ⟨g', cap', cur, h1, _, _, _, hm, _⟩ <;> simp at h1
      simp only [maxLen] at hm; omega
    go_enter Try.func28, Try.ntmps28
    go_wp2
    go_loopw [1, 5] (fun kk i wr => ∃ j : Nat, j ≤ ys.length ∧ kk = .int .i64 (k + (6 * j : Nat)) ∧ i = .int .i64 j ∧ Row base 25 6 wr (.slice (some ⟨g, 0, none⟩) ys.length cap) (turned (fun i => (protMark k i).lst) ys j) ∧ w.grownBy wr (some g))
      (fun _ i _ => ys.length - (intOf i).toNat)
    case atStart => exact ⟨0, Nat.zero_le _, by simp, rfl, by rw [turned_zero]; exact h, World.grownBy.refl _ _⟩
    case round =>
      obtain ⟨j, hjl, rfl, rfl, hrow0, hgr⟩ := hrel
      by_cases hlt : j < ys.length
      · have hlt0 : j < (turned (fun i => (protMark k i).lst) ys j).length := by rw [turned_len hjl]; exact hlt
        go_wp2_with (first
        | (refine put1_ (e := 25) (sz := 6) rfl _ _ _ rfl infoInt base g ys.length cap j 0 _ _ _ hrow0 ?_ (by omega) rfl rfl rfl ?_; (simpa using hlt0); intro w1 hrow1 hg1)
        | (refine put1_ (e := 25) (sz := 6) rfl _ _ _ rfl infoInt base g ys.length cap j 1 _ _ _ hrow1 ?_ (by omega) rfl rfl rfl ?_; (simpa using hlt0); intro w2 hrow2 hg2)
        | (refine put1_ (e := 25) (sz := 6) rfl _ _ _ rfl infoInt base g ys.length cap j 2 _ _ _ hrow2 ?_ (by omega) rfl rfl rfl ?_; (simpa using hlt0); intro w3 hrow3 hg3)
        | (refine put1_ (e := 25) (sz := 6) rfl _ _ _ rfl infoInt base g ys.length cap j 3 _ _ _ hrow3 ?_ (by omega) rfl rfl rfl ?_; (simpa using hlt0); intro w4 hrow4 hg4)
        | (refine put1_ (e := 25) (sz := 6) rfl _ _ _ rfl infoInt base g ys.length cap j 4 _ _ _ hrow4 ?_ (by omega) rfl rfl rfl ?_; (simpa using hlt0); intro w5 hrow5 hg5)
        | (refine put1_ (e := 25) (sz := 6) rfl _ _ _ rfl infoInt base g ys.length cap j 5 _ _ _ hrow5 ?_ (by omega) rfl rfl rfl ?_; (simpa using hlt0); intro w6 hrow6 hg6))
        go_roundw
        case rel =>
          refine ⟨j + 1, by omega, by go_num, by go_num, ?_, (grown_trans (grown_trans (grown_trans (grown_trans (grown_trans (grown_trans hgr hg1) hg2) hg3) hg4) hg5) hg6)⟩
          rw [← turned_set _ ys j hlt]
          simp only [List.set_set, List.getElem_set_self] at hrow6
          rw [protMark_sets _ (hrow0.1 _ (List.getElem_mem _))] at hrow6
          refine Row.set_eq hrow6 ?_
          simp [protMark, Prot.lst]
          omega
        case measure => simp [intOf]; omega
      · go_wp2
        go_ret
        obtain rfl : j = ys.length := by omega
        rw [turned_all] at hrow0
        refine ⟨rfl, ?_, hgr⟩
        simpa [protMarks, Function.comp_def] using hrow0
  · have hy : ys = [] := List.eq_nil_of_length_eq_zero (by omega)
    subst hy
    obtain ⟨A, c, rfl⟩ : ∃ A c, v = .slice A 0 c := by
      rcases h.2.2 with ⟨h1, _⟩ | ⟨g', cap', cur, h1, _⟩
      · exact ⟨_, _, h1⟩
      · exact ⟨_, _, h1⟩
    go_enter Try.func28, Try.ntmps28
    go_wp2
    go_loop [1, 5] (fun kk i => kk = .int .i64 k ∧ i = .int .i64 0) (fun _ _ => 0)
    case atStart => exact ⟨rfl, rfl⟩
    case round =>
      obtain ⟨rfl, rfl⟩ := hrel
      go_wp2
      go_ret
      exact ⟨ret_int (by simp), by simpa using h, World.grownBy.refl _ _⟩

set_option maxHeartbeats 1000000 in
theorem heldProtestS_any (v : Value) (n : Nat) (k : Int) (w : World) (h : Sl (Flat Prot.lst) 6 w v (protMarks k n)) (hl : n ≤ 2147483648) (h0 : 0 ≤ k) (h1 : k ≤ 4611686018427387904) :
    Calls Try.prog 29 #[v, .int .i64 k] w fun e w' => e = .returned (.int .i64 (k + (6 * n : Nat))) ∧ w = w' := by
  obtain ⟨A, c, rfl, hc, hm, hk⟩ := h.open_
  have hlen := protMarks_len k n
  rw [hlen] at hc
  go_enter Try.func29, Try.ntmps29
  rw [hlen]
  go_wp2
  go_loop [1, 5] (fun kk i => ∃ j : Nat, j ≤ n ∧ kk = .int .i64 (k + (6 * j : Nat)) ∧ i = .int .i64 j)
    (fun _ i => n - (intOf i).toNat)
  case atStart => exact ⟨0, Nat.zero_le _, by simp, rfl⟩
  case round =>
    obtain ⟨j, hjl, rfl, rfl⟩ := hrel
    by_cases hlt : j < n
    · obtain ⟨b, off, rfl, hat⟩ := flat_at hk (by omega)
      have hcs := Prot.cells (hat j (by omega))
      have e1 : (protMarks k n)[j]'(by omega) = protMark k j := by simp [protMarks]
      rw [e1] at hcs
      simp only [protMark] at hcs
      clear hat hk h e1
      go_wp2
      go_round
      case rel => exact ⟨j + 1, by omega, by go_num, by go_num⟩
      case measure => simp [intOf]; omega
    · go_wp2
      go_ret
      obtain rfl : j = n := by omega
      exact ⟨rfl, rfl⟩

end Go.Proofs.Ytabihggfnofcbaa
