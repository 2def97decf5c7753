/- The walks of the law's own functions on slices of integers: equal, marked, held. No condition. -/
import Derived.Test.YtabgmbmaakglkaaProg
import Derived.Test.YtabgmbmaakglkaaSl
namespace Go.Proofs.Ytabgmbmaakglkaa
open Go Go.RowKit

theorem infoInt : (Try.prog.info? 3).map (·.size) = some 1 := by kernel_rfl
theorem tyInt : Ty Try.prog 22 3 (.int .i64 0) [.int .i64 0] 1 8 := ⟨Try.underlying22, by kernel_rfl, rfl, rfl, by decide, by decide⟩
/-- Two rows of which the one was there before the other's call began lie apart. -/
theorem apart_ {b1 b2 : Nat} {e1 e2 : TypeId} {s1 s2 : Nat} {w1 w2 : World} {v1 v2 : Value} {y1 y2 : List (List Value)} (h1 : Row b1 e1 s1 w1 v1 y1) (h2 : Row b2 e2 s2 w2 v2 y2) (hB : w1.heap.size ≤ b2) : v2.ownBlock = none ∨ v2.ownBlock ≠ v1.ownBlock := by
  cases hv2 : v2.ownBlock with
  | none => exact .inl rfl
  | some g2 =>
    right
    intro he
    have a := h2.lt g2 hv2
    have b := h1.lt g2 he.symm
    omega
theorem apart_' {b1 b2 : Nat} {e1 e2 : TypeId} {s1 s2 : Nat} {w1 w2 : World} {v1 v2 : Value} {y1 y2 : List (List Value)} (h1 : Row b1 e1 s1 w1 v1 y1) (h2 : Row b2 e2 s2 w2 v2 y2) (hB : w1.heap.size ≤ b2) : v1.ownBlock = none ∨ v1.ownBlock ≠ v2.ownBlock := by
  cases hv2 : v1.ownBlock with
  | none => exact .inl rfl
  | some g2 =>
    right
    intro he
    have a := h2.lt g2 he.symm
    have b := h1.lt g2 hv2
    omega
theorem ints_one (n : Int) : ∀ u ∈ ints n, u.oneCell' = true := by simp [ints, Value.oneCell']
theorem int_at {w : World} {b off : Nat} {n : Int} (h : w.rangeAt b off (ints n)) : w.cell? ⟨b, off, none⟩ = some (.int .i64 n) := h 0 _ rfl

set_option maxHeartbeats 400000 in
theorem eqIntS_refl (xs : List Int) (v v' : Value) (w : World) (h : Sl (Flat ints) 1 w v xs) (h' : Sl (Flat ints) 1 w v' xs) :
    Calls Try.prog 14 #[v, v'] w fun e w' => e = .returned (.bool true) ∧ Below w.heap.size w w' := by
  obtain ⟨A, c, rfl, hc, hm, hk⟩ := h.open_
  obtain ⟨A', c', rfl, hc', hm', hk'⟩ := h'.open_
  go_enter Try.func14, Try.ntmps14
  go_wp2
  go_loopw [5] (fun i wr => ∃ k : Nat, k ≤ xs.length ∧ i = .int .i64 k ∧ Below w.heap.size w wr)
    (fun i _ => xs.length - (intOf i).toNat)
  case atStart => exact ⟨0, Nat.zero_le _, rfl, Below.refl _ _⟩
  case round =>
    obtain ⟨k, hkl, rfl, hb⟩ := hrel
    by_cases hlt : k < xs.length
    · obtain ⟨b, off, rfl, hat⟩ := flat_at hk (by omega)
      obtain ⟨b', off', rfl, hat'⟩ := flat_at hk' (by omega)
      have hr := After.keep (int_at (rangeAt_below (hat k hlt) hb))
      have hr' := After.keep (int_at (rangeAt_below (hat' k hlt) hb))
      rw [Nat.mul_one] at hr hr'
      clear hat hat' hk hk' h h'
      go_wp2
      refine region_after (by kernel_rfl) (by kernel_rfl) ?_
      repeat (any_goals (first | go_big_quiet_step ((fail))  | quiet_step ((fail))))
      refine wpQuiet_nil ?_
      intro s
      go_wp2
      go_roundw
      case rel => exact ⟨k + 1, by omega, by go_num, step_ hb (Nat.le_refl _) s.hb⟩
      case measure => simp [intOf]; omega
    · go_wp2
      go_ret
      exact ⟨rfl, hb⟩

def intMark (k : Int) (i : Nat) : Int := k + (i : Nat)
def intMarks (k : Int) (n : Nat) : List Int := (List.range n).map (intMark k)
theorem intMarks_len (k : Int) (n : Nat) : (intMarks k n).length = n := by simp [intMarks]

set_option maxHeartbeats 1000000 in
theorem markIntS_any (base : Nat) (v : Value) (ys : List (List Value)) (k : Int) (w : World) (h : Row base 3 1 w v ys) (hl : ys.length ≤ 2147483648) (h0 : 0 ≤ k) (h1 : k ≤ 4611686018427387904) :
    Calls Try.prog 17 #[v, .int .i64 k] w fun e w' => e = .returned (.int .i64 (k + (1 * ys.length : Nat))) ∧ Row base 3 1 w' v ((intMarks k ys.length).map ints) ∧ w.grownBy w' v.ownBlock := by
  by_cases hn : 0 < ys.length
  · obtain ⟨g, cap, rfl, hb, hgl, hcap⟩ := h.form hn
    have hcm : cap ≤ 9223372036854775807 := by
      rcases h.2.2 with ⟨h1, _⟩ | ⟨g', cap', cur, h1, _, _, _, hm, _⟩ <;> simp at h1
      simp only [maxLen] at hm; omega
    go_enter Try.func17, Try.ntmps17
    go_wp2
    go_loopw [1, 5] (fun kk i wr => ∃ j : Nat, j ≤ ys.length ∧ kk = .int .i64 (k + (1 * j : Nat)) ∧ i = .int .i64 j ∧ Row base 3 1 wr (.slice (some ⟨g, 0, none⟩) ys.length cap) (turned (fun i => ints (intMark k i)) ys j) ∧ w.grownBy wr (some g))
      (fun _ i _ => ys.length - (intOf i).toNat)
    case atStart => exact ⟨0, Nat.zero_le _, by simp, rfl, by rw [turned_zero]; exact h, World.grownBy.refl _ _⟩
    case round =>
      obtain ⟨j, hjl, rfl, rfl, hrow0, hgr⟩ := hrel
      by_cases hlt : j < ys.length
      · have hlt0 : j < (turned (fun i => ints (intMark k i)) ys j).length := by rw [turned_len hjl]; exact hlt
        have hoff := Lib.hid (show j = j * 1 + 0 by omega)
        go_wp2_with (refine put1_ (e := 3) (sz := 1) rfl _ _ _ rfl infoInt base g ys.length cap j 0 _ _ _ hrow0 hlt0 (by omega) rfl hoff.out rfl ?_; intro w1 hrow1 hg1)
        go_roundw
        case rel =>
          refine ⟨j + 1, by omega, by go_num, by go_num, ?_, grown_trans hgr hg1⟩
          rw [← turned_set _ ys j hlt]
          refine Row.set_eq hrow1 ?_
          have hl1 := hrow0.1 _ (List.getElem_mem hlt0)
          obtain ⟨a, ha⟩ := List.length_eq_one_iff.1 hl1
          rw [ha]
          simp [intMark, ints]
        case measure => simp [intOf]; omega
      · go_wp2
        go_ret
        obtain rfl : j = ys.length := by omega
        rw [turned_all] at hrow0
        refine ⟨rfl, ?_, hgr⟩
        simpa [intMarks, Function.comp_def] using hrow0
  · have hy : ys = [] := List.eq_nil_of_length_eq_zero (by omega)
    subst hy
    obtain ⟨A, c, rfl⟩ : ∃ A c, v = .slice A 0 c := by
      rcases h.2.2 with ⟨h1, _⟩ | ⟨g', cap', cur, h1, _⟩
      · exact ⟨_, _, h1⟩
      · exact ⟨_, _, h1⟩
    go_enter Try.func17, Try.ntmps17
    go_wp2
    go_loop [1, 5] (fun kk i => kk = .int .i64 k ∧ i = .int .i64 0) (fun _ _ => 0)
    case atStart => exact ⟨rfl, rfl⟩
    case round =>
      obtain ⟨rfl, rfl⟩ := hrel
      go_wp2
      go_ret
      exact ⟨ret_int (by simp), by simpa [intMarks] using h, World.grownBy.refl _ _⟩

set_option maxHeartbeats 1000000 in
theorem heldIntS_any (v : Value) (n : Nat) (k : Int) (w : World) (h : Sl (Flat ints) 1 w v (intMarks k n)) (hl : n ≤ 2147483648) (h0 : 0 ≤ k) (h1 : k ≤ 4611686018427387904) :
    Calls Try.prog 18 #[v, .int .i64 k] w fun e w' => e = .returned (.int .i64 (k + (1 * n : Nat))) ∧ w = w' := by
  obtain ⟨A, c, rfl, hc, hm, hk⟩ := h.open_
  have hlen := intMarks_len k n
  rw [hlen] at hc
  go_enter Try.func18, Try.ntmps18
  rw [hlen]
  go_wp2
  go_loop [1, 5] (fun kk i => ∃ j : Nat, j ≤ n ∧ kk = .int .i64 (k + (1 * j : Nat)) ∧ i = .int .i64 j)
    (fun _ i => n - (intOf i).toNat)
  case atStart => exact ⟨0, Nat.zero_le _, by simp, rfl⟩
  case round =>
    obtain ⟨j, hjl, rfl, rfl⟩ := hrel
    by_cases hlt : j < n
    · obtain ⟨b, off, rfl, hat⟩ := flat_at hk (by omega)
      have hcs := int_at (hat j (by omega))
      have e1 : (intMarks k n)[j]'(by omega) = intMark k j := by simp [intMarks]
      rw [e1, Nat.mul_one] at hcs
      simp only [intMark] at hcs
      clear hat hk h e1
      go_wp2
      go_round
      case rel => exact ⟨j + 1, by omega, by go_num, by go_num⟩
      case measure => simp [intOf]; omega
    · go_wp2
      go_ret
      obtain rfl : j = n := by omega
      exact ⟨rfl, rfl⟩
end Go.Proofs.Ytabgmbmaakglkaa
