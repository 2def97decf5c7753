/- The walks over protests: the copies of the law's arguments. No condition. -/
import Derived.Test.YtabihggfnofcbaaProtA
namespace Go.Proofs.Ytabihggfnofcbaa
open Go Go.RowKit

set_option maxHeartbeats 400000 in
theorem toProtest_any (p : Prot) (w : World) :
    Calls Try.prog 17 #[p.val] w fun e w' => e = .returned p.val ∧ Below w.heap.size w w' := by
  obtain ⟨a, b, c, d, s, v⟩ := p
  show Calls Try.prog 17 #[.agg #[.int .i64 a, .int .i64 b, .int .i64 c, .int .i64 d, .int .i64 s, .int .i64 v]] w _
  go_enter Try.func17, Try.ntmps17
  go_wp2
  refine bodyPost_ret (v := .agg #[.int .i64 a, .int .i64 b, .int .i64 c, .int .i64 d, .int .i64 s, .int .i64 v]) (by simp [results, Try.results17, go_sem]) rfl ⟨rfl, ?_⟩
  (repeat (first | exact Below.refl _ _ | assumption | refine Below.drew ?_ | refine Below.alloc ?_ (by first | exact Nat.le_refl _ | (simp; done) | (simp; omega)) _))

def szLeft (left : Int) (n : Nat) : Int := if left < n then -1 else left - n
theorem szProtestS_any (ps : List Prot) (v : Value) (left : Int) (w : World) (h : Sl (Flat Prot.lst) 6 w v ps) (hl : 0 ≤ left) (hl2 : left ≤ 9223372036854775807) :
    Calls Try.prog 19 #[v, .int .i64 left] w fun e w' => e = .returned (.int .i64 (szLeft left ps.length)) ∧ w = w' := by
  obtain ⟨A, c, rfl, hc, hm, _⟩ := h.open_
  go_enter Try.func19, Try.ntmps19
  go_wp2
  all_goals go_ret
  · exact ⟨ret_int (by unfold szLeft; rw [if_pos (by omega)]), rfl⟩
  · exact ⟨ret_int (by unfold szLeft; rw [if_neg (by omega)]), rfl⟩

set_option maxHeartbeats 400000 in
theorem toProtestS_any (ps : List Prot) (v : Value) (w : World) (h : Sl (Flat Prot.lst) 6 w v ps) (hn : ps.length ≤ 1048576) :
    Calls Try.prog 21 #[v] w fun e w' => ∃ v', e = .returned v' ∧ Row w.heap.size 25 6 w' v' (ps.map Prot.lst) ∧ Below w.heap.size w w' := by
  obtain ⟨A, c, rfl, hc, hm, hk⟩ := h.open_
  go_enter Try.func21, Try.ntmps21
  go_wp2_with (at_make; refine tyProt.make rfl _ _ rfl w.heap.size ps.length _ _ rfl rfl rfl rfl (by omega) (Nat.le_refl _) ?_; intro w1 hrow1 hb1 hz1)
  go_loopw [4] (fun i wr => ∃ k : Nat, k ≤ ps.length ∧ i = .int .i64 k ∧ Row w.heap.size 25 6 wr (.slice (some ⟨w.heap.size, 0, none⟩) ps.length ps.length) (mixed Prot.lst protZ ps k) ∧ Below w.heap.size w wr ∧ w.heap.size < wr.heap.size)
    (fun i _ => ps.length - (intOf i).toNat)
  case atStart => exact ⟨0, Nat.zero_le _, rfl, by rw [mixed_zero]; exact hrow1, hb1, hz1⟩
  case round =>
    obtain ⟨k, hkl, rfl, hrow, hb, hz⟩ := hrel
    by_cases hlt : k < ps.length
    · obtain ⟨b, off, rfl, hat⟩ := flat_at hk (by omega)
      have hr := rangeAt_below (hat k hlt) hb
      have hkm : k < (mixed Prot.lst protZ ps k).length := by rw [mixed_len hkl]; exact hlt
      go_wp2_with (first
        | (refine stProtLaws.load rfl _ rfl b (off + k * 6) rfl ps[k].lst rfl hr ?_)
        | (go_at_call 17; refine (toProtest_any ps[k] _).mono ?_; rintro e w2 ⟨rfl, hb2⟩; have hrow2 := hrow.below hb2)
        | (refine tyProt.store rfl _ _ rfl w.heap.size w.heap.size ps.length ps.length k _ _ ps[k].lst hrow2 hkm rfl rfl rfl rfl ps[k].one ?_; intro w3 hrow3 hg3))
      go_roundw
      case rel => exact ⟨k + 1, by omega, by go_num, by rw [← mixed_set Prot.lst protZ ps k hlt]; exact hrow3, (hb.trans (hb2.mono hb.size)).grown hg3 (Nat.le_trans hb.size hb2.size) (by simp), Nat.lt_of_lt_of_le hz (Nat.le_trans hb2.size hg3.size)⟩
      case measure => simp [intOf]; omega
    · go_wp2
      go_ret
      obtain rfl : k = ps.length := by omega
      rw [mixed_all] at hrow
      exact ⟨_, rfl, hrow, hb⟩
end Go.Proofs.Ytabihggfnofcbaa
