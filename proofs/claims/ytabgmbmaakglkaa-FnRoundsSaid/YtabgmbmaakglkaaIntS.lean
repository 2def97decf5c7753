/- The law's own copies and sizes of slices of integers. No condition. -/
import Derived.Test.YtabgmbmaakglkaaInts
namespace Go.Proofs.Ytabgmbmaakglkaa
open Go Go.RowKit

/-- A guard: the operation is a load of this type. -/
theorem at_load_ (t : TypeId) {P : Program} {ops : Array Oper} {Q : Exit → Act → World → Prop} {d : Option Tmp} {x : Operand} {ty : TypeId} {pos : String} {af : Array Edge} {g : Option (Nat × Bool)} {rest : List Oper} {a : Act} {w : World}
    (h : wpList P ops Q (⟨d, .load t x, ty, pos, af, g⟩ :: rest) a w) : wpList P ops Q (⟨d, .load t x, ty, pos, af, g⟩ :: rest) a w := h
theorem szIntS_any (ps : List Int) (v : Value) (left : Int) (w : World) (h : Sl (Flat ints) 1 w v ps) (hl : 0 ≤ left) (hl2 : left ≤ 9223372036854775807) :
    Calls Try.prog 50 #[v, .int .i64 left] w fun e w' => e = .returned (.int .i64 (szLeft left ps.length)) ∧ w = w' := by
  obtain ⟨A, c, rfl, hc, hm, _⟩ := h.open_
  go_enter Try.func50, Try.ntmps50
  go_wp2
  all_goals go_ret
  · exact ⟨ret_int (by unfold szLeft; rw [if_pos (by omega)]), rfl⟩
  · exact ⟨ret_int (by unfold szLeft; rw [if_neg (by omega)]), rfl⟩

set_option maxHeartbeats 400000 in
theorem toIntS_any (ps : List Int) (v : Value) (w : World) (h : Sl (Flat ints) 1 w v ps) (hn : ps.length ≤ 1048576) :
    Calls Try.prog 53 #[v] w fun e w' => ∃ v', e = .returned v' ∧ Row w.heap.size 3 1 w' v' (ps.map ints) ∧ Below w.heap.size w w' := by
  obtain ⟨A, c, rfl, hc, hm, hk⟩ := h.open_
  go_enter Try.func53, Try.ntmps53
  go_wp2_with (at_make; refine tyInt.make rfl _ _ rfl w.heap.size ps.length _ _ rfl rfl rfl rfl (by omega) (Nat.le_refl _) ?_; intro w1 hrow1 hb1 hz1)
  go_loopw [4] (fun i wr => ∃ k : Nat, k ≤ ps.length ∧ i = .int .i64 k ∧ Row w.heap.size 3 1 wr (.slice (some ⟨w.heap.size, 0, none⟩) ps.length ps.length) (mixed ints [.int .i64 0] ps k) ∧ Below w.heap.size w wr ∧ w.heap.size < wr.heap.size)
    (fun i _ => ps.length - (intOf i).toNat)
  case atStart => exact ⟨0, Nat.zero_le _, rfl, by rw [mixed_zero]; exact hrow1, hb1, hz1⟩
  case round =>
    obtain ⟨k, hkl, rfl, hrow, hb, hz⟩ := hrel
    by_cases hlt : k < ps.length
    · obtain ⟨b, off, rfl, hat⟩ := flat_at hk (by omega)
      have hr := int_at (rangeAt_below (hat k hlt) hb)
      rw [Nat.mul_one] at hr
      have hkm : k < (mixed ints [.int .i64 0] ps k).length := by rw [mixed_len hkl]; exact hlt
      clear hat hk h
      go_wp2_with (refine put1_ (e := 3) (sz := 1) rfl _ _ _ rfl infoInt w.heap.size w.heap.size ps.length ps.length k 0 _ _ _ hrow hkm (by omega) rfl (by omega) rfl ?_; intro w3 hrow3 hg3)
      go_roundw
      case rel => exact ⟨k + 1, by omega, by go_num, by
        rw [← mixed_set ints [.int .i64 0] ps k hlt]
        refine Row.set_eq hrow3 ?_
        obtain ⟨a, ha⟩ := List.length_eq_one_iff.1 (hrow.1 _ (List.getElem_mem hkm))
        rw [ha]; rfl, hb.grown hg3 hb.size (by simp), Nat.lt_of_lt_of_le hz hg3.size⟩
      case measure => simp [intOf]; omega
    · go_wp2
      go_ret
      obtain rfl : k = ps.length := by omega
      rw [mixed_all] at hrow
      exact ⟨_, rfl, hrow, hb⟩
end Go.Proofs.Ytabgmbmaakglkaa
