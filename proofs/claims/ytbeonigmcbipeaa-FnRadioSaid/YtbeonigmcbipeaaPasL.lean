/- The law's own copies, sizes and comparisons of passings. No condition. -/
import Derived.Test.YtbeonigmcbipeaaPas
namespace Go.Proofs.Ytbeonigmcbipeaa
open Go Go.RowKit

theorem szPassing_any (p : Pas) (left : Int) (w : World) (h : p.In w) (hl : 0 ≤ left) (hl2 : left ≤ 1048576) :
    Calls Try.prog 50 #[p.val, .int .i64 left] w fun e w' => e = .returned (.int .i64 (szLeft left p.k.splits.length)) ∧ Below w.heap.size w w' := by
  obtain ⟨⟨r, sp⟩, A, n, c⟩ := p
  have hs : Sl (Flat ints) 1 w (.slice A n c) sp := h
  show Calls Try.prog 50 #[.agg #[.int .i64 r, .slice A n c], .int .i64 left] w _
  obtain ⟨q, hq⟩ : ∃ q, szLeft left sp.length = q := ⟨_, rfl⟩
  have hsz := fun W (hW : Below w.heap.size w W) => szIntS_any sp (.slice A n c) left W (hs.below (Flat.keeps _) hW) hl (by omega)
  try simp only at hq
  rw [hq] at hsz
  show Calls Try.prog 50 #[.agg #[.int .i64 r, .slice A n c], .int .i64 left] w fun e w' => e = .returned (.int .i64 (szLeft left sp.length)) ∧ Below w.heap.size w w'
  rw [hq]
  have hq1 : -1 ≤ q := by rw [← hq]; unfold szLeft; split <;> omega
  clear hq hs h
  go_enter Try.func50, Try.ntmps50
  go_wp2_with (go_at_call 74; refine (hsz _ (by (repeat (first | exact Below.refl _ _ | assumption | refine Below.drew ?_ | refine Below.alloc ?_ (by first | exact Nat.le_refl _ | (simp; done) | (simp; omega)) _)))).mono ?_; rintro e w' ⟨rfl, rfl⟩)
  all_goals go_ret
  · refine ⟨ret_int (by omega), by (repeat (first | exact Below.refl _ _ | assumption | refine Below.drew ?_ | refine Below.alloc ?_ (by first | exact Nat.le_refl _ | (simp; done) | (simp; omega)) _))⟩
  · refine ⟨rfl, by (repeat (first | exact Below.refl _ _ | assumption | refine Below.drew ?_ | refine Below.alloc ?_ (by first | exact Nat.le_refl _ | (simp; done) | (simp; omega)) _))⟩

set_option maxHeartbeats 1000000 in
/-- The size: where it fits, every length is small. -/
theorem szPassingS_any (xs : List Pas) (v : Value) (left : Int) (w : World) (h : PasS w v xs) (hl : 0 ≤ left) (hl2 : left ≤ 1048576) :
    Calls Try.prog 14 #[v, .int .i64 left] w fun e w' => ∃ q : Int, e = .returned (.int .i64 q) ∧ Hid (0 ≤ q → xs.length ≤ 1048576 ∧ ∀ p ∈ xs, p.k.splits.length ≤ 1048576) ∧ q ≤ 1048576 ∧ Below w.heap.size w w' := by
  have HI := Lib.hid h.2
  obtain ⟨A, c, rfl, hc, hm, hk⟩ := h.1.open_
  clear h
  by_cases hbig : left < xs.length
  · have hx : (left : Int) - (xs.length : Int) < 0 := by omega
    go_enter Try.func14, Try.ntmps14
    go_wp2
    go_ret
    exact ⟨-1, rfl, fun h => absurd h (by omega), by omega, Below.refl _ _⟩
  have hx : ¬ (left : Int) - (xs.length : Int) < 0 := by omega
  go_enter Try.func14, Try.ntmps14
  go_wp2
  go_loopw [1, 5] (fun l i wr => ∃ (k : Nat) (q : Int), k ≤ xs.length ∧ i = .int .i64 k ∧ l = .int .i64 q ∧ 0 ≤ q ∧ q ≤ 1048576 ∧ Hid (∀ j (h : j < xs.length), j < k → xs[j].k.splits.length ≤ 1048576) ∧ Below w.heap.size w wr)
    (fun _ i _ => xs.length - (intOf i).toNat)
  case atStart => exact ⟨0, left - xs.length, Nat.zero_le _, rfl, rfl, by omega, by omega, fun j h hj => absurd hj (by omega), Below.refl _ _⟩
  case round =>
    obtain ⟨k, q, hkl, rfl, rfl, hq0, hq1, HS, hb⟩ := hrel
    by_cases hlt : k < xs.length
    · obtain ⟨b, off, rfl, hat⟩ := flat_at hk (by omega)
      have hr := rangeAt_below (hat k hlt) hb
      have hin := (HI.out _ (List.getElem_mem hlt)).below hb
      have hcall := szPassing_any xs[k] q wr hin hq0 hq1
      obtain ⟨r, hr1⟩ : ∃ r, szLeft q xs[k].k.splits.length = r := ⟨_, rfl⟩
      rw [hr1] at hcall
      have HR := Lib.hid hr1
      clear hat hk hin hr1
      go_wp2_with (first
        | ((with_reducible refine at_load_ 53 ?_); refine Pas.loadLaws rfl _ rfl b (off + k * 2) rfl xs[k] hr ?_)
        | (go_at_call 50; refine hcall.mono ?_; rintro e w2 ⟨rfl, hb2⟩))
      all_goals have hB := step_ hb (Nat.le_refl _) hb2
      · go_ret
        exact ⟨-1, rfl, fun h => absurd h (by omega), by omega, hB⟩
      · have hr0 : 0 ≤ r := by omega
        have hrq : r = q - xs[k].k.splits.length ∧ (xs[k].k.splits.length : Int) ≤ q := by
          have := HR.out
          unfold szLeft at this
          split at this <;> omega
        go_roundw
        case rel => exact ⟨k + 1, r, by omega, by go_num, rfl, hr0, by omega, fun j h hj => by
          by_cases e : j < k
          · exact HS.out j h e
          · obtain rfl : j = k := by omega
            omega, hB⟩
        case measure => simp [intOf]; omega
    · go_wp2
      go_ret
      obtain rfl : k = xs.length := by omega
      exact ⟨q, rfl, fun _ => ⟨by omega, fun p hp => by
        obtain ⟨j, hj, rfl⟩ := List.getElem_of_mem hp
        exact HS.out j hj hj⟩, by omega, hb⟩

/-- A copy of a passing: it means the same, and its splits are a row of the call's own. -/
def Pas.Row (base : Nat) (w : World) (p : Pas) : Prop := Go.Proofs.Ytbeonigmcbipeaa.Row base 3 1 w p.sv (p.k.splits.map ints)
end Go.Proofs.Ytbeonigmcbipeaa
