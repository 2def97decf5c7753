/- The walks of PendingProtests, of the program and of the reference. No condition. -/
import Derived.Test.YtabihggfnofcbaaPend
namespace Go.Proofs.Ytabihggfnofcbaa
open Go Go.RowKit

noncomputable def pendM (x : List Prot) : List Int := if good x = true then pend x else []
theorem pendM_true {x : List Prot} (h : good x = true) : pendM x = pend x := by simp [pendM, h]
theorem pendM_false {x : List Prot} (h : good x = false) : pendM x = [] := by simp [pendM, h]
theorem pendM_len (x : List Prot) : (pendM x).length ≤ 10 := by
  by_cases h : good x = true
  · rw [pendM_true h]; exact Nat.le_trans (pend_len x) (good_iff.1 h).2
  · rw [pendM_false (by simpa using h)]; simp

theorem spec_PendingProtests (x : List Prot) (v : Value) (w : World) (h : Sl (Flat Prot.lst) 6 w v x) (_ : ∀ p ∈ x, Prot.ok p) :
    Calls Try.prog 35 #[v] w fun e w' => ∃ r, e = .returned (.tuple #[r, .bool (good x)]) ∧ Row w.heap.size 3 1 w' r ((pendM x).map ints) ∧ Below w.heap.size w w' := by
  by_cases hg : good x = true
  · have hn := (good_iff.1 hg).2
    rw [pendM_true hg, hg]
    go_enter Try.func35, Try.ntmps35
    go_wp2_with (first
      | (go_at_call 64; refine (l22Good_any x v _ h).mono ?_; rintro e w1 ⟨rfl, hb1⟩)
      | (go_at_call 67; refine (l22Pending_any x v _ (h.below (Flat.keeps _) hb1) (by omega)).mono ?_; rintro e w2 ⟨r, rfl, hrow, hb2⟩))
    go_ret2
    exact ⟨r, rfl, hrow.mono hb1.size, step_ hb1 (Nat.le_refl _) hb2⟩
  · have hg' : good x = false := by simpa using hg
    rw [pendM_false hg', hg']
    clear hg
    go_enter Try.func35, Try.ntmps35
    go_wp2_with (go_at_call 64; refine (l22Good_any x v _ h).mono ?_; rintro e w1 ⟨rfl, hb1⟩)
    go_ret2
    exact ⟨_, rfl, Row.lit_nil w1 _ _ hb1.size, hb1.alloc hb1.size _⟩

theorem impl_PendingProtests (x : List Prot) (v : Value) (w : World) (h : Sl (Flat Prot.lst) 6 w v x) (_ : ∀ p ∈ x, Prot.ok p) :
    Calls Try.prog 36 #[v] w fun e w' => ∃ r, e = .returned (.tuple #[r, .bool (good x)]) ∧ Row w.heap.size 3 1 w' r ((pendM x).map ints) ∧ Below w.heap.size w w' := by
  by_cases hg : good x = true
  · have hn := (good_iff.1 hg).2
    rw [pendM_true hg, hg]
    go_enter Try.func36, Try.ntmps36
    go_wp2_with (first
      | (go_at_call 22; refine (areProtests_any x v _ h).mono ?_; rintro e w1 ⟨rfl, hb1⟩)
      | (go_at_call 69; refine (pendingProtests_any x v _ (h.below (Flat.keeps _) hb1) (by omega)).mono ?_; rintro e w2 ⟨r, rfl, hrow, hb2⟩))
    go_ret2
    exact ⟨r, rfl, hrow.mono hb1.size, step_ hb1 (Nat.le_refl _) hb2⟩
  · have hg' : good x = false := by simpa using hg
    rw [pendM_false hg', hg']
    clear hg
    go_enter Try.func36, Try.ntmps36
    go_wp2_with (go_at_call 22; refine (areProtests_any x v _ h).mono ?_; rintro e w1 ⟨rfl, hb1⟩)
    go_ret2
    exact ⟨_, rfl, Row.nil _ _ _ _, hb1⟩
end Go.Proofs.Ytabihggfnofcbaa
