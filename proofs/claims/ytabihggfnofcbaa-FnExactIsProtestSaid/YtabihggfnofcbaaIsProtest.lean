/- The law FnExactIsProtest returns true for every protest. No condition. -/
import Derived.Test.YtabihggfnofcbaaProtB
namespace Go.Proofs.Ytabihggfnofcbaa
open Go Go.RowKit

set_option maxHeartbeats 400000 in
theorem fnExactIsProtest_walk (p : Prot) (w : World) (_ : p.ok) :
    Calls Try.prog 3 #[p.val] w fun e w' => e = .returned (.bool true) ∧ Below w.heap.size w w' := by
  have HE := Lib.hid (one_eq p)
  go_enter Try.func3, Try.ntmps3
  go_wp2_with (refine stProtLaws.load rfl _ rfl _ _ rfl p.lst rfl (rangeAt_new _ _ _) ?_)
  have hr0 := rangeAt_new w p.lst 23
  have hB0 : Below w.heap.size w (w.alloc (.cells p.lst.toArray 23)) := by (repeat (first | exact Below.refl _ _ | assumption | refine Below.drew ?_ | refine Below.alloc ?_ (by first | exact Nat.le_refl _ | (simp; done) | (simp; omega)) _))
  generalize w.alloc (.cells p.lst.toArray 23) = W0 at hr0 hB0 ⊢
  refine (toProtest_any p _).mono ?_
  rintro e w1 ⟨rfl, hb1⟩
  go_wp2_with fail
  refine (specIsProtest_any p _).mono ?_
  rintro e w2 ⟨rfl, hb2⟩
  rw [← HE.out]
  have hr2 := rangeAt_below (rangeAt_below hr0 hb1) hb2
  go_wp2_with (refine stProtLaws.load rfl _ rfl _ _ rfl p.lst rfl hr2 ?_)
  refine (toProtest_any p _).mono ?_
  rintro e w3 ⟨rfl, hb3⟩
  go_wp2_with fail
  refine (isProtest_any p _).mono ?_
  rintro e w4 ⟨rfl, hb4⟩
  go_wp2_with fail
  go_ret
  exact ⟨rfl, step_ (step_ (step_ (step_ hB0 (Nat.le_refl _) hb1) (Nat.le_refl _) hb2) (Nat.le_refl _) hb3) (Nat.le_refl _) hb4⟩
end Go.Proofs.Ytabihggfnofcbaa
