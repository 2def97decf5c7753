/- Lists of integers: searches, copies. No condition. -/
import Derived.Test.YtbeonigmcbipeaaIntE
import Derived.Test.YtbeonigmcbipeaaReg
namespace Go.Proofs.Ytbeonigmcbipeaa
open Go Go.RowKit

theorem idxA_int (xs : List Int) (n : Int) : decide (0 ≤ idxA (fun y => n == y) xs) = xs.any (fun y => n == y) := idxA_any _ _
/- A row's making by append onto nothing. -/
set_option maxHeartbeats 1000000 in
theorem copyInts_any (xs : List Int) (v : Value) (w : World) (h : Sl (Flat ints) 1 w v xs) (hn : xs.length ≤ 1048577) :
    Calls Try.prog 61 #[v] w fun e w' => ∃ r, e = .returned r ∧ Row w.heap.size 3 1 w' r (xs.map ints) ∧ Below w.heap.size w w' := by
  obtain ⟨A, c, rfl, hc, hm, hk⟩ := h.open_
  have HS := Lib.hid (Src.of_sl (h.below (Flat.keeps _) (below_alloc (Below.refl _ _) (.cells #[] 3))) (fun _ => rfl) (fun x => ints_one x))
  have HN := Lib.hid (show ([] : List (List Value)).length + xs.length ≤ 2147483648 by simp; omega)
  clear hk h
  go_enter Try.func61, Try.ntmps61
  go_wp2_with (at_builtin; refine tyInt.append rfl _ _ rfl w.heap.size (.slice (some ⟨w.heap.size, 0, none⟩) 0 0) [] rfl (Row.lit_nil w _ _ (Nat.le_refl _)) _ _ _ (xs.map ints) rfl HS.out HN.out (by simp) ?_; intro r w1 row1 hg1 _)
  go_ret
  exact ⟨_, rfl, by simpa using row1, (below_alloc (Below.refl _ _) _).grown hg1 (by simp) (fun q hq => by simp [Value.ownBlock] at hq; omega)⟩
set_option maxHeartbeats 1000000 in
theorem l1Own_any (xs : List Int) (v : Value) (w : World) (h : Sl (Flat ints) 1 w v xs) (hn : xs.length ≤ 1048577) :
    Calls Try.prog 60 #[v] w fun e w' => ∃ r, e = .returned r ∧ Row w.heap.size 3 1 w' r (xs.map ints) ∧ Below w.heap.size w w' := by
  obtain ⟨A, c, rfl, hc, hm, hk⟩ := h.open_
  have HS := Lib.hid (Src.of_sl (h.below (Flat.keeps _) (below_alloc (Below.refl _ _) (.cells #[] 3))) (fun _ => rfl) (fun x => ints_one x))
  have HN := Lib.hid (show ([] : List (List Value)).length + xs.length ≤ 2147483648 by simp; omega)
  clear hk h
  go_enter Try.func60, Try.ntmps60
  go_wp2_with (at_builtin; refine tyInt.append rfl _ _ rfl w.heap.size (.slice (some ⟨w.heap.size, 0, none⟩) 0 0) [] rfl (Row.lit_nil w _ _ (Nat.le_refl _)) _ _ _ (xs.map ints) rfl HS.out HN.out (by simp) ?_; intro r w1 row1 hg1 _)
  go_ret
  exact ⟨_, rfl, by simpa using row1, (below_alloc (Below.refl _ _) _).grown hg1 (by simp) (fun q hq => by simp [Value.ownBlock] at hq; omega)⟩
end Go.Proofs.Ytbeonigmcbipeaa
