/- Plain words and lemmas for the seat's walks: bounds tests, endings. No condition. -/
import Derived.WalkKit
import Derived.WalkLawsBesides
import Derived.WalkSpells
import Derived.Lib.Hide
namespace Go.Proofs.Ytabgmbmaakglkaa
open Go Go.RowKit

def inB (n lo hi : Int) : Bool := decide (lo ≤ n) && decide (n ≤ hi)
theorem ret_bool {a b : Bool} (h : a = b) : Ending.returned (.bool a) = .returned (.bool b) := by rw [h]
theorem ret_int {k : IntKind} {a b : Int} (h : a = b) : Ending.returned (.int k a) = .returned (.int k b) := by rw [h]
def szLeft (left : Int) (n : Nat) : Int := if left < n then -1 else left - n
theorem szLeft_big {left : Int} {n : Nat} (h : left < n) : szLeft left n = -1 := by unfold szLeft; rw [if_pos h]
theorem szLeft_fits {left : Int} {n : Nat} (h : n ≤ left) : szLeft left n = left - n := by unfold szLeft; rw [if_neg (by omega)]
theorem ret_val {a b : Value} (h : a = b) : Ending.returned a = .returned b := by rw [h]
theorem inB_true {n lo hi : Int} (h : lo ≤ n) (h' : n ≤ hi) : inB n lo hi = true := by simp [inB, h, h']
theorem inB_low {n lo hi : Int} (h : n < lo) : inB n lo hi = false := by simp [inB]; omega
theorem inB_iff {n lo hi : Int} : inB n lo hi = true ↔ lo ≤ n ∧ n ≤ hi := by simp [inB]

end Go.Proofs.Ytabgmbmaakglkaa
