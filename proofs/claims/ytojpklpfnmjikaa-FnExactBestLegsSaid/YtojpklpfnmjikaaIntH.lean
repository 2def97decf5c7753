/- A raw slice of integers, as an argument. No condition. -/
import Derived.Test.YtojpklpfnmjikaaIntS
namespace Go.Proofs.Ytojpklpfnmjikaa
open Go Go.RowKit
theorem ints_of_holds {w : World} {v : Value} (h : Holds w (.sl 3 (.int .i64)) [v]) : ∃ xs : List Int, Sl (Flat ints) 1 w v xs ∧ ∀ x ∈ xs, I64 x :=
  flat_of_holds (sh := .int .i64) (fun cs h => by obtain ⟨n, rfl, hw⟩ := h; exact ⟨n, rfl, i64_of_wf hw⟩) h
theorem fitIntS : Fit Try.prog (.sl 3 (.int .i64)) (.inl 33) := ⟨Try.underlying33, by kernel_rfl, by decide, Try.underlying3⟩
end Go.Proofs.Ytojpklpfnmjikaa
