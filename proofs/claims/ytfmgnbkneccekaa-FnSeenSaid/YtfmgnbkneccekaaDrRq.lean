/- Plain facts on drawn races. -/
import Derived.Test.YtfmgnbkneccekaaDrRs
import Derived.Test.YtfmgnbkneccekaaRcH
namespace Go.Proofs.Ytfmgnbkneccekaa
open Go Go.RowKit

theorem newV_good {n : Int} (h0 : 1 ≤ n) (h1 : n ≤ 8) : GoodRace (newV n) := by
  have hb : inB n 1 8 = true := by simp [inB]; omega
  have hf : (newV n).field = List.replicate n.toNat zeroEntK := by simp [newV, hb]
  refine ⟨rfl, ?_, fun i hi => ?_⟩
  · rw [hf, List.length_replicate, Int.toNat_of_nonneg (by omega)]; exact hb
  · have hk : (newV n).field[i] = zeroEntK := by simp [hf]
    rw [hk]
    rfl
end Go.Proofs.Ytfmgnbkneccekaa
