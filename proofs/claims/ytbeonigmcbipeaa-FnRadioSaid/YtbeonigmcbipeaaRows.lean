/-
  No cell of these rows narrows 'for every input' (looked for: loops, veiled, ifaces, maps, wideKeys, modest, calm, conditions, laid).
  DERIVED. THE GIVEN ROWS OF THIS SEAT. 11 by the template 'for every input the law returns true; each argument reads behind the call as it read before'; 0 by the template 'total and deterministic' (their statements: YtbeonigmcbipeaaTotals.lean).
  GIVEN WITH THE SEED: the statements are not yours to turn. If you find one false, say at which input.
  Laid BY PROGRAM, IN A SANDBOX (cutbox-rows.mjs): the forced cells as the released guide's own fill.sh prints them over the translation 3f5e98dfcc127527… (all of the seat's roots in one cut). By AI agents, Wed Nov 11 2026. No macro, syntax, notation, axiom, sorry.
-/
import Derived.Test.YtbeonigmcbipeaaChecked
import GoSem.Claim
import GoSem.ClaimJoined
import GoSem.ClaimMapViews
import Derived.JoinedTies
import Derived.KernelRfl
namespace Go.Proofs.Ytbeonigmcbipeaa
/- THE CELL 'sum', in the pinned program and in every row, IS THE sha256 OF THE DUMP (.gsa) THAT YtbeonigmcbipeaaProg.lean LOADS. Nothing in Lean hashes anything: it is a label: what it is worth is what the hold of that sum in a sandbox is worth. -/
noncomputable def Try.pinned : Pinned := { name := "ytbeonigmcbipeaa", sum := "3f5e98dfcc127527d84cc739a685d7ab180966016123419572034691297a68e0", checked := Try.checked }
namespace Rows
def none {H : Type} : Left H := { results := [], args := [] }

/-- 'laws.FnExactArePassings': WHATEVER THE INPUT: true; the input reads as it did. -/
def fnExactArePassingsSpec : ChangeSpec := { name := "fnExactArePassings", fn := fun _ => fun
  | [d] => { results := [.lit (.bool true)], args := [d] }
  | _ => none }
def fnExactArePassingsRow : OpenClaim := { program := "ytbeonigmcbipeaa", sum := "3f5e98dfcc127527d84cc739a685d7ab180966016123419572034691297a68e0", func := "loop.example/g00938/laws.FnExactArePassings", spec := "fnExactArePassings", apart := false }
def FnExactArePassingsSaid : Prop := fnExactArePassingsRow.holds Try.pinned (OpenSpec.ofChange fnExactArePassingsSpec)

/-- ITS FALSE NEIGHBOUR: 'it returns false'. Refute it at one input. -/
def fnExactArePassingsWrong : ChangeSpec := { name := "fnExactArePassings", fn := fun _ => fun
  | [d] => { results := [.lit (.bool false)], args := [d] }
  | _ => none }
def FnExactArePassingsWrongFalsely : Prop := fnExactArePassingsRow.holds Try.pinned (OpenSpec.ofChange fnExactArePassingsWrong)

/-- 'laws.FnExactRankAt': WHATEVER THE INPUT: true; the input reads as it did. -/
def fnExactRankAtSpec : ChangeSpec := { name := "fnExactRankAt", fn := fun _ => fun
  | [d1, d2, d3] => { results := [.lit (.bool true)], args := [d1, d2, d3] }
  | _ => none }
def fnExactRankAtRow : OpenClaim := { program := "ytbeonigmcbipeaa", sum := "3f5e98dfcc127527d84cc739a685d7ab180966016123419572034691297a68e0", func := "loop.example/g00938/laws.FnExactRankAt", spec := "fnExactRankAt", unfollowed := true, recurses := true, apart := false }
def FnExactRankAtSaid : Prop := fnExactRankAtRow.holds Try.pinned (OpenSpec.ofChange fnExactRankAtSpec)

/-- ITS FALSE NEIGHBOUR: 'it returns false'. Refute it at one input. -/
def fnExactRankAtWrong : ChangeSpec := { name := "fnExactRankAt", fn := fun _ => fun
  | [d1, d2, d3] => { results := [.lit (.bool false)], args := [d1, d2, d3] }
  | _ => none }
def FnExactRankAtWrongFalsely : Prop := fnExactRankAtRow.holds Try.pinned (OpenSpec.ofChange fnExactRankAtWrong)

/-- 'laws.FnExactAddSplit': WHATEVER THE INPUT: true; the input reads as it did. -/
def fnExactAddSplitSpec : ChangeSpec := { name := "fnExactAddSplit", fn := fun _ => fun
  | [d1, d2, d3] => { results := [.lit (.bool true)], args := [d1, d2, d3] }
  | _ => none }
def fnExactAddSplitRow : OpenClaim := { program := "ytbeonigmcbipeaa", sum := "3f5e98dfcc127527d84cc739a685d7ab180966016123419572034691297a68e0", func := "loop.example/g00938/laws.FnExactAddSplit", spec := "fnExactAddSplit", unfollowed := true, recurses := true, apart := false }
def FnExactAddSplitSaid : Prop := fnExactAddSplitRow.holds Try.pinned (OpenSpec.ofChange fnExactAddSplitSpec)

/-- ITS FALSE NEIGHBOUR: 'it returns false'. Refute it at one input. -/
def fnExactAddSplitWrong : ChangeSpec := { name := "fnExactAddSplit", fn := fun _ => fun
  | [d1, d2, d3] => { results := [.lit (.bool false)], args := [d1, d2, d3] }
  | _ => none }
def FnExactAddSplitWrongFalsely : Prop := fnExactAddSplitRow.holds Try.pinned (OpenSpec.ofChange fnExactAddSplitWrong)

/-- 'laws.FnExactLeaderAt': WHATEVER THE INPUT: true; the input reads as it did. -/
def fnExactLeaderAtSpec : ChangeSpec := { name := "fnExactLeaderAt", fn := fun _ => fun
  | [d1, d2] => { results := [.lit (.bool true)], args := [d1, d2] }
  | _ => none }
def fnExactLeaderAtRow : OpenClaim := { program := "ytbeonigmcbipeaa", sum := "3f5e98dfcc127527d84cc739a685d7ab180966016123419572034691297a68e0", func := "loop.example/g00938/laws.FnExactLeaderAt", spec := "fnExactLeaderAt", unfollowed := true, recurses := true, apart := false }
def FnExactLeaderAtSaid : Prop := fnExactLeaderAtRow.holds Try.pinned (OpenSpec.ofChange fnExactLeaderAtSpec)

/-- ITS FALSE NEIGHBOUR: 'it returns false'. Refute it at one input. -/
def fnExactLeaderAtWrong : ChangeSpec := { name := "fnExactLeaderAt", fn := fun _ => fun
  | [d1, d2] => { results := [.lit (.bool false)], args := [d1, d2] }
  | _ => none }
def FnExactLeaderAtWrongFalsely : Prop := fnExactLeaderAtRow.holds Try.pinned (OpenSpec.ofChange fnExactLeaderAtWrong)

/-- 'laws.FnExactForecast': WHATEVER THE INPUT: true; the input reads as it did. -/
def fnExactForecastSpec : ChangeSpec := { name := "fnExactForecast", fn := fun _ => fun
  | [d1, d2, d3] => { results := [.lit (.bool true)], args := [d1, d2, d3] }
  | _ => none }
def fnExactForecastRow : OpenClaim := { program := "ytbeonigmcbipeaa", sum := "3f5e98dfcc127527d84cc739a685d7ab180966016123419572034691297a68e0", func := "loop.example/g00938/laws.FnExactForecast", spec := "fnExactForecast", unfollowed := true, recurses := true, apart := false }
def FnExactForecastSaid : Prop := fnExactForecastRow.holds Try.pinned (OpenSpec.ofChange fnExactForecastSpec)

/-- ITS FALSE NEIGHBOUR: 'it returns false'. Refute it at one input. -/
def fnExactForecastWrong : ChangeSpec := { name := "fnExactForecast", fn := fun _ => fun
  | [d1, d2, d3] => { results := [.lit (.bool false)], args := [d1, d2, d3] }
  | _ => none }
def FnExactForecastWrongFalsely : Prop := fnExactForecastRow.holds Try.pinned (OpenSpec.ofChange fnExactForecastWrong)

/-- 'laws.FnExactOrderAt': WHATEVER THE INPUT: true; the input reads as it did. -/
def fnExactOrderAtSpec : ChangeSpec := { name := "fnExactOrderAt", fn := fun _ => fun
  | [d1, d2] => { results := [.lit (.bool true)], args := [d1, d2] }
  | _ => none }
def fnExactOrderAtRow : OpenClaim := { program := "ytbeonigmcbipeaa", sum := "3f5e98dfcc127527d84cc739a685d7ab180966016123419572034691297a68e0", func := "loop.example/g00938/laws.FnExactOrderAt", spec := "fnExactOrderAt", unfollowed := true, recurses := true, apart := false }
def FnExactOrderAtSaid : Prop := fnExactOrderAtRow.holds Try.pinned (OpenSpec.ofChange fnExactOrderAtSpec)

/-- ITS FALSE NEIGHBOUR: 'it returns false'. Refute it at one input. -/
def fnExactOrderAtWrong : ChangeSpec := { name := "fnExactOrderAt", fn := fun _ => fun
  | [d1, d2] => { results := [.lit (.bool false)], args := [d1, d2] }
  | _ => none }
def FnExactOrderAtWrongFalsely : Prop := fnExactOrderAtRow.holds Try.pinned (OpenSpec.ofChange fnExactOrderAtWrong)

/-- 'laws.FnExactLegOrder': WHATEVER THE INPUT: true; the input reads as it did. -/
def fnExactLegOrderSpec : ChangeSpec := { name := "fnExactLegOrder", fn := fun _ => fun
  | [d1, d2] => { results := [.lit (.bool true)], args := [d1, d2] }
  | _ => none }
def fnExactLegOrderRow : OpenClaim := { program := "ytbeonigmcbipeaa", sum := "3f5e98dfcc127527d84cc739a685d7ab180966016123419572034691297a68e0", func := "loop.example/g00938/laws.FnExactLegOrder", spec := "fnExactLegOrder", unfollowed := true, recurses := true, apart := false }
def FnExactLegOrderSaid : Prop := fnExactLegOrderRow.holds Try.pinned (OpenSpec.ofChange fnExactLegOrderSpec)

/-- ITS FALSE NEIGHBOUR: 'it returns false'. Refute it at one input. -/
def fnExactLegOrderWrong : ChangeSpec := { name := "fnExactLegOrder", fn := fun _ => fun
  | [d1, d2] => { results := [.lit (.bool false)], args := [d1, d2] }
  | _ => none }
def FnExactLegOrderWrongFalsely : Prop := fnExactLegOrderRow.holds Try.pinned (OpenSpec.ofChange fnExactLegOrderWrong)

/-- 'laws.FnExactExpectedRank': WHATEVER THE INPUT: true; the input reads as it did. -/
def fnExactExpectedRankSpec : ChangeSpec := { name := "fnExactExpectedRank", fn := fun _ => fun
  | [d1, d2, d3] => { results := [.lit (.bool true)], args := [d1, d2, d3] }
  | _ => none }
def fnExactExpectedRankRow : OpenClaim := { program := "ytbeonigmcbipeaa", sum := "3f5e98dfcc127527d84cc739a685d7ab180966016123419572034691297a68e0", func := "loop.example/g00938/laws.FnExactExpectedRank", spec := "fnExactExpectedRank", unfollowed := true, recurses := true, apart := false }
def FnExactExpectedRankSaid : Prop := fnExactExpectedRankRow.holds Try.pinned (OpenSpec.ofChange fnExactExpectedRankSpec)

/-- ITS FALSE NEIGHBOUR: 'it returns false'. Refute it at one input. -/
def fnExactExpectedRankWrong : ChangeSpec := { name := "fnExactExpectedRank", fn := fun _ => fun
  | [d1, d2, d3] => { results := [.lit (.bool false)], args := [d1, d2, d3] }
  | _ => none }
def FnExactExpectedRankWrongFalsely : Prop := fnExactExpectedRankRow.holds Try.pinned (OpenSpec.ofChange fnExactExpectedRankWrong)

/-- 'laws.FnExactNotYetAt': WHATEVER THE INPUT: true; the input reads as it did. -/
def fnExactNotYetAtSpec : ChangeSpec := { name := "fnExactNotYetAt", fn := fun _ => fun
  | [d1, d2, d3] => { results := [.lit (.bool true)], args := [d1, d2, d3] }
  | _ => none }
def fnExactNotYetAtRow : OpenClaim := { program := "ytbeonigmcbipeaa", sum := "3f5e98dfcc127527d84cc739a685d7ab180966016123419572034691297a68e0", func := "loop.example/g00938/laws.FnExactNotYetAt", spec := "fnExactNotYetAt", unfollowed := true, recurses := true, apart := false }
def FnExactNotYetAtSaid : Prop := fnExactNotYetAtRow.holds Try.pinned (OpenSpec.ofChange fnExactNotYetAtSpec)

/-- ITS FALSE NEIGHBOUR: 'it returns false'. Refute it at one input. -/
def fnExactNotYetAtWrong : ChangeSpec := { name := "fnExactNotYetAt", fn := fun _ => fun
  | [d1, d2, d3] => { results := [.lit (.bool false)], args := [d1, d2, d3] }
  | _ => none }
def FnExactNotYetAtWrongFalsely : Prop := fnExactNotYetAtRow.holds Try.pinned (OpenSpec.ofChange fnExactNotYetAtWrong)

/-- 'laws.FnForecasts': WHATEVER THE INPUT: true; the input reads as it did. -/
def fnForecastsSpec : ChangeSpec := { name := "fnForecasts", fn := fun _ => fun
  | [d] => { results := [.lit (.bool true)], args := [d] }
  | _ => none }
def fnForecastsRow : OpenClaim := { program := "ytbeonigmcbipeaa", sum := "3f5e98dfcc127527d84cc739a685d7ab180966016123419572034691297a68e0", func := "loop.example/g00938/laws.FnForecasts", spec := "fnForecasts", unfollowed := true, recurses := true, apart := false }
def FnForecastsSaid : Prop := fnForecastsRow.holds Try.pinned (OpenSpec.ofChange fnForecastsSpec)

/-- ITS FALSE NEIGHBOUR: 'it returns false'. Refute it at one input. -/
def fnForecastsWrong : ChangeSpec := { name := "fnForecasts", fn := fun _ => fun
  | [d] => { results := [.lit (.bool false)], args := [d] }
  | _ => none }
def FnForecastsWrongFalsely : Prop := fnForecastsRow.holds Try.pinned (OpenSpec.ofChange fnForecastsWrong)

/-- 'laws.FnRadio': WHATEVER THE INPUT: true; the input reads as it did. -/
def fnRadioSpec : ChangeSpec := { name := "fnRadio", fn := fun _ => fun
  | [d] => { results := [.lit (.bool true)], args := [d] }
  | _ => none }
def fnRadioRow : OpenClaim := { program := "ytbeonigmcbipeaa", sum := "3f5e98dfcc127527d84cc739a685d7ab180966016123419572034691297a68e0", func := "loop.example/g00938/laws.FnRadio", spec := "fnRadio", unfollowed := true, recurses := true, apart := false }
def FnRadioSaid : Prop := fnRadioRow.holds Try.pinned (OpenSpec.ofChange fnRadioSpec)

/-- ITS FALSE NEIGHBOUR: 'it returns false'. Refute it at one input. -/
def fnRadioWrong : ChangeSpec := { name := "fnRadio", fn := fun _ => fun
  | [d] => { results := [.lit (.bool false)], args := [d] }
  | _ => none }
def FnRadioWrongFalsely : Prop := fnRadioRow.holds Try.pinned (OpenSpec.ofChange fnRadioWrong)

/- THE SECOND FORM. 'bulk': how many values and letters a reading holds, each counted each time it is reached (what is shared counts as often as it is met; a slice's spare places count too). A statement '..UptoSaid' is the law's where the arguments, and the package variables that the reading takes, are together of bulk at most 1048576: NARROWER than '..Said'. Prove '..Said' where nothing that the law and all that it calls make is longer than what came in: it says more and counts as full. Else prove '..UptoSaid'. A law counts once. -/
mutual
def uptoBulk {H : Type} : DataW H → Nat
  | .lit (.string bytes) => bytes.length + 1
  | .lit _ => 1
  | .nil => 1
  | .ptr d => uptoBulk d + 1
  | .slice elems spare => uptoBulkAll elems + uptoBulkAll spare + 1
  | .agg parts => uptoBulkAll parts + 1
  | .iface _ d => uptoBulk d + 1
  | .map entries => uptoBulkEntries entries + 1
  | .held _ => 1
def uptoBulkAll {H : Type} : List (DataW H) → Nat
  | [] => 0
  | d :: r => uptoBulk d + uptoBulkAll r
def uptoBulkEntries {H : Type} : List (Lit × DataW H) → Nat
  | [] => 0
  | x :: r => uptoBulkEntry x + uptoBulkEntries r
def uptoBulkEntry {H : Type} : Lit × DataW H → Nat
  | (.string bytes, d) => bytes.length + uptoBulk d + 1
  | (_, d) => uptoBulk d + 1
 end
def uptoSmall : (H : Type) → List (DataW H) → Bool := fun _ ds => decide (uptoBulkAll ds ≤ 1048576)
def OpenSpec.upto (s : _root_.Go.ChangeSpec) : _root_.Go.OpenSpec := { _root_.Go.OpenSpec.ofChange s with cond := some uptoSmall }

/-- 'laws.FnExactArePassings', WHERE WHAT IT READS IS OF BULK AT MOST 1048576: true; the input reads as it did. -/
def fnExactArePassingsUptoRow : OpenClaim := { program := "ytbeonigmcbipeaa", sum := "3f5e98dfcc127527d84cc739a685d7ab180966016123419572034691297a68e0", func := "loop.example/g00938/laws.FnExactArePassings", spec := "fnExactArePassings", apart := false, narrowed := true }
def FnExactArePassingsUptoSaid : Prop := fnExactArePassingsUptoRow.holds Try.pinned (OpenSpec.upto fnExactArePassingsSpec)

/-- 'laws.FnExactRankAt', WHERE WHAT IT READS IS OF BULK AT MOST 1048576: true; the input reads as it did. -/
def fnExactRankAtUptoRow : OpenClaim := { program := "ytbeonigmcbipeaa", sum := "3f5e98dfcc127527d84cc739a685d7ab180966016123419572034691297a68e0", func := "loop.example/g00938/laws.FnExactRankAt", spec := "fnExactRankAt", unfollowed := true, recurses := true, apart := false, narrowed := true }
def FnExactRankAtUptoSaid : Prop := fnExactRankAtUptoRow.holds Try.pinned (OpenSpec.upto fnExactRankAtSpec)

/-- 'laws.FnExactAddSplit', WHERE WHAT IT READS IS OF BULK AT MOST 1048576: true; the input reads as it did. -/
def fnExactAddSplitUptoRow : OpenClaim := { program := "ytbeonigmcbipeaa", sum := "3f5e98dfcc127527d84cc739a685d7ab180966016123419572034691297a68e0", func := "loop.example/g00938/laws.FnExactAddSplit", spec := "fnExactAddSplit", unfollowed := true, recurses := true, apart := false, narrowed := true }
def FnExactAddSplitUptoSaid : Prop := fnExactAddSplitUptoRow.holds Try.pinned (OpenSpec.upto fnExactAddSplitSpec)

/-- 'laws.FnExactLeaderAt', WHERE WHAT IT READS IS OF BULK AT MOST 1048576: true; the input reads as it did. -/
def fnExactLeaderAtUptoRow : OpenClaim := { program := "ytbeonigmcbipeaa", sum := "3f5e98dfcc127527d84cc739a685d7ab180966016123419572034691297a68e0", func := "loop.example/g00938/laws.FnExactLeaderAt", spec := "fnExactLeaderAt", unfollowed := true, recurses := true, apart := false, narrowed := true }
def FnExactLeaderAtUptoSaid : Prop := fnExactLeaderAtUptoRow.holds Try.pinned (OpenSpec.upto fnExactLeaderAtSpec)

/-- 'laws.FnExactForecast', WHERE WHAT IT READS IS OF BULK AT MOST 1048576: true; the input reads as it did. -/
def fnExactForecastUptoRow : OpenClaim := { program := "ytbeonigmcbipeaa", sum := "3f5e98dfcc127527d84cc739a685d7ab180966016123419572034691297a68e0", func := "loop.example/g00938/laws.FnExactForecast", spec := "fnExactForecast", unfollowed := true, recurses := true, apart := false, narrowed := true }
def FnExactForecastUptoSaid : Prop := fnExactForecastUptoRow.holds Try.pinned (OpenSpec.upto fnExactForecastSpec)

/-- 'laws.FnExactOrderAt', WHERE WHAT IT READS IS OF BULK AT MOST 1048576: true; the input reads as it did. -/
def fnExactOrderAtUptoRow : OpenClaim := { program := "ytbeonigmcbipeaa", sum := "3f5e98dfcc127527d84cc739a685d7ab180966016123419572034691297a68e0", func := "loop.example/g00938/laws.FnExactOrderAt", spec := "fnExactOrderAt", unfollowed := true, recurses := true, apart := false, narrowed := true }
def FnExactOrderAtUptoSaid : Prop := fnExactOrderAtUptoRow.holds Try.pinned (OpenSpec.upto fnExactOrderAtSpec)

/-- 'laws.FnExactLegOrder', WHERE WHAT IT READS IS OF BULK AT MOST 1048576: true; the input reads as it did. -/
def fnExactLegOrderUptoRow : OpenClaim := { program := "ytbeonigmcbipeaa", sum := "3f5e98dfcc127527d84cc739a685d7ab180966016123419572034691297a68e0", func := "loop.example/g00938/laws.FnExactLegOrder", spec := "fnExactLegOrder", unfollowed := true, recurses := true, apart := false, narrowed := true }
def FnExactLegOrderUptoSaid : Prop := fnExactLegOrderUptoRow.holds Try.pinned (OpenSpec.upto fnExactLegOrderSpec)

/-- 'laws.FnExactExpectedRank', WHERE WHAT IT READS IS OF BULK AT MOST 1048576: true; the input reads as it did. -/
def fnExactExpectedRankUptoRow : OpenClaim := { program := "ytbeonigmcbipeaa", sum := "3f5e98dfcc127527d84cc739a685d7ab180966016123419572034691297a68e0", func := "loop.example/g00938/laws.FnExactExpectedRank", spec := "fnExactExpectedRank", unfollowed := true, recurses := true, apart := false, narrowed := true }
def FnExactExpectedRankUptoSaid : Prop := fnExactExpectedRankUptoRow.holds Try.pinned (OpenSpec.upto fnExactExpectedRankSpec)

/-- 'laws.FnExactNotYetAt', WHERE WHAT IT READS IS OF BULK AT MOST 1048576: true; the input reads as it did. -/
def fnExactNotYetAtUptoRow : OpenClaim := { program := "ytbeonigmcbipeaa", sum := "3f5e98dfcc127527d84cc739a685d7ab180966016123419572034691297a68e0", func := "loop.example/g00938/laws.FnExactNotYetAt", spec := "fnExactNotYetAt", unfollowed := true, recurses := true, apart := false, narrowed := true }
def FnExactNotYetAtUptoSaid : Prop := fnExactNotYetAtUptoRow.holds Try.pinned (OpenSpec.upto fnExactNotYetAtSpec)

/-- 'laws.FnForecasts', WHERE WHAT IT READS IS OF BULK AT MOST 1048576: true; the input reads as it did. -/
def fnForecastsUptoRow : OpenClaim := { program := "ytbeonigmcbipeaa", sum := "3f5e98dfcc127527d84cc739a685d7ab180966016123419572034691297a68e0", func := "loop.example/g00938/laws.FnForecasts", spec := "fnForecasts", unfollowed := true, recurses := true, apart := false, narrowed := true }
def FnForecastsUptoSaid : Prop := fnForecastsUptoRow.holds Try.pinned (OpenSpec.upto fnForecastsSpec)

/-- 'laws.FnRadio', WHERE WHAT IT READS IS OF BULK AT MOST 1048576: true; the input reads as it did. -/
def fnRadioUptoRow : OpenClaim := { program := "ytbeonigmcbipeaa", sum := "3f5e98dfcc127527d84cc739a685d7ab180966016123419572034691297a68e0", func := "loop.example/g00938/laws.FnRadio", spec := "fnRadio", unfollowed := true, recurses := true, apart := false, narrowed := true }
def FnRadioUptoSaid : Prop := fnRadioUptoRow.holds Try.pinned (OpenSpec.upto fnRadioSpec)

end Rows
end Go.Proofs.Ytbeonigmcbipeaa
