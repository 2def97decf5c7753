/-
  No cell of these rows narrows 'for every input' (looked for: loops, veiled, ifaces, maps, wideKeys, modest, calm, conditions, laid).
  DERIVED. THE GIVEN ROWS OF THIS SEAT. 11 by the template 'for every input the law returns true; each argument reads behind the call as it read before'; 0 by the template 'total and deterministic' (their statements: YtojpklpfnmjikaaTotals.lean).
  GIVEN WITH THE SEED: the statements are not yours to turn. If you find one false, say at which input.
  Laid BY PROGRAM, IN A SANDBOX (cutbox-rows.mjs): the forced cells as the released guide's own fill.sh prints them over the translation c783c8c2d73560db… (all of the seat's roots in one cut). By AI agents, Wed Nov 11 2026. No macro, syntax, notation, axiom, sorry.
-/
import Derived.Test.YtojpklpfnmjikaaChecked
import GoSem.Claim
import GoSem.ClaimJoined
import GoSem.ClaimMapViews
import Derived.JoinedTies
import Derived.KernelRfl
namespace Go.Proofs.Ytojpklpfnmjikaa
/- THE CELL 'sum', in the pinned program and in every row, IS THE sha256 OF THE DUMP (.gsa) THAT YtojpklpfnmjikaaProg.lean LOADS. Nothing in Lean hashes anything: it is a label: what it is worth is what the hold of that sum in a sandbox is worth. -/
noncomputable def Try.pinned : Pinned := { name := "ytojpklpfnmjikaa", sum := "c783c8c2d73560db7ac3e915d19daa4c459ea790bf1c796347aead996bbef581", checked := Try.checked }
namespace Rows
def none {H : Type} : Left H := { results := [], args := [] }

/-- 'laws.FnExactAreRuns': WHATEVER THE INPUT: true; the input reads as it did. -/
def fnExactAreRunsSpec : ChangeSpec := { name := "fnExactAreRuns", fn := fun _ => fun
  | [d] => { results := [.lit (.bool true)], args := [d] }
  | _ => none }
def fnExactAreRunsRow : OpenClaim := { program := "ytojpklpfnmjikaa", sum := "c783c8c2d73560db7ac3e915d19daa4c459ea790bf1c796347aead996bbef581", func := "loop.example/g00938/laws.FnExactAreRuns", spec := "fnExactAreRuns", apart := false }
def FnExactAreRunsSaid : Prop := fnExactAreRunsRow.holds Try.pinned (OpenSpec.ofChange fnExactAreRunsSpec)

/-- ITS FALSE NEIGHBOUR: 'it returns false'. Refute it at one input. -/
def fnExactAreRunsWrong : ChangeSpec := { name := "fnExactAreRuns", fn := fun _ => fun
  | [d] => { results := [.lit (.bool false)], args := [d] }
  | _ => none }
def FnExactAreRunsWrongFalsely : Prop := fnExactAreRunsRow.holds Try.pinned (OpenSpec.ofChange fnExactAreRunsWrong)

/-- 'laws.FnExactTakeOut': WHATEVER THE INPUT: true; the input reads as it did. -/
def fnExactTakeOutSpec : ChangeSpec := { name := "fnExactTakeOut", fn := fun _ => fun
  | [d1, d2] => { results := [.lit (.bool true)], args := [d1, d2] }
  | _ => none }
def fnExactTakeOutRow : OpenClaim := { program := "ytojpklpfnmjikaa", sum := "c783c8c2d73560db7ac3e915d19daa4c459ea790bf1c796347aead996bbef581", func := "loop.example/g00938/laws.FnExactTakeOut", spec := "fnExactTakeOut", unfollowed := true, recurses := true, apart := false }
def FnExactTakeOutSaid : Prop := fnExactTakeOutRow.holds Try.pinned (OpenSpec.ofChange fnExactTakeOutSpec)

/-- ITS FALSE NEIGHBOUR: 'it returns false'. Refute it at one input. -/
def fnExactTakeOutWrong : ChangeSpec := { name := "fnExactTakeOut", fn := fun _ => fun
  | [d1, d2] => { results := [.lit (.bool false)], args := [d1, d2] }
  | _ => none }
def FnExactTakeOutWrongFalsely : Prop := fnExactTakeOutRow.holds Try.pinned (OpenSpec.ofChange fnExactTakeOutWrong)

/-- 'laws.FnExactStatusOf': WHATEVER THE INPUT: true; the input reads as it did. -/
def fnExactStatusOfSpec : ChangeSpec := { name := "fnExactStatusOf", fn := fun _ => fun
  | [d1, d2, d3, d4] => { results := [.lit (.bool true)], args := [d1, d2, d3, d4] }
  | _ => none }
def fnExactStatusOfRow : OpenClaim := { program := "ytojpklpfnmjikaa", sum := "c783c8c2d73560db7ac3e915d19daa4c459ea790bf1c796347aead996bbef581", func := "loop.example/g00938/laws.FnExactStatusOf", spec := "fnExactStatusOf", unfollowed := true, recurses := true, apart := false }
def FnExactStatusOfSaid : Prop := fnExactStatusOfRow.holds Try.pinned (OpenSpec.ofChange fnExactStatusOfSpec)

/-- ITS FALSE NEIGHBOUR: 'it returns false'. Refute it at one input. -/
def fnExactStatusOfWrong : ChangeSpec := { name := "fnExactStatusOf", fn := fun _ => fun
  | [d1, d2, d3, d4] => { results := [.lit (.bool false)], args := [d1, d2, d3, d4] }
  | _ => none }
def FnExactStatusOfWrongFalsely : Prop := fnExactStatusOfRow.holds Try.pinned (OpenSpec.ofChange fnExactStatusOfWrong)

/-- 'laws.FnExactRankOfRun': WHATEVER THE INPUT: true; the input reads as it did. -/
def fnExactRankOfRunSpec : ChangeSpec := { name := "fnExactRankOfRun", fn := fun _ => fun
  | [d1, d2, d3, d4] => { results := [.lit (.bool true)], args := [d1, d2, d3, d4] }
  | _ => none }
def fnExactRankOfRunRow : OpenClaim := { program := "ytojpklpfnmjikaa", sum := "c783c8c2d73560db7ac3e915d19daa4c459ea790bf1c796347aead996bbef581", func := "loop.example/g00938/laws.FnExactRankOfRun", spec := "fnExactRankOfRun", unfollowed := true, recurses := true, apart := false }
def FnExactRankOfRunSaid : Prop := fnExactRankOfRunRow.holds Try.pinned (OpenSpec.ofChange fnExactRankOfRunSpec)

/-- ITS FALSE NEIGHBOUR: 'it returns false'. Refute it at one input. -/
def fnExactRankOfRunWrong : ChangeSpec := { name := "fnExactRankOfRun", fn := fun _ => fun
  | [d1, d2, d3, d4] => { results := [.lit (.bool false)], args := [d1, d2, d3, d4] }
  | _ => none }
def FnExactRankOfRunWrongFalsely : Prop := fnExactRankOfRunRow.holds Try.pinned (OpenSpec.ofChange fnExactRankOfRunWrong)

/-- 'laws.FnExactStatusCounts': WHATEVER THE INPUT: true; the input reads as it did. -/
def fnExactStatusCountsSpec : ChangeSpec := { name := "fnExactStatusCounts", fn := fun _ => fun
  | [d1, d2, d3] => { results := [.lit (.bool true)], args := [d1, d2, d3] }
  | _ => none }
def fnExactStatusCountsRow : OpenClaim := { program := "ytojpklpfnmjikaa", sum := "c783c8c2d73560db7ac3e915d19daa4c459ea790bf1c796347aead996bbef581", func := "loop.example/g00938/laws.FnExactStatusCounts", spec := "fnExactStatusCounts", unfollowed := true, recurses := true, apart := false }
def FnExactStatusCountsSaid : Prop := fnExactStatusCountsRow.holds Try.pinned (OpenSpec.ofChange fnExactStatusCountsSpec)

/-- ITS FALSE NEIGHBOUR: 'it returns false'. Refute it at one input. -/
def fnExactStatusCountsWrong : ChangeSpec := { name := "fnExactStatusCounts", fn := fun _ => fun
  | [d1, d2, d3] => { results := [.lit (.bool false)], args := [d1, d2, d3] }
  | _ => none }
def FnExactStatusCountsWrongFalsely : Prop := fnExactStatusCountsRow.holds Try.pinned (OpenSpec.ofChange fnExactStatusCountsWrong)

/-- 'laws.FnExactTimesBehind': WHATEVER THE INPUT: true; the input reads as it did. -/
def fnExactTimesBehindSpec : ChangeSpec := { name := "fnExactTimesBehind", fn := fun _ => fun
  | [d1, d2, d3] => { results := [.lit (.bool true)], args := [d1, d2, d3] }
  | _ => none }
def fnExactTimesBehindRow : OpenClaim := { program := "ytojpklpfnmjikaa", sum := "c783c8c2d73560db7ac3e915d19daa4c459ea790bf1c796347aead996bbef581", func := "loop.example/g00938/laws.FnExactTimesBehind", spec := "fnExactTimesBehind", unfollowed := true, recurses := true, apart := false }
def FnExactTimesBehindSaid : Prop := fnExactTimesBehindRow.holds Try.pinned (OpenSpec.ofChange fnExactTimesBehindSpec)

/-- ITS FALSE NEIGHBOUR: 'it returns false'. Refute it at one input. -/
def fnExactTimesBehindWrong : ChangeSpec := { name := "fnExactTimesBehind", fn := fun _ => fun
  | [d1, d2, d3] => { results := [.lit (.bool false)], args := [d1, d2, d3] }
  | _ => none }
def FnExactTimesBehindWrongFalsely : Prop := fnExactTimesBehindRow.holds Try.pinned (OpenSpec.ofChange fnExactTimesBehindWrong)

/-- 'laws.FnExactBestLegs': WHATEVER THE INPUT: true; the input reads as it did. -/
def fnExactBestLegsSpec : ChangeSpec := { name := "fnExactBestLegs", fn := fun _ => fun
  | [d1, d2, d3] => { results := [.lit (.bool true)], args := [d1, d2, d3] }
  | _ => none }
def fnExactBestLegsRow : OpenClaim := { program := "ytojpklpfnmjikaa", sum := "c783c8c2d73560db7ac3e915d19daa4c459ea790bf1c796347aead996bbef581", func := "loop.example/g00938/laws.FnExactBestLegs", spec := "fnExactBestLegs", unfollowed := true, recurses := true, apart := false }
def FnExactBestLegsSaid : Prop := fnExactBestLegsRow.holds Try.pinned (OpenSpec.ofChange fnExactBestLegsSpec)

/-- ITS FALSE NEIGHBOUR: 'it returns false'. Refute it at one input. -/
def fnExactBestLegsWrong : ChangeSpec := { name := "fnExactBestLegs", fn := fun _ => fun
  | [d1, d2, d3] => { results := [.lit (.bool false)], args := [d1, d2, d3] }
  | _ => none }
def FnExactBestLegsWrongFalsely : Prop := fnExactBestLegsRow.holds Try.pinned (OpenSpec.ofChange fnExactBestLegsWrong)

/-- 'laws.FnExactVoidCode': WHATEVER THE INPUT: true; the input reads as it did. -/
def fnExactVoidCodeSpec : ChangeSpec := { name := "fnExactVoidCode", fn := fun _ => fun
  | [d1, d2, d3, d4] => { results := [.lit (.bool true)], args := [d1, d2, d3, d4] }
  | _ => none }
def fnExactVoidCodeRow : OpenClaim := { program := "ytojpklpfnmjikaa", sum := "c783c8c2d73560db7ac3e915d19daa4c459ea790bf1c796347aead996bbef581", func := "loop.example/g00938/laws.FnExactVoidCode", spec := "fnExactVoidCode", unfollowed := true, recurses := true, apart := false }
def FnExactVoidCodeSaid : Prop := fnExactVoidCodeRow.holds Try.pinned (OpenSpec.ofChange fnExactVoidCodeSpec)

/-- ITS FALSE NEIGHBOUR: 'it returns false'. Refute it at one input. -/
def fnExactVoidCodeWrong : ChangeSpec := { name := "fnExactVoidCode", fn := fun _ => fun
  | [d1, d2, d3, d4] => { results := [.lit (.bool false)], args := [d1, d2, d3, d4] }
  | _ => none }
def FnExactVoidCodeWrongFalsely : Prop := fnExactVoidCodeRow.holds Try.pinned (OpenSpec.ofChange fnExactVoidCodeWrong)

/-- 'laws.FnExactResultOrder': WHATEVER THE INPUT: true; the input reads as it did. -/
def fnExactResultOrderSpec : ChangeSpec := { name := "fnExactResultOrder", fn := fun _ => fun
  | [d1, d2, d3] => { results := [.lit (.bool true)], args := [d1, d2, d3] }
  | _ => none }
def fnExactResultOrderRow : OpenClaim := { program := "ytojpklpfnmjikaa", sum := "c783c8c2d73560db7ac3e915d19daa4c459ea790bf1c796347aead996bbef581", func := "loop.example/g00938/laws.FnExactResultOrder", spec := "fnExactResultOrder", unfollowed := true, recurses := true, apart := false }
def FnExactResultOrderSaid : Prop := fnExactResultOrderRow.holds Try.pinned (OpenSpec.ofChange fnExactResultOrderSpec)

/-- ITS FALSE NEIGHBOUR: 'it returns false'. Refute it at one input. -/
def fnExactResultOrderWrong : ChangeSpec := { name := "fnExactResultOrder", fn := fun _ => fun
  | [d1, d2, d3] => { results := [.lit (.bool false)], args := [d1, d2, d3] }
  | _ => none }
def FnExactResultOrderWrongFalsely : Prop := fnExactResultOrderRow.holds Try.pinned (OpenSpec.ofChange fnExactResultOrderWrong)

/-- 'laws.FnResults': WHATEVER THE INPUT: true; the input reads as it did. -/
def fnResultsSpec : ChangeSpec := { name := "fnResults", fn := fun _ => fun
  | [d] => { results := [.lit (.bool true)], args := [d] }
  | _ => none }
def fnResultsRow : OpenClaim := { program := "ytojpklpfnmjikaa", sum := "c783c8c2d73560db7ac3e915d19daa4c459ea790bf1c796347aead996bbef581", func := "loop.example/g00938/laws.FnResults", spec := "fnResults", unfollowed := true, recurses := true, apart := false }
def FnResultsSaid : Prop := fnResultsRow.holds Try.pinned (OpenSpec.ofChange fnResultsSpec)

/-- ITS FALSE NEIGHBOUR: 'it returns false'. Refute it at one input. -/
def fnResultsWrong : ChangeSpec := { name := "fnResults", fn := fun _ => fun
  | [d] => { results := [.lit (.bool false)], args := [d] }
  | _ => none }
def FnResultsWrongFalsely : Prop := fnResultsRow.holds Try.pinned (OpenSpec.ofChange fnResultsWrong)

/-- 'laws.FnJury': WHATEVER THE INPUT: true; the input reads as it did. -/
def fnJurySpec : ChangeSpec := { name := "fnJury", fn := fun _ => fun
  | [d] => { results := [.lit (.bool true)], args := [d] }
  | _ => none }
def fnJuryRow : OpenClaim := { program := "ytojpklpfnmjikaa", sum := "c783c8c2d73560db7ac3e915d19daa4c459ea790bf1c796347aead996bbef581", func := "loop.example/g00938/laws.FnJury", spec := "fnJury", unfollowed := true, recurses := true, apart := false }
def FnJurySaid : Prop := fnJuryRow.holds Try.pinned (OpenSpec.ofChange fnJurySpec)

/-- ITS FALSE NEIGHBOUR: 'it returns false'. Refute it at one input. -/
def fnJuryWrong : ChangeSpec := { name := "fnJury", fn := fun _ => fun
  | [d] => { results := [.lit (.bool false)], args := [d] }
  | _ => none }
def FnJuryWrongFalsely : Prop := fnJuryRow.holds Try.pinned (OpenSpec.ofChange fnJuryWrong)

/- THE SECOND FORM. 'bulk': how many values and letters a reading holds, each counted each time it is reached (what is shared counts as often as it is met; a slice's spare places count too). A statement '..UptoSaid' is the law's where the arguments, and the package variables that the reading takes, are together of bulk at most 1048576: NARROWER than '..Said'. Prove '..Said' where nothing that the law and all that it calls make is longer than what came in: it says more and counts as full. Else prove '..UptoSaid'. A law counts once. -/
mutual
def uptoBulk {H : Type} : DataW H → Nat
  | .lit (.string bytes) => bytes.length + 1
  | .lit _ => 1
  | .nil => 1
  | .ptr d => uptoBulk d + 1
  | .slice elems spare => uptoBulkAll elems + uptoBulkAll spare + 1
  | .agg parts => uptoBulkAll parts + 1
  | .iface _ d => uptoBulk d + 1
  | .map entries => uptoBulkEntries entries + 1
  | .held _ => 1
def uptoBulkAll {H : Type} : List (DataW H) → Nat
  | [] => 0
  | d :: r => uptoBulk d + uptoBulkAll r
def uptoBulkEntries {H : Type} : List (Lit × DataW H) → Nat
  | [] => 0
  | x :: r => uptoBulkEntry x + uptoBulkEntries r
def uptoBulkEntry {H : Type} : Lit × DataW H → Nat
  | (.string bytes, d) => bytes.length + uptoBulk d + 1
  | (_, d) => uptoBulk d + 1
 end
def uptoSmall : (H : Type) → List (DataW H) → Bool := fun _ ds => decide (uptoBulkAll ds ≤ 1048576)
def OpenSpec.upto (s : _root_.Go.ChangeSpec) : _root_.Go.OpenSpec := { _root_.Go.OpenSpec.ofChange s with cond := some uptoSmall }

/-- 'laws.FnExactAreRuns', WHERE WHAT IT READS IS OF BULK AT MOST 1048576: true; the input reads as it did. -/
def fnExactAreRunsUptoRow : OpenClaim := { program := "ytojpklpfnmjikaa", sum := "c783c8c2d73560db7ac3e915d19daa4c459ea790bf1c796347aead996bbef581", func := "loop.example/g00938/laws.FnExactAreRuns", spec := "fnExactAreRuns", apart := false, narrowed := true }
def FnExactAreRunsUptoSaid : Prop := fnExactAreRunsUptoRow.holds Try.pinned (OpenSpec.upto fnExactAreRunsSpec)

/-- 'laws.FnExactTakeOut', WHERE WHAT IT READS IS OF BULK AT MOST 1048576: true; the input reads as it did. -/
def fnExactTakeOutUptoRow : OpenClaim := { program := "ytojpklpfnmjikaa", sum := "c783c8c2d73560db7ac3e915d19daa4c459ea790bf1c796347aead996bbef581", func := "loop.example/g00938/laws.FnExactTakeOut", spec := "fnExactTakeOut", unfollowed := true, recurses := true, apart := false, narrowed := true }
def FnExactTakeOutUptoSaid : Prop := fnExactTakeOutUptoRow.holds Try.pinned (OpenSpec.upto fnExactTakeOutSpec)

/-- 'laws.FnExactStatusOf', WHERE WHAT IT READS IS OF BULK AT MOST 1048576: true; the input reads as it did. -/
def fnExactStatusOfUptoRow : OpenClaim := { program := "ytojpklpfnmjikaa", sum := "c783c8c2d73560db7ac3e915d19daa4c459ea790bf1c796347aead996bbef581", func := "loop.example/g00938/laws.FnExactStatusOf", spec := "fnExactStatusOf", unfollowed := true, recurses := true, apart := false, narrowed := true }
def FnExactStatusOfUptoSaid : Prop := fnExactStatusOfUptoRow.holds Try.pinned (OpenSpec.upto fnExactStatusOfSpec)

/-- 'laws.FnExactRankOfRun', WHERE WHAT IT READS IS OF BULK AT MOST 1048576: true; the input reads as it did. -/
def fnExactRankOfRunUptoRow : OpenClaim := { program := "ytojpklpfnmjikaa", sum := "c783c8c2d73560db7ac3e915d19daa4c459ea790bf1c796347aead996bbef581", func := "loop.example/g00938/laws.FnExactRankOfRun", spec := "fnExactRankOfRun", unfollowed := true, recurses := true, apart := false, narrowed := true }
def FnExactRankOfRunUptoSaid : Prop := fnExactRankOfRunUptoRow.holds Try.pinned (OpenSpec.upto fnExactRankOfRunSpec)

/-- 'laws.FnExactStatusCounts', WHERE WHAT IT READS IS OF BULK AT MOST 1048576: true; the input reads as it did. -/
def fnExactStatusCountsUptoRow : OpenClaim := { program := "ytojpklpfnmjikaa", sum := "c783c8c2d73560db7ac3e915d19daa4c459ea790bf1c796347aead996bbef581", func := "loop.example/g00938/laws.FnExactStatusCounts", spec := "fnExactStatusCounts", unfollowed := true, recurses := true, apart := false, narrowed := true }
def FnExactStatusCountsUptoSaid : Prop := fnExactStatusCountsUptoRow.holds Try.pinned (OpenSpec.upto fnExactStatusCountsSpec)

/-- 'laws.FnExactTimesBehind', WHERE WHAT IT READS IS OF BULK AT MOST 1048576: true; the input reads as it did. -/
def fnExactTimesBehindUptoRow : OpenClaim := { program := "ytojpklpfnmjikaa", sum := "c783c8c2d73560db7ac3e915d19daa4c459ea790bf1c796347aead996bbef581", func := "loop.example/g00938/laws.FnExactTimesBehind", spec := "fnExactTimesBehind", unfollowed := true, recurses := true, apart := false, narrowed := true }
def FnExactTimesBehindUptoSaid : Prop := fnExactTimesBehindUptoRow.holds Try.pinned (OpenSpec.upto fnExactTimesBehindSpec)

/-- 'laws.FnExactBestLegs', WHERE WHAT IT READS IS OF BULK AT MOST 1048576: true; the input reads as it did. -/
def fnExactBestLegsUptoRow : OpenClaim := { program := "ytojpklpfnmjikaa", sum := "c783c8c2d73560db7ac3e915d19daa4c459ea790bf1c796347aead996bbef581", func := "loop.example/g00938/laws.FnExactBestLegs", spec := "fnExactBestLegs", unfollowed := true, recurses := true, apart := false, narrowed := true }
def FnExactBestLegsUptoSaid : Prop := fnExactBestLegsUptoRow.holds Try.pinned (OpenSpec.upto fnExactBestLegsSpec)

/-- 'laws.FnExactVoidCode', WHERE WHAT IT READS IS OF BULK AT MOST 1048576: true; the input reads as it did. -/
def fnExactVoidCodeUptoRow : OpenClaim := { program := "ytojpklpfnmjikaa", sum := "c783c8c2d73560db7ac3e915d19daa4c459ea790bf1c796347aead996bbef581", func := "loop.example/g00938/laws.FnExactVoidCode", spec := "fnExactVoidCode", unfollowed := true, recurses := true, apart := false, narrowed := true }
def FnExactVoidCodeUptoSaid : Prop := fnExactVoidCodeUptoRow.holds Try.pinned (OpenSpec.upto fnExactVoidCodeSpec)

/-- 'laws.FnExactResultOrder', WHERE WHAT IT READS IS OF BULK AT MOST 1048576: true; the input reads as it did. -/
def fnExactResultOrderUptoRow : OpenClaim := { program := "ytojpklpfnmjikaa", sum := "c783c8c2d73560db7ac3e915d19daa4c459ea790bf1c796347aead996bbef581", func := "loop.example/g00938/laws.FnExactResultOrder", spec := "fnExactResultOrder", unfollowed := true, recurses := true, apart := false, narrowed := true }
def FnExactResultOrderUptoSaid : Prop := fnExactResultOrderUptoRow.holds Try.pinned (OpenSpec.upto fnExactResultOrderSpec)

/-- 'laws.FnResults', WHERE WHAT IT READS IS OF BULK AT MOST 1048576: true; the input reads as it did. -/
def fnResultsUptoRow : OpenClaim := { program := "ytojpklpfnmjikaa", sum := "c783c8c2d73560db7ac3e915d19daa4c459ea790bf1c796347aead996bbef581", func := "loop.example/g00938/laws.FnResults", spec := "fnResults", unfollowed := true, recurses := true, apart := false, narrowed := true }
def FnResultsUptoSaid : Prop := fnResultsUptoRow.holds Try.pinned (OpenSpec.upto fnResultsSpec)

/-- 'laws.FnJury', WHERE WHAT IT READS IS OF BULK AT MOST 1048576: true; the input reads as it did. -/
def fnJuryUptoRow : OpenClaim := { program := "ytojpklpfnmjikaa", sum := "c783c8c2d73560db7ac3e915d19daa4c459ea790bf1c796347aead996bbef581", func := "loop.example/g00938/laws.FnJury", spec := "fnJury", unfollowed := true, recurses := true, apart := false, narrowed := true }
def FnJuryUptoSaid : Prop := fnJuryUptoRow.holds Try.pinned (OpenSpec.upto fnJurySpec)

end Rows
end Go.Proofs.Ytojpklpfnmjikaa
