/-
  No cell of these rows narrows 'for every input' (looked for: loops, veiled, ifaces, maps, wideKeys, modest, calm, conditions, laid).
  DERIVED. THE GIVEN ROWS OF THIS SEAT. 10 by the template 'for every input the law returns true; each argument reads behind the call as it read before'; 0 by the template 'total and deterministic' (their statements: YtfmgnbkneccekaaTotals.lean).
  GIVEN WITH THE SEED: the statements are not yours to turn. If you find one false, say at which input.
  Laid BY PROGRAM, IN A SANDBOX (cutbox-rows.mjs): the forced cells as the released guide's own fill.sh prints them over the translation 1eec908dd4b95ab6… (all of the seat's roots in one cut). By AI agents, Wed Nov 11 2026. No macro, syntax, notation, axiom, sorry.
-/
import Derived.Test.YtfmgnbkneccekaaChecked
import GoSem.Claim
import GoSem.ClaimJoined
import GoSem.ClaimMapViews
import Derived.JoinedTies
import Derived.KernelRfl
namespace Go.Proofs.Ytfmgnbkneccekaa
/- THE CELL 'sum', in the pinned program and in every row, IS THE sha256 OF THE DUMP (.gsa) THAT YtfmgnbkneccekaaProg.lean LOADS. Nothing in Lean hashes anything: it is a label: what it is worth is what the hold of that sum in a sandbox is worth. -/
noncomputable def Try.pinned : Pinned := { name := "ytfmgnbkneccekaa", sum := "1eec908dd4b95ab6bbb947ed05300a939de8cc4f5702ecc5e96f51a477fa8c8f", checked := Try.checked }
namespace Rows
def none {H : Type} : Left H := { results := [], args := [] }

/-- 'laws.FnExactNewRace': WHATEVER THE INPUT: true; the input reads as it did. -/
def fnExactNewRaceSpec : ChangeSpec := { name := "fnExactNewRace", fn := fun _ => fun
  | [d] => { results := [.lit (.bool true)], args := [d] }
  | _ => none }
def fnExactNewRaceRow : OpenClaim := { program := "ytfmgnbkneccekaa", sum := "1eec908dd4b95ab6bbb947ed05300a939de8cc4f5702ecc5e96f51a477fa8c8f", func := "loop.example/g00938/laws.FnExactNewRace", spec := "fnExactNewRace", apart := false }
def FnExactNewRaceSaid : Prop := fnExactNewRaceRow.holds Try.pinned (OpenSpec.ofChange fnExactNewRaceSpec)

/-- ITS FALSE NEIGHBOUR: 'it returns false'. Refute it at one input. -/
def fnExactNewRaceWrong : ChangeSpec := { name := "fnExactNewRace", fn := fun _ => fun
  | [d] => { results := [.lit (.bool false)], args := [d] }
  | _ => none }
def FnExactNewRaceWrongFalsely : Prop := fnExactNewRaceRow.holds Try.pinned (OpenSpec.ofChange fnExactNewRaceWrong)

/-- 'laws.FnExactIsRace': WHATEVER THE INPUT: true; the input reads as it did. -/
def fnExactIsRaceSpec : ChangeSpec := { name := "fnExactIsRace", fn := fun _ => fun
  | [d] => { results := [.lit (.bool true)], args := [d] }
  | _ => none }
def fnExactIsRaceRow : OpenClaim := { program := "ytfmgnbkneccekaa", sum := "1eec908dd4b95ab6bbb947ed05300a939de8cc4f5702ecc5e96f51a477fa8c8f", func := "loop.example/g00938/laws.FnExactIsRace", spec := "fnExactIsRace", unfollowed := true, recurses := true, apart := false }
def FnExactIsRaceSaid : Prop := fnExactIsRaceRow.holds Try.pinned (OpenSpec.ofChange fnExactIsRaceSpec)

/-- ITS FALSE NEIGHBOUR: 'it returns false'. Refute it at one input. -/
def fnExactIsRaceWrong : ChangeSpec := { name := "fnExactIsRace", fn := fun _ => fun
  | [d] => { results := [.lit (.bool false)], args := [d] }
  | _ => none }
def FnExactIsRaceWrongFalsely : Prop := fnExactIsRaceRow.holds Try.pinned (OpenSpec.ofChange fnExactIsRaceWrong)

/-- 'laws.FnExactLastSeen': WHATEVER THE INPUT: true; the input reads as it did. -/
def fnExactLastSeenSpec : ChangeSpec := { name := "fnExactLastSeen", fn := fun _ => fun
  | [d1, d2] => { results := [.lit (.bool true)], args := [d1, d2] }
  | _ => none }
def fnExactLastSeenRow : OpenClaim := { program := "ytfmgnbkneccekaa", sum := "1eec908dd4b95ab6bbb947ed05300a939de8cc4f5702ecc5e96f51a477fa8c8f", func := "loop.example/g00938/laws.FnExactLastSeen", spec := "fnExactLastSeen", unfollowed := true, recurses := true, apart := false }
def FnExactLastSeenSaid : Prop := fnExactLastSeenRow.holds Try.pinned (OpenSpec.ofChange fnExactLastSeenSpec)

/-- ITS FALSE NEIGHBOUR: 'it returns false'. Refute it at one input. -/
def fnExactLastSeenWrong : ChangeSpec := { name := "fnExactLastSeen", fn := fun _ => fun
  | [d1, d2] => { results := [.lit (.bool false)], args := [d1, d2] }
  | _ => none }
def FnExactLastSeenWrongFalsely : Prop := fnExactLastSeenRow.holds Try.pinned (OpenSpec.ofChange fnExactLastSeenWrong)

/-- 'laws.FnExactStateCounts': WHATEVER THE INPUT: true; the input reads as it did. -/
def fnExactStateCountsSpec : ChangeSpec := { name := "fnExactStateCounts", fn := fun _ => fun
  | [d] => { results := [.lit (.bool true)], args := [d] }
  | _ => none }
def fnExactStateCountsRow : OpenClaim := { program := "ytfmgnbkneccekaa", sum := "1eec908dd4b95ab6bbb947ed05300a939de8cc4f5702ecc5e96f51a477fa8c8f", func := "loop.example/g00938/laws.FnExactStateCounts", spec := "fnExactStateCounts", unfollowed := true, recurses := true, apart := false }
def FnExactStateCountsSaid : Prop := fnExactStateCountsRow.holds Try.pinned (OpenSpec.ofChange fnExactStateCountsSpec)

/-- ITS FALSE NEIGHBOUR: 'it returns false'. Refute it at one input. -/
def fnExactStateCountsWrong : ChangeSpec := { name := "fnExactStateCounts", fn := fun _ => fun
  | [d] => { results := [.lit (.bool false)], args := [d] }
  | _ => none }
def FnExactStateCountsWrongFalsely : Prop := fnExactStateCountsRow.holds Try.pinned (OpenSpec.ofChange fnExactStateCountsWrong)

/-- 'laws.FnExactStillOut': WHATEVER THE INPUT: true; the input reads as it did. -/
def fnExactStillOutSpec : ChangeSpec := { name := "fnExactStillOut", fn := fun _ => fun
  | [d] => { results := [.lit (.bool true)], args := [d] }
  | _ => none }
def fnExactStillOutRow : OpenClaim := { program := "ytfmgnbkneccekaa", sum := "1eec908dd4b95ab6bbb947ed05300a939de8cc4f5702ecc5e96f51a477fa8c8f", func := "loop.example/g00938/laws.FnExactStillOut", spec := "fnExactStillOut", unfollowed := true, recurses := true, apart := false }
def FnExactStillOutSaid : Prop := fnExactStillOutRow.holds Try.pinned (OpenSpec.ofChange fnExactStillOutSpec)

/-- ITS FALSE NEIGHBOUR: 'it returns false'. Refute it at one input. -/
def fnExactStillOutWrong : ChangeSpec := { name := "fnExactStillOut", fn := fun _ => fun
  | [d] => { results := [.lit (.bool false)], args := [d] }
  | _ => none }
def FnExactStillOutWrongFalsely : Prop := fnExactStillOutRow.holds Try.pinned (OpenSpec.ofChange fnExactStillOutWrong)

/-- 'laws.FnExactRunsOf': WHATEVER THE INPUT: true; the input reads as it did. -/
def fnExactRunsOfSpec : ChangeSpec := { name := "fnExactRunsOf", fn := fun _ => fun
  | [d] => { results := [.lit (.bool true)], args := [d] }
  | _ => none }
def fnExactRunsOfRow : OpenClaim := { program := "ytfmgnbkneccekaa", sum := "1eec908dd4b95ab6bbb947ed05300a939de8cc4f5702ecc5e96f51a477fa8c8f", func := "loop.example/g00938/laws.FnExactRunsOf", spec := "fnExactRunsOf", unfollowed := true, recurses := true, apart := false }
def FnExactRunsOfSaid : Prop := fnExactRunsOfRow.holds Try.pinned (OpenSpec.ofChange fnExactRunsOfSpec)

/-- ITS FALSE NEIGHBOUR: 'it returns false'. Refute it at one input. -/
def fnExactRunsOfWrong : ChangeSpec := { name := "fnExactRunsOf", fn := fun _ => fun
  | [d] => { results := [.lit (.bool false)], args := [d] }
  | _ => none }
def FnExactRunsOfWrongFalsely : Prop := fnExactRunsOfRow.holds Try.pinned (OpenSpec.ofChange fnExactRunsOfWrong)

/-- 'laws.FnExactStepRace': WHATEVER THE INPUT: true; the input reads as it did. -/
def fnExactStepRaceSpec : ChangeSpec := { name := "fnExactStepRace", fn := fun _ => fun
  | [d1, d2] => { results := [.lit (.bool true)], args := [d1, d2] }
  | _ => none }
def fnExactStepRaceRow : OpenClaim := { program := "ytfmgnbkneccekaa", sum := "1eec908dd4b95ab6bbb947ed05300a939de8cc4f5702ecc5e96f51a477fa8c8f", func := "loop.example/g00938/laws.FnExactStepRace", spec := "fnExactStepRace", unfollowed := true, recurses := true, apart := false }
def FnExactStepRaceSaid : Prop := fnExactStepRaceRow.holds Try.pinned (OpenSpec.ofChange fnExactStepRaceSpec)

/-- ITS FALSE NEIGHBOUR: 'it returns false'. Refute it at one input. -/
def fnExactStepRaceWrong : ChangeSpec := { name := "fnExactStepRace", fn := fun _ => fun
  | [d1, d2] => { results := [.lit (.bool false)], args := [d1, d2] }
  | _ => none }
def FnExactStepRaceWrongFalsely : Prop := fnExactStepRaceRow.holds Try.pinned (OpenSpec.ofChange fnExactStepRaceWrong)

/-- 'laws.FnExactRunRace': WHATEVER THE INPUT: true; the input reads as it did. -/
def fnExactRunRaceSpec : ChangeSpec := { name := "fnExactRunRace", fn := fun _ => fun
  | [d1, d2] => { results := [.lit (.bool true)], args := [d1, d2] }
  | _ => none }
def fnExactRunRaceRow : OpenClaim := { program := "ytfmgnbkneccekaa", sum := "1eec908dd4b95ab6bbb947ed05300a939de8cc4f5702ecc5e96f51a477fa8c8f", func := "loop.example/g00938/laws.FnExactRunRace", spec := "fnExactRunRace", unfollowed := true, recurses := true, apart := false }
def FnExactRunRaceSaid : Prop := fnExactRunRaceRow.holds Try.pinned (OpenSpec.ofChange fnExactRunRaceSpec)

/-- ITS FALSE NEIGHBOUR: 'it returns false'. Refute it at one input. -/
def fnExactRunRaceWrong : ChangeSpec := { name := "fnExactRunRace", fn := fun _ => fun
  | [d1, d2] => { results := [.lit (.bool false)], args := [d1, d2] }
  | _ => none }
def FnExactRunRaceWrongFalsely : Prop := fnExactRunRaceRow.holds Try.pinned (OpenSpec.ofChange fnExactRunRaceWrong)

/-- 'laws.FnSeen': WHATEVER THE INPUT: true; the input reads as it did. -/
def fnSeenSpec : ChangeSpec := { name := "fnSeen", fn := fun _ => fun
  | [d] => { results := [.lit (.bool true)], args := [d] }
  | _ => none }
def fnSeenRow : OpenClaim := { program := "ytfmgnbkneccekaa", sum := "1eec908dd4b95ab6bbb947ed05300a939de8cc4f5702ecc5e96f51a477fa8c8f", func := "loop.example/g00938/laws.FnSeen", spec := "fnSeen", unfollowed := true, recurses := true, apart := false }
def FnSeenSaid : Prop := fnSeenRow.holds Try.pinned (OpenSpec.ofChange fnSeenSpec)

/-- ITS FALSE NEIGHBOUR: 'it returns false'. Refute it at one input. -/
def fnSeenWrong : ChangeSpec := { name := "fnSeen", fn := fun _ => fun
  | [d] => { results := [.lit (.bool false)], args := [d] }
  | _ => none }
def FnSeenWrongFalsely : Prop := fnSeenRow.holds Try.pinned (OpenSpec.ofChange fnSeenWrong)

/-- 'laws.FnRaces': WHATEVER THE INPUT: true; the input reads as it did. -/
def fnRacesSpec : ChangeSpec := { name := "fnRaces", fn := fun _ => fun
  | [d] => { results := [.lit (.bool true)], args := [d] }
  | _ => none }
def fnRacesRow : OpenClaim := { program := "ytfmgnbkneccekaa", sum := "1eec908dd4b95ab6bbb947ed05300a939de8cc4f5702ecc5e96f51a477fa8c8f", func := "loop.example/g00938/laws.FnRaces", spec := "fnRaces", unfollowed := true, recurses := true, apart := false }
def FnRacesSaid : Prop := fnRacesRow.holds Try.pinned (OpenSpec.ofChange fnRacesSpec)

/-- ITS FALSE NEIGHBOUR: 'it returns false'. Refute it at one input. -/
def fnRacesWrong : ChangeSpec := { name := "fnRaces", fn := fun _ => fun
  | [d] => { results := [.lit (.bool false)], args := [d] }
  | _ => none }
def FnRacesWrongFalsely : Prop := fnRacesRow.holds Try.pinned (OpenSpec.ofChange fnRacesWrong)

/- THE SECOND FORM. 'bulk': how many values and letters a reading holds, each counted each time it is reached (what is shared counts as often as it is met; a slice's spare places count too). A statement '..UptoSaid' is the law's where the arguments, and the package variables that the reading takes, are together of bulk at most 1048576: NARROWER than '..Said'. Prove '..Said' where nothing that the law and all that it calls make is longer than what came in: it says more and counts as full. Else prove '..UptoSaid'. A law counts once. -/
mutual
def uptoBulk {H : Type} : DataW H → Nat
  | .lit (.string bytes) => bytes.length + 1
  | .lit _ => 1
  | .nil => 1
  | .ptr d => uptoBulk d + 1
  | .slice elems spare => uptoBulkAll elems + uptoBulkAll spare + 1
  | .agg parts => uptoBulkAll parts + 1
  | .iface _ d => uptoBulk d + 1
  | .map entries => uptoBulkEntries entries + 1
  | .held _ => 1
def uptoBulkAll {H : Type} : List (DataW H) → Nat
  | [] => 0
  | d :: r => uptoBulk d + uptoBulkAll r
def uptoBulkEntries {H : Type} : List (Lit × DataW H) → Nat
  | [] => 0
  | x :: r => uptoBulkEntry x + uptoBulkEntries r
def uptoBulkEntry {H : Type} : Lit × DataW H → Nat
  | (.string bytes, d) => bytes.length + uptoBulk d + 1
  | (_, d) => uptoBulk d + 1
 end
def uptoSmall : (H : Type) → List (DataW H) → Bool := fun _ ds => decide (uptoBulkAll ds ≤ 1048576)
def OpenSpec.upto (s : _root_.Go.ChangeSpec) : _root_.Go.OpenSpec := { _root_.Go.OpenSpec.ofChange s with cond := some uptoSmall }

/-- 'laws.FnExactNewRace', WHERE WHAT IT READS IS OF BULK AT MOST 1048576: true; the input reads as it did. -/
def fnExactNewRaceUptoRow : OpenClaim := { program := "ytfmgnbkneccekaa", sum := "1eec908dd4b95ab6bbb947ed05300a939de8cc4f5702ecc5e96f51a477fa8c8f", func := "loop.example/g00938/laws.FnExactNewRace", spec := "fnExactNewRace", apart := false, narrowed := true }
def FnExactNewRaceUptoSaid : Prop := fnExactNewRaceUptoRow.holds Try.pinned (OpenSpec.upto fnExactNewRaceSpec)

/-- 'laws.FnExactIsRace', WHERE WHAT IT READS IS OF BULK AT MOST 1048576: true; the input reads as it did. -/
def fnExactIsRaceUptoRow : OpenClaim := { program := "ytfmgnbkneccekaa", sum := "1eec908dd4b95ab6bbb947ed05300a939de8cc4f5702ecc5e96f51a477fa8c8f", func := "loop.example/g00938/laws.FnExactIsRace", spec := "fnExactIsRace", unfollowed := true, recurses := true, apart := false, narrowed := true }
def FnExactIsRaceUptoSaid : Prop := fnExactIsRaceUptoRow.holds Try.pinned (OpenSpec.upto fnExactIsRaceSpec)

/-- 'laws.FnExactLastSeen', WHERE WHAT IT READS IS OF BULK AT MOST 1048576: true; the input reads as it did. -/
def fnExactLastSeenUptoRow : OpenClaim := { program := "ytfmgnbkneccekaa", sum := "1eec908dd4b95ab6bbb947ed05300a939de8cc4f5702ecc5e96f51a477fa8c8f", func := "loop.example/g00938/laws.FnExactLastSeen", spec := "fnExactLastSeen", unfollowed := true, recurses := true, apart := false, narrowed := true }
def FnExactLastSeenUptoSaid : Prop := fnExactLastSeenUptoRow.holds Try.pinned (OpenSpec.upto fnExactLastSeenSpec)

/-- 'laws.FnExactStateCounts', WHERE WHAT IT READS IS OF BULK AT MOST 1048576: true; the input reads as it did. -/
def fnExactStateCountsUptoRow : OpenClaim := { program := "ytfmgnbkneccekaa", sum := "1eec908dd4b95ab6bbb947ed05300a939de8cc4f5702ecc5e96f51a477fa8c8f", func := "loop.example/g00938/laws.FnExactStateCounts", spec := "fnExactStateCounts", unfollowed := true, recurses := true, apart := false, narrowed := true }
def FnExactStateCountsUptoSaid : Prop := fnExactStateCountsUptoRow.holds Try.pinned (OpenSpec.upto fnExactStateCountsSpec)

/-- 'laws.FnExactStillOut', WHERE WHAT IT READS IS OF BULK AT MOST 1048576: true; the input reads as it did. -/
def fnExactStillOutUptoRow : OpenClaim := { program := "ytfmgnbkneccekaa", sum := "1eec908dd4b95ab6bbb947ed05300a939de8cc4f5702ecc5e96f51a477fa8c8f", func := "loop.example/g00938/laws.FnExactStillOut", spec := "fnExactStillOut", unfollowed := true, recurses := true, apart := false, narrowed := true }
def FnExactStillOutUptoSaid : Prop := fnExactStillOutUptoRow.holds Try.pinned (OpenSpec.upto fnExactStillOutSpec)

/-- 'laws.FnExactRunsOf', WHERE WHAT IT READS IS OF BULK AT MOST 1048576: true; the input reads as it did. -/
def fnExactRunsOfUptoRow : OpenClaim := { program := "ytfmgnbkneccekaa", sum := "1eec908dd4b95ab6bbb947ed05300a939de8cc4f5702ecc5e96f51a477fa8c8f", func := "loop.example/g00938/laws.FnExactRunsOf", spec := "fnExactRunsOf", unfollowed := true, recurses := true, apart := false, narrowed := true }
def FnExactRunsOfUptoSaid : Prop := fnExactRunsOfUptoRow.holds Try.pinned (OpenSpec.upto fnExactRunsOfSpec)

/-- 'laws.FnExactStepRace', WHERE WHAT IT READS IS OF BULK AT MOST 1048576: true; the input reads as it did. -/
def fnExactStepRaceUptoRow : OpenClaim := { program := "ytfmgnbkneccekaa", sum := "1eec908dd4b95ab6bbb947ed05300a939de8cc4f5702ecc5e96f51a477fa8c8f", func := "loop.example/g00938/laws.FnExactStepRace", spec := "fnExactStepRace", unfollowed := true, recurses := true, apart := false, narrowed := true }
def FnExactStepRaceUptoSaid : Prop := fnExactStepRaceUptoRow.holds Try.pinned (OpenSpec.upto fnExactStepRaceSpec)

/-- 'laws.FnExactRunRace', WHERE WHAT IT READS IS OF BULK AT MOST 1048576: true; the input reads as it did. -/
def fnExactRunRaceUptoRow : OpenClaim := { program := "ytfmgnbkneccekaa", sum := "1eec908dd4b95ab6bbb947ed05300a939de8cc4f5702ecc5e96f51a477fa8c8f", func := "loop.example/g00938/laws.FnExactRunRace", spec := "fnExactRunRace", unfollowed := true, recurses := true, apart := false, narrowed := true }
def FnExactRunRaceUptoSaid : Prop := fnExactRunRaceUptoRow.holds Try.pinned (OpenSpec.upto fnExactRunRaceSpec)

/-- 'laws.FnSeen', WHERE WHAT IT READS IS OF BULK AT MOST 1048576: true; the input reads as it did. -/
def fnSeenUptoRow : OpenClaim := { program := "ytfmgnbkneccekaa", sum := "1eec908dd4b95ab6bbb947ed05300a939de8cc4f5702ecc5e96f51a477fa8c8f", func := "loop.example/g00938/laws.FnSeen", spec := "fnSeen", unfollowed := true, recurses := true, apart := false, narrowed := true }
def FnSeenUptoSaid : Prop := fnSeenUptoRow.holds Try.pinned (OpenSpec.upto fnSeenSpec)

/-- 'laws.FnRaces', WHERE WHAT IT READS IS OF BULK AT MOST 1048576: true; the input reads as it did. -/
def fnRacesUptoRow : OpenClaim := { program := "ytfmgnbkneccekaa", sum := "1eec908dd4b95ab6bbb947ed05300a939de8cc4f5702ecc5e96f51a477fa8c8f", func := "loop.example/g00938/laws.FnRaces", spec := "fnRaces", unfollowed := true, recurses := true, apart := false, narrowed := true }
def FnRacesUptoSaid : Prop := fnRacesUptoRow.holds Try.pinned (OpenSpec.upto fnRacesSpec)

end Rows
end Go.Proofs.Ytfmgnbkneccekaa
