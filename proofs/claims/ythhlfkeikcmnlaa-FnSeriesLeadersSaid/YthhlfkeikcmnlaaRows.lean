/-
  No cell of these rows narrows 'for every input' (looked for: loops, veiled, ifaces, maps, wideKeys, modest, calm, conditions, laid).
  DERIVED. THE GIVEN ROWS OF THIS SEAT. 11 by the template 'for every input the law returns true; each argument reads behind the call as it read before'; 0 by the template 'total and deterministic' (their statements: YthhlfkeikcmnlaaTotals.lean).
  GIVEN WITH THE SEED: the statements are not yours to turn. If you find one false, say at which input.
  Laid BY PROGRAM, IN A SANDBOX (cutbox-rows.mjs): the forced cells as the released guide's own fill.sh prints them over the translation 63fdbb0a5c350864… (all of the seat's roots in one cut). By AI agents, Wed Nov 11 2026. No macro, syntax, notation, axiom, sorry.
-/
import Derived.Test.YthhlfkeikcmnlaaChecked
import GoSem.Claim
import GoSem.ClaimJoined
import GoSem.ClaimMapViews
import Derived.JoinedTies
import Derived.KernelRfl
namespace Go.Proofs.Ythhlfkeikcmnlaa
/- THE CELL 'sum', in the pinned program and in every row, IS THE sha256 OF THE DUMP (.gsa) THAT YthhlfkeikcmnlaaProg.lean LOADS. Nothing in Lean hashes anything: it is a label: what it is worth is what the hold of that sum in a sandbox is worth. -/
noncomputable def Try.pinned : Pinned := { name := "ythhlfkeikcmnlaa", sum := "63fdbb0a5c350864d22da47c10529e51576b23e62b91625ee7a6558cdd7a26a6", checked := Try.checked }
namespace Rows
def none {H : Type} : Left H := { results := [], args := [] }

/-- 'laws.FnExactAreScores': WHATEVER THE INPUT: true; the input reads as it did. -/
def fnExactAreScoresSpec : ChangeSpec := { name := "fnExactAreScores", fn := fun _ => fun
  | [d1, d2, d3] => { results := [.lit (.bool true)], args := [d1, d2, d3] }
  | _ => none }
def fnExactAreScoresRow : OpenClaim := { program := "ythhlfkeikcmnlaa", sum := "63fdbb0a5c350864d22da47c10529e51576b23e62b91625ee7a6558cdd7a26a6", func := "loop.example/g00938/laws.FnExactAreScores", spec := "fnExactAreScores", apart := false }
def FnExactAreScoresSaid : Prop := fnExactAreScoresRow.holds Try.pinned (OpenSpec.ofChange fnExactAreScoresSpec)

/-- ITS FALSE NEIGHBOUR: 'it returns false'. Refute it at one input. -/
def fnExactAreScoresWrong : ChangeSpec := { name := "fnExactAreScores", fn := fun _ => fun
  | [d1, d2, d3] => { results := [.lit (.bool false)], args := [d1, d2, d3] }
  | _ => none }
def FnExactAreScoresWrongFalsely : Prop := fnExactAreScoresRow.holds Try.pinned (OpenSpec.ofChange fnExactAreScoresWrong)

/-- 'laws.FnExactAddScore': WHATEVER THE INPUT: true; the input reads as it did. -/
def fnExactAddScoreSpec : ChangeSpec := { name := "fnExactAddScore", fn := fun _ => fun
  | [d1, d2, d3, d4] => { results := [.lit (.bool true)], args := [d1, d2, d3, d4] }
  | _ => none }
def fnExactAddScoreRow : OpenClaim := { program := "ythhlfkeikcmnlaa", sum := "63fdbb0a5c350864d22da47c10529e51576b23e62b91625ee7a6558cdd7a26a6", func := "loop.example/g00938/laws.FnExactAddScore", spec := "fnExactAddScore", inPlace := ["slices.overlaps[loop.example/g00938/impl.Score]"], apart := false }
def FnExactAddScoreSaid : Prop := fnExactAddScoreRow.holds Try.pinned (OpenSpec.ofChange fnExactAddScoreSpec)

/-- ITS FALSE NEIGHBOUR: 'it returns false'. Refute it at one input. -/
def fnExactAddScoreWrong : ChangeSpec := { name := "fnExactAddScore", fn := fun _ => fun
  | [d1, d2, d3, d4] => { results := [.lit (.bool false)], args := [d1, d2, d3, d4] }
  | _ => none }
def FnExactAddScoreWrongFalsely : Prop := fnExactAddScoreRow.holds Try.pinned (OpenSpec.ofChange fnExactAddScoreWrong)

/-- 'laws.FnExactTotalOf': WHATEVER THE INPUT: true; the input reads as it did. -/
def fnExactTotalOfSpec : ChangeSpec := { name := "fnExactTotalOf", fn := fun _ => fun
  | [d1, d2, d3, d4] => { results := [.lit (.bool true)], args := [d1, d2, d3, d4] }
  | _ => none }
def fnExactTotalOfRow : OpenClaim := { program := "ythhlfkeikcmnlaa", sum := "63fdbb0a5c350864d22da47c10529e51576b23e62b91625ee7a6558cdd7a26a6", func := "loop.example/g00938/laws.FnExactTotalOf", spec := "fnExactTotalOf", unfollowed := true, recurses := true, apart := false }
def FnExactTotalOfSaid : Prop := fnExactTotalOfRow.holds Try.pinned (OpenSpec.ofChange fnExactTotalOfSpec)

/-- ITS FALSE NEIGHBOUR: 'it returns false'. Refute it at one input. -/
def fnExactTotalOfWrong : ChangeSpec := { name := "fnExactTotalOf", fn := fun _ => fun
  | [d1, d2, d3, d4] => { results := [.lit (.bool false)], args := [d1, d2, d3, d4] }
  | _ => none }
def FnExactTotalOfWrongFalsely : Prop := fnExactTotalOfRow.holds Try.pinned (OpenSpec.ofChange fnExactTotalOfWrong)

/-- 'laws.FnExactMostPossible': WHATEVER THE INPUT: true; the input reads as it did. -/
def fnExactMostPossibleSpec : ChangeSpec := { name := "fnExactMostPossible", fn := fun _ => fun
  | [d1, d2, d3, d4, d5] => { results := [.lit (.bool true)], args := [d1, d2, d3, d4, d5] }
  | _ => none }
def fnExactMostPossibleRow : OpenClaim := { program := "ythhlfkeikcmnlaa", sum := "63fdbb0a5c350864d22da47c10529e51576b23e62b91625ee7a6558cdd7a26a6", func := "loop.example/g00938/laws.FnExactMostPossible", spec := "fnExactMostPossible", unfollowed := true, recurses := true, apart := false }
def FnExactMostPossibleSaid : Prop := fnExactMostPossibleRow.holds Try.pinned (OpenSpec.ofChange fnExactMostPossibleSpec)

/-- ITS FALSE NEIGHBOUR: 'it returns false'. Refute it at one input. -/
def fnExactMostPossibleWrong : ChangeSpec := { name := "fnExactMostPossible", fn := fun _ => fun
  | [d1, d2, d3, d4, d5] => { results := [.lit (.bool false)], args := [d1, d2, d3, d4, d5] }
  | _ => none }
def FnExactMostPossibleWrongFalsely : Prop := fnExactMostPossibleRow.holds Try.pinned (OpenSpec.ofChange fnExactMostPossibleWrong)

/-- 'laws.FnExactRacesWon': WHATEVER THE INPUT: true; the input reads as it did. -/
def fnExactRacesWonSpec : ChangeSpec := { name := "fnExactRacesWon", fn := fun _ => fun
  | [d1, d2, d3, d4] => { results := [.lit (.bool true)], args := [d1, d2, d3, d4] }
  | _ => none }
def fnExactRacesWonRow : OpenClaim := { program := "ythhlfkeikcmnlaa", sum := "63fdbb0a5c350864d22da47c10529e51576b23e62b91625ee7a6558cdd7a26a6", func := "loop.example/g00938/laws.FnExactRacesWon", spec := "fnExactRacesWon", unfollowed := true, recurses := true, apart := false }
def FnExactRacesWonSaid : Prop := fnExactRacesWonRow.holds Try.pinned (OpenSpec.ofChange fnExactRacesWonSpec)

/-- ITS FALSE NEIGHBOUR: 'it returns false'. Refute it at one input. -/
def fnExactRacesWonWrong : ChangeSpec := { name := "fnExactRacesWon", fn := fun _ => fun
  | [d1, d2, d3, d4] => { results := [.lit (.bool false)], args := [d1, d2, d3, d4] }
  | _ => none }
def FnExactRacesWonWrongFalsely : Prop := fnExactRacesWonRow.holds Try.pinned (OpenSpec.ofChange fnExactRacesWonWrong)

/-- 'laws.FnExactSeriesRank': WHATEVER THE INPUT: true; the input reads as it did. -/
def fnExactSeriesRankSpec : ChangeSpec := { name := "fnExactSeriesRank", fn := fun _ => fun
  | [d1, d2, d3, d4] => { results := [.lit (.bool true)], args := [d1, d2, d3, d4] }
  | _ => none }
def fnExactSeriesRankRow : OpenClaim := { program := "ythhlfkeikcmnlaa", sum := "63fdbb0a5c350864d22da47c10529e51576b23e62b91625ee7a6558cdd7a26a6", func := "loop.example/g00938/laws.FnExactSeriesRank", spec := "fnExactSeriesRank", unfollowed := true, recurses := true, apart := false }
def FnExactSeriesRankSaid : Prop := fnExactSeriesRankRow.holds Try.pinned (OpenSpec.ofChange fnExactSeriesRankSpec)

/-- ITS FALSE NEIGHBOUR: 'it returns false'. Refute it at one input. -/
def fnExactSeriesRankWrong : ChangeSpec := { name := "fnExactSeriesRank", fn := fun _ => fun
  | [d1, d2, d3, d4] => { results := [.lit (.bool false)], args := [d1, d2, d3, d4] }
  | _ => none }
def FnExactSeriesRankWrongFalsely : Prop := fnExactSeriesRankRow.holds Try.pinned (OpenSpec.ofChange fnExactSeriesRankWrong)

/-- 'laws.FnExactStandings': WHATEVER THE INPUT: true; the input reads as it did. -/
def fnExactStandingsSpec : ChangeSpec := { name := "fnExactStandings", fn := fun _ => fun
  | [d1, d2, d3] => { results := [.lit (.bool true)], args := [d1, d2, d3] }
  | _ => none }
def fnExactStandingsRow : OpenClaim := { program := "ythhlfkeikcmnlaa", sum := "63fdbb0a5c350864d22da47c10529e51576b23e62b91625ee7a6558cdd7a26a6", func := "loop.example/g00938/laws.FnExactStandings", spec := "fnExactStandings", unfollowed := true, recurses := true, apart := false }
def FnExactStandingsSaid : Prop := fnExactStandingsRow.holds Try.pinned (OpenSpec.ofChange fnExactStandingsSpec)

/-- ITS FALSE NEIGHBOUR: 'it returns false'. Refute it at one input. -/
def fnExactStandingsWrong : ChangeSpec := { name := "fnExactStandings", fn := fun _ => fun
  | [d1, d2, d3] => { results := [.lit (.bool false)], args := [d1, d2, d3] }
  | _ => none }
def FnExactStandingsWrongFalsely : Prop := fnExactStandingsRow.holds Try.pinned (OpenSpec.ofChange fnExactStandingsWrong)

/-- 'laws.FnExactNeededToLead': WHATEVER THE INPUT: true; the input reads as it did. -/
def fnExactNeededToLeadSpec : ChangeSpec := { name := "fnExactNeededToLead", fn := fun _ => fun
  | [d1, d2, d3, d4, d5] => { results := [.lit (.bool true)], args := [d1, d2, d3, d4, d5] }
  | _ => none }
def fnExactNeededToLeadRow : OpenClaim := { program := "ythhlfkeikcmnlaa", sum := "63fdbb0a5c350864d22da47c10529e51576b23e62b91625ee7a6558cdd7a26a6", func := "loop.example/g00938/laws.FnExactNeededToLead", spec := "fnExactNeededToLead", inPlace := ["slices.overlaps[loop.example/g00938/impl.Score]"], unfollowed := true, recurses := true, apart := false }
def FnExactNeededToLeadSaid : Prop := fnExactNeededToLeadRow.holds Try.pinned (OpenSpec.ofChange fnExactNeededToLeadSpec)

/-- ITS FALSE NEIGHBOUR: 'it returns false'. Refute it at one input. -/
def fnExactNeededToLeadWrong : ChangeSpec := { name := "fnExactNeededToLead", fn := fun _ => fun
  | [d1, d2, d3, d4, d5] => { results := [.lit (.bool false)], args := [d1, d2, d3, d4, d5] }
  | _ => none }
def FnExactNeededToLeadWrongFalsely : Prop := fnExactNeededToLeadRow.holds Try.pinned (OpenSpec.ofChange fnExactNeededToLeadWrong)

/-- 'laws.FnExactCountingRaces': WHATEVER THE INPUT: true; the input reads as it did. -/
def fnExactCountingRacesSpec : ChangeSpec := { name := "fnExactCountingRaces", fn := fun _ => fun
  | [d1, d2, d3, d4] => { results := [.lit (.bool true)], args := [d1, d2, d3, d4] }
  | _ => none }
def fnExactCountingRacesRow : OpenClaim := { program := "ythhlfkeikcmnlaa", sum := "63fdbb0a5c350864d22da47c10529e51576b23e62b91625ee7a6558cdd7a26a6", func := "loop.example/g00938/laws.FnExactCountingRaces", spec := "fnExactCountingRaces", unfollowed := true, recurses := true, apart := false }
def FnExactCountingRacesSaid : Prop := fnExactCountingRacesRow.holds Try.pinned (OpenSpec.ofChange fnExactCountingRacesSpec)

/-- ITS FALSE NEIGHBOUR: 'it returns false'. Refute it at one input. -/
def fnExactCountingRacesWrong : ChangeSpec := { name := "fnExactCountingRaces", fn := fun _ => fun
  | [d1, d2, d3, d4] => { results := [.lit (.bool false)], args := [d1, d2, d3, d4] }
  | _ => none }
def FnExactCountingRacesWrongFalsely : Prop := fnExactCountingRacesRow.holds Try.pinned (OpenSpec.ofChange fnExactCountingRacesWrong)

/-- 'laws.FnSeriesLeaders': WHATEVER THE INPUT: true; the input reads as it did. -/
def fnSeriesLeadersSpec : ChangeSpec := { name := "fnSeriesLeaders", fn := fun _ => fun
  | [d] => { results := [.lit (.bool true)], args := [d] }
  | _ => none }
def fnSeriesLeadersRow : OpenClaim := { program := "ythhlfkeikcmnlaa", sum := "63fdbb0a5c350864d22da47c10529e51576b23e62b91625ee7a6558cdd7a26a6", func := "loop.example/g00938/laws.FnSeriesLeaders", spec := "fnSeriesLeaders", inPlace := ["slices.overlaps[loop.example/g00938/impl.Score]"], unfollowed := true, recurses := true, apart := false }
def FnSeriesLeadersSaid : Prop := fnSeriesLeadersRow.holds Try.pinned (OpenSpec.ofChange fnSeriesLeadersSpec)

/-- ITS FALSE NEIGHBOUR: 'it returns false'. Refute it at one input. -/
def fnSeriesLeadersWrong : ChangeSpec := { name := "fnSeriesLeaders", fn := fun _ => fun
  | [d] => { results := [.lit (.bool false)], args := [d] }
  | _ => none }
def FnSeriesLeadersWrongFalsely : Prop := fnSeriesLeadersRow.holds Try.pinned (OpenSpec.ofChange fnSeriesLeadersWrong)

/-- 'laws.FnSeries': WHATEVER THE INPUT: true; the input reads as it did. -/
def fnSeriesSpec : ChangeSpec := { name := "fnSeries", fn := fun _ => fun
  | [d] => { results := [.lit (.bool true)], args := [d] }
  | _ => none }
def fnSeriesRow : OpenClaim := { program := "ythhlfkeikcmnlaa", sum := "63fdbb0a5c350864d22da47c10529e51576b23e62b91625ee7a6558cdd7a26a6", func := "loop.example/g00938/laws.FnSeries", spec := "fnSeries", unfollowed := true, recurses := true, apart := false }
def FnSeriesSaid : Prop := fnSeriesRow.holds Try.pinned (OpenSpec.ofChange fnSeriesSpec)

/-- ITS FALSE NEIGHBOUR: 'it returns false'. Refute it at one input. -/
def fnSeriesWrong : ChangeSpec := { name := "fnSeries", fn := fun _ => fun
  | [d] => { results := [.lit (.bool false)], args := [d] }
  | _ => none }
def FnSeriesWrongFalsely : Prop := fnSeriesRow.holds Try.pinned (OpenSpec.ofChange fnSeriesWrong)

/- THE SECOND FORM. 'bulk': how many values and letters a reading holds, each counted each time it is reached (what is shared counts as often as it is met; a slice's spare places count too). A statement '..UptoSaid' is the law's where the arguments, and the package variables that the reading takes, are together of bulk at most 1048576: NARROWER than '..Said'. Prove '..Said' where nothing that the law and all that it calls make is longer than what came in: it says more and counts as full. Else prove '..UptoSaid'. A law counts once. -/
mutual
def uptoBulk {H : Type} : DataW H → Nat
  | .lit (.string bytes) => bytes.length + 1
  | .lit _ => 1
  | .nil => 1
  | .ptr d => uptoBulk d + 1
  | .slice elems spare => uptoBulkAll elems + uptoBulkAll spare + 1
  | .agg parts => uptoBulkAll parts + 1
  | .iface _ d => uptoBulk d + 1
  | .map entries => uptoBulkEntries entries + 1
  | .held _ => 1
def uptoBulkAll {H : Type} : List (DataW H) → Nat
  | [] => 0
  | d :: r => uptoBulk d + uptoBulkAll r
def uptoBulkEntries {H : Type} : List (Lit × DataW H) → Nat
  | [] => 0
  | x :: r => uptoBulkEntry x + uptoBulkEntries r
def uptoBulkEntry {H : Type} : Lit × DataW H → Nat
  | (.string bytes, d) => bytes.length + uptoBulk d + 1
  | (_, d) => uptoBulk d + 1
 end
def uptoSmall : (H : Type) → List (DataW H) → Bool := fun _ ds => decide (uptoBulkAll ds ≤ 1048576)
def OpenSpec.upto (s : _root_.Go.ChangeSpec) : _root_.Go.OpenSpec := { _root_.Go.OpenSpec.ofChange s with cond := some uptoSmall }

/-- 'laws.FnExactAreScores', WHERE WHAT IT READS IS OF BULK AT MOST 1048576: true; the input reads as it did. -/
def fnExactAreScoresUptoRow : OpenClaim := { program := "ythhlfkeikcmnlaa", sum := "63fdbb0a5c350864d22da47c10529e51576b23e62b91625ee7a6558cdd7a26a6", func := "loop.example/g00938/laws.FnExactAreScores", spec := "fnExactAreScores", apart := false, narrowed := true }
def FnExactAreScoresUptoSaid : Prop := fnExactAreScoresUptoRow.holds Try.pinned (OpenSpec.upto fnExactAreScoresSpec)

/-- 'laws.FnExactAddScore', WHERE WHAT IT READS IS OF BULK AT MOST 1048576: true; the input reads as it did. -/
def fnExactAddScoreUptoRow : OpenClaim := { program := "ythhlfkeikcmnlaa", sum := "63fdbb0a5c350864d22da47c10529e51576b23e62b91625ee7a6558cdd7a26a6", func := "loop.example/g00938/laws.FnExactAddScore", spec := "fnExactAddScore", inPlace := ["slices.overlaps[loop.example/g00938/impl.Score]"], apart := false, narrowed := true }
def FnExactAddScoreUptoSaid : Prop := fnExactAddScoreUptoRow.holds Try.pinned (OpenSpec.upto fnExactAddScoreSpec)

/-- 'laws.FnExactTotalOf', WHERE WHAT IT READS IS OF BULK AT MOST 1048576: true; the input reads as it did. -/
def fnExactTotalOfUptoRow : OpenClaim := { program := "ythhlfkeikcmnlaa", sum := "63fdbb0a5c350864d22da47c10529e51576b23e62b91625ee7a6558cdd7a26a6", func := "loop.example/g00938/laws.FnExactTotalOf", spec := "fnExactTotalOf", unfollowed := true, recurses := true, apart := false, narrowed := true }
def FnExactTotalOfUptoSaid : Prop := fnExactTotalOfUptoRow.holds Try.pinned (OpenSpec.upto fnExactTotalOfSpec)

/-- 'laws.FnExactMostPossible', WHERE WHAT IT READS IS OF BULK AT MOST 1048576: true; the input reads as it did. -/
def fnExactMostPossibleUptoRow : OpenClaim := { program := "ythhlfkeikcmnlaa", sum := "63fdbb0a5c350864d22da47c10529e51576b23e62b91625ee7a6558cdd7a26a6", func := "loop.example/g00938/laws.FnExactMostPossible", spec := "fnExactMostPossible", unfollowed := true, recurses := true, apart := false, narrowed := true }
def FnExactMostPossibleUptoSaid : Prop := fnExactMostPossibleUptoRow.holds Try.pinned (OpenSpec.upto fnExactMostPossibleSpec)

/-- 'laws.FnExactRacesWon', WHERE WHAT IT READS IS OF BULK AT MOST 1048576: true; the input reads as it did. -/
def fnExactRacesWonUptoRow : OpenClaim := { program := "ythhlfkeikcmnlaa", sum := "63fdbb0a5c350864d22da47c10529e51576b23e62b91625ee7a6558cdd7a26a6", func := "loop.example/g00938/laws.FnExactRacesWon", spec := "fnExactRacesWon", unfollowed := true, recurses := true, apart := false, narrowed := true }
def FnExactRacesWonUptoSaid : Prop := fnExactRacesWonUptoRow.holds Try.pinned (OpenSpec.upto fnExactRacesWonSpec)

/-- 'laws.FnExactSeriesRank', WHERE WHAT IT READS IS OF BULK AT MOST 1048576: true; the input reads as it did. -/
def fnExactSeriesRankUptoRow : OpenClaim := { program := "ythhlfkeikcmnlaa", sum := "63fdbb0a5c350864d22da47c10529e51576b23e62b91625ee7a6558cdd7a26a6", func := "loop.example/g00938/laws.FnExactSeriesRank", spec := "fnExactSeriesRank", unfollowed := true, recurses := true, apart := false, narrowed := true }
def FnExactSeriesRankUptoSaid : Prop := fnExactSeriesRankUptoRow.holds Try.pinned (OpenSpec.upto fnExactSeriesRankSpec)

/-- 'laws.FnExactStandings', WHERE WHAT IT READS IS OF BULK AT MOST 1048576: true; the input reads as it did. -/
def fnExactStandingsUptoRow : OpenClaim := { program := "ythhlfkeikcmnlaa", sum := "63fdbb0a5c350864d22da47c10529e51576b23e62b91625ee7a6558cdd7a26a6", func := "loop.example/g00938/laws.FnExactStandings", spec := "fnExactStandings", unfollowed := true, recurses := true, apart := false, narrowed := true }
def FnExactStandingsUptoSaid : Prop := fnExactStandingsUptoRow.holds Try.pinned (OpenSpec.upto fnExactStandingsSpec)

/-- 'laws.FnExactNeededToLead', WHERE WHAT IT READS IS OF BULK AT MOST 1048576: true; the input reads as it did. -/
def fnExactNeededToLeadUptoRow : OpenClaim := { program := "ythhlfkeikcmnlaa", sum := "63fdbb0a5c350864d22da47c10529e51576b23e62b91625ee7a6558cdd7a26a6", func := "loop.example/g00938/laws.FnExactNeededToLead", spec := "fnExactNeededToLead", inPlace := ["slices.overlaps[loop.example/g00938/impl.Score]"], unfollowed := true, recurses := true, apart := false, narrowed := true }
def FnExactNeededToLeadUptoSaid : Prop := fnExactNeededToLeadUptoRow.holds Try.pinned (OpenSpec.upto fnExactNeededToLeadSpec)

/-- 'laws.FnExactCountingRaces', WHERE WHAT IT READS IS OF BULK AT MOST 1048576: true; the input reads as it did. -/
def fnExactCountingRacesUptoRow : OpenClaim := { program := "ythhlfkeikcmnlaa", sum := "63fdbb0a5c350864d22da47c10529e51576b23e62b91625ee7a6558cdd7a26a6", func := "loop.example/g00938/laws.FnExactCountingRaces", spec := "fnExactCountingRaces", unfollowed := true, recurses := true, apart := false, narrowed := true }
def FnExactCountingRacesUptoSaid : Prop := fnExactCountingRacesUptoRow.holds Try.pinned (OpenSpec.upto fnExactCountingRacesSpec)

/-- 'laws.FnSeriesLeaders', WHERE WHAT IT READS IS OF BULK AT MOST 1048576: true; the input reads as it did. -/
def fnSeriesLeadersUptoRow : OpenClaim := { program := "ythhlfkeikcmnlaa", sum := "63fdbb0a5c350864d22da47c10529e51576b23e62b91625ee7a6558cdd7a26a6", func := "loop.example/g00938/laws.FnSeriesLeaders", spec := "fnSeriesLeaders", inPlace := ["slices.overlaps[loop.example/g00938/impl.Score]"], unfollowed := true, recurses := true, apart := false, narrowed := true }
def FnSeriesLeadersUptoSaid : Prop := fnSeriesLeadersUptoRow.holds Try.pinned (OpenSpec.upto fnSeriesLeadersSpec)

/-- 'laws.FnSeries', WHERE WHAT IT READS IS OF BULK AT MOST 1048576: true; the input reads as it did. -/
def fnSeriesUptoRow : OpenClaim := { program := "ythhlfkeikcmnlaa", sum := "63fdbb0a5c350864d22da47c10529e51576b23e62b91625ee7a6558cdd7a26a6", func := "loop.example/g00938/laws.FnSeries", spec := "fnSeries", unfollowed := true, recurses := true, apart := false, narrowed := true }
def FnSeriesUptoSaid : Prop := fnSeriesUptoRow.holds Try.pinned (OpenSpec.upto fnSeriesSpec)

end Rows
end Go.Proofs.Ythhlfkeikcmnlaa
