/-
  No cell of these rows narrows 'for every input' (looked for: loops, veiled, ifaces, maps, wideKeys, modest, calm, conditions, laid).
  DERIVED. THE GIVEN ROWS OF THIS SEAT. 7 by the template 'for every input the law returns true; each argument reads behind the call as it read before'; 0 by the template 'total and deterministic' (their statements: YtabgmbmaakglkaaTotals.lean).
  GIVEN WITH THE SEED: the statements are not yours to turn. If you find one false, say at which input.
  Laid BY PROGRAM, IN A SANDBOX (cutbox-rows.mjs): the forced cells as the released guide's own fill.sh prints them over the translation 3358ee97a4d29f20… (all of the seat's roots in one cut). By AI agents, Wed Nov 11 2026. No macro, syntax, notation, axiom, sorry.
-/
import Derived.Test.YtabgmbmaakglkaaChecked
import GoSem.Claim
import GoSem.ClaimJoined
import GoSem.ClaimMapViews
import Derived.JoinedTies
import Derived.KernelRfl
namespace Go.Proofs.Ytabgmbmaakglkaa
/- THE CELL 'sum', in the pinned program and in every row, IS THE sha256 OF THE DUMP (.gsa) THAT YtabgmbmaakglkaaProg.lean LOADS. Nothing in Lean hashes anything: it is a label: what it is worth is what the hold of that sum in a sandbox is worth. -/
noncomputable def Try.pinned : Pinned := { name := "ytabgmbmaakglkaa", sum := "3358ee97a4d29f203f7b286147742b1604cb74cb12f2f0da3cf4346355fb14d6", checked := Try.checked }
namespace Rows
def none {H : Type} : Left H := { results := [], args := [] }

/-- 'laws.FnExactPlacingOf': WHATEVER THE INPUT: true; the input reads as it did. -/
def fnExactPlacingOfSpec : ChangeSpec := { name := "fnExactPlacingOf", fn := fun _ => fun
  | [d] => { results := [.lit (.bool true)], args := [d] }
  | _ => none }
def fnExactPlacingOfRow : OpenClaim := { program := "ytabgmbmaakglkaa", sum := "3358ee97a4d29f203f7b286147742b1604cb74cb12f2f0da3cf4346355fb14d6", func := "loop.example/g00938/laws.FnExactPlacingOf", spec := "fnExactPlacingOf", unfollowed := true, recurses := true, apart := false }
def FnExactPlacingOfSaid : Prop := fnExactPlacingOfRow.holds Try.pinned (OpenSpec.ofChange fnExactPlacingOfSpec)

/-- ITS FALSE NEIGHBOUR: 'it returns false'. Refute it at one input. -/
def fnExactPlacingOfWrong : ChangeSpec := { name := "fnExactPlacingOf", fn := fun _ => fun
  | [d] => { results := [.lit (.bool false)], args := [d] }
  | _ => none }
def FnExactPlacingOfWrongFalsely : Prop := fnExactPlacingOfRow.holds Try.pinned (OpenSpec.ofChange fnExactPlacingOfWrong)

/-- 'laws.FnExactPhotoFinish': WHATEVER THE INPUT: true; the input reads as it did. -/
def fnExactPhotoFinishSpec : ChangeSpec := { name := "fnExactPhotoFinish", fn := fun _ => fun
  | [d1, d2] => { results := [.lit (.bool true)], args := [d1, d2] }
  | _ => none }
def fnExactPhotoFinishRow : OpenClaim := { program := "ytabgmbmaakglkaa", sum := "3358ee97a4d29f203f7b286147742b1604cb74cb12f2f0da3cf4346355fb14d6", func := "loop.example/g00938/laws.FnExactPhotoFinish", spec := "fnExactPhotoFinish", unfollowed := true, recurses := true, apart := false }
def FnExactPhotoFinishSaid : Prop := fnExactPhotoFinishRow.holds Try.pinned (OpenSpec.ofChange fnExactPhotoFinishSpec)

/-- ITS FALSE NEIGHBOUR: 'it returns false'. Refute it at one input. -/
def fnExactPhotoFinishWrong : ChangeSpec := { name := "fnExactPhotoFinish", fn := fun _ => fun
  | [d1, d2] => { results := [.lit (.bool false)], args := [d1, d2] }
  | _ => none }
def FnExactPhotoFinishWrongFalsely : Prop := fnExactPhotoFinishRow.holds Try.pinned (OpenSpec.ofChange fnExactPhotoFinishWrong)

/-- 'laws.FnExactLuckyLimit': WHATEVER THE INPUT: true; the input reads as it did. -/
def fnExactLuckyLimitSpec : ChangeSpec := { name := "fnExactLuckyLimit", fn := fun _ => fun
  | [d1, d2, d3] => { results := [.lit (.bool true)], args := [d1, d2, d3] }
  | _ => none }
def fnExactLuckyLimitRow : OpenClaim := { program := "ytabgmbmaakglkaa", sum := "3358ee97a4d29f203f7b286147742b1604cb74cb12f2f0da3cf4346355fb14d6", func := "loop.example/g00938/laws.FnExactLuckyLimit", spec := "fnExactLuckyLimit", unfollowed := true, recurses := true, apart := false }
def FnExactLuckyLimitSaid : Prop := fnExactLuckyLimitRow.holds Try.pinned (OpenSpec.ofChange fnExactLuckyLimitSpec)

/-- ITS FALSE NEIGHBOUR: 'it returns false'. Refute it at one input. -/
def fnExactLuckyLimitWrong : ChangeSpec := { name := "fnExactLuckyLimit", fn := fun _ => fun
  | [d1, d2, d3] => { results := [.lit (.bool false)], args := [d1, d2, d3] }
  | _ => none }
def FnExactLuckyLimitWrongFalsely : Prop := fnExactLuckyLimitRow.holds Try.pinned (OpenSpec.ofChange fnExactLuckyLimitWrong)

/-- 'laws.FnExactRoundRank': WHATEVER THE INPUT: true; the input reads as it did. -/
def fnExactRoundRankSpec : ChangeSpec := { name := "fnExactRoundRank", fn := fun _ => fun
  | [d] => { results := [.lit (.bool true)], args := [d] }
  | _ => none }
def fnExactRoundRankRow : OpenClaim := { program := "ytabgmbmaakglkaa", sum := "3358ee97a4d29f203f7b286147742b1604cb74cb12f2f0da3cf4346355fb14d6", func := "loop.example/g00938/laws.FnExactRoundRank", spec := "fnExactRoundRank", unfollowed := true, recurses := true, apart := false }
def FnExactRoundRankSaid : Prop := fnExactRoundRankRow.holds Try.pinned (OpenSpec.ofChange fnExactRoundRankSpec)

/-- ITS FALSE NEIGHBOUR: 'it returns false'. Refute it at one input. -/
def fnExactRoundRankWrong : ChangeSpec := { name := "fnExactRoundRank", fn := fun _ => fun
  | [d] => { results := [.lit (.bool false)], args := [d] }
  | _ => none }
def FnExactRoundRankWrongFalsely : Prop := fnExactRoundRankRow.holds Try.pinned (OpenSpec.ofChange fnExactRoundRankWrong)

/-- 'laws.FnExactGoingOn': WHATEVER THE INPUT: true; the input reads as it did. -/
def fnExactGoingOnSpec : ChangeSpec := { name := "fnExactGoingOn", fn := fun _ => fun
  | [d1, d2, d3] => { results := [.lit (.bool true)], args := [d1, d2, d3] }
  | _ => none }
def fnExactGoingOnRow : OpenClaim := { program := "ytabgmbmaakglkaa", sum := "3358ee97a4d29f203f7b286147742b1604cb74cb12f2f0da3cf4346355fb14d6", func := "loop.example/g00938/laws.FnExactGoingOn", spec := "fnExactGoingOn", unfollowed := true, recurses := true, apart := false }
def FnExactGoingOnSaid : Prop := fnExactGoingOnRow.holds Try.pinned (OpenSpec.ofChange fnExactGoingOnSpec)

/-- ITS FALSE NEIGHBOUR: 'it returns false'. Refute it at one input. -/
def fnExactGoingOnWrong : ChangeSpec := { name := "fnExactGoingOn", fn := fun _ => fun
  | [d1, d2, d3] => { results := [.lit (.bool false)], args := [d1, d2, d3] }
  | _ => none }
def FnExactGoingOnWrongFalsely : Prop := fnExactGoingOnRow.holds Try.pinned (OpenSpec.ofChange fnExactGoingOnWrong)

/-- 'laws.FnHeats': WHATEVER THE INPUT: true; the input reads as it did. -/
def fnHeatsSpec : ChangeSpec := { name := "fnHeats", fn := fun _ => fun
  | [d] => { results := [.lit (.bool true)], args := [d] }
  | _ => none }
def fnHeatsRow : OpenClaim := { program := "ytabgmbmaakglkaa", sum := "3358ee97a4d29f203f7b286147742b1604cb74cb12f2f0da3cf4346355fb14d6", func := "loop.example/g00938/laws.FnHeats", spec := "fnHeats", unfollowed := true, recurses := true, apart := false }
def FnHeatsSaid : Prop := fnHeatsRow.holds Try.pinned (OpenSpec.ofChange fnHeatsSpec)

/-- ITS FALSE NEIGHBOUR: 'it returns false'. Refute it at one input. -/
def fnHeatsWrong : ChangeSpec := { name := "fnHeats", fn := fun _ => fun
  | [d] => { results := [.lit (.bool false)], args := [d] }
  | _ => none }
def FnHeatsWrongFalsely : Prop := fnHeatsRow.holds Try.pinned (OpenSpec.ofChange fnHeatsWrong)

/-- 'laws.FnRounds': WHATEVER THE INPUT: true; the input reads as it did. -/
def fnRoundsSpec : ChangeSpec := { name := "fnRounds", fn := fun _ => fun
  | [d] => { results := [.lit (.bool true)], args := [d] }
  | _ => none }
def fnRoundsRow : OpenClaim := { program := "ytabgmbmaakglkaa", sum := "3358ee97a4d29f203f7b286147742b1604cb74cb12f2f0da3cf4346355fb14d6", func := "loop.example/g00938/laws.FnRounds", spec := "fnRounds", unfollowed := true, recurses := true, apart := false }
def FnRoundsSaid : Prop := fnRoundsRow.holds Try.pinned (OpenSpec.ofChange fnRoundsSpec)

/-- ITS FALSE NEIGHBOUR: 'it returns false'. Refute it at one input. -/
def fnRoundsWrong : ChangeSpec := { name := "fnRounds", fn := fun _ => fun
  | [d] => { results := [.lit (.bool false)], args := [d] }
  | _ => none }
def FnRoundsWrongFalsely : Prop := fnRoundsRow.holds Try.pinned (OpenSpec.ofChange fnRoundsWrong)

/- THE SECOND FORM. 'bulk': how many values and letters a reading holds, each counted each time it is reached (what is shared counts as often as it is met; a slice's spare places count too). A statement '..UptoSaid' is the law's where the arguments, and the package variables that the reading takes, are together of bulk at most 1048576: NARROWER than '..Said'. Prove '..Said' where nothing that the law and all that it calls make is longer than what came in: it says more and counts as full. Else prove '..UptoSaid'. A law counts once. -/
mutual
def uptoBulk {H : Type} : DataW H → Nat
  | .lit (.string bytes) => bytes.length + 1
  | .lit _ => 1
  | .nil => 1
  | .ptr d => uptoBulk d + 1
  | .slice elems spare => uptoBulkAll elems + uptoBulkAll spare + 1
  | .agg parts => uptoBulkAll parts + 1
  | .iface _ d => uptoBulk d + 1
  | .map entries => uptoBulkEntries entries + 1
  | .held _ => 1
def uptoBulkAll {H : Type} : List (DataW H) → Nat
  | [] => 0
  | d :: r => uptoBulk d + uptoBulkAll r
def uptoBulkEntries {H : Type} : List (Lit × DataW H) → Nat
  | [] => 0
  | x :: r => uptoBulkEntry x + uptoBulkEntries r
def uptoBulkEntry {H : Type} : Lit × DataW H → Nat
  | (.string bytes, d) => bytes.length + uptoBulk d + 1
  | (_, d) => uptoBulk d + 1
 end
def uptoSmall : (H : Type) → List (DataW H) → Bool := fun _ ds => decide (uptoBulkAll ds ≤ 1048576)
def OpenSpec.upto (s : _root_.Go.ChangeSpec) : _root_.Go.OpenSpec := { _root_.Go.OpenSpec.ofChange s with cond := some uptoSmall }

/-- 'laws.FnExactPlacingOf', WHERE WHAT IT READS IS OF BULK AT MOST 1048576: true; the input reads as it did. -/
def fnExactPlacingOfUptoRow : OpenClaim := { program := "ytabgmbmaakglkaa", sum := "3358ee97a4d29f203f7b286147742b1604cb74cb12f2f0da3cf4346355fb14d6", func := "loop.example/g00938/laws.FnExactPlacingOf", spec := "fnExactPlacingOf", unfollowed := true, recurses := true, apart := false, narrowed := true }
def FnExactPlacingOfUptoSaid : Prop := fnExactPlacingOfUptoRow.holds Try.pinned (OpenSpec.upto fnExactPlacingOfSpec)

/-- 'laws.FnExactPhotoFinish', WHERE WHAT IT READS IS OF BULK AT MOST 1048576: true; the input reads as it did. -/
def fnExactPhotoFinishUptoRow : OpenClaim := { program := "ytabgmbmaakglkaa", sum := "3358ee97a4d29f203f7b286147742b1604cb74cb12f2f0da3cf4346355fb14d6", func := "loop.example/g00938/laws.FnExactPhotoFinish", spec := "fnExactPhotoFinish", unfollowed := true, recurses := true, apart := false, narrowed := true }
def FnExactPhotoFinishUptoSaid : Prop := fnExactPhotoFinishUptoRow.holds Try.pinned (OpenSpec.upto fnExactPhotoFinishSpec)

/-- 'laws.FnExactLuckyLimit', WHERE WHAT IT READS IS OF BULK AT MOST 1048576: true; the input reads as it did. -/
def fnExactLuckyLimitUptoRow : OpenClaim := { program := "ytabgmbmaakglkaa", sum := "3358ee97a4d29f203f7b286147742b1604cb74cb12f2f0da3cf4346355fb14d6", func := "loop.example/g00938/laws.FnExactLuckyLimit", spec := "fnExactLuckyLimit", unfollowed := true, recurses := true, apart := false, narrowed := true }
def FnExactLuckyLimitUptoSaid : Prop := fnExactLuckyLimitUptoRow.holds Try.pinned (OpenSpec.upto fnExactLuckyLimitSpec)

/-- 'laws.FnExactRoundRank', WHERE WHAT IT READS IS OF BULK AT MOST 1048576: true; the input reads as it did. -/
def fnExactRoundRankUptoRow : OpenClaim := { program := "ytabgmbmaakglkaa", sum := "3358ee97a4d29f203f7b286147742b1604cb74cb12f2f0da3cf4346355fb14d6", func := "loop.example/g00938/laws.FnExactRoundRank", spec := "fnExactRoundRank", unfollowed := true, recurses := true, apart := false, narrowed := true }
def FnExactRoundRankUptoSaid : Prop := fnExactRoundRankUptoRow.holds Try.pinned (OpenSpec.upto fnExactRoundRankSpec)

/-- 'laws.FnExactGoingOn', WHERE WHAT IT READS IS OF BULK AT MOST 1048576: true; the input reads as it did. -/
def fnExactGoingOnUptoRow : OpenClaim := { program := "ytabgmbmaakglkaa", sum := "3358ee97a4d29f203f7b286147742b1604cb74cb12f2f0da3cf4346355fb14d6", func := "loop.example/g00938/laws.FnExactGoingOn", spec := "fnExactGoingOn", unfollowed := true, recurses := true, apart := false, narrowed := true }
def FnExactGoingOnUptoSaid : Prop := fnExactGoingOnUptoRow.holds Try.pinned (OpenSpec.upto fnExactGoingOnSpec)

/-- 'laws.FnHeats', WHERE WHAT IT READS IS OF BULK AT MOST 1048576: true; the input reads as it did. -/
def fnHeatsUptoRow : OpenClaim := { program := "ytabgmbmaakglkaa", sum := "3358ee97a4d29f203f7b286147742b1604cb74cb12f2f0da3cf4346355fb14d6", func := "loop.example/g00938/laws.FnHeats", spec := "fnHeats", unfollowed := true, recurses := true, apart := false, narrowed := true }
def FnHeatsUptoSaid : Prop := fnHeatsUptoRow.holds Try.pinned (OpenSpec.upto fnHeatsSpec)

/-- 'laws.FnRounds', WHERE WHAT IT READS IS OF BULK AT MOST 1048576: true; the input reads as it did. -/
def fnRoundsUptoRow : OpenClaim := { program := "ytabgmbmaakglkaa", sum := "3358ee97a4d29f203f7b286147742b1604cb74cb12f2f0da3cf4346355fb14d6", func := "loop.example/g00938/laws.FnRounds", spec := "fnRounds", unfollowed := true, recurses := true, apart := false, narrowed := true }
def FnRoundsUptoSaid : Prop := fnRoundsUptoRow.holds Try.pinned (OpenSpec.upto fnRoundsSpec)

end Rows
end Go.Proofs.Ytabgmbmaakglkaa
