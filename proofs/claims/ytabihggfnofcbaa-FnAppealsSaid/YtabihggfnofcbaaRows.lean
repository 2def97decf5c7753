/-
  No cell of these rows narrows 'for every input' (looked for: loops, veiled, ifaces, maps, wideKeys, modest, calm, conditions, laid).
  DERIVED. THE GIVEN ROWS OF THIS SEAT. 13 by the template 'for every input the law returns true; each argument reads behind the call as it read before'; 0 by the template 'total and deterministic' (their statements: YtabihggfnofcbaaTotals.lean).
  GIVEN WITH THE SEED: the statements are not yours to turn. If you find one false, say at which input.
  Laid BY PROGRAM, IN A SANDBOX (cutbox-rows.mjs): the forced cells as the released guide's own fill.sh prints them over the translation 9bd8d30fe38059d9… (all of the seat's roots in one cut). By AI agents, Wed Nov 11 2026. No macro, syntax, notation, axiom, sorry.
-/
import Derived.Test.YtabihggfnofcbaaChecked
import GoSem.Claim
import GoSem.ClaimJoined
import GoSem.ClaimMapViews
import Derived.JoinedTies
import Derived.KernelRfl
namespace Go.Proofs.Ytabihggfnofcbaa
/- THE CELL 'sum', in the pinned program and in every row, IS THE sha256 OF THE DUMP (.gsa) THAT YtabihggfnofcbaaProg.lean LOADS. Nothing in Lean hashes anything: it is a label: what it is worth is what the hold of that sum in a sandbox is worth. -/
noncomputable def Try.pinned : Pinned := { name := "ytabihggfnofcbaa", sum := "9bd8d30fe38059d91f2c00d3c19af45c1b016a62ecb732c857c5b092140e9ace", checked := Try.checked }
namespace Rows
def none {H : Type} : Left H := { results := [], args := [] }

/-- 'laws.FnExactIsProtest': WHATEVER THE INPUT: true; the input reads as it did. -/
def fnExactIsProtestSpec : ChangeSpec := { name := "fnExactIsProtest", fn := fun _ => fun
  | [d] => { results := [.lit (.bool true)], args := [d] }
  | _ => none }
def fnExactIsProtestRow : OpenClaim := { program := "ytabihggfnofcbaa", sum := "9bd8d30fe38059d91f2c00d3c19af45c1b016a62ecb732c857c5b092140e9ace", func := "loop.example/g00938/laws.FnExactIsProtest", spec := "fnExactIsProtest", apart := false }
def FnExactIsProtestSaid : Prop := fnExactIsProtestRow.holds Try.pinned (OpenSpec.ofChange fnExactIsProtestSpec)

/-- ITS FALSE NEIGHBOUR: 'it returns false'. Refute it at one input. -/
def fnExactIsProtestWrong : ChangeSpec := { name := "fnExactIsProtest", fn := fun _ => fun
  | [d] => { results := [.lit (.bool false)], args := [d] }
  | _ => none }
def FnExactIsProtestWrongFalsely : Prop := fnExactIsProtestRow.holds Try.pinned (OpenSpec.ofChange fnExactIsProtestWrong)

/-- 'laws.FnExactAreProtests': WHATEVER THE INPUT: true; the input reads as it did. -/
def fnExactAreProtestsSpec : ChangeSpec := { name := "fnExactAreProtests", fn := fun _ => fun
  | [d] => { results := [.lit (.bool true)], args := [d] }
  | _ => none }
def fnExactAreProtestsRow : OpenClaim := { program := "ytabihggfnofcbaa", sum := "9bd8d30fe38059d91f2c00d3c19af45c1b016a62ecb732c857c5b092140e9ace", func := "loop.example/g00938/laws.FnExactAreProtests", spec := "fnExactAreProtests", apart := false }
def FnExactAreProtestsSaid : Prop := fnExactAreProtestsRow.holds Try.pinned (OpenSpec.ofChange fnExactAreProtestsSpec)

/-- ITS FALSE NEIGHBOUR: 'it returns false'. Refute it at one input. -/
def fnExactAreProtestsWrong : ChangeSpec := { name := "fnExactAreProtests", fn := fun _ => fun
  | [d] => { results := [.lit (.bool false)], args := [d] }
  | _ => none }
def FnExactAreProtestsWrongFalsely : Prop := fnExactAreProtestsRow.holds Try.pinned (OpenSpec.ofChange fnExactAreProtestsWrong)

/-- 'laws.FnExactCanPublish': WHATEVER THE INPUT: true; the input reads as it did. -/
def fnExactCanPublishSpec : ChangeSpec := { name := "fnExactCanPublish", fn := fun _ => fun
  | [d1, d2] => { results := [.lit (.bool true)], args := [d1, d2] }
  | _ => none }
def fnExactCanPublishRow : OpenClaim := { program := "ytabihggfnofcbaa", sum := "9bd8d30fe38059d91f2c00d3c19af45c1b016a62ecb732c857c5b092140e9ace", func := "loop.example/g00938/laws.FnExactCanPublish", spec := "fnExactCanPublish", unfollowed := true, recurses := true, apart := false }
def FnExactCanPublishSaid : Prop := fnExactCanPublishRow.holds Try.pinned (OpenSpec.ofChange fnExactCanPublishSpec)

/-- ITS FALSE NEIGHBOUR: 'it returns false'. Refute it at one input. -/
def fnExactCanPublishWrong : ChangeSpec := { name := "fnExactCanPublish", fn := fun _ => fun
  | [d1, d2] => { results := [.lit (.bool false)], args := [d1, d2] }
  | _ => none }
def FnExactCanPublishWrongFalsely : Prop := fnExactCanPublishRow.holds Try.pinned (OpenSpec.ofChange fnExactCanPublishWrong)

/-- 'laws.FnExactMakeProtest': WHATEVER THE INPUT: true; the input reads as it did. -/
def fnExactMakeProtestSpec : ChangeSpec := { name := "fnExactMakeProtest", fn := fun _ => fun
  | [d1, d2, d3, d4] => { results := [.lit (.bool true)], args := [d1, d2, d3, d4] }
  | _ => none }
def fnExactMakeProtestRow : OpenClaim := { program := "ytabihggfnofcbaa", sum := "9bd8d30fe38059d91f2c00d3c19af45c1b016a62ecb732c857c5b092140e9ace", func := "loop.example/g00938/laws.FnExactMakeProtest", spec := "fnExactMakeProtest", apart := false }
def FnExactMakeProtestSaid : Prop := fnExactMakeProtestRow.holds Try.pinned (OpenSpec.ofChange fnExactMakeProtestSpec)

/-- ITS FALSE NEIGHBOUR: 'it returns false'. Refute it at one input. -/
def fnExactMakeProtestWrong : ChangeSpec := { name := "fnExactMakeProtest", fn := fun _ => fun
  | [d1, d2, d3, d4] => { results := [.lit (.bool false)], args := [d1, d2, d3, d4] }
  | _ => none }
def FnExactMakeProtestWrongFalsely : Prop := fnExactMakeProtestRow.holds Try.pinned (OpenSpec.ofChange fnExactMakeProtestWrong)

/-- 'laws.FnExactProtestsAbout': WHATEVER THE INPUT: true; the input reads as it did. -/
def fnExactProtestsAboutSpec : ChangeSpec := { name := "fnExactProtestsAbout", fn := fun _ => fun
  | [d1, d2] => { results := [.lit (.bool true)], args := [d1, d2] }
  | _ => none }
def fnExactProtestsAboutRow : OpenClaim := { program := "ytabihggfnofcbaa", sum := "9bd8d30fe38059d91f2c00d3c19af45c1b016a62ecb732c857c5b092140e9ace", func := "loop.example/g00938/laws.FnExactProtestsAbout", spec := "fnExactProtestsAbout", apart := false }
def FnExactProtestsAboutSaid : Prop := fnExactProtestsAboutRow.holds Try.pinned (OpenSpec.ofChange fnExactProtestsAboutSpec)

/-- ITS FALSE NEIGHBOUR: 'it returns false'. Refute it at one input. -/
def fnExactProtestsAboutWrong : ChangeSpec := { name := "fnExactProtestsAbout", fn := fun _ => fun
  | [d1, d2] => { results := [.lit (.bool false)], args := [d1, d2] }
  | _ => none }
def FnExactProtestsAboutWrongFalsely : Prop := fnExactProtestsAboutRow.holds Try.pinned (OpenSpec.ofChange fnExactProtestsAboutWrong)

/-- 'laws.FnExactPendingProtests': WHATEVER THE INPUT: true; the input reads as it did. -/
def fnExactPendingProtestsSpec : ChangeSpec := { name := "fnExactPendingProtests", fn := fun _ => fun
  | [d] => { results := [.lit (.bool true)], args := [d] }
  | _ => none }
def fnExactPendingProtestsRow : OpenClaim := { program := "ytabihggfnofcbaa", sum := "9bd8d30fe38059d91f2c00d3c19af45c1b016a62ecb732c857c5b092140e9ace", func := "loop.example/g00938/laws.FnExactPendingProtests", spec := "fnExactPendingProtests", apart := false }
def FnExactPendingProtestsSaid : Prop := fnExactPendingProtestsRow.holds Try.pinned (OpenSpec.ofChange fnExactPendingProtestsSpec)

/-- ITS FALSE NEIGHBOUR: 'it returns false'. Refute it at one input. -/
def fnExactPendingProtestsWrong : ChangeSpec := { name := "fnExactPendingProtests", fn := fun _ => fun
  | [d] => { results := [.lit (.bool false)], args := [d] }
  | _ => none }
def FnExactPendingProtestsWrongFalsely : Prop := fnExactPendingProtestsRow.holds Try.pinned (OpenSpec.ofChange fnExactPendingProtestsWrong)

/-- 'laws.FnExactHearProtest': WHATEVER THE INPUT: true; the input reads as it did. -/
def fnExactHearProtestSpec : ChangeSpec := { name := "fnExactHearProtest", fn := fun _ => fun
  | [d1, d2] => { results := [.lit (.bool true)], args := [d1, d2] }
  | _ => none }
def fnExactHearProtestRow : OpenClaim := { program := "ytabihggfnofcbaa", sum := "9bd8d30fe38059d91f2c00d3c19af45c1b016a62ecb732c857c5b092140e9ace", func := "loop.example/g00938/laws.FnExactHearProtest", spec := "fnExactHearProtest", unfollowed := true, recurses := true, apart := false }
def FnExactHearProtestSaid : Prop := fnExactHearProtestRow.holds Try.pinned (OpenSpec.ofChange fnExactHearProtestSpec)

/-- ITS FALSE NEIGHBOUR: 'it returns false'. Refute it at one input. -/
def fnExactHearProtestWrong : ChangeSpec := { name := "fnExactHearProtest", fn := fun _ => fun
  | [d1, d2] => { results := [.lit (.bool false)], args := [d1, d2] }
  | _ => none }
def FnExactHearProtestWrongFalsely : Prop := fnExactHearProtestRow.holds Try.pinned (OpenSpec.ofChange fnExactHearProtestWrong)

/-- 'laws.FnExactAppealProtest': WHATEVER THE INPUT: true; the input reads as it did. -/
def fnExactAppealProtestSpec : ChangeSpec := { name := "fnExactAppealProtest", fn := fun _ => fun
  | [d1, d2, d3] => { results := [.lit (.bool true)], args := [d1, d2, d3] }
  | _ => none }
def fnExactAppealProtestRow : OpenClaim := { program := "ytabihggfnofcbaa", sum := "9bd8d30fe38059d91f2c00d3c19af45c1b016a62ecb732c857c5b092140e9ace", func := "loop.example/g00938/laws.FnExactAppealProtest", spec := "fnExactAppealProtest", unfollowed := true, recurses := true, apart := false }
def FnExactAppealProtestSaid : Prop := fnExactAppealProtestRow.holds Try.pinned (OpenSpec.ofChange fnExactAppealProtestSpec)

/-- ITS FALSE NEIGHBOUR: 'it returns false'. Refute it at one input. -/
def fnExactAppealProtestWrong : ChangeSpec := { name := "fnExactAppealProtest", fn := fun _ => fun
  | [d1, d2, d3] => { results := [.lit (.bool false)], args := [d1, d2, d3] }
  | _ => none }
def FnExactAppealProtestWrongFalsely : Prop := fnExactAppealProtestRow.holds Try.pinned (OpenSpec.ofChange fnExactAppealProtestWrong)

/-- 'laws.FnExactDecideProtest': WHATEVER THE INPUT: true; the input reads as it did. -/
def fnExactDecideProtestSpec : ChangeSpec := { name := "fnExactDecideProtest", fn := fun _ => fun
  | [d1, d2] => { results := [.lit (.bool true)], args := [d1, d2] }
  | _ => none }
def fnExactDecideProtestRow : OpenClaim := { program := "ytabihggfnofcbaa", sum := "9bd8d30fe38059d91f2c00d3c19af45c1b016a62ecb732c857c5b092140e9ace", func := "loop.example/g00938/laws.FnExactDecideProtest", spec := "fnExactDecideProtest", unfollowed := true, recurses := true, apart := false }
def FnExactDecideProtestSaid : Prop := fnExactDecideProtestRow.holds Try.pinned (OpenSpec.ofChange fnExactDecideProtestSpec)

/-- ITS FALSE NEIGHBOUR: 'it returns false'. Refute it at one input. -/
def fnExactDecideProtestWrong : ChangeSpec := { name := "fnExactDecideProtest", fn := fun _ => fun
  | [d1, d2] => { results := [.lit (.bool false)], args := [d1, d2] }
  | _ => none }
def FnExactDecideProtestWrongFalsely : Prop := fnExactDecideProtestRow.holds Try.pinned (OpenSpec.ofChange fnExactDecideProtestWrong)

/-- 'laws.FnExactVoteOn': WHATEVER THE INPUT: true; the input reads as it did. -/
def fnExactVoteOnSpec : ChangeSpec := { name := "fnExactVoteOn", fn := fun _ => fun
  | [d1, d2, d3] => { results := [.lit (.bool true)], args := [d1, d2, d3] }
  | _ => none }
def fnExactVoteOnRow : OpenClaim := { program := "ytabihggfnofcbaa", sum := "9bd8d30fe38059d91f2c00d3c19af45c1b016a62ecb732c857c5b092140e9ace", func := "loop.example/g00938/laws.FnExactVoteOn", spec := "fnExactVoteOn", unfollowed := true, recurses := true, apart := false }
def FnExactVoteOnSaid : Prop := fnExactVoteOnRow.holds Try.pinned (OpenSpec.ofChange fnExactVoteOnSpec)

/-- ITS FALSE NEIGHBOUR: 'it returns false'. Refute it at one input. -/
def fnExactVoteOnWrong : ChangeSpec := { name := "fnExactVoteOn", fn := fun _ => fun
  | [d1, d2, d3] => { results := [.lit (.bool false)], args := [d1, d2, d3] }
  | _ => none }
def FnExactVoteOnWrongFalsely : Prop := fnExactVoteOnRow.holds Try.pinned (OpenSpec.ofChange fnExactVoteOnWrong)

/-- 'laws.FnExactUpheldRunners': WHATEVER THE INPUT: true; the input reads as it did. -/
def fnExactUpheldRunnersSpec : ChangeSpec := { name := "fnExactUpheldRunners", fn := fun _ => fun
  | [d] => { results := [.lit (.bool true)], args := [d] }
  | _ => none }
def fnExactUpheldRunnersRow : OpenClaim := { program := "ytabihggfnofcbaa", sum := "9bd8d30fe38059d91f2c00d3c19af45c1b016a62ecb732c857c5b092140e9ace", func := "loop.example/g00938/laws.FnExactUpheldRunners", spec := "fnExactUpheldRunners", recurses := true, apart := false }
def FnExactUpheldRunnersSaid : Prop := fnExactUpheldRunnersRow.holds Try.pinned (OpenSpec.ofChange fnExactUpheldRunnersSpec)

/-- ITS FALSE NEIGHBOUR: 'it returns false'. Refute it at one input. -/
def fnExactUpheldRunnersWrong : ChangeSpec := { name := "fnExactUpheldRunners", fn := fun _ => fun
  | [d] => { results := [.lit (.bool false)], args := [d] }
  | _ => none }
def FnExactUpheldRunnersWrongFalsely : Prop := fnExactUpheldRunnersRow.holds Try.pinned (OpenSpec.ofChange fnExactUpheldRunnersWrong)

/-- 'laws.FnProtests': WHATEVER THE INPUT: true; the input reads as it did. -/
def fnProtestsSpec : ChangeSpec := { name := "fnProtests", fn := fun _ => fun
  | [d] => { results := [.lit (.bool true)], args := [d] }
  | _ => none }
def fnProtestsRow : OpenClaim := { program := "ytabihggfnofcbaa", sum := "9bd8d30fe38059d91f2c00d3c19af45c1b016a62ecb732c857c5b092140e9ace", func := "loop.example/g00938/laws.FnProtests", spec := "fnProtests", unfollowed := true, recurses := true, apart := false }
def FnProtestsSaid : Prop := fnProtestsRow.holds Try.pinned (OpenSpec.ofChange fnProtestsSpec)

/-- ITS FALSE NEIGHBOUR: 'it returns false'. Refute it at one input. -/
def fnProtestsWrong : ChangeSpec := { name := "fnProtests", fn := fun _ => fun
  | [d] => { results := [.lit (.bool false)], args := [d] }
  | _ => none }
def FnProtestsWrongFalsely : Prop := fnProtestsRow.holds Try.pinned (OpenSpec.ofChange fnProtestsWrong)

/-- 'laws.FnAppeals': WHATEVER THE INPUT: true; the input reads as it did. -/
def fnAppealsSpec : ChangeSpec := { name := "fnAppeals", fn := fun _ => fun
  | [d] => { results := [.lit (.bool true)], args := [d] }
  | _ => none }
def fnAppealsRow : OpenClaim := { program := "ytabihggfnofcbaa", sum := "9bd8d30fe38059d91f2c00d3c19af45c1b016a62ecb732c857c5b092140e9ace", func := "loop.example/g00938/laws.FnAppeals", spec := "fnAppeals", unfollowed := true, recurses := true, apart := false }
def FnAppealsSaid : Prop := fnAppealsRow.holds Try.pinned (OpenSpec.ofChange fnAppealsSpec)

/-- ITS FALSE NEIGHBOUR: 'it returns false'. Refute it at one input. -/
def fnAppealsWrong : ChangeSpec := { name := "fnAppeals", fn := fun _ => fun
  | [d] => { results := [.lit (.bool false)], args := [d] }
  | _ => none }
def FnAppealsWrongFalsely : Prop := fnAppealsRow.holds Try.pinned (OpenSpec.ofChange fnAppealsWrong)

/- THE SECOND FORM. 'bulk': how many values and letters a reading holds, each counted each time it is reached (what is shared counts as often as it is met; a slice's spare places count too). A statement '..UptoSaid' is the law's where the arguments, and the package variables that the reading takes, are together of bulk at most 1048576: NARROWER than '..Said'. Prove '..Said' where nothing that the law and all that it calls make is longer than what came in: it says more and counts as full. Else prove '..UptoSaid'. A law counts once. -/
mutual
def uptoBulk {H : Type} : DataW H → Nat
  | .lit (.string bytes) => bytes.length + 1
  | .lit _ => 1
  | .nil => 1
  | .ptr d => uptoBulk d + 1
  | .slice elems spare => uptoBulkAll elems + uptoBulkAll spare + 1
  | .agg parts => uptoBulkAll parts + 1
  | .iface _ d => uptoBulk d + 1
  | .map entries => uptoBulkEntries entries + 1
  | .held _ => 1
def uptoBulkAll {H : Type} : List (DataW H) → Nat
  | [] => 0
  | d :: r => uptoBulk d + uptoBulkAll r
def uptoBulkEntries {H : Type} : List (Lit × DataW H) → Nat
  | [] => 0
  | x :: r => uptoBulkEntry x + uptoBulkEntries r
def uptoBulkEntry {H : Type} : Lit × DataW H → Nat
  | (.string bytes, d) => bytes.length + uptoBulk d + 1
  | (_, d) => uptoBulk d + 1
 end
def uptoSmall : (H : Type) → List (DataW H) → Bool := fun _ ds => decide (uptoBulkAll ds ≤ 1048576)
def OpenSpec.upto (s : _root_.Go.ChangeSpec) : _root_.Go.OpenSpec := { _root_.Go.OpenSpec.ofChange s with cond := some uptoSmall }

/-- 'laws.FnExactIsProtest', WHERE WHAT IT READS IS OF BULK AT MOST 1048576: true; the input reads as it did. -/
def fnExactIsProtestUptoRow : OpenClaim := { program := "ytabihggfnofcbaa", sum := "9bd8d30fe38059d91f2c00d3c19af45c1b016a62ecb732c857c5b092140e9ace", func := "loop.example/g00938/laws.FnExactIsProtest", spec := "fnExactIsProtest", apart := false, narrowed := true }
def FnExactIsProtestUptoSaid : Prop := fnExactIsProtestUptoRow.holds Try.pinned (OpenSpec.upto fnExactIsProtestSpec)

/-- 'laws.FnExactAreProtests', WHERE WHAT IT READS IS OF BULK AT MOST 1048576: true; the input reads as it did. -/
def fnExactAreProtestsUptoRow : OpenClaim := { program := "ytabihggfnofcbaa", sum := "9bd8d30fe38059d91f2c00d3c19af45c1b016a62ecb732c857c5b092140e9ace", func := "loop.example/g00938/laws.FnExactAreProtests", spec := "fnExactAreProtests", apart := false, narrowed := true }
def FnExactAreProtestsUptoSaid : Prop := fnExactAreProtestsUptoRow.holds Try.pinned (OpenSpec.upto fnExactAreProtestsSpec)

/-- 'laws.FnExactCanPublish', WHERE WHAT IT READS IS OF BULK AT MOST 1048576: true; the input reads as it did. -/
def fnExactCanPublishUptoRow : OpenClaim := { program := "ytabihggfnofcbaa", sum := "9bd8d30fe38059d91f2c00d3c19af45c1b016a62ecb732c857c5b092140e9ace", func := "loop.example/g00938/laws.FnExactCanPublish", spec := "fnExactCanPublish", unfollowed := true, recurses := true, apart := false, narrowed := true }
def FnExactCanPublishUptoSaid : Prop := fnExactCanPublishUptoRow.holds Try.pinned (OpenSpec.upto fnExactCanPublishSpec)

/-- 'laws.FnExactMakeProtest', WHERE WHAT IT READS IS OF BULK AT MOST 1048576: true; the input reads as it did. -/
def fnExactMakeProtestUptoRow : OpenClaim := { program := "ytabihggfnofcbaa", sum := "9bd8d30fe38059d91f2c00d3c19af45c1b016a62ecb732c857c5b092140e9ace", func := "loop.example/g00938/laws.FnExactMakeProtest", spec := "fnExactMakeProtest", apart := false, narrowed := true }
def FnExactMakeProtestUptoSaid : Prop := fnExactMakeProtestUptoRow.holds Try.pinned (OpenSpec.upto fnExactMakeProtestSpec)

/-- 'laws.FnExactProtestsAbout', WHERE WHAT IT READS IS OF BULK AT MOST 1048576: true; the input reads as it did. -/
def fnExactProtestsAboutUptoRow : OpenClaim := { program := "ytabihggfnofcbaa", sum := "9bd8d30fe38059d91f2c00d3c19af45c1b016a62ecb732c857c5b092140e9ace", func := "loop.example/g00938/laws.FnExactProtestsAbout", spec := "fnExactProtestsAbout", apart := false, narrowed := true }
def FnExactProtestsAboutUptoSaid : Prop := fnExactProtestsAboutUptoRow.holds Try.pinned (OpenSpec.upto fnExactProtestsAboutSpec)

/-- 'laws.FnExactPendingProtests', WHERE WHAT IT READS IS OF BULK AT MOST 1048576: true; the input reads as it did. -/
def fnExactPendingProtestsUptoRow : OpenClaim := { program := "ytabihggfnofcbaa", sum := "9bd8d30fe38059d91f2c00d3c19af45c1b016a62ecb732c857c5b092140e9ace", func := "loop.example/g00938/laws.FnExactPendingProtests", spec := "fnExactPendingProtests", apart := false, narrowed := true }
def FnExactPendingProtestsUptoSaid : Prop := fnExactPendingProtestsUptoRow.holds Try.pinned (OpenSpec.upto fnExactPendingProtestsSpec)

/-- 'laws.FnExactHearProtest', WHERE WHAT IT READS IS OF BULK AT MOST 1048576: true; the input reads as it did. -/
def fnExactHearProtestUptoRow : OpenClaim := { program := "ytabihggfnofcbaa", sum := "9bd8d30fe38059d91f2c00d3c19af45c1b016a62ecb732c857c5b092140e9ace", func := "loop.example/g00938/laws.FnExactHearProtest", spec := "fnExactHearProtest", unfollowed := true, recurses := true, apart := false, narrowed := true }
def FnExactHearProtestUptoSaid : Prop := fnExactHearProtestUptoRow.holds Try.pinned (OpenSpec.upto fnExactHearProtestSpec)

/-- 'laws.FnExactAppealProtest', WHERE WHAT IT READS IS OF BULK AT MOST 1048576: true; the input reads as it did. -/
def fnExactAppealProtestUptoRow : OpenClaim := { program := "ytabihggfnofcbaa", sum := "9bd8d30fe38059d91f2c00d3c19af45c1b016a62ecb732c857c5b092140e9ace", func := "loop.example/g00938/laws.FnExactAppealProtest", spec := "fnExactAppealProtest", unfollowed := true, recurses := true, apart := false, narrowed := true }
def FnExactAppealProtestUptoSaid : Prop := fnExactAppealProtestUptoRow.holds Try.pinned (OpenSpec.upto fnExactAppealProtestSpec)

/-- 'laws.FnExactDecideProtest', WHERE WHAT IT READS IS OF BULK AT MOST 1048576: true; the input reads as it did. -/
def fnExactDecideProtestUptoRow : OpenClaim := { program := "ytabihggfnofcbaa", sum := "9bd8d30fe38059d91f2c00d3c19af45c1b016a62ecb732c857c5b092140e9ace", func := "loop.example/g00938/laws.FnExactDecideProtest", spec := "fnExactDecideProtest", unfollowed := true, recurses := true, apart := false, narrowed := true }
def FnExactDecideProtestUptoSaid : Prop := fnExactDecideProtestUptoRow.holds Try.pinned (OpenSpec.upto fnExactDecideProtestSpec)

/-- 'laws.FnExactVoteOn', WHERE WHAT IT READS IS OF BULK AT MOST 1048576: true; the input reads as it did. -/
def fnExactVoteOnUptoRow : OpenClaim := { program := "ytabihggfnofcbaa", sum := "9bd8d30fe38059d91f2c00d3c19af45c1b016a62ecb732c857c5b092140e9ace", func := "loop.example/g00938/laws.FnExactVoteOn", spec := "fnExactVoteOn", unfollowed := true, recurses := true, apart := false, narrowed := true }
def FnExactVoteOnUptoSaid : Prop := fnExactVoteOnUptoRow.holds Try.pinned (OpenSpec.upto fnExactVoteOnSpec)

/-- 'laws.FnExactUpheldRunners', WHERE WHAT IT READS IS OF BULK AT MOST 1048576: true; the input reads as it did. -/
def fnExactUpheldRunnersUptoRow : OpenClaim := { program := "ytabihggfnofcbaa", sum := "9bd8d30fe38059d91f2c00d3c19af45c1b016a62ecb732c857c5b092140e9ace", func := "loop.example/g00938/laws.FnExactUpheldRunners", spec := "fnExactUpheldRunners", recurses := true, apart := false, narrowed := true }
def FnExactUpheldRunnersUptoSaid : Prop := fnExactUpheldRunnersUptoRow.holds Try.pinned (OpenSpec.upto fnExactUpheldRunnersSpec)

/-- 'laws.FnProtests', WHERE WHAT IT READS IS OF BULK AT MOST 1048576: true; the input reads as it did. -/
def fnProtestsUptoRow : OpenClaim := { program := "ytabihggfnofcbaa", sum := "9bd8d30fe38059d91f2c00d3c19af45c1b016a62ecb732c857c5b092140e9ace", func := "loop.example/g00938/laws.FnProtests", spec := "fnProtests", unfollowed := true, recurses := true, apart := false, narrowed := true }
def FnProtestsUptoSaid : Prop := fnProtestsUptoRow.holds Try.pinned (OpenSpec.upto fnProtestsSpec)

/-- 'laws.FnAppeals', WHERE WHAT IT READS IS OF BULK AT MOST 1048576: true; the input reads as it did. -/
def fnAppealsUptoRow : OpenClaim := { program := "ytabihggfnofcbaa", sum := "9bd8d30fe38059d91f2c00d3c19af45c1b016a62ecb732c857c5b092140e9ace", func := "loop.example/g00938/laws.FnAppeals", spec := "fnAppeals", unfollowed := true, recurses := true, apart := false, narrowed := true }
def FnAppealsUptoSaid : Prop := fnAppealsUptoRow.holds Try.pinned (OpenSpec.upto fnAppealsSpec)

end Rows
end Go.Proofs.Ytabihggfnofcbaa
