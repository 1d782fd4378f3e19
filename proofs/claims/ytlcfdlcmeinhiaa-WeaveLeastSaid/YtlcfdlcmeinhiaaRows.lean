/-
  No cell of these rows narrows 'for every input' (looked for: loops, veiled, ifaces, maps, wideKeys, modest, calm, conditions, laid).
  DERIVED. THE GIVEN ROWS OF THIS SEAT. 10 by the template 'for every input the law returns true; each argument reads behind the call as it read before'; 0 by the template 'total and deterministic' (their statements: YtlcfdlcmeinhiaaTotals.lean).
  GIVEN WITH THE SEED: the statements are not yours to turn. If you find one false, say at which input.
  Laid BY PROGRAM, IN A SANDBOX (cutbox-rows.mjs): the forced cells as the released guide's own fill.sh prints them over the translation dae92e42b28d99db… (all of the seat's roots in one cut). By AI agents, Wed Nov 11 2026. No macro, syntax, notation, axiom, sorry.
-/
import Derived.Test.YtlcfdlcmeinhiaaChecked
import GoSem.Claim
import GoSem.ClaimJoined
import GoSem.ClaimMapViews
import Derived.JoinedTies
import Derived.KernelRfl
namespace Go.Proofs.Ytlcfdlcmeinhiaa
/- THE CELL 'sum', in the pinned program and in every row, IS THE sha256 OF THE DUMP (.gsa) THAT YtlcfdlcmeinhiaaProg.lean LOADS. Nothing in Lean hashes anything: it is a label: what it is worth is what the hold of that sum in a sandbox is worth. -/
noncomputable def Try.pinned : Pinned := { name := "ytlcfdlcmeinhiaa", sum := "dae92e42b28d99db96228fd45585f5f82e0a5a4ab0c4db552b495f867c69080b", checked := Try.checked }
namespace Rows
def none {H : Type} : Left H := { results := [], args := [] }

/-- 'scrimlaw25.GroupKeeps': WHATEVER THE INPUT: true; the input reads as it did. -/
def groupKeepsSpec : ChangeSpec := { name := "groupKeeps", fn := fun _ => fun
  | [d] => { results := [.lit (.bool true)], args := [d] }
  | _ => none }
def groupKeepsRow : OpenClaim := { program := "ytlcfdlcmeinhiaa", sum := "dae92e42b28d99db96228fd45585f5f82e0a5a4ab0c4db552b495f867c69080b", func := "scrim/scrimlaw25.GroupKeeps", spec := "groupKeeps", apart := false }
def GroupKeepsSaid : Prop := groupKeepsRow.holds Try.pinned (OpenSpec.ofChange groupKeepsSpec)

/-- ITS FALSE NEIGHBOUR: 'it returns false'. Refute it at one input. -/
def groupKeepsWrong : ChangeSpec := { name := "groupKeeps", fn := fun _ => fun
  | [d] => { results := [.lit (.bool false)], args := [d] }
  | _ => none }
def GroupKeepsWrongFalsely : Prop := groupKeepsRow.holds Try.pinned (OpenSpec.ofChange groupKeepsWrong)

/-- 'scrimlaw25.GroupPlans': WHATEVER THE INPUT: true; the input reads as it did. -/
def groupPlansSpec : ChangeSpec := { name := "groupPlans", fn := fun _ => fun
  | [d1, d2] => { results := [.lit (.bool true)], args := [d1, d2] }
  | _ => none }
def groupPlansRow : OpenClaim := { program := "ytlcfdlcmeinhiaa", sum := "dae92e42b28d99db96228fd45585f5f82e0a5a4ab0c4db552b495f867c69080b", func := "scrim/scrimlaw25.GroupPlans", spec := "groupPlans", unfollowed := true, recurses := true, apart := false }
def GroupPlansSaid : Prop := groupPlansRow.holds Try.pinned (OpenSpec.ofChange groupPlansSpec)

/-- ITS FALSE NEIGHBOUR: 'it returns false'. Refute it at one input. -/
def groupPlansWrong : ChangeSpec := { name := "groupPlans", fn := fun _ => fun
  | [d1, d2] => { results := [.lit (.bool false)], args := [d1, d2] }
  | _ => none }
def GroupPlansWrongFalsely : Prop := groupPlansRow.holds Try.pinned (OpenSpec.ofChange groupPlansWrong)

/-- 'scrimlaw25.GroupOnce': WHATEVER THE INPUT: true; the input reads as it did. -/
def groupOnceSpec : ChangeSpec := { name := "groupOnce", fn := fun _ => fun
  | [d1, d2] => { results := [.lit (.bool true)], args := [d1, d2] }
  | _ => none }
def groupOnceRow : OpenClaim := { program := "ytlcfdlcmeinhiaa", sum := "dae92e42b28d99db96228fd45585f5f82e0a5a4ab0c4db552b495f867c69080b", func := "scrim/scrimlaw25.GroupOnce", spec := "groupOnce", unfollowed := true, recurses := true, apart := false }
def GroupOnceSaid : Prop := groupOnceRow.holds Try.pinned (OpenSpec.ofChange groupOnceSpec)

/-- ITS FALSE NEIGHBOUR: 'it returns false'. Refute it at one input. -/
def groupOnceWrong : ChangeSpec := { name := "groupOnce", fn := fun _ => fun
  | [d1, d2] => { results := [.lit (.bool false)], args := [d1, d2] }
  | _ => none }
def GroupOnceWrongFalsely : Prop := groupOnceRow.holds Try.pinned (OpenSpec.ofChange groupOnceWrong)

/-- 'scrimlaw10.LisRows': WHATEVER THE INPUT: true; the input reads as it did. -/
def lisRowsSpec : ChangeSpec := { name := "lisRows", fn := fun _ => fun
  | [d] => { results := [.lit (.bool true)], args := [d] }
  | _ => none }
def lisRowsRow : OpenClaim := { program := "ytlcfdlcmeinhiaa", sum := "dae92e42b28d99db96228fd45585f5f82e0a5a4ab0c4db552b495f867c69080b", func := "scrim/scrimlaw10.LisRows", spec := "lisRows", unfollowed := true, recurses := true, apart := false }
def LisRowsSaid : Prop := lisRowsRow.holds Try.pinned (OpenSpec.ofChange lisRowsSpec)

/-- ITS FALSE NEIGHBOUR: 'it returns false'. Refute it at one input. -/
def lisRowsWrong : ChangeSpec := { name := "lisRows", fn := fun _ => fun
  | [d] => { results := [.lit (.bool false)], args := [d] }
  | _ => none }
def LisRowsWrongFalsely : Prop := lisRowsRow.holds Try.pinned (OpenSpec.ofChange lisRowsWrong)

/-- 'scrimlaw10.LisRises': WHATEVER THE INPUT: true; the input reads as it did. -/
def lisRisesSpec : ChangeSpec := { name := "lisRises", fn := fun _ => fun
  | [d] => { results := [.lit (.bool true)], args := [d] }
  | _ => none }
def lisRisesRow : OpenClaim := { program := "ytlcfdlcmeinhiaa", sum := "dae92e42b28d99db96228fd45585f5f82e0a5a4ab0c4db552b495f867c69080b", func := "scrim/scrimlaw10.LisRises", spec := "lisRises", unfollowed := true, recurses := true, apart := false }
def LisRisesSaid : Prop := lisRisesRow.holds Try.pinned (OpenSpec.ofChange lisRisesSpec)

/-- ITS FALSE NEIGHBOUR: 'it returns false'. Refute it at one input. -/
def lisRisesWrong : ChangeSpec := { name := "lisRises", fn := fun _ => fun
  | [d] => { results := [.lit (.bool false)], args := [d] }
  | _ => none }
def LisRisesWrongFalsely : Prop := lisRisesRow.holds Try.pinned (OpenSpec.ofChange lisRisesWrong)

/-- 'scrimlaw10.LisLongest': WHATEVER THE INPUT: true; the input reads as it did. -/
def lisLongestSpec : ChangeSpec := { name := "lisLongest", fn := fun _ => fun
  | [d1, d2] => { results := [.lit (.bool true)], args := [d1, d2] }
  | _ => none }
def lisLongestRow : OpenClaim := { program := "ytlcfdlcmeinhiaa", sum := "dae92e42b28d99db96228fd45585f5f82e0a5a4ab0c4db552b495f867c69080b", func := "scrim/scrimlaw10.LisLongest", spec := "lisLongest", unfollowed := true, recurses := true, apart := false }
def LisLongestSaid : Prop := lisLongestRow.holds Try.pinned (OpenSpec.ofChange lisLongestSpec)

/-- ITS FALSE NEIGHBOUR: 'it returns false'. Refute it at one input. -/
def lisLongestWrong : ChangeSpec := { name := "lisLongest", fn := fun _ => fun
  | [d1, d2] => { results := [.lit (.bool false)], args := [d1, d2] }
  | _ => none }
def LisLongestWrongFalsely : Prop := lisLongestRow.holds Try.pinned (OpenSpec.ofChange lisLongestWrong)

/-- 'scrimlaw10.LisOthers': WHATEVER THE INPUT: true; the input reads as it did. -/
def lisOthersSpec : ChangeSpec := { name := "lisOthers", fn := fun _ => fun
  | [d] => { results := [.lit (.bool true)], args := [d] }
  | _ => none }
def lisOthersRow : OpenClaim := { program := "ytlcfdlcmeinhiaa", sum := "dae92e42b28d99db96228fd45585f5f82e0a5a4ab0c4db552b495f867c69080b", func := "scrim/scrimlaw10.LisOthers", spec := "lisOthers", unfollowed := true, recurses := true, apart := false }
def LisOthersSaid : Prop := lisOthersRow.holds Try.pinned (OpenSpec.ofChange lisOthersSpec)

/-- ITS FALSE NEIGHBOUR: 'it returns false'. Refute it at one input. -/
def lisOthersWrong : ChangeSpec := { name := "lisOthers", fn := fun _ => fun
  | [d] => { results := [.lit (.bool false)], args := [d] }
  | _ => none }
def LisOthersWrongFalsely : Prop := lisOthersRow.holds Try.pinned (OpenSpec.ofChange lisOthersWrong)

/-- 'scrimlaw12.WeaveLeast': WHATEVER THE INPUT: true; the input reads as it did. -/
def weaveLeastSpec : ChangeSpec := { name := "weaveLeast", fn := fun _ => fun
  | [d1, d2, d3] => { results := [.lit (.bool true)], args := [d1, d2, d3] }
  | _ => none }
def weaveLeastRow : OpenClaim := { program := "ytlcfdlcmeinhiaa", sum := "dae92e42b28d99db96228fd45585f5f82e0a5a4ab0c4db552b495f867c69080b", func := "scrim/scrimlaw12.WeaveLeast", spec := "weaveLeast", inPlace := ["slices.overlaps[int]"], unfollowed := true, recurses := true, apart := false }
def WeaveLeastSaid : Prop := weaveLeastRow.holds Try.pinned (OpenSpec.ofChange weaveLeastSpec)

/-- ITS FALSE NEIGHBOUR: 'it returns false'. Refute it at one input. -/
def weaveLeastWrong : ChangeSpec := { name := "weaveLeast", fn := fun _ => fun
  | [d1, d2, d3] => { results := [.lit (.bool false)], args := [d1, d2, d3] }
  | _ => none }
def WeaveLeastWrongFalsely : Prop := weaveLeastRow.holds Try.pinned (OpenSpec.ofChange weaveLeastWrong)

/-- 'scrimlaw12.WeaveCounts': WHATEVER THE INPUT: true; the input reads as it did. -/
def weaveCountsSpec : ChangeSpec := { name := "weaveCounts", fn := fun _ => fun
  | [d1, d2] => { results := [.lit (.bool true)], args := [d1, d2] }
  | _ => none }
def weaveCountsRow : OpenClaim := { program := "ytlcfdlcmeinhiaa", sum := "dae92e42b28d99db96228fd45585f5f82e0a5a4ab0c4db552b495f867c69080b", func := "scrim/scrimlaw12.WeaveCounts", spec := "weaveCounts", inPlace := ["slices.overlaps[int]"], unfollowed := true, recurses := true, apart := false }
def WeaveCountsSaid : Prop := weaveCountsRow.holds Try.pinned (OpenSpec.ofChange weaveCountsSpec)

/-- ITS FALSE NEIGHBOUR: 'it returns false'. Refute it at one input. -/
def weaveCountsWrong : ChangeSpec := { name := "weaveCounts", fn := fun _ => fun
  | [d1, d2] => { results := [.lit (.bool false)], args := [d1, d2] }
  | _ => none }
def WeaveCountsWrongFalsely : Prop := weaveCountsRow.holds Try.pinned (OpenSpec.ofChange weaveCountsWrong)

/-- 'scrimlaw12.WeaveSteps': WHATEVER THE INPUT: true; the input reads as it did. -/
def weaveStepsSpec : ChangeSpec := { name := "weaveSteps", fn := fun _ => fun
  | [d1, d2] => { results := [.lit (.bool true)], args := [d1, d2] }
  | _ => none }
def weaveStepsRow : OpenClaim := { program := "ytlcfdlcmeinhiaa", sum := "dae92e42b28d99db96228fd45585f5f82e0a5a4ab0c4db552b495f867c69080b", func := "scrim/scrimlaw12.WeaveSteps", spec := "weaveSteps", inPlace := ["slices.overlaps[int]"], unfollowed := true, recurses := true, apart := false }
def WeaveStepsSaid : Prop := weaveStepsRow.holds Try.pinned (OpenSpec.ofChange weaveStepsSpec)

/-- ITS FALSE NEIGHBOUR: 'it returns false'. Refute it at one input. -/
def weaveStepsWrong : ChangeSpec := { name := "weaveSteps", fn := fun _ => fun
  | [d1, d2] => { results := [.lit (.bool false)], args := [d1, d2] }
  | _ => none }
def WeaveStepsWrongFalsely : Prop := weaveStepsRow.holds Try.pinned (OpenSpec.ofChange weaveStepsWrong)

/- THE SECOND FORM. 'bulk': how many values and letters a reading holds, each counted each time it is reached (what is shared counts as often as it is met; a slice's spare places count too). A statement '..UptoSaid' is the law's where the arguments, and the package variables that the reading takes, are together of bulk at most 1048576: NARROWER than '..Said'. Prove '..Said' where nothing that the law and all that it calls make is longer than what came in: it says more and counts as full. Else prove '..UptoSaid'. A law counts once. -/
mutual
def uptoBulk {H : Type} : DataW H → Nat
  | .lit (.string bytes) => bytes.length + 1
  | .lit _ => 1
  | .nil => 1
  | .ptr d => uptoBulk d + 1
  | .slice elems spare => uptoBulkAll elems + uptoBulkAll spare + 1
  | .agg parts => uptoBulkAll parts + 1
  | .iface _ d => uptoBulk d + 1
  | .map entries => uptoBulkEntries entries + 1
  | .held _ => 1
def uptoBulkAll {H : Type} : List (DataW H) → Nat
  | [] => 0
  | d :: r => uptoBulk d + uptoBulkAll r
def uptoBulkEntries {H : Type} : List (Lit × DataW H) → Nat
  | [] => 0
  | x :: r => uptoBulkEntry x + uptoBulkEntries r
def uptoBulkEntry {H : Type} : Lit × DataW H → Nat
  | (.string bytes, d) => bytes.length + uptoBulk d + 1
  | (_, d) => uptoBulk d + 1
 end
def uptoSmall : (H : Type) → List (DataW H) → Bool := fun _ ds => decide (uptoBulkAll ds ≤ 1048576)
def OpenSpec.upto (s : _root_.Go.ChangeSpec) : _root_.Go.OpenSpec := { _root_.Go.OpenSpec.ofChange s with cond := some uptoSmall }

/-- 'scrimlaw25.GroupKeeps', WHERE WHAT IT READS IS OF BULK AT MOST 1048576: true; the input reads as it did. -/
def groupKeepsUptoRow : OpenClaim := { program := "ytlcfdlcmeinhiaa", sum := "dae92e42b28d99db96228fd45585f5f82e0a5a4ab0c4db552b495f867c69080b", func := "scrim/scrimlaw25.GroupKeeps", spec := "groupKeeps", apart := false, narrowed := true }
def GroupKeepsUptoSaid : Prop := groupKeepsUptoRow.holds Try.pinned (OpenSpec.upto groupKeepsSpec)

/-- 'scrimlaw25.GroupPlans', WHERE WHAT IT READS IS OF BULK AT MOST 1048576: true; the input reads as it did. -/
def groupPlansUptoRow : OpenClaim := { program := "ytlcfdlcmeinhiaa", sum := "dae92e42b28d99db96228fd45585f5f82e0a5a4ab0c4db552b495f867c69080b", func := "scrim/scrimlaw25.GroupPlans", spec := "groupPlans", unfollowed := true, recurses := true, apart := false, narrowed := true }
def GroupPlansUptoSaid : Prop := groupPlansUptoRow.holds Try.pinned (OpenSpec.upto groupPlansSpec)

/-- 'scrimlaw25.GroupOnce', WHERE WHAT IT READS IS OF BULK AT MOST 1048576: true; the input reads as it did. -/
def groupOnceUptoRow : OpenClaim := { program := "ytlcfdlcmeinhiaa", sum := "dae92e42b28d99db96228fd45585f5f82e0a5a4ab0c4db552b495f867c69080b", func := "scrim/scrimlaw25.GroupOnce", spec := "groupOnce", unfollowed := true, recurses := true, apart := false, narrowed := true }
def GroupOnceUptoSaid : Prop := groupOnceUptoRow.holds Try.pinned (OpenSpec.upto groupOnceSpec)

/-- 'scrimlaw10.LisRows', WHERE WHAT IT READS IS OF BULK AT MOST 1048576: true; the input reads as it did. -/
def lisRowsUptoRow : OpenClaim := { program := "ytlcfdlcmeinhiaa", sum := "dae92e42b28d99db96228fd45585f5f82e0a5a4ab0c4db552b495f867c69080b", func := "scrim/scrimlaw10.LisRows", spec := "lisRows", unfollowed := true, recurses := true, apart := false, narrowed := true }
def LisRowsUptoSaid : Prop := lisRowsUptoRow.holds Try.pinned (OpenSpec.upto lisRowsSpec)

/-- 'scrimlaw10.LisRises', WHERE WHAT IT READS IS OF BULK AT MOST 1048576: true; the input reads as it did. -/
def lisRisesUptoRow : OpenClaim := { program := "ytlcfdlcmeinhiaa", sum := "dae92e42b28d99db96228fd45585f5f82e0a5a4ab0c4db552b495f867c69080b", func := "scrim/scrimlaw10.LisRises", spec := "lisRises", unfollowed := true, recurses := true, apart := false, narrowed := true }
def LisRisesUptoSaid : Prop := lisRisesUptoRow.holds Try.pinned (OpenSpec.upto lisRisesSpec)

/-- 'scrimlaw10.LisLongest', WHERE WHAT IT READS IS OF BULK AT MOST 1048576: true; the input reads as it did. -/
def lisLongestUptoRow : OpenClaim := { program := "ytlcfdlcmeinhiaa", sum := "dae92e42b28d99db96228fd45585f5f82e0a5a4ab0c4db552b495f867c69080b", func := "scrim/scrimlaw10.LisLongest", spec := "lisLongest", unfollowed := true, recurses := true, apart := false, narrowed := true }
def LisLongestUptoSaid : Prop := lisLongestUptoRow.holds Try.pinned (OpenSpec.upto lisLongestSpec)

/-- 'scrimlaw10.LisOthers', WHERE WHAT IT READS IS OF BULK AT MOST 1048576: true; the input reads as it did. -/
def lisOthersUptoRow : OpenClaim := { program := "ytlcfdlcmeinhiaa", sum := "dae92e42b28d99db96228fd45585f5f82e0a5a4ab0c4db552b495f867c69080b", func := "scrim/scrimlaw10.LisOthers", spec := "lisOthers", unfollowed := true, recurses := true, apart := false, narrowed := true }
def LisOthersUptoSaid : Prop := lisOthersUptoRow.holds Try.pinned (OpenSpec.upto lisOthersSpec)

/-- 'scrimlaw12.WeaveLeast', WHERE WHAT IT READS IS OF BULK AT MOST 1048576: true; the input reads as it did. -/
def weaveLeastUptoRow : OpenClaim := { program := "ytlcfdlcmeinhiaa", sum := "dae92e42b28d99db96228fd45585f5f82e0a5a4ab0c4db552b495f867c69080b", func := "scrim/scrimlaw12.WeaveLeast", spec := "weaveLeast", inPlace := ["slices.overlaps[int]"], unfollowed := true, recurses := true, apart := false, narrowed := true }
def WeaveLeastUptoSaid : Prop := weaveLeastUptoRow.holds Try.pinned (OpenSpec.upto weaveLeastSpec)

/-- 'scrimlaw12.WeaveCounts', WHERE WHAT IT READS IS OF BULK AT MOST 1048576: true; the input reads as it did. -/
def weaveCountsUptoRow : OpenClaim := { program := "ytlcfdlcmeinhiaa", sum := "dae92e42b28d99db96228fd45585f5f82e0a5a4ab0c4db552b495f867c69080b", func := "scrim/scrimlaw12.WeaveCounts", spec := "weaveCounts", inPlace := ["slices.overlaps[int]"], unfollowed := true, recurses := true, apart := false, narrowed := true }
def WeaveCountsUptoSaid : Prop := weaveCountsUptoRow.holds Try.pinned (OpenSpec.upto weaveCountsSpec)

/-- 'scrimlaw12.WeaveSteps', WHERE WHAT IT READS IS OF BULK AT MOST 1048576: true; the input reads as it did. -/
def weaveStepsUptoRow : OpenClaim := { program := "ytlcfdlcmeinhiaa", sum := "dae92e42b28d99db96228fd45585f5f82e0a5a4ab0c4db552b495f867c69080b", func := "scrim/scrimlaw12.WeaveSteps", spec := "weaveSteps", inPlace := ["slices.overlaps[int]"], unfollowed := true, recurses := true, apart := false, narrowed := true }
def WeaveStepsUptoSaid : Prop := weaveStepsUptoRow.holds Try.pinned (OpenSpec.upto weaveStepsSpec)

end Rows
end Go.Proofs.Ytlcfdlcmeinhiaa
