/-
  No cell of these rows narrows 'for every input' (looked for: loops, veiled, ifaces, maps, wideKeys, modest, calm, conditions, laid).
  DERIVED. THE GIVEN ROWS OF THIS SEAT. 10 by the template 'for every input the law returns true; each argument reads behind the call as it read before'; 0 by the template 'total and deterministic' (their statements: YtbjbpgjbpigjaaaTotals.lean).
  GIVEN WITH THE SEED: the statements are not yours to turn. If you find one false, say at which input.
  Laid BY PROGRAM, IN A SANDBOX (cutbox-rows.mjs): the forced cells as the released guide's own fill.sh prints them over the translation 860bb961192f5d19… (all of the seat's roots in one cut). By AI agents, Wed Nov 11 2026. No macro, syntax, notation, axiom, sorry.
-/
import Derived.Test.YtbjbpgjbpigjaaaChecked
import GoSem.Claim
import GoSem.ClaimJoined
import GoSem.ClaimMapViews
import Derived.JoinedTies
import Derived.KernelRfl
namespace Go.Proofs.Ytbjbpgjbpigjaaa
/- THE CELL 'sum', in the pinned program and in every row, IS THE sha256 OF THE DUMP (.gsa) THAT YtbjbpgjbpigjaaaProg.lean LOADS. Nothing in Lean hashes anything: it is a label: what it is worth is what the hold of that sum in a sandbox is worth. -/
noncomputable def Try.pinned : Pinned := { name := "ytbjbpgjbpigjaaa", sum := "860bb961192f5d195f3af50f9fa685ce4bf9a55f350fd16d61659364de8dd614", checked := Try.checked }
namespace Rows
def none {H : Type} : Left H := { results := [], args := [] }

/-- 'scrimlaw13.RectPoints': WHATEVER THE INPUT: true; the input reads as it did. -/
def rectPointsSpec : ChangeSpec := { name := "rectPoints", fn := fun _ => fun
  | [d1, d2, d3] => { results := [.lit (.bool true)], args := [d1, d2, d3] }
  | _ => none }
def rectPointsRow : OpenClaim := { program := "ytbjbpgjbpigjaaa", sum := "860bb961192f5d195f3af50f9fa685ce4bf9a55f350fd16d61659364de8dd614", func := "scrim/scrimlaw13.RectPoints", spec := "rectPoints", apart := false }
def RectPointsSaid : Prop := rectPointsRow.holds Try.pinned (OpenSpec.ofChange rectPointsSpec)

/-- ITS FALSE NEIGHBOUR: 'it returns false'. Refute it at one input. -/
def rectPointsWrong : ChangeSpec := { name := "rectPoints", fn := fun _ => fun
  | [d1, d2, d3] => { results := [.lit (.bool false)], args := [d1, d2, d3] }
  | _ => none }
def RectPointsWrongFalsely : Prop := rectPointsRow.holds Try.pinned (OpenSpec.ofChange rectPointsWrong)

/-- 'scrimlaw13.RectOffsets': WHATEVER THE INPUT: true; the input reads as it did. -/
def rectOffsetsSpec : ChangeSpec := { name := "rectOffsets", fn := fun _ => fun
  | [d1, d2] => { results := [.lit (.bool true)], args := [d1, d2] }
  | _ => none }
def rectOffsetsRow : OpenClaim := { program := "ytbjbpgjbpigjaaa", sum := "860bb961192f5d195f3af50f9fa685ce4bf9a55f350fd16d61659364de8dd614", func := "scrim/scrimlaw13.RectOffsets", spec := "rectOffsets", apart := false }
def RectOffsetsSaid : Prop := rectOffsetsRow.holds Try.pinned (OpenSpec.ofChange rectOffsetsSpec)

/-- ITS FALSE NEIGHBOUR: 'it returns false'. Refute it at one input. -/
def rectOffsetsWrong : ChangeSpec := { name := "rectOffsets", fn := fun _ => fun
  | [d1, d2] => { results := [.lit (.bool false)], args := [d1, d2] }
  | _ => none }
def RectOffsetsWrongFalsely : Prop := rectOffsetsRow.holds Try.pinned (OpenSpec.ofChange rectOffsetsWrong)

/-- 'scrimlaw13.RectOver': WHATEVER THE INPUT: true; the input reads as it did. -/
def rectOverSpec : ChangeSpec := { name := "rectOver", fn := fun _ => fun
  | [d1, d2] => { results := [.lit (.bool true)], args := [d1, d2] }
  | _ => none }
def rectOverRow : OpenClaim := { program := "ytbjbpgjbpigjaaa", sum := "860bb961192f5d195f3af50f9fa685ce4bf9a55f350fd16d61659364de8dd614", func := "scrim/scrimlaw13.RectOver", spec := "rectOver", apart := false }
def RectOverSaid : Prop := rectOverRow.holds Try.pinned (OpenSpec.ofChange rectOverSpec)

/-- ITS FALSE NEIGHBOUR: 'it returns false'. Refute it at one input. -/
def rectOverWrong : ChangeSpec := { name := "rectOver", fn := fun _ => fun
  | [d1, d2] => { results := [.lit (.bool false)], args := [d1, d2] }
  | _ => none }
def RectOverWrongFalsely : Prop := rectOverRow.holds Try.pinned (OpenSpec.ofChange rectOverWrong)

/-- 'scrimlaw13.RectSnaps': WHATEVER THE INPUT: true; the input reads as it did. -/
def rectSnapsSpec : ChangeSpec := { name := "rectSnaps", fn := fun _ => fun
  | [d1, d2] => { results := [.lit (.bool true)], args := [d1, d2] }
  | _ => none }
def rectSnapsRow : OpenClaim := { program := "ytbjbpgjbpigjaaa", sum := "860bb961192f5d195f3af50f9fa685ce4bf9a55f350fd16d61659364de8dd614", func := "scrim/scrimlaw13.RectSnaps", spec := "rectSnaps", inPlace := ["slices.overlaps[scrim/rect.Entry]"], unfollowed := true, recurses := true, apart := false }
def RectSnapsSaid : Prop := rectSnapsRow.holds Try.pinned (OpenSpec.ofChange rectSnapsSpec)

/-- ITS FALSE NEIGHBOUR: 'it returns false'. Refute it at one input. -/
def rectSnapsWrong : ChangeSpec := { name := "rectSnaps", fn := fun _ => fun
  | [d1, d2] => { results := [.lit (.bool false)], args := [d1, d2] }
  | _ => none }
def RectSnapsWrongFalsely : Prop := rectSnapsRow.holds Try.pinned (OpenSpec.ofChange rectSnapsWrong)

/-- 'scrimlaw13.RectMoved': WHATEVER THE INPUT: true; the input reads as it did. -/
def rectMovedSpec : ChangeSpec := { name := "rectMoved", fn := fun _ => fun
  | [d] => { results := [.lit (.bool true)], args := [d] }
  | _ => none }
def rectMovedRow : OpenClaim := { program := "ytbjbpgjbpigjaaa", sum := "860bb961192f5d195f3af50f9fa685ce4bf9a55f350fd16d61659364de8dd614", func := "scrim/scrimlaw13.RectMoved", spec := "rectMoved", inPlace := ["slices.overlaps[scrim/rect.Entry]"], unfollowed := true, recurses := true, apart := false }
def RectMovedSaid : Prop := rectMovedRow.holds Try.pinned (OpenSpec.ofChange rectMovedSpec)

/-- ITS FALSE NEIGHBOUR: 'it returns false'. Refute it at one input. -/
def rectMovedWrong : ChangeSpec := { name := "rectMoved", fn := fun _ => fun
  | [d] => { results := [.lit (.bool false)], args := [d] }
  | _ => none }
def RectMovedWrongFalsely : Prop := rectMovedRow.holds Try.pinned (OpenSpec.ofChange rectMovedWrong)

/-- 'scrimlaw23.FlipPlans': WHATEVER THE INPUT: true; the input reads as it did. -/
def flipPlansSpec : ChangeSpec := { name := "flipPlans", fn := fun _ => fun
  | [d] => { results := [.lit (.bool true)], args := [d] }
  | _ => none }
def flipPlansRow : OpenClaim := { program := "ytbjbpgjbpigjaaa", sum := "860bb961192f5d195f3af50f9fa685ce4bf9a55f350fd16d61659364de8dd614", func := "scrim/scrimlaw23.FlipPlans", spec := "flipPlans", inPlace := ["slices.overlaps[scrim/rect.Entry]"], unfollowed := true, recurses := true, apart := false }
def FlipPlansSaid : Prop := flipPlansRow.holds Try.pinned (OpenSpec.ofChange flipPlansSpec)

/-- ITS FALSE NEIGHBOUR: 'it returns false'. Refute it at one input. -/
def flipPlansWrong : ChangeSpec := { name := "flipPlans", fn := fun _ => fun
  | [d] => { results := [.lit (.bool false)], args := [d] }
  | _ => none }
def FlipPlansWrongFalsely : Prop := flipPlansRow.holds Try.pinned (OpenSpec.ofChange flipPlansWrong)

/-- 'scrimlaw23.FlipLeft': WHATEVER THE INPUT: true; the input reads as it did. -/
def flipLeftSpec : ChangeSpec := { name := "flipLeft", fn := fun _ => fun
  | [d1, d2, d3] => { results := [.lit (.bool true)], args := [d1, d2, d3] }
  | _ => none }
def flipLeftRow : OpenClaim := { program := "ytbjbpgjbpigjaaa", sum := "860bb961192f5d195f3af50f9fa685ce4bf9a55f350fd16d61659364de8dd614", func := "scrim/scrimlaw23.FlipLeft", spec := "flipLeft", inPlace := ["slices.overlaps[scrim/rect.Entry]"], unfollowed := true, recurses := true, apart := false }
def FlipLeftSaid : Prop := flipLeftRow.holds Try.pinned (OpenSpec.ofChange flipLeftSpec)

/-- ITS FALSE NEIGHBOUR: 'it returns false'. Refute it at one input. -/
def flipLeftWrong : ChangeSpec := { name := "flipLeft", fn := fun _ => fun
  | [d1, d2, d3] => { results := [.lit (.bool false)], args := [d1, d2, d3] }
  | _ => none }
def FlipLeftWrongFalsely : Prop := flipLeftRow.holds Try.pinned (OpenSpec.ofChange flipLeftWrong)

/-- 'scrimlaw23.FlipShrinks': WHATEVER THE INPUT: true; the input reads as it did. -/
def flipShrinksSpec : ChangeSpec := { name := "flipShrinks", fn := fun _ => fun
  | [d1, d2] => { results := [.lit (.bool true)], args := [d1, d2] }
  | _ => none }
def flipShrinksRow : OpenClaim := { program := "ytbjbpgjbpigjaaa", sum := "860bb961192f5d195f3af50f9fa685ce4bf9a55f350fd16d61659364de8dd614", func := "scrim/scrimlaw23.FlipShrinks", spec := "flipShrinks", inPlace := ["slices.overlaps[scrim/rect.Entry]"], unfollowed := true, recurses := true, apart := false }
def FlipShrinksSaid : Prop := flipShrinksRow.holds Try.pinned (OpenSpec.ofChange flipShrinksSpec)

/-- ITS FALSE NEIGHBOUR: 'it returns false'. Refute it at one input. -/
def flipShrinksWrong : ChangeSpec := { name := "flipShrinks", fn := fun _ => fun
  | [d1, d2] => { results := [.lit (.bool false)], args := [d1, d2] }
  | _ => none }
def FlipShrinksWrongFalsely : Prop := flipShrinksRow.holds Try.pinned (OpenSpec.ofChange flipShrinksWrong)

/-- 'scrimlaw23.FlipApplies': WHATEVER THE INPUT: true; the input reads as it did. -/
def flipAppliesSpec : ChangeSpec := { name := "flipApplies", fn := fun _ => fun
  | [d1, d2] => { results := [.lit (.bool true)], args := [d1, d2] }
  | _ => none }
def flipAppliesRow : OpenClaim := { program := "ytbjbpgjbpigjaaa", sum := "860bb961192f5d195f3af50f9fa685ce4bf9a55f350fd16d61659364de8dd614", func := "scrim/scrimlaw23.FlipApplies", spec := "flipApplies", inPlace := ["slices.overlaps[scrim/rect.Entry]"], unfollowed := true, recurses := true, apart := false }
def FlipAppliesSaid : Prop := flipAppliesRow.holds Try.pinned (OpenSpec.ofChange flipAppliesSpec)

/-- ITS FALSE NEIGHBOUR: 'it returns false'. Refute it at one input. -/
def flipAppliesWrong : ChangeSpec := { name := "flipApplies", fn := fun _ => fun
  | [d1, d2] => { results := [.lit (.bool false)], args := [d1, d2] }
  | _ => none }
def FlipAppliesWrongFalsely : Prop := flipAppliesRow.holds Try.pinned (OpenSpec.ofChange flipAppliesWrong)

/-- 'scrimlaw23.FlipBack': WHATEVER THE INPUT: true; the input reads as it did. -/
def flipBackSpec : ChangeSpec := { name := "flipBack", fn := fun _ => fun
  | [d] => { results := [.lit (.bool true)], args := [d] }
  | _ => none }
def flipBackRow : OpenClaim := { program := "ytbjbpgjbpigjaaa", sum := "860bb961192f5d195f3af50f9fa685ce4bf9a55f350fd16d61659364de8dd614", func := "scrim/scrimlaw23.FlipBack", spec := "flipBack", inPlace := ["slices.overlaps[scrim/rect.Entry]"], unfollowed := true, recurses := true, apart := false }
def FlipBackSaid : Prop := flipBackRow.holds Try.pinned (OpenSpec.ofChange flipBackSpec)

/-- ITS FALSE NEIGHBOUR: 'it returns false'. Refute it at one input. -/
def flipBackWrong : ChangeSpec := { name := "flipBack", fn := fun _ => fun
  | [d] => { results := [.lit (.bool false)], args := [d] }
  | _ => none }
def FlipBackWrongFalsely : Prop := flipBackRow.holds Try.pinned (OpenSpec.ofChange flipBackWrong)

/- THE SECOND FORM. 'bulk': how many values and letters a reading holds, each counted each time it is reached (what is shared counts as often as it is met; a slice's spare places count too). A statement '..UptoSaid' is the law's where the arguments, and the package variables that the reading takes, are together of bulk at most 1048576: NARROWER than '..Said'. Prove '..Said' where nothing that the law and all that it calls make is longer than what came in: it says more and counts as full. Else prove '..UptoSaid'. A law counts once. -/
mutual
def uptoBulk {H : Type} : DataW H → Nat
  | .lit (.string bytes) => bytes.length + 1
  | .lit _ => 1
  | .nil => 1
  | .ptr d => uptoBulk d + 1
  | .slice elems spare => uptoBulkAll elems + uptoBulkAll spare + 1
  | .agg parts => uptoBulkAll parts + 1
  | .iface _ d => uptoBulk d + 1
  | .map entries => uptoBulkEntries entries + 1
  | .held _ => 1
def uptoBulkAll {H : Type} : List (DataW H) → Nat
  | [] => 0
  | d :: r => uptoBulk d + uptoBulkAll r
def uptoBulkEntries {H : Type} : List (Lit × DataW H) → Nat
  | [] => 0
  | x :: r => uptoBulkEntry x + uptoBulkEntries r
def uptoBulkEntry {H : Type} : Lit × DataW H → Nat
  | (.string bytes, d) => bytes.length + uptoBulk d + 1
  | (_, d) => uptoBulk d + 1
 end
def uptoSmall : (H : Type) → List (DataW H) → Bool := fun _ ds => decide (uptoBulkAll ds ≤ 1048576)
def OpenSpec.upto (s : _root_.Go.ChangeSpec) : _root_.Go.OpenSpec := { _root_.Go.OpenSpec.ofChange s with cond := some uptoSmall }

/-- 'scrimlaw13.RectPoints', WHERE WHAT IT READS IS OF BULK AT MOST 1048576: true; the input reads as it did. -/
def rectPointsUptoRow : OpenClaim := { program := "ytbjbpgjbpigjaaa", sum := "860bb961192f5d195f3af50f9fa685ce4bf9a55f350fd16d61659364de8dd614", func := "scrim/scrimlaw13.RectPoints", spec := "rectPoints", apart := false, narrowed := true }
def RectPointsUptoSaid : Prop := rectPointsUptoRow.holds Try.pinned (OpenSpec.upto rectPointsSpec)

/-- 'scrimlaw13.RectOffsets', WHERE WHAT IT READS IS OF BULK AT MOST 1048576: true; the input reads as it did. -/
def rectOffsetsUptoRow : OpenClaim := { program := "ytbjbpgjbpigjaaa", sum := "860bb961192f5d195f3af50f9fa685ce4bf9a55f350fd16d61659364de8dd614", func := "scrim/scrimlaw13.RectOffsets", spec := "rectOffsets", apart := false, narrowed := true }
def RectOffsetsUptoSaid : Prop := rectOffsetsUptoRow.holds Try.pinned (OpenSpec.upto rectOffsetsSpec)

/-- 'scrimlaw13.RectOver', WHERE WHAT IT READS IS OF BULK AT MOST 1048576: true; the input reads as it did. -/
def rectOverUptoRow : OpenClaim := { program := "ytbjbpgjbpigjaaa", sum := "860bb961192f5d195f3af50f9fa685ce4bf9a55f350fd16d61659364de8dd614", func := "scrim/scrimlaw13.RectOver", spec := "rectOver", apart := false, narrowed := true }
def RectOverUptoSaid : Prop := rectOverUptoRow.holds Try.pinned (OpenSpec.upto rectOverSpec)

/-- 'scrimlaw13.RectSnaps', WHERE WHAT IT READS IS OF BULK AT MOST 1048576: true; the input reads as it did. -/
def rectSnapsUptoRow : OpenClaim := { program := "ytbjbpgjbpigjaaa", sum := "860bb961192f5d195f3af50f9fa685ce4bf9a55f350fd16d61659364de8dd614", func := "scrim/scrimlaw13.RectSnaps", spec := "rectSnaps", inPlace := ["slices.overlaps[scrim/rect.Entry]"], unfollowed := true, recurses := true, apart := false, narrowed := true }
def RectSnapsUptoSaid : Prop := rectSnapsUptoRow.holds Try.pinned (OpenSpec.upto rectSnapsSpec)

/-- 'scrimlaw13.RectMoved', WHERE WHAT IT READS IS OF BULK AT MOST 1048576: true; the input reads as it did. -/
def rectMovedUptoRow : OpenClaim := { program := "ytbjbpgjbpigjaaa", sum := "860bb961192f5d195f3af50f9fa685ce4bf9a55f350fd16d61659364de8dd614", func := "scrim/scrimlaw13.RectMoved", spec := "rectMoved", inPlace := ["slices.overlaps[scrim/rect.Entry]"], unfollowed := true, recurses := true, apart := false, narrowed := true }
def RectMovedUptoSaid : Prop := rectMovedUptoRow.holds Try.pinned (OpenSpec.upto rectMovedSpec)

/-- 'scrimlaw23.FlipPlans', WHERE WHAT IT READS IS OF BULK AT MOST 1048576: true; the input reads as it did. -/
def flipPlansUptoRow : OpenClaim := { program := "ytbjbpgjbpigjaaa", sum := "860bb961192f5d195f3af50f9fa685ce4bf9a55f350fd16d61659364de8dd614", func := "scrim/scrimlaw23.FlipPlans", spec := "flipPlans", inPlace := ["slices.overlaps[scrim/rect.Entry]"], unfollowed := true, recurses := true, apart := false, narrowed := true }
def FlipPlansUptoSaid : Prop := flipPlansUptoRow.holds Try.pinned (OpenSpec.upto flipPlansSpec)

/-- 'scrimlaw23.FlipLeft', WHERE WHAT IT READS IS OF BULK AT MOST 1048576: true; the input reads as it did. -/
def flipLeftUptoRow : OpenClaim := { program := "ytbjbpgjbpigjaaa", sum := "860bb961192f5d195f3af50f9fa685ce4bf9a55f350fd16d61659364de8dd614", func := "scrim/scrimlaw23.FlipLeft", spec := "flipLeft", inPlace := ["slices.overlaps[scrim/rect.Entry]"], unfollowed := true, recurses := true, apart := false, narrowed := true }
def FlipLeftUptoSaid : Prop := flipLeftUptoRow.holds Try.pinned (OpenSpec.upto flipLeftSpec)

/-- 'scrimlaw23.FlipShrinks', WHERE WHAT IT READS IS OF BULK AT MOST 1048576: true; the input reads as it did. -/
def flipShrinksUptoRow : OpenClaim := { program := "ytbjbpgjbpigjaaa", sum := "860bb961192f5d195f3af50f9fa685ce4bf9a55f350fd16d61659364de8dd614", func := "scrim/scrimlaw23.FlipShrinks", spec := "flipShrinks", inPlace := ["slices.overlaps[scrim/rect.Entry]"], unfollowed := true, recurses := true, apart := false, narrowed := true }
def FlipShrinksUptoSaid : Prop := flipShrinksUptoRow.holds Try.pinned (OpenSpec.upto flipShrinksSpec)

/-- 'scrimlaw23.FlipApplies', WHERE WHAT IT READS IS OF BULK AT MOST 1048576: true; the input reads as it did. -/
def flipAppliesUptoRow : OpenClaim := { program := "ytbjbpgjbpigjaaa", sum := "860bb961192f5d195f3af50f9fa685ce4bf9a55f350fd16d61659364de8dd614", func := "scrim/scrimlaw23.FlipApplies", spec := "flipApplies", inPlace := ["slices.overlaps[scrim/rect.Entry]"], unfollowed := true, recurses := true, apart := false, narrowed := true }
def FlipAppliesUptoSaid : Prop := flipAppliesUptoRow.holds Try.pinned (OpenSpec.upto flipAppliesSpec)

/-- 'scrimlaw23.FlipBack', WHERE WHAT IT READS IS OF BULK AT MOST 1048576: true; the input reads as it did. -/
def flipBackUptoRow : OpenClaim := { program := "ytbjbpgjbpigjaaa", sum := "860bb961192f5d195f3af50f9fa685ce4bf9a55f350fd16d61659364de8dd614", func := "scrim/scrimlaw23.FlipBack", spec := "flipBack", inPlace := ["slices.overlaps[scrim/rect.Entry]"], unfollowed := true, recurses := true, apart := false, narrowed := true }
def FlipBackUptoSaid : Prop := flipBackUptoRow.holds Try.pinned (OpenSpec.upto flipBackSpec)

end Rows
end Go.Proofs.Ytbjbpgjbpigjaaa
