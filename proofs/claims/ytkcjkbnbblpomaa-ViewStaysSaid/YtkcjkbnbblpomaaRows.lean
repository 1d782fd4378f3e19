/-
  No cell of these rows narrows 'for every input' (looked for: loops, veiled, ifaces, maps, wideKeys, modest, calm, conditions, laid).
  DERIVED. THE GIVEN ROWS OF THIS SEAT. 4 by the template 'for every input the law returns true; each argument reads behind the call as it read before'; 0 by the template 'total and deterministic' (their statements: YtkcjkbnbblpomaaTotals.lean).
  GIVEN WITH THE SEED: the statements are not yours to turn. If you find one false, say at which input.
  Laid BY PROGRAM, IN A SANDBOX (cutbox-rows.mjs): the forced cells as the released guide's own fill.sh prints them over the translation db42b85aec7cbd57… (all of the seat's roots in one cut). By AI agents, Wed Nov 11 2026. No macro, syntax, notation, axiom, sorry.
-/
import Derived.Test.YtkcjkbnbblpomaaChecked
import GoSem.Claim
import GoSem.ClaimJoined
import GoSem.ClaimMapViews
import Derived.JoinedTies
import Derived.KernelRfl
namespace Go.Proofs.Ytkcjkbnbblpomaa
/- THE CELL 'sum', in the pinned program and in every row, IS THE sha256 OF THE DUMP (.gsa) THAT YtkcjkbnbblpomaaProg.lean LOADS. Nothing in Lean hashes anything: it is a label: what it is worth is what the hold of that sum in a sandbox is worth. -/
noncomputable def Try.pinned : Pinned := { name := "ytkcjkbnbblpomaa", sum := "db42b85aec7cbd5708c5e7961fb9504718a1b20022885797117413308d35e5e7", checked := Try.checked }
namespace Rows
def none {H : Type} : Left H := { results := [], args := [] }

/-- 'scrimlaw07.ViewNormal': WHATEVER THE INPUT: true; the input reads as it did. -/
def viewNormalSpec : ChangeSpec := { name := "viewNormal", fn := fun _ => fun
  | [d] => { results := [.lit (.bool true)], args := [d] }
  | _ => none }
def viewNormalRow : OpenClaim := { program := "ytkcjkbnbblpomaa", sum := "db42b85aec7cbd5708c5e7961fb9504718a1b20022885797117413308d35e5e7", func := "scrim/scrimlaw07.ViewNormal", spec := "viewNormal", inPlace := ["slices.overlaps[scrim/props.Pair[string]]", "slices.overlaps[scrim/props.Pair[int]]"], unfollowed := true, recurses := true, apart := false }
def ViewNormalSaid : Prop := viewNormalRow.holds Try.pinned (OpenSpec.ofChange viewNormalSpec)

/-- ITS FALSE NEIGHBOUR: 'it returns false'. Refute it at one input. -/
def viewNormalWrong : ChangeSpec := { name := "viewNormal", fn := fun _ => fun
  | [d] => { results := [.lit (.bool false)], args := [d] }
  | _ => none }
def ViewNormalWrongFalsely : Prop := viewNormalRow.holds Try.pinned (OpenSpec.ofChange viewNormalWrong)

/-- 'scrimlaw07.ViewSame': WHATEVER THE INPUT: true; the input reads as it did. -/
def viewSameSpec : ChangeSpec := { name := "viewSame", fn := fun _ => fun
  | [d1, d2] => { results := [.lit (.bool true)], args := [d1, d2] }
  | _ => none }
def viewSameRow : OpenClaim := { program := "ytkcjkbnbblpomaa", sum := "db42b85aec7cbd5708c5e7961fb9504718a1b20022885797117413308d35e5e7", func := "scrim/scrimlaw07.ViewSame", spec := "viewSame", inPlace := ["slices.overlaps[scrim/props.Pair[string]]", "slices.overlaps[scrim/props.Pair[int]]"], unfollowed := true, recurses := true, apart := false }
def ViewSameSaid : Prop := viewSameRow.holds Try.pinned (OpenSpec.ofChange viewSameSpec)

/-- ITS FALSE NEIGHBOUR: 'it returns false'. Refute it at one input. -/
def viewSameWrong : ChangeSpec := { name := "viewSame", fn := fun _ => fun
  | [d1, d2] => { results := [.lit (.bool false)], args := [d1, d2] }
  | _ => none }
def ViewSameWrongFalsely : Prop := viewSameRow.holds Try.pinned (OpenSpec.ofChange viewSameWrong)

/-- 'scrimlaw07.ViewSizes': WHATEVER THE INPUT: true; the input reads as it did. -/
def viewSizesSpec : ChangeSpec := { name := "viewSizes", fn := fun _ => fun
  | [d] => { results := [.lit (.bool true)], args := [d] }
  | _ => none }
def viewSizesRow : OpenClaim := { program := "ytkcjkbnbblpomaa", sum := "db42b85aec7cbd5708c5e7961fb9504718a1b20022885797117413308d35e5e7", func := "scrim/scrimlaw07.ViewSizes", spec := "viewSizes", inPlace := ["slices.overlaps[scrim/props.Pair[string]]", "slices.overlaps[scrim/props.Pair[int]]"], unfollowed := true, recurses := true, apart := false }
def ViewSizesSaid : Prop := viewSizesRow.holds Try.pinned (OpenSpec.ofChange viewSizesSpec)

/-- ITS FALSE NEIGHBOUR: 'it returns false'. Refute it at one input. -/
def viewSizesWrong : ChangeSpec := { name := "viewSizes", fn := fun _ => fun
  | [d] => { results := [.lit (.bool false)], args := [d] }
  | _ => none }
def ViewSizesWrongFalsely : Prop := viewSizesRow.holds Try.pinned (OpenSpec.ofChange viewSizesWrong)

/-- 'scrimlaw07.ViewStays': WHATEVER THE INPUT: true; the input reads as it did. -/
def viewStaysSpec : ChangeSpec := { name := "viewStays", fn := fun _ => fun
  | [d1, d2, d3] => { results := [.lit (.bool true)], args := [d1, d2, d3] }
  | _ => none }
def viewStaysRow : OpenClaim := { program := "ytkcjkbnbblpomaa", sum := "db42b85aec7cbd5708c5e7961fb9504718a1b20022885797117413308d35e5e7", func := "scrim/scrimlaw07.ViewStays", spec := "viewStays", inPlace := ["slices.overlaps[scrim/props.Pair[string]]", "slices.overlaps[scrim/props.Pair[int]]"], unfollowed := true, recurses := true, apart := false }
def ViewStaysSaid : Prop := viewStaysRow.holds Try.pinned (OpenSpec.ofChange viewStaysSpec)

/-- ITS FALSE NEIGHBOUR: 'it returns false'. Refute it at one input. -/
def viewStaysWrong : ChangeSpec := { name := "viewStays", fn := fun _ => fun
  | [d1, d2, d3] => { results := [.lit (.bool false)], args := [d1, d2, d3] }
  | _ => none }
def ViewStaysWrongFalsely : Prop := viewStaysRow.holds Try.pinned (OpenSpec.ofChange viewStaysWrong)

/- THE SECOND FORM. 'bulk': how many values and letters a reading holds, each counted each time it is reached (what is shared counts as often as it is met; a slice's spare places count too). A statement '..UptoSaid' is the law's where the arguments, and the package variables that the reading takes, are together of bulk at most 1048576: NARROWER than '..Said'. Prove '..Said' where nothing that the law and all that it calls make is longer than what came in: it says more and counts as full. Else prove '..UptoSaid'. A law counts once. -/
mutual
def uptoBulk {H : Type} : DataW H → Nat
  | .lit (.string bytes) => bytes.length + 1
  | .lit _ => 1
  | .nil => 1
  | .ptr d => uptoBulk d + 1
  | .slice elems spare => uptoBulkAll elems + uptoBulkAll spare + 1
  | .agg parts => uptoBulkAll parts + 1
  | .iface _ d => uptoBulk d + 1
  | .map entries => uptoBulkEntries entries + 1
  | .held _ => 1
def uptoBulkAll {H : Type} : List (DataW H) → Nat
  | [] => 0
  | d :: r => uptoBulk d + uptoBulkAll r
def uptoBulkEntries {H : Type} : List (Lit × DataW H) → Nat
  | [] => 0
  | x :: r => uptoBulkEntry x + uptoBulkEntries r
def uptoBulkEntry {H : Type} : Lit × DataW H → Nat
  | (.string bytes, d) => bytes.length + uptoBulk d + 1
  | (_, d) => uptoBulk d + 1
 end
def uptoSmall : (H : Type) → List (DataW H) → Bool := fun _ ds => decide (uptoBulkAll ds ≤ 1048576)
def OpenSpec.upto (s : _root_.Go.ChangeSpec) : _root_.Go.OpenSpec := { _root_.Go.OpenSpec.ofChange s with cond := some uptoSmall }

/-- 'scrimlaw07.ViewNormal', WHERE WHAT IT READS IS OF BULK AT MOST 1048576: true; the input reads as it did. -/
def viewNormalUptoRow : OpenClaim := { program := "ytkcjkbnbblpomaa", sum := "db42b85aec7cbd5708c5e7961fb9504718a1b20022885797117413308d35e5e7", func := "scrim/scrimlaw07.ViewNormal", spec := "viewNormal", inPlace := ["slices.overlaps[scrim/props.Pair[string]]", "slices.overlaps[scrim/props.Pair[int]]"], unfollowed := true, recurses := true, apart := false, narrowed := true }
def ViewNormalUptoSaid : Prop := viewNormalUptoRow.holds Try.pinned (OpenSpec.upto viewNormalSpec)

/-- 'scrimlaw07.ViewSame', WHERE WHAT IT READS IS OF BULK AT MOST 1048576: true; the input reads as it did. -/
def viewSameUptoRow : OpenClaim := { program := "ytkcjkbnbblpomaa", sum := "db42b85aec7cbd5708c5e7961fb9504718a1b20022885797117413308d35e5e7", func := "scrim/scrimlaw07.ViewSame", spec := "viewSame", inPlace := ["slices.overlaps[scrim/props.Pair[string]]", "slices.overlaps[scrim/props.Pair[int]]"], unfollowed := true, recurses := true, apart := false, narrowed := true }
def ViewSameUptoSaid : Prop := viewSameUptoRow.holds Try.pinned (OpenSpec.upto viewSameSpec)

/-- 'scrimlaw07.ViewSizes', WHERE WHAT IT READS IS OF BULK AT MOST 1048576: true; the input reads as it did. -/
def viewSizesUptoRow : OpenClaim := { program := "ytkcjkbnbblpomaa", sum := "db42b85aec7cbd5708c5e7961fb9504718a1b20022885797117413308d35e5e7", func := "scrim/scrimlaw07.ViewSizes", spec := "viewSizes", inPlace := ["slices.overlaps[scrim/props.Pair[string]]", "slices.overlaps[scrim/props.Pair[int]]"], unfollowed := true, recurses := true, apart := false, narrowed := true }
def ViewSizesUptoSaid : Prop := viewSizesUptoRow.holds Try.pinned (OpenSpec.upto viewSizesSpec)

/-- 'scrimlaw07.ViewStays', WHERE WHAT IT READS IS OF BULK AT MOST 1048576: true; the input reads as it did. -/
def viewStaysUptoRow : OpenClaim := { program := "ytkcjkbnbblpomaa", sum := "db42b85aec7cbd5708c5e7961fb9504718a1b20022885797117413308d35e5e7", func := "scrim/scrimlaw07.ViewStays", spec := "viewStays", inPlace := ["slices.overlaps[scrim/props.Pair[string]]", "slices.overlaps[scrim/props.Pair[int]]"], unfollowed := true, recurses := true, apart := false, narrowed := true }
def ViewStaysUptoSaid : Prop := viewStaysUptoRow.holds Try.pinned (OpenSpec.upto viewStaysSpec)

end Rows
end Go.Proofs.Ytkcjkbnbblpomaa
