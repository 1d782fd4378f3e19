/-
  NARROWER THAN 'FOR EVERY INPUT', by the rows' own cells (each row's printed sentence says how): StillViews: laid · StillFinds: laid · StillErases: laid · StillShows: laid · StillStays: laid · StillReads: laid.
  DERIVED. THE GIVEN ROWS OF THIS SEAT. 6 by the template 'for every input the law returns true; each argument reads behind the call as it read before'; 0 by the template 'total and deterministic' (their statements: YtkcjkbnbblpomaaGreatDoorTotals.lean).
  GIVEN WITH THE SEED: the statements are not yours to turn. If you find one false, say at which input.
  Laid BY PROGRAM, IN A SANDBOX (cutbox-rows.mjs): the forced cells as the released guide's own fill.sh prints them over the translation 6178e8dab9c08861… (all of the seat's roots in one cut). By AI agents, Wed Nov 11 2026. No macro, syntax, notation, axiom, sorry.
-/
import Derived.Test.YtkcjkbnbblpomaaGreatDoorChecked
import GoSem.Claim
import GoSem.ClaimJoined
import GoSem.ClaimMapViews
import Derived.JoinedTies
import Derived.KernelRfl
namespace Go.Proofs.YtkcjkbnbblpomaaGreatDoor
/- THE CELL 'sum', in the pinned program and in every row, IS THE sha256 OF THE DUMP (.gsa) THAT YtkcjkbnbblpomaaGreatDoorProg.lean LOADS. Nothing in Lean hashes anything: it is a label: what it is worth is what the hold of that sum in a sandbox is worth. -/
noncomputable def Tryz.pinned : Pinned := { name := "ytkcjkbnbblpomaagreatdoor", sum := "6178e8dab9c088619c09aca42bc429bcacb7f696288cf336fdd6fb0117f4859e", checked := Tryz.checked }
namespace Rows
def none {H : Type} : Left H := { results := [], args := [] }

/- WHAT THE LISTED PACKAGE-LEVEL VARIABLES READ AS WHEN THE CALL BEGINS. Each datum BY PROGRAM (the guide's laid-datum.mjs) off the statement by which the dump's own 'gosem.cut.vars' lays the variable. In a bare row this is a premise. The card (YtkcjkbnbblpomaaGreatDoorCards.lean) ties it to the program's text. -/
def laid_math_bits_deBruijn32tab {H : Type} : DataW H := .agg [.lit (.int .u8 0), .lit (.int .u8 1), .lit (.int .u8 28), .lit (.int .u8 2), .lit (.int .u8 29), .lit (.int .u8 14), .lit (.int .u8 24), .lit (.int .u8 3), .lit (.int .u8 30), .lit (.int .u8 22), .lit (.int .u8 20), .lit (.int .u8 15), .lit (.int .u8 25), .lit (.int .u8 17), .lit (.int .u8 4), .lit (.int .u8 8), .lit (.int .u8 31), .lit (.int .u8 27), .lit (.int .u8 13), .lit (.int .u8 23), .lit (.int .u8 21), .lit (.int .u8 19), .lit (.int .u8 16), .lit (.int .u8 7), .lit (.int .u8 26), .lit (.int .u8 12), .lit (.int .u8 18), .lit (.int .u8 6), .lit (.int .u8 11), .lit (.int .u8 5), .lit (.int .u8 10), .lit (.int .u8 9)]
def laid_math_bits_deBruijn64tab {H : Type} : DataW H := .agg [.lit (.int .u8 0), .lit (.int .u8 1), .lit (.int .u8 56), .lit (.int .u8 2), .lit (.int .u8 57), .lit (.int .u8 49), .lit (.int .u8 28), .lit (.int .u8 3), .lit (.int .u8 61), .lit (.int .u8 58), .lit (.int .u8 42), .lit (.int .u8 50), .lit (.int .u8 38), .lit (.int .u8 29), .lit (.int .u8 17), .lit (.int .u8 4), .lit (.int .u8 62), .lit (.int .u8 47), .lit (.int .u8 59), .lit (.int .u8 36), .lit (.int .u8 45), .lit (.int .u8 43), .lit (.int .u8 51), .lit (.int .u8 22), .lit (.int .u8 53), .lit (.int .u8 39), .lit (.int .u8 33), .lit (.int .u8 30), .lit (.int .u8 24), .lit (.int .u8 18), .lit (.int .u8 12), .lit (.int .u8 5), .lit (.int .u8 63), .lit (.int .u8 55), .lit (.int .u8 48), .lit (.int .u8 27), .lit (.int .u8 60), .lit (.int .u8 41), .lit (.int .u8 37), .lit (.int .u8 16), .lit (.int .u8 46), .lit (.int .u8 35), .lit (.int .u8 44), .lit (.int .u8 21), .lit (.int .u8 52), .lit (.int .u8 32), .lit (.int .u8 23), .lit (.int .u8 11), .lit (.int .u8 54), .lit (.int .u8 26), .lit (.int .u8 40), .lit (.int .u8 15), .lit (.int .u8 34), .lit (.int .u8 20), .lit (.int .u8 31), .lit (.int .u8 10), .lit (.int .u8 25), .lit (.int .u8 14), .lit (.int .u8 19), .lit (.int .u8 9), .lit (.int .u8 13), .lit (.int .u8 8), .lit (.int .u8 7), .lit (.int .u8 6)]
def laid_internal_strconv_uint64pow10 {H : Type} : DataW H := .agg [.lit (.int .u64 1), .lit (.int .u64 10), .lit (.int .u64 100), .lit (.int .u64 1000), .lit (.int .u64 10000), .lit (.int .u64 100000), .lit (.int .u64 1000000), .lit (.int .u64 10000000), .lit (.int .u64 100000000), .lit (.int .u64 1000000000), .lit (.int .u64 10000000000), .lit (.int .u64 100000000000), .lit (.int .u64 1000000000000), .lit (.int .u64 10000000000000), .lit (.int .u64 100000000000000), .lit (.int .u64 1000000000000000), .lit (.int .u64 10000000000000000), .lit (.int .u64 100000000000000000), .lit (.int .u64 1000000000000000000), .lit (.int .u64 10000000000000000000)]

/-- 'scrimlaw09.StillViews': WHATEVER THE INPUT: true; the input reads as it did. -/
def stillViewsSpec : ChangeSpec := { name := "stillViews", fn := fun _ => fun
  | [d] => { results := [.lit (.bool true)], args := [d] }
  | _ => none }
def stillViewsRow : OpenClaim := { program := "ytkcjkbnbblpomaagreatdoor", sum := "6178e8dab9c088619c09aca42bc429bcacb7f696288cf336fdd6fb0117f4859e", func := "scrim/scrimlaw09.StillViews", spec := "stillViews", inPlace := ["slices.overlaps[scrim/props.Pair[string]]", "slices.overlaps[scrim/props.Pair[int]]", "internal/abi.NoEscape", "internal/bytealg.MakeNoZero"], unfollowed := true, recurses := true, named := ["internal/strconv.uint64pow10", "math/bits.deBruijn32tab", "math/bits.deBruijn64tab"], apart := false, laid := [("math/bits.deBruijn32tab", laid_math_bits_deBruijn32tab), ("math/bits.deBruijn64tab", laid_math_bits_deBruijn64tab), ("internal/strconv.uint64pow10", laid_internal_strconv_uint64pow10)] }
def StillViewsSaid : Prop := stillViewsRow.holds Tryz.pinned (OpenSpec.ofChange stillViewsSpec)

/-- ITS FALSE NEIGHBOUR: 'it returns false'. Refute it at one input. -/
def stillViewsWrong : ChangeSpec := { name := "stillViews", fn := fun _ => fun
  | [d] => { results := [.lit (.bool false)], args := [d] }
  | _ => none }
def StillViewsWrongFalsely : Prop := stillViewsRow.holds Tryz.pinned (OpenSpec.ofChange stillViewsWrong)

/-- 'scrimlaw09.StillFinds': WHATEVER THE INPUT: true; the input reads as it did. -/
def stillFindsSpec : ChangeSpec := { name := "stillFinds", fn := fun _ => fun
  | [d1, d2] => { results := [.lit (.bool true)], args := [d1, d2] }
  | _ => none }
def stillFindsRow : OpenClaim := { program := "ytkcjkbnbblpomaagreatdoor", sum := "6178e8dab9c088619c09aca42bc429bcacb7f696288cf336fdd6fb0117f4859e", func := "scrim/scrimlaw09.StillFinds", spec := "stillFinds", inPlace := ["slices.overlaps[scrim/props.Pair[string]]", "slices.overlaps[scrim/props.Pair[int]]", "internal/abi.NoEscape", "internal/bytealg.MakeNoZero"], unfollowed := true, recurses := true, named := ["internal/strconv.uint64pow10", "math/bits.deBruijn32tab", "math/bits.deBruijn64tab"], apart := false, laid := [("math/bits.deBruijn32tab", laid_math_bits_deBruijn32tab), ("math/bits.deBruijn64tab", laid_math_bits_deBruijn64tab), ("internal/strconv.uint64pow10", laid_internal_strconv_uint64pow10)] }
def StillFindsSaid : Prop := stillFindsRow.holds Tryz.pinned (OpenSpec.ofChange stillFindsSpec)

/-- ITS FALSE NEIGHBOUR: 'it returns false'. Refute it at one input. -/
def stillFindsWrong : ChangeSpec := { name := "stillFinds", fn := fun _ => fun
  | [d1, d2] => { results := [.lit (.bool false)], args := [d1, d2] }
  | _ => none }
def StillFindsWrongFalsely : Prop := stillFindsRow.holds Tryz.pinned (OpenSpec.ofChange stillFindsWrong)

/-- 'scrimlaw09.StillErases': WHATEVER THE INPUT: true; the input reads as it did. -/
def stillErasesSpec : ChangeSpec := { name := "stillErases", fn := fun _ => fun
  | [d] => { results := [.lit (.bool true)], args := [d] }
  | _ => none }
def stillErasesRow : OpenClaim := { program := "ytkcjkbnbblpomaagreatdoor", sum := "6178e8dab9c088619c09aca42bc429bcacb7f696288cf336fdd6fb0117f4859e", func := "scrim/scrimlaw09.StillErases", spec := "stillErases", inPlace := ["slices.overlaps[scrim/props.Pair[string]]", "slices.overlaps[scrim/props.Pair[int]]", "internal/abi.NoEscape", "internal/bytealg.MakeNoZero"], unfollowed := true, recurses := true, named := ["internal/strconv.uint64pow10", "math/bits.deBruijn32tab", "math/bits.deBruijn64tab"], apart := false, laid := [("math/bits.deBruijn32tab", laid_math_bits_deBruijn32tab), ("math/bits.deBruijn64tab", laid_math_bits_deBruijn64tab), ("internal/strconv.uint64pow10", laid_internal_strconv_uint64pow10)] }
def StillErasesSaid : Prop := stillErasesRow.holds Tryz.pinned (OpenSpec.ofChange stillErasesSpec)

/-- ITS FALSE NEIGHBOUR: 'it returns false'. Refute it at one input. -/
def stillErasesWrong : ChangeSpec := { name := "stillErases", fn := fun _ => fun
  | [d] => { results := [.lit (.bool false)], args := [d] }
  | _ => none }
def StillErasesWrongFalsely : Prop := stillErasesRow.holds Tryz.pinned (OpenSpec.ofChange stillErasesWrong)

/-- 'scrimlaw09.StillShows': WHATEVER THE INPUT: true; the input reads as it did. -/
def stillShowsSpec : ChangeSpec := { name := "stillShows", fn := fun _ => fun
  | [d1, d2] => { results := [.lit (.bool true)], args := [d1, d2] }
  | _ => none }
def stillShowsRow : OpenClaim := { program := "ytkcjkbnbblpomaagreatdoor", sum := "6178e8dab9c088619c09aca42bc429bcacb7f696288cf336fdd6fb0117f4859e", func := "scrim/scrimlaw09.StillShows", spec := "stillShows", inPlace := ["slices.overlaps[scrim/props.Pair[string]]", "slices.overlaps[scrim/props.Pair[int]]", "internal/abi.NoEscape", "internal/bytealg.MakeNoZero"], unfollowed := true, recurses := true, named := ["internal/strconv.uint64pow10", "math/bits.deBruijn32tab", "math/bits.deBruijn64tab"], apart := false, laid := [("math/bits.deBruijn32tab", laid_math_bits_deBruijn32tab), ("math/bits.deBruijn64tab", laid_math_bits_deBruijn64tab), ("internal/strconv.uint64pow10", laid_internal_strconv_uint64pow10)] }
def StillShowsSaid : Prop := stillShowsRow.holds Tryz.pinned (OpenSpec.ofChange stillShowsSpec)

/-- ITS FALSE NEIGHBOUR: 'it returns false'. Refute it at one input. -/
def stillShowsWrong : ChangeSpec := { name := "stillShows", fn := fun _ => fun
  | [d1, d2] => { results := [.lit (.bool false)], args := [d1, d2] }
  | _ => none }
def StillShowsWrongFalsely : Prop := stillShowsRow.holds Tryz.pinned (OpenSpec.ofChange stillShowsWrong)

/-- 'scrimlaw09.StillStays': WHATEVER THE INPUT: true; the input reads as it did. -/
def stillStaysSpec : ChangeSpec := { name := "stillStays", fn := fun _ => fun
  | [d] => { results := [.lit (.bool true)], args := [d] }
  | _ => none }
def stillStaysRow : OpenClaim := { program := "ytkcjkbnbblpomaagreatdoor", sum := "6178e8dab9c088619c09aca42bc429bcacb7f696288cf336fdd6fb0117f4859e", func := "scrim/scrimlaw09.StillStays", spec := "stillStays", inPlace := ["slices.overlaps[scrim/props.Pair[string]]", "slices.overlaps[scrim/props.Pair[int]]", "internal/abi.NoEscape", "internal/bytealg.MakeNoZero"], unfollowed := true, recurses := true, named := ["internal/strconv.uint64pow10", "math/bits.deBruijn32tab", "math/bits.deBruijn64tab"], apart := false, laid := [("math/bits.deBruijn32tab", laid_math_bits_deBruijn32tab), ("math/bits.deBruijn64tab", laid_math_bits_deBruijn64tab), ("internal/strconv.uint64pow10", laid_internal_strconv_uint64pow10)] }
def StillStaysSaid : Prop := stillStaysRow.holds Tryz.pinned (OpenSpec.ofChange stillStaysSpec)

/-- ITS FALSE NEIGHBOUR: 'it returns false'. Refute it at one input. -/
def stillStaysWrong : ChangeSpec := { name := "stillStays", fn := fun _ => fun
  | [d] => { results := [.lit (.bool false)], args := [d] }
  | _ => none }
def StillStaysWrongFalsely : Prop := stillStaysRow.holds Tryz.pinned (OpenSpec.ofChange stillStaysWrong)

/-- 'scrimlaw09.StillReads': WHATEVER THE INPUT: true; the input reads as it did. -/
def stillReadsSpec : ChangeSpec := { name := "stillReads", fn := fun _ => fun
  | [d1, d2] => { results := [.lit (.bool true)], args := [d1, d2] }
  | _ => none }
def stillReadsRow : OpenClaim := { program := "ytkcjkbnbblpomaagreatdoor", sum := "6178e8dab9c088619c09aca42bc429bcacb7f696288cf336fdd6fb0117f4859e", func := "scrim/scrimlaw09.StillReads", spec := "stillReads", inPlace := ["slices.overlaps[scrim/props.Pair[string]]", "slices.overlaps[scrim/props.Pair[int]]", "internal/abi.NoEscape", "internal/bytealg.MakeNoZero", "slices.overlaps[int]"], unfollowed := true, recurses := true, named := ["internal/strconv.uint64pow10", "math/bits.deBruijn32tab", "math/bits.deBruijn64tab"], apart := false, laid := [("math/bits.deBruijn32tab", laid_math_bits_deBruijn32tab), ("math/bits.deBruijn64tab", laid_math_bits_deBruijn64tab), ("internal/strconv.uint64pow10", laid_internal_strconv_uint64pow10)] }
def StillReadsSaid : Prop := stillReadsRow.holds Tryz.pinned (OpenSpec.ofChange stillReadsSpec)

/-- ITS FALSE NEIGHBOUR: 'it returns false'. Refute it at one input. -/
def stillReadsWrong : ChangeSpec := { name := "stillReads", fn := fun _ => fun
  | [d1, d2] => { results := [.lit (.bool false)], args := [d1, d2] }
  | _ => none }
def StillReadsWrongFalsely : Prop := stillReadsRow.holds Tryz.pinned (OpenSpec.ofChange stillReadsWrong)

/- THE SECOND FORM. 'bulk': how many values and letters a reading holds, each counted each time it is reached (what is shared counts as often as it is met; a slice's spare places count too). A statement '..UptoSaid' is the law's where the arguments, and the package variables that the reading takes, are together of bulk at most 1048576: NARROWER than '..Said'. Prove '..Said' where nothing that the law and all that it calls make is longer than what came in: it says more and counts as full. Else prove '..UptoSaid'. A law counts once. -/
mutual
def uptoBulk {H : Type} : DataW H → Nat
  | .lit (.string bytes) => bytes.length + 1
  | .lit _ => 1
  | .nil => 1
  | .ptr d => uptoBulk d + 1
  | .slice elems spare => uptoBulkAll elems + uptoBulkAll spare + 1
  | .agg parts => uptoBulkAll parts + 1
  | .iface _ d => uptoBulk d + 1
  | .map entries => uptoBulkEntries entries + 1
  | .held _ => 1
def uptoBulkAll {H : Type} : List (DataW H) → Nat
  | [] => 0
  | d :: r => uptoBulk d + uptoBulkAll r
def uptoBulkEntries {H : Type} : List (Lit × DataW H) → Nat
  | [] => 0
  | x :: r => uptoBulkEntry x + uptoBulkEntries r
def uptoBulkEntry {H : Type} : Lit × DataW H → Nat
  | (.string bytes, d) => bytes.length + uptoBulk d + 1
  | (_, d) => uptoBulk d + 1
 end
def uptoSmall : (H : Type) → List (DataW H) → Bool := fun _ ds => decide (uptoBulkAll ds ≤ 1048576)
def OpenSpec.upto (s : _root_.Go.ChangeSpec) : _root_.Go.OpenSpec := { _root_.Go.OpenSpec.ofChange s with cond := some uptoSmall }

/-- 'scrimlaw09.StillViews', WHERE WHAT IT READS IS OF BULK AT MOST 1048576: true; the input reads as it did. -/
def stillViewsUptoRow : OpenClaim := { program := "ytkcjkbnbblpomaagreatdoor", sum := "6178e8dab9c088619c09aca42bc429bcacb7f696288cf336fdd6fb0117f4859e", func := "scrim/scrimlaw09.StillViews", spec := "stillViews", inPlace := ["slices.overlaps[scrim/props.Pair[string]]", "slices.overlaps[scrim/props.Pair[int]]", "internal/abi.NoEscape", "internal/bytealg.MakeNoZero"], unfollowed := true, recurses := true, named := ["internal/strconv.uint64pow10", "math/bits.deBruijn32tab", "math/bits.deBruijn64tab"], apart := false, laid := [("math/bits.deBruijn32tab", laid_math_bits_deBruijn32tab), ("math/bits.deBruijn64tab", laid_math_bits_deBruijn64tab), ("internal/strconv.uint64pow10", laid_internal_strconv_uint64pow10)], narrowed := true }
def StillViewsUptoSaid : Prop := stillViewsUptoRow.holds Tryz.pinned (OpenSpec.upto stillViewsSpec)

/-- 'scrimlaw09.StillFinds', WHERE WHAT IT READS IS OF BULK AT MOST 1048576: true; the input reads as it did. -/
def stillFindsUptoRow : OpenClaim := { program := "ytkcjkbnbblpomaagreatdoor", sum := "6178e8dab9c088619c09aca42bc429bcacb7f696288cf336fdd6fb0117f4859e", func := "scrim/scrimlaw09.StillFinds", spec := "stillFinds", inPlace := ["slices.overlaps[scrim/props.Pair[string]]", "slices.overlaps[scrim/props.Pair[int]]", "internal/abi.NoEscape", "internal/bytealg.MakeNoZero"], unfollowed := true, recurses := true, named := ["internal/strconv.uint64pow10", "math/bits.deBruijn32tab", "math/bits.deBruijn64tab"], apart := false, laid := [("math/bits.deBruijn32tab", laid_math_bits_deBruijn32tab), ("math/bits.deBruijn64tab", laid_math_bits_deBruijn64tab), ("internal/strconv.uint64pow10", laid_internal_strconv_uint64pow10)], narrowed := true }
def StillFindsUptoSaid : Prop := stillFindsUptoRow.holds Tryz.pinned (OpenSpec.upto stillFindsSpec)

/-- 'scrimlaw09.StillErases', WHERE WHAT IT READS IS OF BULK AT MOST 1048576: true; the input reads as it did. -/
def stillErasesUptoRow : OpenClaim := { program := "ytkcjkbnbblpomaagreatdoor", sum := "6178e8dab9c088619c09aca42bc429bcacb7f696288cf336fdd6fb0117f4859e", func := "scrim/scrimlaw09.StillErases", spec := "stillErases", inPlace := ["slices.overlaps[scrim/props.Pair[string]]", "slices.overlaps[scrim/props.Pair[int]]", "internal/abi.NoEscape", "internal/bytealg.MakeNoZero"], unfollowed := true, recurses := true, named := ["internal/strconv.uint64pow10", "math/bits.deBruijn32tab", "math/bits.deBruijn64tab"], apart := false, laid := [("math/bits.deBruijn32tab", laid_math_bits_deBruijn32tab), ("math/bits.deBruijn64tab", laid_math_bits_deBruijn64tab), ("internal/strconv.uint64pow10", laid_internal_strconv_uint64pow10)], narrowed := true }
def StillErasesUptoSaid : Prop := stillErasesUptoRow.holds Tryz.pinned (OpenSpec.upto stillErasesSpec)

/-- 'scrimlaw09.StillShows', WHERE WHAT IT READS IS OF BULK AT MOST 1048576: true; the input reads as it did. -/
def stillShowsUptoRow : OpenClaim := { program := "ytkcjkbnbblpomaagreatdoor", sum := "6178e8dab9c088619c09aca42bc429bcacb7f696288cf336fdd6fb0117f4859e", func := "scrim/scrimlaw09.StillShows", spec := "stillShows", inPlace := ["slices.overlaps[scrim/props.Pair[string]]", "slices.overlaps[scrim/props.Pair[int]]", "internal/abi.NoEscape", "internal/bytealg.MakeNoZero"], unfollowed := true, recurses := true, named := ["internal/strconv.uint64pow10", "math/bits.deBruijn32tab", "math/bits.deBruijn64tab"], apart := false, laid := [("math/bits.deBruijn32tab", laid_math_bits_deBruijn32tab), ("math/bits.deBruijn64tab", laid_math_bits_deBruijn64tab), ("internal/strconv.uint64pow10", laid_internal_strconv_uint64pow10)], narrowed := true }
def StillShowsUptoSaid : Prop := stillShowsUptoRow.holds Tryz.pinned (OpenSpec.upto stillShowsSpec)

/-- 'scrimlaw09.StillStays', WHERE WHAT IT READS IS OF BULK AT MOST 1048576: true; the input reads as it did. -/
def stillStaysUptoRow : OpenClaim := { program := "ytkcjkbnbblpomaagreatdoor", sum := "6178e8dab9c088619c09aca42bc429bcacb7f696288cf336fdd6fb0117f4859e", func := "scrim/scrimlaw09.StillStays", spec := "stillStays", inPlace := ["slices.overlaps[scrim/props.Pair[string]]", "slices.overlaps[scrim/props.Pair[int]]", "internal/abi.NoEscape", "internal/bytealg.MakeNoZero"], unfollowed := true, recurses := true, named := ["internal/strconv.uint64pow10", "math/bits.deBruijn32tab", "math/bits.deBruijn64tab"], apart := false, laid := [("math/bits.deBruijn32tab", laid_math_bits_deBruijn32tab), ("math/bits.deBruijn64tab", laid_math_bits_deBruijn64tab), ("internal/strconv.uint64pow10", laid_internal_strconv_uint64pow10)], narrowed := true }
def StillStaysUptoSaid : Prop := stillStaysUptoRow.holds Tryz.pinned (OpenSpec.upto stillStaysSpec)

/-- 'scrimlaw09.StillReads', WHERE WHAT IT READS IS OF BULK AT MOST 1048576: true; the input reads as it did. -/
def stillReadsUptoRow : OpenClaim := { program := "ytkcjkbnbblpomaagreatdoor", sum := "6178e8dab9c088619c09aca42bc429bcacb7f696288cf336fdd6fb0117f4859e", func := "scrim/scrimlaw09.StillReads", spec := "stillReads", inPlace := ["slices.overlaps[scrim/props.Pair[string]]", "slices.overlaps[scrim/props.Pair[int]]", "internal/abi.NoEscape", "internal/bytealg.MakeNoZero", "slices.overlaps[int]"], unfollowed := true, recurses := true, named := ["internal/strconv.uint64pow10", "math/bits.deBruijn32tab", "math/bits.deBruijn64tab"], apart := false, laid := [("math/bits.deBruijn32tab", laid_math_bits_deBruijn32tab), ("math/bits.deBruijn64tab", laid_math_bits_deBruijn64tab), ("internal/strconv.uint64pow10", laid_internal_strconv_uint64pow10)], narrowed := true }
def StillReadsUptoSaid : Prop := stillReadsUptoRow.holds Tryz.pinned (OpenSpec.upto stillReadsSpec)

end Rows
end Go.Proofs.YtkcjkbnbblpomaaGreatDoor
