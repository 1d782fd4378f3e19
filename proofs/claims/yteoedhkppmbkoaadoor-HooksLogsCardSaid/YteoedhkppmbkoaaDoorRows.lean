/-
  NARROWER THAN 'FOR EVERY INPUT', by the rows' own cells (each row's printed sentence says how): HooksNext: laid · HooksRun: laid · HooksWords: laid · HooksApart: laid · HooksLogs: laid · PropsSame: laid · PropsMaps: laid · PropsTurns: laid.
  DERIVED. THE GIVEN ROWS OF THIS SEAT. 8 by the template 'for every input the law returns true; each argument reads behind the call as it read before'; 0 by the template 'total and deterministic' (their statements: YteoedhkppmbkoaaDoorTotals.lean).
  GIVEN WITH THE SEED: the statements are not yours to turn. If you find one false, say at which input.
  Laid BY PROGRAM, IN A SANDBOX (cutbox-rows.mjs): the forced cells as the released guide's own fill.sh prints them over the translation 59d49c4b0ed7826a… (all of the seat's roots in one cut). By AI agents, Wed Nov 11 2026. No macro, syntax, notation, axiom, sorry.
-/
import Derived.Test.YteoedhkppmbkoaaDoorChecked
import GoSem.Claim
import GoSem.ClaimJoined
import GoSem.ClaimMapViews
import Derived.JoinedTies
import Derived.KernelRfl
namespace Go.Proofs.YteoedhkppmbkoaaDoor
/- THE CELL 'sum', in the pinned program and in every row, IS THE sha256 OF THE DUMP (.gsa) THAT YteoedhkppmbkoaaDoorProg.lean LOADS. Nothing in Lean hashes anything: it is a label: what it is worth is what the hold of that sum in a sandbox is worth. -/
noncomputable def Tryd.pinned : Pinned := { name := "yteoedhkppmbkoaadoor", sum := "59d49c4b0ed7826af4b9cc8afb89c4879d9198ef12c284ed28c389c915ce04bc", checked := Tryd.checked }
namespace Rows
def none {H : Type} : Left H := { results := [], args := [] }

/- WHAT THE LISTED PACKAGE-LEVEL VARIABLES READ AS WHEN THE CALL BEGINS. Each datum BY PROGRAM (the guide's laid-datum.mjs) off the statement by which the dump's own 'gosem.cut.vars' lays the variable. In a bare row this is a premise. The card (YteoedhkppmbkoaaDoorCards.lean) ties it to the program's text. -/
def laid_scrim_hooks_names {H : Type} : DataW H := .agg [.lit (.string [98, 101, 102, 111, 114, 101, 45, 101, 110, 116, 101, 114]), .lit (.string [101, 110, 116, 101, 114]), .lit (.string [97, 102, 116, 101, 114, 45, 101, 110, 116, 101, 114]), .lit (.string [101, 110, 116, 101, 114, 45, 99, 97, 110, 99, 101, 108, 108, 101, 100]), .lit (.string [98, 101, 102, 111, 114, 101, 45, 108, 101, 97, 118, 101]), .lit (.string [108, 101, 97, 118, 101]), .lit (.string [97, 102, 116, 101, 114, 45, 108, 101, 97, 118, 101]), .lit (.string [108, 101, 97, 118, 101, 45, 99, 97, 110, 99, 101, 108, 108, 101, 100])]
def laid_math_bits_deBruijn32tab {H : Type} : DataW H := .agg [.lit (.int .u8 0), .lit (.int .u8 1), .lit (.int .u8 28), .lit (.int .u8 2), .lit (.int .u8 29), .lit (.int .u8 14), .lit (.int .u8 24), .lit (.int .u8 3), .lit (.int .u8 30), .lit (.int .u8 22), .lit (.int .u8 20), .lit (.int .u8 15), .lit (.int .u8 25), .lit (.int .u8 17), .lit (.int .u8 4), .lit (.int .u8 8), .lit (.int .u8 31), .lit (.int .u8 27), .lit (.int .u8 13), .lit (.int .u8 23), .lit (.int .u8 21), .lit (.int .u8 19), .lit (.int .u8 16), .lit (.int .u8 7), .lit (.int .u8 26), .lit (.int .u8 12), .lit (.int .u8 18), .lit (.int .u8 6), .lit (.int .u8 11), .lit (.int .u8 5), .lit (.int .u8 10), .lit (.int .u8 9)]
def laid_math_bits_deBruijn64tab {H : Type} : DataW H := .agg [.lit (.int .u8 0), .lit (.int .u8 1), .lit (.int .u8 56), .lit (.int .u8 2), .lit (.int .u8 57), .lit (.int .u8 49), .lit (.int .u8 28), .lit (.int .u8 3), .lit (.int .u8 61), .lit (.int .u8 58), .lit (.int .u8 42), .lit (.int .u8 50), .lit (.int .u8 38), .lit (.int .u8 29), .lit (.int .u8 17), .lit (.int .u8 4), .lit (.int .u8 62), .lit (.int .u8 47), .lit (.int .u8 59), .lit (.int .u8 36), .lit (.int .u8 45), .lit (.int .u8 43), .lit (.int .u8 51), .lit (.int .u8 22), .lit (.int .u8 53), .lit (.int .u8 39), .lit (.int .u8 33), .lit (.int .u8 30), .lit (.int .u8 24), .lit (.int .u8 18), .lit (.int .u8 12), .lit (.int .u8 5), .lit (.int .u8 63), .lit (.int .u8 55), .lit (.int .u8 48), .lit (.int .u8 27), .lit (.int .u8 60), .lit (.int .u8 41), .lit (.int .u8 37), .lit (.int .u8 16), .lit (.int .u8 46), .lit (.int .u8 35), .lit (.int .u8 44), .lit (.int .u8 21), .lit (.int .u8 52), .lit (.int .u8 32), .lit (.int .u8 23), .lit (.int .u8 11), .lit (.int .u8 54), .lit (.int .u8 26), .lit (.int .u8 40), .lit (.int .u8 15), .lit (.int .u8 34), .lit (.int .u8 20), .lit (.int .u8 31), .lit (.int .u8 10), .lit (.int .u8 25), .lit (.int .u8 14), .lit (.int .u8 19), .lit (.int .u8 9), .lit (.int .u8 13), .lit (.int .u8 8), .lit (.int .u8 7), .lit (.int .u8 6)]
def laid_internal_strconv_uint64pow10 {H : Type} : DataW H := .agg [.lit (.int .u64 1), .lit (.int .u64 10), .lit (.int .u64 100), .lit (.int .u64 1000), .lit (.int .u64 10000), .lit (.int .u64 100000), .lit (.int .u64 1000000), .lit (.int .u64 10000000), .lit (.int .u64 100000000), .lit (.int .u64 1000000000), .lit (.int .u64 10000000000), .lit (.int .u64 100000000000), .lit (.int .u64 1000000000000), .lit (.int .u64 10000000000000), .lit (.int .u64 100000000000000), .lit (.int .u64 1000000000000000), .lit (.int .u64 10000000000000000), .lit (.int .u64 100000000000000000), .lit (.int .u64 1000000000000000000), .lit (.int .u64 10000000000000000000)]

/-- 'scrimlaw19.HooksNext': WHATEVER THE INPUT: true; the input reads as it did. -/
def hooksNextSpec : ChangeSpec := { name := "hooksNext", fn := fun _ => fun
  | [d1, d2] => { results := [.lit (.bool true)], args := [d1, d2] }
  | _ => none }
def hooksNextRow : OpenClaim := { program := "yteoedhkppmbkoaadoor", sum := "59d49c4b0ed7826af4b9cc8afb89c4879d9198ef12c284ed28c389c915ce04bc", func := "scrim/scrimlaw19.HooksNext", spec := "hooksNext", named := ["scrim/hooks.names"], plainKeys := false, apart := false, laid := [("scrim/hooks.names", laid_scrim_hooks_names)] }
def HooksNextSaid : Prop := hooksNextRow.holds Tryd.pinned (OpenSpec.ofChange hooksNextSpec)

/-- ITS FALSE NEIGHBOUR: 'it returns false'. Refute it at one input. -/
def hooksNextWrong : ChangeSpec := { name := "hooksNext", fn := fun _ => fun
  | [d1, d2] => { results := [.lit (.bool false)], args := [d1, d2] }
  | _ => none }
def HooksNextWrongFalsely : Prop := hooksNextRow.holds Tryd.pinned (OpenSpec.ofChange hooksNextWrong)

/-- 'scrimlaw19.HooksRun': WHATEVER THE INPUT: true; the input reads as it did. -/
def hooksRunSpec : ChangeSpec := { name := "hooksRun", fn := fun _ => fun
  | [d] => { results := [.lit (.bool true)], args := [d] }
  | _ => none }
def hooksRunRow : OpenClaim := { program := "yteoedhkppmbkoaadoor", sum := "59d49c4b0ed7826af4b9cc8afb89c4879d9198ef12c284ed28c389c915ce04bc", func := "scrim/scrimlaw19.HooksRun", spec := "hooksRun", named := ["scrim/hooks.names"], plainKeys := false, apart := false, laid := [("scrim/hooks.names", laid_scrim_hooks_names)] }
def HooksRunSaid : Prop := hooksRunRow.holds Tryd.pinned (OpenSpec.ofChange hooksRunSpec)

/-- ITS FALSE NEIGHBOUR: 'it returns false'. Refute it at one input. -/
def hooksRunWrong : ChangeSpec := { name := "hooksRun", fn := fun _ => fun
  | [d] => { results := [.lit (.bool false)], args := [d] }
  | _ => none }
def HooksRunWrongFalsely : Prop := hooksRunRow.holds Tryd.pinned (OpenSpec.ofChange hooksRunWrong)

/-- 'scrimlaw19.HooksWords': WHATEVER THE INPUT: true; the input reads as it did. -/
def hooksWordsSpec : ChangeSpec := { name := "hooksWords", fn := fun _ => fun
  | [d] => { results := [.lit (.bool true)], args := [d] }
  | _ => none }
def hooksWordsRow : OpenClaim := { program := "yteoedhkppmbkoaadoor", sum := "59d49c4b0ed7826af4b9cc8afb89c4879d9198ef12c284ed28c389c915ce04bc", func := "scrim/scrimlaw19.HooksWords", spec := "hooksWords", named := ["scrim/hooks.names"], plainKeys := false, apart := false, laid := [("scrim/hooks.names", laid_scrim_hooks_names)] }
def HooksWordsSaid : Prop := hooksWordsRow.holds Tryd.pinned (OpenSpec.ofChange hooksWordsSpec)

/-- ITS FALSE NEIGHBOUR: 'it returns false'. Refute it at one input. -/
def hooksWordsWrong : ChangeSpec := { name := "hooksWords", fn := fun _ => fun
  | [d] => { results := [.lit (.bool false)], args := [d] }
  | _ => none }
def HooksWordsWrongFalsely : Prop := hooksWordsRow.holds Tryd.pinned (OpenSpec.ofChange hooksWordsWrong)

/-- 'scrimlaw19.HooksApart': WHATEVER THE INPUT: true; the input reads as it did. -/
def hooksApartSpec : ChangeSpec := { name := "hooksApart", fn := fun _ => fun
  | [d] => { results := [.lit (.bool true)], args := [d] }
  | _ => none }
def hooksApartRow : OpenClaim := { program := "yteoedhkppmbkoaadoor", sum := "59d49c4b0ed7826af4b9cc8afb89c4879d9198ef12c284ed28c389c915ce04bc", func := "scrim/scrimlaw19.HooksApart", spec := "hooksApart", named := ["scrim/hooks.names"], plainKeys := false, apart := false, laid := [("scrim/hooks.names", laid_scrim_hooks_names)] }
def HooksApartSaid : Prop := hooksApartRow.holds Tryd.pinned (OpenSpec.ofChange hooksApartSpec)

/-- ITS FALSE NEIGHBOUR: 'it returns false'. Refute it at one input. -/
def hooksApartWrong : ChangeSpec := { name := "hooksApart", fn := fun _ => fun
  | [d] => { results := [.lit (.bool false)], args := [d] }
  | _ => none }
def HooksApartWrongFalsely : Prop := hooksApartRow.holds Tryd.pinned (OpenSpec.ofChange hooksApartWrong)

/-- 'scrimlaw19.HooksLogs': WHATEVER THE INPUT: true; the input reads as it did. -/
def hooksLogsSpec : ChangeSpec := { name := "hooksLogs", fn := fun _ => fun
  | [d1, d2, d3] => { results := [.lit (.bool true)], args := [d1, d2, d3] }
  | _ => none }
def hooksLogsRow : OpenClaim := { program := "yteoedhkppmbkoaadoor", sum := "59d49c4b0ed7826af4b9cc8afb89c4879d9198ef12c284ed28c389c915ce04bc", func := "scrim/scrimlaw19.HooksLogs", spec := "hooksLogs", inPlace := ["internal/abi.NoEscape", "internal/bytealg.MakeNoZero"], named := ["scrim/hooks.names", "internal/strconv.uint64pow10", "math/bits.deBruijn32tab", "math/bits.deBruijn64tab"], plainKeys := false, apart := false, laid := [("math/bits.deBruijn32tab", laid_math_bits_deBruijn32tab), ("math/bits.deBruijn64tab", laid_math_bits_deBruijn64tab), ("internal/strconv.uint64pow10", laid_internal_strconv_uint64pow10), ("scrim/hooks.names", laid_scrim_hooks_names)] }
def HooksLogsSaid : Prop := hooksLogsRow.holds Tryd.pinned (OpenSpec.ofChange hooksLogsSpec)

/-- ITS FALSE NEIGHBOUR: 'it returns false'. Refute it at one input. -/
def hooksLogsWrong : ChangeSpec := { name := "hooksLogs", fn := fun _ => fun
  | [d1, d2, d3] => { results := [.lit (.bool false)], args := [d1, d2, d3] }
  | _ => none }
def HooksLogsWrongFalsely : Prop := hooksLogsRow.holds Tryd.pinned (OpenSpec.ofChange hooksLogsWrong)

/-- 'scrimlaw04.PropsSame': WHATEVER THE INPUT: true; the input reads as it did. -/
def propsSameSpec : ChangeSpec := { name := "propsSame", fn := fun _ => fun
  | [d1, d2] => { results := [.lit (.bool true)], args := [d1, d2] }
  | _ => none }
def propsSameRow : OpenClaim := { program := "yteoedhkppmbkoaadoor", sum := "59d49c4b0ed7826af4b9cc8afb89c4879d9198ef12c284ed28c389c915ce04bc", func := "scrim/scrimlaw04.PropsSame", spec := "propsSame", inPlace := ["slices.overlaps[scrim/props.Pair[int]]", "slices.overlaps[scrim/props.Pair[string]]"], unfollowed := true, recurses := true, named := ["internal/strconv.uint64pow10", "math/bits.deBruijn32tab", "math/bits.deBruijn64tab"], plainKeys := false, apart := false, laid := [("math/bits.deBruijn32tab", laid_math_bits_deBruijn32tab), ("math/bits.deBruijn64tab", laid_math_bits_deBruijn64tab), ("internal/strconv.uint64pow10", laid_internal_strconv_uint64pow10)] }
def PropsSameSaid : Prop := propsSameRow.holds Tryd.pinned (OpenSpec.ofChange propsSameSpec)

/-- ITS FALSE NEIGHBOUR: 'it returns false'. Refute it at one input. -/
def propsSameWrong : ChangeSpec := { name := "propsSame", fn := fun _ => fun
  | [d1, d2] => { results := [.lit (.bool false)], args := [d1, d2] }
  | _ => none }
def PropsSameWrongFalsely : Prop := propsSameRow.holds Tryd.pinned (OpenSpec.ofChange propsSameWrong)

/-- 'scrimlaw04.PropsMaps': WHATEVER THE INPUT: true; the input reads as it did. -/
def propsMapsSpec : ChangeSpec := { name := "propsMaps", fn := fun _ => fun
  | [d1, d2, d3] => { results := [.lit (.bool true)], args := [d1, d2, d3] }
  | _ => none }
def propsMapsRow : OpenClaim := { program := "yteoedhkppmbkoaadoor", sum := "59d49c4b0ed7826af4b9cc8afb89c4879d9198ef12c284ed28c389c915ce04bc", func := "scrim/scrimlaw04.PropsMaps", spec := "propsMaps", inPlace := ["slices.overlaps[scrim/props.Pair[int]]", "slices.overlaps[scrim/props.Pair[string]]"], unfollowed := true, recurses := true, named := ["internal/strconv.uint64pow10", "math/bits.deBruijn32tab", "math/bits.deBruijn64tab"], plainKeys := false, apart := false, laid := [("math/bits.deBruijn32tab", laid_math_bits_deBruijn32tab), ("math/bits.deBruijn64tab", laid_math_bits_deBruijn64tab), ("internal/strconv.uint64pow10", laid_internal_strconv_uint64pow10)] }
def PropsMapsSaid : Prop := propsMapsRow.holds Tryd.pinned (OpenSpec.ofChange propsMapsSpec)

/-- ITS FALSE NEIGHBOUR: 'it returns false'. Refute it at one input. -/
def propsMapsWrong : ChangeSpec := { name := "propsMaps", fn := fun _ => fun
  | [d1, d2, d3] => { results := [.lit (.bool false)], args := [d1, d2, d3] }
  | _ => none }
def PropsMapsWrongFalsely : Prop := propsMapsRow.holds Tryd.pinned (OpenSpec.ofChange propsMapsWrong)

/-- 'scrimlaw04.PropsTurns': WHATEVER THE INPUT: true; the input reads as it did. -/
def propsTurnsSpec : ChangeSpec := { name := "propsTurns", fn := fun _ => fun
  | [d1, d2] => { results := [.lit (.bool true)], args := [d1, d2] }
  | _ => none }
def propsTurnsRow : OpenClaim := { program := "yteoedhkppmbkoaadoor", sum := "59d49c4b0ed7826af4b9cc8afb89c4879d9198ef12c284ed28c389c915ce04bc", func := "scrim/scrimlaw04.PropsTurns", spec := "propsTurns", inPlace := ["slices.overlaps[scrim/props.Pair[int]]", "slices.overlaps[scrim/props.Pair[string]]"], unfollowed := true, recurses := true, named := ["internal/strconv.uint64pow10", "math/bits.deBruijn32tab", "math/bits.deBruijn64tab"], plainKeys := false, apart := false, laid := [("math/bits.deBruijn32tab", laid_math_bits_deBruijn32tab), ("math/bits.deBruijn64tab", laid_math_bits_deBruijn64tab), ("internal/strconv.uint64pow10", laid_internal_strconv_uint64pow10)] }
def PropsTurnsSaid : Prop := propsTurnsRow.holds Tryd.pinned (OpenSpec.ofChange propsTurnsSpec)

/-- ITS FALSE NEIGHBOUR: 'it returns false'. Refute it at one input. -/
def propsTurnsWrong : ChangeSpec := { name := "propsTurns", fn := fun _ => fun
  | [d1, d2] => { results := [.lit (.bool false)], args := [d1, d2] }
  | _ => none }
def PropsTurnsWrongFalsely : Prop := propsTurnsRow.holds Tryd.pinned (OpenSpec.ofChange propsTurnsWrong)

/- THE SECOND FORM. 'bulk': how many values and letters a reading holds, each counted each time it is reached (what is shared counts as often as it is met; a slice's spare places count too). A statement '..UptoSaid' is the law's where the arguments, and the package variables that the reading takes, are together of bulk at most 1048576: NARROWER than '..Said'. Prove '..Said' where nothing that the law and all that it calls make is longer than what came in: it says more and counts as full. Else prove '..UptoSaid'. A law counts once. -/
mutual
def uptoBulk {H : Type} : DataW H → Nat
  | .lit (.string bytes) => bytes.length + 1
  | .lit _ => 1
  | .nil => 1
  | .ptr d => uptoBulk d + 1
  | .slice elems spare => uptoBulkAll elems + uptoBulkAll spare + 1
  | .agg parts => uptoBulkAll parts + 1
  | .iface _ d => uptoBulk d + 1
  | .map entries => uptoBulkEntries entries + 1
  | .held _ => 1
def uptoBulkAll {H : Type} : List (DataW H) → Nat
  | [] => 0
  | d :: r => uptoBulk d + uptoBulkAll r
def uptoBulkEntries {H : Type} : List (Lit × DataW H) → Nat
  | [] => 0
  | x :: r => uptoBulkEntry x + uptoBulkEntries r
def uptoBulkEntry {H : Type} : Lit × DataW H → Nat
  | (.string bytes, d) => bytes.length + uptoBulk d + 1
  | (_, d) => uptoBulk d + 1
 end
def uptoSmall : (H : Type) → List (DataW H) → Bool := fun _ ds => decide (uptoBulkAll ds ≤ 1048576)
def OpenSpec.upto (s : _root_.Go.ChangeSpec) : _root_.Go.OpenSpec := { _root_.Go.OpenSpec.ofChange s with cond := some uptoSmall }

/-- 'scrimlaw19.HooksNext', WHERE WHAT IT READS IS OF BULK AT MOST 1048576: true; the input reads as it did. -/
def hooksNextUptoRow : OpenClaim := { program := "yteoedhkppmbkoaadoor", sum := "59d49c4b0ed7826af4b9cc8afb89c4879d9198ef12c284ed28c389c915ce04bc", func := "scrim/scrimlaw19.HooksNext", spec := "hooksNext", named := ["scrim/hooks.names"], plainKeys := false, apart := false, laid := [("scrim/hooks.names", laid_scrim_hooks_names)], narrowed := true }
def HooksNextUptoSaid : Prop := hooksNextUptoRow.holds Tryd.pinned (OpenSpec.upto hooksNextSpec)

/-- 'scrimlaw19.HooksRun', WHERE WHAT IT READS IS OF BULK AT MOST 1048576: true; the input reads as it did. -/
def hooksRunUptoRow : OpenClaim := { program := "yteoedhkppmbkoaadoor", sum := "59d49c4b0ed7826af4b9cc8afb89c4879d9198ef12c284ed28c389c915ce04bc", func := "scrim/scrimlaw19.HooksRun", spec := "hooksRun", named := ["scrim/hooks.names"], plainKeys := false, apart := false, laid := [("scrim/hooks.names", laid_scrim_hooks_names)], narrowed := true }
def HooksRunUptoSaid : Prop := hooksRunUptoRow.holds Tryd.pinned (OpenSpec.upto hooksRunSpec)

/-- 'scrimlaw19.HooksWords', WHERE WHAT IT READS IS OF BULK AT MOST 1048576: true; the input reads as it did. -/
def hooksWordsUptoRow : OpenClaim := { program := "yteoedhkppmbkoaadoor", sum := "59d49c4b0ed7826af4b9cc8afb89c4879d9198ef12c284ed28c389c915ce04bc", func := "scrim/scrimlaw19.HooksWords", spec := "hooksWords", named := ["scrim/hooks.names"], plainKeys := false, apart := false, laid := [("scrim/hooks.names", laid_scrim_hooks_names)], narrowed := true }
def HooksWordsUptoSaid : Prop := hooksWordsUptoRow.holds Tryd.pinned (OpenSpec.upto hooksWordsSpec)

/-- 'scrimlaw19.HooksApart', WHERE WHAT IT READS IS OF BULK AT MOST 1048576: true; the input reads as it did. -/
def hooksApartUptoRow : OpenClaim := { program := "yteoedhkppmbkoaadoor", sum := "59d49c4b0ed7826af4b9cc8afb89c4879d9198ef12c284ed28c389c915ce04bc", func := "scrim/scrimlaw19.HooksApart", spec := "hooksApart", named := ["scrim/hooks.names"], plainKeys := false, apart := false, laid := [("scrim/hooks.names", laid_scrim_hooks_names)], narrowed := true }
def HooksApartUptoSaid : Prop := hooksApartUptoRow.holds Tryd.pinned (OpenSpec.upto hooksApartSpec)

/-- 'scrimlaw19.HooksLogs', WHERE WHAT IT READS IS OF BULK AT MOST 1048576: true; the input reads as it did. -/
def hooksLogsUptoRow : OpenClaim := { program := "yteoedhkppmbkoaadoor", sum := "59d49c4b0ed7826af4b9cc8afb89c4879d9198ef12c284ed28c389c915ce04bc", func := "scrim/scrimlaw19.HooksLogs", spec := "hooksLogs", inPlace := ["internal/abi.NoEscape", "internal/bytealg.MakeNoZero"], named := ["scrim/hooks.names", "internal/strconv.uint64pow10", "math/bits.deBruijn32tab", "math/bits.deBruijn64tab"], plainKeys := false, apart := false, laid := [("math/bits.deBruijn32tab", laid_math_bits_deBruijn32tab), ("math/bits.deBruijn64tab", laid_math_bits_deBruijn64tab), ("internal/strconv.uint64pow10", laid_internal_strconv_uint64pow10), ("scrim/hooks.names", laid_scrim_hooks_names)], narrowed := true }
def HooksLogsUptoSaid : Prop := hooksLogsUptoRow.holds Tryd.pinned (OpenSpec.upto hooksLogsSpec)

/-- 'scrimlaw04.PropsSame', WHERE WHAT IT READS IS OF BULK AT MOST 1048576: true; the input reads as it did. -/
def propsSameUptoRow : OpenClaim := { program := "yteoedhkppmbkoaadoor", sum := "59d49c4b0ed7826af4b9cc8afb89c4879d9198ef12c284ed28c389c915ce04bc", func := "scrim/scrimlaw04.PropsSame", spec := "propsSame", inPlace := ["slices.overlaps[scrim/props.Pair[int]]", "slices.overlaps[scrim/props.Pair[string]]"], unfollowed := true, recurses := true, named := ["internal/strconv.uint64pow10", "math/bits.deBruijn32tab", "math/bits.deBruijn64tab"], plainKeys := false, apart := false, laid := [("math/bits.deBruijn32tab", laid_math_bits_deBruijn32tab), ("math/bits.deBruijn64tab", laid_math_bits_deBruijn64tab), ("internal/strconv.uint64pow10", laid_internal_strconv_uint64pow10)], narrowed := true }
def PropsSameUptoSaid : Prop := propsSameUptoRow.holds Tryd.pinned (OpenSpec.upto propsSameSpec)

/-- 'scrimlaw04.PropsMaps', WHERE WHAT IT READS IS OF BULK AT MOST 1048576: true; the input reads as it did. -/
def propsMapsUptoRow : OpenClaim := { program := "yteoedhkppmbkoaadoor", sum := "59d49c4b0ed7826af4b9cc8afb89c4879d9198ef12c284ed28c389c915ce04bc", func := "scrim/scrimlaw04.PropsMaps", spec := "propsMaps", inPlace := ["slices.overlaps[scrim/props.Pair[int]]", "slices.overlaps[scrim/props.Pair[string]]"], unfollowed := true, recurses := true, named := ["internal/strconv.uint64pow10", "math/bits.deBruijn32tab", "math/bits.deBruijn64tab"], plainKeys := false, apart := false, laid := [("math/bits.deBruijn32tab", laid_math_bits_deBruijn32tab), ("math/bits.deBruijn64tab", laid_math_bits_deBruijn64tab), ("internal/strconv.uint64pow10", laid_internal_strconv_uint64pow10)], narrowed := true }
def PropsMapsUptoSaid : Prop := propsMapsUptoRow.holds Tryd.pinned (OpenSpec.upto propsMapsSpec)

/-- 'scrimlaw04.PropsTurns', WHERE WHAT IT READS IS OF BULK AT MOST 1048576: true; the input reads as it did. -/
def propsTurnsUptoRow : OpenClaim := { program := "yteoedhkppmbkoaadoor", sum := "59d49c4b0ed7826af4b9cc8afb89c4879d9198ef12c284ed28c389c915ce04bc", func := "scrim/scrimlaw04.PropsTurns", spec := "propsTurns", inPlace := ["slices.overlaps[scrim/props.Pair[int]]", "slices.overlaps[scrim/props.Pair[string]]"], unfollowed := true, recurses := true, named := ["internal/strconv.uint64pow10", "math/bits.deBruijn32tab", "math/bits.deBruijn64tab"], plainKeys := false, apart := false, laid := [("math/bits.deBruijn32tab", laid_math_bits_deBruijn32tab), ("math/bits.deBruijn64tab", laid_math_bits_deBruijn64tab), ("internal/strconv.uint64pow10", laid_internal_strconv_uint64pow10)], narrowed := true }
def PropsTurnsUptoSaid : Prop := propsTurnsUptoRow.holds Tryd.pinned (OpenSpec.upto propsTurnsSpec)

end Rows
end Go.Proofs.YteoedhkppmbkoaaDoor
