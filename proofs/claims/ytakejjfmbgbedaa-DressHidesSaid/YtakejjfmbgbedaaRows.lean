/-
  No cell of these rows narrows 'for every input' (looked for: loops, veiled, ifaces, maps, wideKeys, modest, calm, conditions, laid).
  DERIVED. THE GIVEN ROWS OF THIS SEAT. 4 by the template 'for every input the law returns true; each argument reads behind the call as it read before'; 0 by the template 'total and deterministic' (their statements: YtakejjfmbgbedaaTotals.lean).
  GIVEN WITH THE SEED: the statements are not yours to turn. If you find one false, say at which input.
  Laid BY PROGRAM, IN A SANDBOX (cutbox-rows.mjs): the forced cells as the released guide's own fill.sh prints them over the translation e4a75632fdcb7d42… (all of the seat's roots in one cut). By AI agents, Wed Nov 11 2026. No macro, syntax, notation, axiom, sorry.
-/
import Derived.Test.YtakejjfmbgbedaaChecked
import GoSem.Claim
import GoSem.ClaimJoined
import GoSem.ClaimMapViews
import Derived.JoinedTies
import Derived.KernelRfl
namespace Go.Proofs.Ytakejjfmbgbedaa
/- THE CELL 'sum', in the pinned program and in every row, IS THE sha256 OF THE DUMP (.gsa) THAT YtakejjfmbgbedaaProg.lean LOADS. Nothing in Lean hashes anything: it is a label: what it is worth is what the hold of that sum in a sandbox is worth. -/
noncomputable def Try.pinned : Pinned := { name := "ytakejjfmbgbedaa", sum := "e4a75632fdcb7d420391803102f8323c8a4401da045bc3ea4835755d93d1e12e", checked := Try.checked }
namespace Rows
def none {H : Type} : Left H := { results := [], args := [] }

/-- 'scrimlaw20.DressPuts': WHATEVER THE INPUT: true; the input reads as it did. -/
def dressPutsSpec : ChangeSpec := { name := "dressPuts", fn := fun _ => fun
  | [d1, d2] => { results := [.lit (.bool true)], args := [d1, d2] }
  | _ => none }
def dressPutsRow : OpenClaim := { program := "ytakejjfmbgbedaa", sum := "e4a75632fdcb7d420391803102f8323c8a4401da045bc3ea4835755d93d1e12e", func := "scrim/scrimlaw20.DressPuts", spec := "dressPuts", inPlace := ["slices.overlaps[scrim/props.Pair[string]]", "slices.overlaps[scrim/props.Pair[int]]"], unfollowed := true, recurses := true, apart := false }
def DressPutsSaid : Prop := dressPutsRow.holds Try.pinned (OpenSpec.ofChange dressPutsSpec)

/-- ITS FALSE NEIGHBOUR: 'it returns false'. Refute it at one input. -/
def dressPutsWrong : ChangeSpec := { name := "dressPuts", fn := fun _ => fun
  | [d1, d2] => { results := [.lit (.bool false)], args := [d1, d2] }
  | _ => none }
def DressPutsWrongFalsely : Prop := dressPutsRow.holds Try.pinned (OpenSpec.ofChange dressPutsWrong)

/-- 'scrimlaw20.DressLooks': WHATEVER THE INPUT: true; the input reads as it did. -/
def dressLooksSpec : ChangeSpec := { name := "dressLooks", fn := fun _ => fun
  | [d] => { results := [.lit (.bool true)], args := [d] }
  | _ => none }
def dressLooksRow : OpenClaim := { program := "ytakejjfmbgbedaa", sum := "e4a75632fdcb7d420391803102f8323c8a4401da045bc3ea4835755d93d1e12e", func := "scrim/scrimlaw20.DressLooks", spec := "dressLooks", inPlace := ["slices.overlaps[scrim/props.Pair[string]]", "slices.overlaps[scrim/props.Pair[int]]"], unfollowed := true, recurses := true, apart := false }
def DressLooksSaid : Prop := dressLooksRow.holds Try.pinned (OpenSpec.ofChange dressLooksSpec)

/-- ITS FALSE NEIGHBOUR: 'it returns false'. Refute it at one input. -/
def dressLooksWrong : ChangeSpec := { name := "dressLooks", fn := fun _ => fun
  | [d] => { results := [.lit (.bool false)], args := [d] }
  | _ => none }
def DressLooksWrongFalsely : Prop := dressLooksRow.holds Try.pinned (OpenSpec.ofChange dressLooksWrong)

/-- 'scrimlaw20.DressApart': WHATEVER THE INPUT: true; the input reads as it did. -/
def dressApartSpec : ChangeSpec := { name := "dressApart", fn := fun _ => fun
  | [d1, d2] => { results := [.lit (.bool true)], args := [d1, d2] }
  | _ => none }
def dressApartRow : OpenClaim := { program := "ytakejjfmbgbedaa", sum := "e4a75632fdcb7d420391803102f8323c8a4401da045bc3ea4835755d93d1e12e", func := "scrim/scrimlaw20.DressApart", spec := "dressApart", inPlace := ["slices.overlaps[scrim/props.Pair[string]]", "slices.overlaps[scrim/props.Pair[int]]"], unfollowed := true, recurses := true, apart := false }
def DressApartSaid : Prop := dressApartRow.holds Try.pinned (OpenSpec.ofChange dressApartSpec)

/-- ITS FALSE NEIGHBOUR: 'it returns false'. Refute it at one input. -/
def dressApartWrong : ChangeSpec := { name := "dressApart", fn := fun _ => fun
  | [d1, d2] => { results := [.lit (.bool false)], args := [d1, d2] }
  | _ => none }
def DressApartWrongFalsely : Prop := dressApartRow.holds Try.pinned (OpenSpec.ofChange dressApartWrong)

/-- 'scrimlaw20.DressHides': WHATEVER THE INPUT: true; the input reads as it did. -/
def dressHidesSpec : ChangeSpec := { name := "dressHides", fn := fun _ => fun
  | [d1, d2] => { results := [.lit (.bool true)], args := [d1, d2] }
  | _ => none }
def dressHidesRow : OpenClaim := { program := "ytakejjfmbgbedaa", sum := "e4a75632fdcb7d420391803102f8323c8a4401da045bc3ea4835755d93d1e12e", func := "scrim/scrimlaw20.DressHides", spec := "dressHides", inPlace := ["slices.overlaps[scrim/props.Pair[string]]", "slices.overlaps[scrim/props.Pair[int]]"], unfollowed := true, recurses := true, apart := false }
def DressHidesSaid : Prop := dressHidesRow.holds Try.pinned (OpenSpec.ofChange dressHidesSpec)

/-- ITS FALSE NEIGHBOUR: 'it returns false'. Refute it at one input. -/
def dressHidesWrong : ChangeSpec := { name := "dressHides", fn := fun _ => fun
  | [d1, d2] => { results := [.lit (.bool false)], args := [d1, d2] }
  | _ => none }
def DressHidesWrongFalsely : Prop := dressHidesRow.holds Try.pinned (OpenSpec.ofChange dressHidesWrong)

/- THE SECOND FORM. 'bulk': how many values and letters a reading holds, each counted each time it is reached (what is shared counts as often as it is met; a slice's spare places count too). A statement '..UptoSaid' is the law's where the arguments, and the package variables that the reading takes, are together of bulk at most 1048576: NARROWER than '..Said'. Prove '..Said' where nothing that the law and all that it calls make is longer than what came in: it says more and counts as full. Else prove '..UptoSaid'. A law counts once. -/
mutual
def uptoBulk {H : Type} : DataW H → Nat
  | .lit (.string bytes) => bytes.length + 1
  | .lit _ => 1
  | .nil => 1
  | .ptr d => uptoBulk d + 1
  | .slice elems spare => uptoBulkAll elems + uptoBulkAll spare + 1
  | .agg parts => uptoBulkAll parts + 1
  | .iface _ d => uptoBulk d + 1
  | .map entries => uptoBulkEntries entries + 1
  | .held _ => 1
def uptoBulkAll {H : Type} : List (DataW H) → Nat
  | [] => 0
  | d :: r => uptoBulk d + uptoBulkAll r
def uptoBulkEntries {H : Type} : List (Lit × DataW H) → Nat
  | [] => 0
  | x :: r => uptoBulkEntry x + uptoBulkEntries r
def uptoBulkEntry {H : Type} : Lit × DataW H → Nat
  | (.string bytes, d) => bytes.length + uptoBulk d + 1
  | (_, d) => uptoBulk d + 1
 end
def uptoSmall : (H : Type) → List (DataW H) → Bool := fun _ ds => decide (uptoBulkAll ds ≤ 1048576)
def OpenSpec.upto (s : _root_.Go.ChangeSpec) : _root_.Go.OpenSpec := { _root_.Go.OpenSpec.ofChange s with cond := some uptoSmall }

/-- 'scrimlaw20.DressPuts', WHERE WHAT IT READS IS OF BULK AT MOST 1048576: true; the input reads as it did. -/
def dressPutsUptoRow : OpenClaim := { program := "ytakejjfmbgbedaa", sum := "e4a75632fdcb7d420391803102f8323c8a4401da045bc3ea4835755d93d1e12e", func := "scrim/scrimlaw20.DressPuts", spec := "dressPuts", inPlace := ["slices.overlaps[scrim/props.Pair[string]]", "slices.overlaps[scrim/props.Pair[int]]"], unfollowed := true, recurses := true, apart := false, narrowed := true }
def DressPutsUptoSaid : Prop := dressPutsUptoRow.holds Try.pinned (OpenSpec.upto dressPutsSpec)

/-- 'scrimlaw20.DressLooks', WHERE WHAT IT READS IS OF BULK AT MOST 1048576: true; the input reads as it did. -/
def dressLooksUptoRow : OpenClaim := { program := "ytakejjfmbgbedaa", sum := "e4a75632fdcb7d420391803102f8323c8a4401da045bc3ea4835755d93d1e12e", func := "scrim/scrimlaw20.DressLooks", spec := "dressLooks", inPlace := ["slices.overlaps[scrim/props.Pair[string]]", "slices.overlaps[scrim/props.Pair[int]]"], unfollowed := true, recurses := true, apart := false, narrowed := true }
def DressLooksUptoSaid : Prop := dressLooksUptoRow.holds Try.pinned (OpenSpec.upto dressLooksSpec)

/-- 'scrimlaw20.DressApart', WHERE WHAT IT READS IS OF BULK AT MOST 1048576: true; the input reads as it did. -/
def dressApartUptoRow : OpenClaim := { program := "ytakejjfmbgbedaa", sum := "e4a75632fdcb7d420391803102f8323c8a4401da045bc3ea4835755d93d1e12e", func := "scrim/scrimlaw20.DressApart", spec := "dressApart", inPlace := ["slices.overlaps[scrim/props.Pair[string]]", "slices.overlaps[scrim/props.Pair[int]]"], unfollowed := true, recurses := true, apart := false, narrowed := true }
def DressApartUptoSaid : Prop := dressApartUptoRow.holds Try.pinned (OpenSpec.upto dressApartSpec)

/-- 'scrimlaw20.DressHides', WHERE WHAT IT READS IS OF BULK AT MOST 1048576: true; the input reads as it did. -/
def dressHidesUptoRow : OpenClaim := { program := "ytakejjfmbgbedaa", sum := "e4a75632fdcb7d420391803102f8323c8a4401da045bc3ea4835755d93d1e12e", func := "scrim/scrimlaw20.DressHides", spec := "dressHides", inPlace := ["slices.overlaps[scrim/props.Pair[string]]", "slices.overlaps[scrim/props.Pair[int]]"], unfollowed := true, recurses := true, apart := false, narrowed := true }
def DressHidesUptoSaid : Prop := dressHidesUptoRow.holds Try.pinned (OpenSpec.upto dressHidesSpec)

end Rows
end Go.Proofs.Ytakejjfmbgbedaa
