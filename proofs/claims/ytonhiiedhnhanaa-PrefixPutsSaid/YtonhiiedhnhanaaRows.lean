/-
  No cell of these rows narrows 'for every input' (looked for: loops, veiled, ifaces, maps, wideKeys, modest, calm, conditions, laid).
  DERIVED. THE GIVEN ROWS OF THIS SEAT. 5 by the template 'for every input the law returns true; each argument reads behind the call as it read before'; 0 by the template 'total and deterministic' (their statements: YtonhiiedhnhanaaTotals.lean).
  GIVEN WITH THE SEED: the statements are not yours to turn. If you find one false, say at which input.
  Laid BY PROGRAM, IN A SANDBOX (cutbox-rows.mjs): the forced cells as the released guide's own fill.sh prints them over the translation 1a42b6b5f0a5dc82… (all of the seat's roots in one cut). By AI agents, Wed Nov 11 2026. No macro, syntax, notation, axiom, sorry.
-/
import Derived.Test.YtonhiiedhnhanaaChecked
import GoSem.Claim
import GoSem.ClaimJoined
import GoSem.ClaimMapViews
import Derived.JoinedTies
import Derived.KernelRfl
namespace Go.Proofs.Ytonhiiedhnhanaa
/- THE CELL 'sum', in the pinned program and in every row, IS THE sha256 OF THE DUMP (.gsa) THAT YtonhiiedhnhanaaProg.lean LOADS. Nothing in Lean hashes anything: it is a label: what it is worth is what the hold of that sum in a sandbox is worth. -/
noncomputable def Try.pinned : Pinned := { name := "ytonhiiedhnhanaa", sum := "1a42b6b5f0a5dc82d8faaec5c4540650429706dacfdccfeba9428772a8a15dbc", checked := Try.checked }
namespace Rows
def none {H : Type} : Left H := { results := [], args := [] }

/-- 'louverlaw02.PrefixSizes': WHATEVER THE INPUT: true; the input reads as it did. -/
def prefixSizesSpec : ChangeSpec := { name := "prefixSizes", fn := fun _ => fun
  | [d1, d2, d3] => { results := [.lit (.bool true)], args := [d1, d2, d3] }
  | _ => none }
def prefixSizesRow : OpenClaim := { program := "ytonhiiedhnhanaa", sum := "1a42b6b5f0a5dc82d8faaec5c4540650429706dacfdccfeba9428772a8a15dbc", func := "louver/louverlaw02.PrefixSizes", spec := "prefixSizes", apart := false }
def PrefixSizesSaid : Prop := prefixSizesRow.holds Try.pinned (OpenSpec.ofChange prefixSizesSpec)

/-- ITS FALSE NEIGHBOUR: 'it returns false'. Refute it at one input. -/
def prefixSizesWrong : ChangeSpec := { name := "prefixSizes", fn := fun _ => fun
  | [d1, d2, d3] => { results := [.lit (.bool false)], args := [d1, d2, d3] }
  | _ => none }
def PrefixSizesWrongFalsely : Prop := prefixSizesRow.holds Try.pinned (OpenSpec.ofChange prefixSizesWrong)

/-- 'louverlaw02.PrefixPuts': WHATEVER THE INPUT: true; the input reads as it did. -/
def prefixPutsSpec : ChangeSpec := { name := "prefixPuts", fn := fun _ => fun
  | [d1, d2, d3, d4, d5] => { results := [.lit (.bool true)], args := [d1, d2, d3, d4, d5] }
  | _ => none }
def prefixPutsRow : OpenClaim := { program := "ytonhiiedhnhanaa", sum := "1a42b6b5f0a5dc82d8faaec5c4540650429706dacfdccfeba9428772a8a15dbc", func := "louver/louverlaw02.PrefixPuts", spec := "prefixPuts", apart := false }
def PrefixPutsSaid : Prop := prefixPutsRow.holds Try.pinned (OpenSpec.ofChange prefixPutsSpec)

/-- ITS FALSE NEIGHBOUR: 'it returns false'. Refute it at one input. -/
def prefixPutsWrong : ChangeSpec := { name := "prefixPuts", fn := fun _ => fun
  | [d1, d2, d3, d4, d5] => { results := [.lit (.bool false)], args := [d1, d2, d3, d4, d5] }
  | _ => none }
def PrefixPutsWrongFalsely : Prop := prefixPutsRow.holds Try.pinned (OpenSpec.ofChange prefixPutsWrong)

/-- 'louverlaw02.PrefixGets': WHATEVER THE INPUT: true; the input reads as it did. -/
def prefixGetsSpec : ChangeSpec := { name := "prefixGets", fn := fun _ => fun
  | [d1, d2] => { results := [.lit (.bool true)], args := [d1, d2] }
  | _ => none }
def prefixGetsRow : OpenClaim := { program := "ytonhiiedhnhanaa", sum := "1a42b6b5f0a5dc82d8faaec5c4540650429706dacfdccfeba9428772a8a15dbc", func := "louver/louverlaw02.PrefixGets", spec := "prefixGets", apart := false }
def PrefixGetsSaid : Prop := prefixGetsRow.holds Try.pinned (OpenSpec.ofChange prefixGetsSpec)

/-- ITS FALSE NEIGHBOUR: 'it returns false'. Refute it at one input. -/
def prefixGetsWrong : ChangeSpec := { name := "prefixGets", fn := fun _ => fun
  | [d1, d2] => { results := [.lit (.bool false)], args := [d1, d2] }
  | _ => none }
def PrefixGetsWrongFalsely : Prop := prefixGetsRow.holds Try.pinned (OpenSpec.ofChange prefixGetsWrong)

/-- 'louverlaw02.PrefixNoughts': WHATEVER THE INPUT: true; the input reads as it did. -/
def prefixNoughtsSpec : ChangeSpec := { name := "prefixNoughts", fn := fun _ => fun
  | [d1, d2, d3] => { results := [.lit (.bool true)], args := [d1, d2, d3] }
  | _ => none }
def prefixNoughtsRow : OpenClaim := { program := "ytonhiiedhnhanaa", sum := "1a42b6b5f0a5dc82d8faaec5c4540650429706dacfdccfeba9428772a8a15dbc", func := "louver/louverlaw02.PrefixNoughts", spec := "prefixNoughts", apart := false }
def PrefixNoughtsSaid : Prop := prefixNoughtsRow.holds Try.pinned (OpenSpec.ofChange prefixNoughtsSpec)

/-- ITS FALSE NEIGHBOUR: 'it returns false'. Refute it at one input. -/
def prefixNoughtsWrong : ChangeSpec := { name := "prefixNoughts", fn := fun _ => fun
  | [d1, d2, d3] => { results := [.lit (.bool false)], args := [d1, d2, d3] }
  | _ => none }
def PrefixNoughtsWrongFalsely : Prop := prefixNoughtsRow.holds Try.pinned (OpenSpec.ofChange prefixNoughtsWrong)

/-- 'louverlaw02.PrefixHigh': WHATEVER THE INPUT: true; the input reads as it did. -/
def prefixHighSpec : ChangeSpec := { name := "prefixHigh", fn := fun _ => fun
  | [d1, d2, d3, d4] => { results := [.lit (.bool true)], args := [d1, d2, d3, d4] }
  | _ => none }
def prefixHighRow : OpenClaim := { program := "ytonhiiedhnhanaa", sum := "1a42b6b5f0a5dc82d8faaec5c4540650429706dacfdccfeba9428772a8a15dbc", func := "louver/louverlaw02.PrefixHigh", spec := "prefixHigh", apart := false }
def PrefixHighSaid : Prop := prefixHighRow.holds Try.pinned (OpenSpec.ofChange prefixHighSpec)

/-- ITS FALSE NEIGHBOUR: 'it returns false'. Refute it at one input. -/
def prefixHighWrong : ChangeSpec := { name := "prefixHigh", fn := fun _ => fun
  | [d1, d2, d3, d4] => { results := [.lit (.bool false)], args := [d1, d2, d3, d4] }
  | _ => none }
def PrefixHighWrongFalsely : Prop := prefixHighRow.holds Try.pinned (OpenSpec.ofChange prefixHighWrong)

/- THE SECOND FORM. 'bulk': how many values and letters a reading holds, each counted each time it is reached (what is shared counts as often as it is met; a slice's spare places count too). A statement '..UptoSaid' is the law's where the arguments, and the package variables that the reading takes, are together of bulk at most 1048576: NARROWER than '..Said'. Prove '..Said' where nothing that the law and all that it calls make is longer than what came in: it says more and counts as full. Else prove '..UptoSaid'. A law counts once. -/
mutual
def uptoBulk {H : Type} : DataW H → Nat
  | .lit (.string bytes) => bytes.length + 1
  | .lit _ => 1
  | .nil => 1
  | .ptr d => uptoBulk d + 1
  | .slice elems spare => uptoBulkAll elems + uptoBulkAll spare + 1
  | .agg parts => uptoBulkAll parts + 1
  | .iface _ d => uptoBulk d + 1
  | .map entries => uptoBulkEntries entries + 1
  | .held _ => 1
def uptoBulkAll {H : Type} : List (DataW H) → Nat
  | [] => 0
  | d :: r => uptoBulk d + uptoBulkAll r
def uptoBulkEntries {H : Type} : List (Lit × DataW H) → Nat
  | [] => 0
  | x :: r => uptoBulkEntry x + uptoBulkEntries r
def uptoBulkEntry {H : Type} : Lit × DataW H → Nat
  | (.string bytes, d) => bytes.length + uptoBulk d + 1
  | (_, d) => uptoBulk d + 1
 end
def uptoSmall : (H : Type) → List (DataW H) → Bool := fun _ ds => decide (uptoBulkAll ds ≤ 1048576)
def OpenSpec.upto (s : _root_.Go.ChangeSpec) : _root_.Go.OpenSpec := { _root_.Go.OpenSpec.ofChange s with cond := some uptoSmall }

/-- 'louverlaw02.PrefixSizes', WHERE WHAT IT READS IS OF BULK AT MOST 1048576: true; the input reads as it did. -/
def prefixSizesUptoRow : OpenClaim := { program := "ytonhiiedhnhanaa", sum := "1a42b6b5f0a5dc82d8faaec5c4540650429706dacfdccfeba9428772a8a15dbc", func := "louver/louverlaw02.PrefixSizes", spec := "prefixSizes", apart := false, narrowed := true }
def PrefixSizesUptoSaid : Prop := prefixSizesUptoRow.holds Try.pinned (OpenSpec.upto prefixSizesSpec)

/-- 'louverlaw02.PrefixPuts', WHERE WHAT IT READS IS OF BULK AT MOST 1048576: true; the input reads as it did. -/
def prefixPutsUptoRow : OpenClaim := { program := "ytonhiiedhnhanaa", sum := "1a42b6b5f0a5dc82d8faaec5c4540650429706dacfdccfeba9428772a8a15dbc", func := "louver/louverlaw02.PrefixPuts", spec := "prefixPuts", apart := false, narrowed := true }
def PrefixPutsUptoSaid : Prop := prefixPutsUptoRow.holds Try.pinned (OpenSpec.upto prefixPutsSpec)

/-- 'louverlaw02.PrefixGets', WHERE WHAT IT READS IS OF BULK AT MOST 1048576: true; the input reads as it did. -/
def prefixGetsUptoRow : OpenClaim := { program := "ytonhiiedhnhanaa", sum := "1a42b6b5f0a5dc82d8faaec5c4540650429706dacfdccfeba9428772a8a15dbc", func := "louver/louverlaw02.PrefixGets", spec := "prefixGets", apart := false, narrowed := true }
def PrefixGetsUptoSaid : Prop := prefixGetsUptoRow.holds Try.pinned (OpenSpec.upto prefixGetsSpec)

/-- 'louverlaw02.PrefixNoughts', WHERE WHAT IT READS IS OF BULK AT MOST 1048576: true; the input reads as it did. -/
def prefixNoughtsUptoRow : OpenClaim := { program := "ytonhiiedhnhanaa", sum := "1a42b6b5f0a5dc82d8faaec5c4540650429706dacfdccfeba9428772a8a15dbc", func := "louver/louverlaw02.PrefixNoughts", spec := "prefixNoughts", apart := false, narrowed := true }
def PrefixNoughtsUptoSaid : Prop := prefixNoughtsUptoRow.holds Try.pinned (OpenSpec.upto prefixNoughtsSpec)

/-- 'louverlaw02.PrefixHigh', WHERE WHAT IT READS IS OF BULK AT MOST 1048576: true; the input reads as it did. -/
def prefixHighUptoRow : OpenClaim := { program := "ytonhiiedhnhanaa", sum := "1a42b6b5f0a5dc82d8faaec5c4540650429706dacfdccfeba9428772a8a15dbc", func := "louver/louverlaw02.PrefixHigh", spec := "prefixHigh", apart := false, narrowed := true }
def PrefixHighUptoSaid : Prop := prefixHighUptoRow.holds Try.pinned (OpenSpec.upto prefixHighSpec)

end Rows
end Go.Proofs.Ytonhiiedhnhanaa
