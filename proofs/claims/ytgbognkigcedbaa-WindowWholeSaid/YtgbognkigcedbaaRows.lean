/-
  No cell of these rows narrows 'for every input' (looked for: loops, veiled, ifaces, maps, wideKeys, modest, calm, conditions, laid).
  DERIVED. THE GIVEN ROWS OF THIS SEAT. 6 by the template 'for every input the law returns true; each argument reads behind the call as it read before'; 0 by the template 'total and deterministic' (their statements: YtgbognkigcedbaaTotals.lean).
  GIVEN WITH THE SEED: the statements are not yours to turn. If you find one false, say at which input.
  Laid BY PROGRAM, IN A SANDBOX (cutbox-rows.mjs): the forced cells as the released guide's own fill.sh prints them over the translation df062cacc403c6de… (all of the seat's roots in one cut). By AI agents, Wed Nov 11 2026. No macro, syntax, notation, axiom, sorry.
-/
import Derived.Test.YtgbognkigcedbaaChecked
import GoSem.Claim
import GoSem.ClaimJoined
import GoSem.ClaimMapViews
import Derived.JoinedTies
import Derived.KernelRfl
namespace Go.Proofs.Ytgbognkigcedbaa
/- THE CELL 'sum', in the pinned program and in every row, IS THE sha256 OF THE DUMP (.gsa) THAT YtgbognkigcedbaaProg.lean LOADS. Nothing in Lean hashes anything: it is a label: what it is worth is what the hold of that sum in a sandbox is worth. -/
noncomputable def Try.pinned : Pinned := { name := "ytgbognkigcedbaa", sum := "df062cacc403c6de19b1940013ad63fc6f4036712d12fb2938c10ff26d4bc351", checked := Try.checked }
namespace Rows
def none {H : Type} : Left H := { results := [], args := [] }

/-- 'louverlaw10.WindowMeters': WHATEVER THE INPUT: true; the input reads as it did. -/
def windowMetersSpec : ChangeSpec := { name := "windowMeters", fn := fun _ => fun
  | [d1, d2, d3] => { results := [.lit (.bool true)], args := [d1, d2, d3] }
  | _ => none }
def windowMetersRow : OpenClaim := { program := "ytgbognkigcedbaa", sum := "df062cacc403c6de19b1940013ad63fc6f4036712d12fb2938c10ff26d4bc351", func := "louver/louverlaw10.WindowMeters", spec := "windowMeters", apart := false }
def WindowMetersSaid : Prop := windowMetersRow.holds Try.pinned (OpenSpec.ofChange windowMetersSpec)

/-- ITS FALSE NEIGHBOUR: 'it returns false'. Refute it at one input. -/
def windowMetersWrong : ChangeSpec := { name := "windowMeters", fn := fun _ => fun
  | [d1, d2, d3] => { results := [.lit (.bool false)], args := [d1, d2, d3] }
  | _ => none }
def WindowMetersWrongFalsely : Prop := windowMetersRow.holds Try.pinned (OpenSpec.ofChange windowMetersWrong)

/-- 'louverlaw10.WindowWhole': WHATEVER THE INPUT: true; the input reads as it did. -/
def windowWholeSpec : ChangeSpec := { name := "windowWhole", fn := fun _ => fun
  | [d1, d2] => { results := [.lit (.bool true)], args := [d1, d2] }
  | _ => none }
def windowWholeRow : OpenClaim := { program := "ytgbognkigcedbaa", sum := "df062cacc403c6de19b1940013ad63fc6f4036712d12fb2938c10ff26d4bc351", func := "louver/louverlaw10.WindowWhole", spec := "windowWhole", apart := false }
def WindowWholeSaid : Prop := windowWholeRow.holds Try.pinned (OpenSpec.ofChange windowWholeSpec)

/-- ITS FALSE NEIGHBOUR: 'it returns false'. Refute it at one input. -/
def windowWholeWrong : ChangeSpec := { name := "windowWhole", fn := fun _ => fun
  | [d1, d2] => { results := [.lit (.bool false)], args := [d1, d2] }
  | _ => none }
def WindowWholeWrongFalsely : Prop := windowWholeRow.holds Try.pinned (OpenSpec.ofChange windowWholeWrong)

/-- 'louverlaw10.WindowShifts': WHATEVER THE INPUT: true; the input reads as it did. -/
def windowShiftsSpec : ChangeSpec := { name := "windowShifts", fn := fun _ => fun
  | [d1, d2, d3] => { results := [.lit (.bool true)], args := [d1, d2, d3] }
  | _ => none }
def windowShiftsRow : OpenClaim := { program := "ytgbognkigcedbaa", sum := "df062cacc403c6de19b1940013ad63fc6f4036712d12fb2938c10ff26d4bc351", func := "louver/louverlaw10.WindowShifts", spec := "windowShifts", apart := false }
def WindowShiftsSaid : Prop := windowShiftsRow.holds Try.pinned (OpenSpec.ofChange windowShiftsSpec)

/-- ITS FALSE NEIGHBOUR: 'it returns false'. Refute it at one input. -/
def windowShiftsWrong : ChangeSpec := { name := "windowShifts", fn := fun _ => fun
  | [d1, d2, d3] => { results := [.lit (.bool false)], args := [d1, d2, d3] }
  | _ => none }
def WindowShiftsWrongFalsely : Prop := windowShiftsRow.holds Try.pinned (OpenSpec.ofChange windowShiftsWrong)

/-- 'louverlaw10.WindowEnds': WHATEVER THE INPUT: true; the input reads as it did. -/
def windowEndsSpec : ChangeSpec := { name := "windowEnds", fn := fun _ => fun
  | [d1, d2] => { results := [.lit (.bool true)], args := [d1, d2] }
  | _ => none }
def windowEndsRow : OpenClaim := { program := "ytgbognkigcedbaa", sum := "df062cacc403c6de19b1940013ad63fc6f4036712d12fb2938c10ff26d4bc351", func := "louver/louverlaw10.WindowEnds", spec := "windowEnds", apart := false }
def WindowEndsSaid : Prop := windowEndsRow.holds Try.pinned (OpenSpec.ofChange windowEndsSpec)

/-- ITS FALSE NEIGHBOUR: 'it returns false'. Refute it at one input. -/
def windowEndsWrong : ChangeSpec := { name := "windowEnds", fn := fun _ => fun
  | [d1, d2] => { results := [.lit (.bool false)], args := [d1, d2] }
  | _ => none }
def WindowEndsWrongFalsely : Prop := windowEndsRow.holds Try.pinned (OpenSpec.ofChange windowEndsWrong)

/-- 'louverlaw10.WindowNil': WHATEVER THE INPUT: true; the input reads as it did. -/
def windowNilSpec : ChangeSpec := { name := "windowNil", fn := fun _ => fun
  | [d1, d2] => { results := [.lit (.bool true)], args := [d1, d2] }
  | _ => none }
def windowNilRow : OpenClaim := { program := "ytgbognkigcedbaa", sum := "df062cacc403c6de19b1940013ad63fc6f4036712d12fb2938c10ff26d4bc351", func := "louver/louverlaw10.WindowNil", spec := "windowNil", apart := false }
def WindowNilSaid : Prop := windowNilRow.holds Try.pinned (OpenSpec.ofChange windowNilSpec)

/-- ITS FALSE NEIGHBOUR: 'it returns false'. Refute it at one input. -/
def windowNilWrong : ChangeSpec := { name := "windowNil", fn := fun _ => fun
  | [d1, d2] => { results := [.lit (.bool false)], args := [d1, d2] }
  | _ => none }
def WindowNilWrongFalsely : Prop := windowNilRow.holds Try.pinned (OpenSpec.ofChange windowNilWrong)

/-- 'louverlaw10.WindowPlays': WHATEVER THE INPUT: true; the input reads as it did. -/
def windowPlaysSpec : ChangeSpec := { name := "windowPlays", fn := fun _ => fun
  | [d1, d2, d3] => { results := [.lit (.bool true)], args := [d1, d2, d3] }
  | _ => none }
def windowPlaysRow : OpenClaim := { program := "ytgbognkigcedbaa", sum := "df062cacc403c6de19b1940013ad63fc6f4036712d12fb2938c10ff26d4bc351", func := "louver/louverlaw10.WindowPlays", spec := "windowPlays", apart := false }
def WindowPlaysSaid : Prop := windowPlaysRow.holds Try.pinned (OpenSpec.ofChange windowPlaysSpec)

/-- ITS FALSE NEIGHBOUR: 'it returns false'. Refute it at one input. -/
def windowPlaysWrong : ChangeSpec := { name := "windowPlays", fn := fun _ => fun
  | [d1, d2, d3] => { results := [.lit (.bool false)], args := [d1, d2, d3] }
  | _ => none }
def WindowPlaysWrongFalsely : Prop := windowPlaysRow.holds Try.pinned (OpenSpec.ofChange windowPlaysWrong)

/- THE SECOND FORM. 'bulk': how many values and letters a reading holds, each counted each time it is reached (what is shared counts as often as it is met; a slice's spare places count too). A statement '..UptoSaid' is the law's where the arguments, and the package variables that the reading takes, are together of bulk at most 1048576: NARROWER than '..Said'. Prove '..Said' where nothing that the law and all that it calls make is longer than what came in: it says more and counts as full. Else prove '..UptoSaid'. A law counts once. -/
mutual
def uptoBulk {H : Type} : DataW H → Nat
  | .lit (.string bytes) => bytes.length + 1
  | .lit _ => 1
  | .nil => 1
  | .ptr d => uptoBulk d + 1
  | .slice elems spare => uptoBulkAll elems + uptoBulkAll spare + 1
  | .agg parts => uptoBulkAll parts + 1
  | .iface _ d => uptoBulk d + 1
  | .map entries => uptoBulkEntries entries + 1
  | .held _ => 1
def uptoBulkAll {H : Type} : List (DataW H) → Nat
  | [] => 0
  | d :: r => uptoBulk d + uptoBulkAll r
def uptoBulkEntries {H : Type} : List (Lit × DataW H) → Nat
  | [] => 0
  | x :: r => uptoBulkEntry x + uptoBulkEntries r
def uptoBulkEntry {H : Type} : Lit × DataW H → Nat
  | (.string bytes, d) => bytes.length + uptoBulk d + 1
  | (_, d) => uptoBulk d + 1
 end
def uptoSmall : (H : Type) → List (DataW H) → Bool := fun _ ds => decide (uptoBulkAll ds ≤ 1048576)
def OpenSpec.upto (s : _root_.Go.ChangeSpec) : _root_.Go.OpenSpec := { _root_.Go.OpenSpec.ofChange s with cond := some uptoSmall }

/-- 'louverlaw10.WindowMeters', WHERE WHAT IT READS IS OF BULK AT MOST 1048576: true; the input reads as it did. -/
def windowMetersUptoRow : OpenClaim := { program := "ytgbognkigcedbaa", sum := "df062cacc403c6de19b1940013ad63fc6f4036712d12fb2938c10ff26d4bc351", func := "louver/louverlaw10.WindowMeters", spec := "windowMeters", apart := false, narrowed := true }
def WindowMetersUptoSaid : Prop := windowMetersUptoRow.holds Try.pinned (OpenSpec.upto windowMetersSpec)

/-- 'louverlaw10.WindowWhole', WHERE WHAT IT READS IS OF BULK AT MOST 1048576: true; the input reads as it did. -/
def windowWholeUptoRow : OpenClaim := { program := "ytgbognkigcedbaa", sum := "df062cacc403c6de19b1940013ad63fc6f4036712d12fb2938c10ff26d4bc351", func := "louver/louverlaw10.WindowWhole", spec := "windowWhole", apart := false, narrowed := true }
def WindowWholeUptoSaid : Prop := windowWholeUptoRow.holds Try.pinned (OpenSpec.upto windowWholeSpec)

/-- 'louverlaw10.WindowShifts', WHERE WHAT IT READS IS OF BULK AT MOST 1048576: true; the input reads as it did. -/
def windowShiftsUptoRow : OpenClaim := { program := "ytgbognkigcedbaa", sum := "df062cacc403c6de19b1940013ad63fc6f4036712d12fb2938c10ff26d4bc351", func := "louver/louverlaw10.WindowShifts", spec := "windowShifts", apart := false, narrowed := true }
def WindowShiftsUptoSaid : Prop := windowShiftsUptoRow.holds Try.pinned (OpenSpec.upto windowShiftsSpec)

/-- 'louverlaw10.WindowEnds', WHERE WHAT IT READS IS OF BULK AT MOST 1048576: true; the input reads as it did. -/
def windowEndsUptoRow : OpenClaim := { program := "ytgbognkigcedbaa", sum := "df062cacc403c6de19b1940013ad63fc6f4036712d12fb2938c10ff26d4bc351", func := "louver/louverlaw10.WindowEnds", spec := "windowEnds", apart := false, narrowed := true }
def WindowEndsUptoSaid : Prop := windowEndsUptoRow.holds Try.pinned (OpenSpec.upto windowEndsSpec)

/-- 'louverlaw10.WindowNil', WHERE WHAT IT READS IS OF BULK AT MOST 1048576: true; the input reads as it did. -/
def windowNilUptoRow : OpenClaim := { program := "ytgbognkigcedbaa", sum := "df062cacc403c6de19b1940013ad63fc6f4036712d12fb2938c10ff26d4bc351", func := "louver/louverlaw10.WindowNil", spec := "windowNil", apart := false, narrowed := true }
def WindowNilUptoSaid : Prop := windowNilUptoRow.holds Try.pinned (OpenSpec.upto windowNilSpec)

/-- 'louverlaw10.WindowPlays', WHERE WHAT IT READS IS OF BULK AT MOST 1048576: true; the input reads as it did. -/
def windowPlaysUptoRow : OpenClaim := { program := "ytgbognkigcedbaa", sum := "df062cacc403c6de19b1940013ad63fc6f4036712d12fb2938c10ff26d4bc351", func := "louver/louverlaw10.WindowPlays", spec := "windowPlays", apart := false, narrowed := true }
def WindowPlaysUptoSaid : Prop := windowPlaysUptoRow.holds Try.pinned (OpenSpec.upto windowPlaysSpec)

end Rows
end Go.Proofs.Ytgbognkigcedbaa
