/-
  DERIVED. GIVEN WITH THE SEED: THE CARDS: each row of YthomllmapjpjoaaDoorRows.lean that lists a variable, with what it lists TIED to the program's text (the seventh form; the later family's looks); each row that meets fmt, with fmt's text TOLD by the authors' own Lean function (tested against real Go, not proved from fmt's source: count such statements apart). THE CARD IS WHAT COUNTS. Prove the row's statement (the work); the ties are given (YthomllmapjpjoaaDoorTie.lean); close each card by the builder's one call (the guide's Derived/Test/ToyasCard.lean, 'card_holds'). Laid BY PROGRAM, IN A SANDBOX (cutbox-door.mjs). By AI agents, Wed Nov 11 2026. No macro, syntax, notation, axiom, sorry.
-/
import Derived.Test.YthomllmapjpjoaaDoorRows
import GoSem.ClaimSeven
namespace Go.Proofs.YthomllmapjpjoaaDoor
namespace Rows

/-- THE TIED CARD OF 'louverlaw04.StaticsAt'. -/
def staticsAtCard : Claim7 := { stood := { row := staticsAtRow, standIns := [], harness := (true, "48b1409f09946206e1d818c6105b280c48e1371aa53aa0cf8056b898483dc559"), looks := false }, kinds := [], alts := [], laidByText := true, laidKinds := [.data], laidTests := true, laidLooks := .later }
def StaticsAtCardSaid : Prop := Claim7.holds Tryd.pinned (.plain (OpenSpec.ofChange staticsAtSpec)) staticsAtCard

/-- THE TIED CARD OF 'louverlaw04.StaticsFind'. -/
def staticsFindCard : Claim7 := { stood := { row := staticsFindRow, standIns := [], harness := (true, "48b1409f09946206e1d818c6105b280c48e1371aa53aa0cf8056b898483dc559"), looks := false }, kinds := [], alts := [], laidByText := true, laidKinds := [.data], laidTests := true, laidLooks := .later }
def StaticsFindCardSaid : Prop := Claim7.holds Tryd.pinned (.plain (OpenSpec.ofChange staticsFindSpec)) staticsFindCard

/-- THE TIED CARD OF 'louverlaw04.StaticsNames'. -/
def staticsNamesCard : Claim7 := { stood := { row := staticsNamesRow, standIns := [], harness := (true, "48b1409f09946206e1d818c6105b280c48e1371aa53aa0cf8056b898483dc559"), looks := false }, kinds := [], alts := [], laidByText := true, laidKinds := [.data], laidTests := true, laidLooks := .later }
def StaticsNamesCardSaid : Prop := Claim7.holds Tryd.pinned (.plain (OpenSpec.ofChange staticsNamesSpec)) staticsNamesCard

/-- THE SECOND FORM's CARD OF 'louverlaw04.StaticsAt'. -/
def staticsAtUptoCard : Claim7 := { stood := { row := staticsAtUptoRow, standIns := [], harness := (true, "48b1409f09946206e1d818c6105b280c48e1371aa53aa0cf8056b898483dc559"), looks := false }, kinds := [], alts := [], laidByText := true, laidKinds := [.data], laidTests := true, laidLooks := .later }
def StaticsAtUptoCardSaid : Prop := Claim7.holds Tryd.pinned (.plain (OpenSpec.upto staticsAtSpec)) staticsAtUptoCard

/-- THE SECOND FORM's CARD OF 'louverlaw04.StaticsFind'. -/
def staticsFindUptoCard : Claim7 := { stood := { row := staticsFindUptoRow, standIns := [], harness := (true, "48b1409f09946206e1d818c6105b280c48e1371aa53aa0cf8056b898483dc559"), looks := false }, kinds := [], alts := [], laidByText := true, laidKinds := [.data], laidTests := true, laidLooks := .later }
def StaticsFindUptoCardSaid : Prop := Claim7.holds Tryd.pinned (.plain (OpenSpec.upto staticsFindSpec)) staticsFindUptoCard

/-- THE SECOND FORM's CARD OF 'louverlaw04.StaticsNames'. -/
def staticsNamesUptoCard : Claim7 := { stood := { row := staticsNamesUptoRow, standIns := [], harness := (true, "48b1409f09946206e1d818c6105b280c48e1371aa53aa0cf8056b898483dc559"), looks := false }, kinds := [], alts := [], laidByText := true, laidKinds := [.data], laidTests := true, laidLooks := .later }
def StaticsNamesUptoCardSaid : Prop := Claim7.holds Tryd.pinned (.plain (OpenSpec.upto staticsNamesSpec)) staticsNamesUptoCard
end Rows
end Go.Proofs.YthomllmapjpjoaaDoor
