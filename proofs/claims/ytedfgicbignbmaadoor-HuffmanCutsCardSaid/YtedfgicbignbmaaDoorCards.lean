/-
  DERIVED. GIVEN WITH THE SEED: THE CARDS: each row of YtedfgicbignbmaaDoorRows.lean that lists a variable, with what it lists TIED to the program's text (the seventh form; the later family's looks); each row that meets fmt, with fmt's text TOLD by the authors' own Lean function (tested against real Go, not proved from fmt's source: count such statements apart). THE CARD IS WHAT COUNTS. Prove the row's statement (the work); the ties are given (YtedfgicbignbmaaDoorTie.lean); close each card by the builder's one call (the guide's Derived/Test/ToyasCard.lean, 'card_holds'). Laid BY PROGRAM, IN A SANDBOX (cutbox-door.mjs). By AI agents, Wed Nov 11 2026. No macro, syntax, notation, axiom, sorry.
-/
import Derived.Test.YtedfgicbignbmaaDoorRows
import GoSem.ClaimSeven
namespace Go.Proofs.YtedfgicbignbmaaDoor
namespace Rows

/-- THE TIED CARD OF 'louverlaw03.HuffmanCode'. -/
def huffmanCodeCard : Claim7 := { stood := { row := huffmanCodeRow, standIns := [], harness := (true, "43961c6f4fc9798d06b5af1e7a609388ab970caccaf7ee891e9154f357eeb81f"), looks := false }, kinds := [], alts := [], laidByText := true, laidKinds := [.data], laidTests := true, laidLooks := .later }
def HuffmanCodeCardSaid : Prop := Claim7.holds Tryd.pinned (.plain (OpenSpec.ofChange huffmanCodeSpec)) huffmanCodeCard

/-- THE TIED CARD OF 'louverlaw03.HuffmanFull'. -/
def huffmanFullCard : Claim7 := { stood := { row := huffmanFullRow, standIns := [], harness := (true, "43961c6f4fc9798d06b5af1e7a609388ab970caccaf7ee891e9154f357eeb81f"), looks := false }, kinds := [], alts := [], laidByText := true, laidKinds := [.data], laidTests := true, laidLooks := .later }
def HuffmanFullCardSaid : Prop := Claim7.holds Tryd.pinned (.plain (OpenSpec.ofChange huffmanFullSpec)) huffmanFullCard

/-- THE TIED CARD OF 'louverlaw03.HuffmanJoins'. -/
def huffmanJoinsCard : Claim7 := { stood := { row := huffmanJoinsRow, standIns := [], harness := (true, "43961c6f4fc9798d06b5af1e7a609388ab970caccaf7ee891e9154f357eeb81f"), looks := false }, kinds := [], alts := [], laidByText := true, laidKinds := [.data], laidTests := true, laidLooks := .later }
def HuffmanJoinsCardSaid : Prop := Claim7.holds Tryd.pinned (.plain (OpenSpec.ofChange huffmanJoinsSpec)) huffmanJoinsCard

/-- THE TIED CARD OF 'louverlaw03.HuffmanEncodes'. -/
def huffmanEncodesCard : Claim7 := { stood := { row := huffmanEncodesRow, standIns := [], harness := (true, "43961c6f4fc9798d06b5af1e7a609388ab970caccaf7ee891e9154f357eeb81f"), looks := false }, kinds := [], alts := [], laidByText := true, laidKinds := [.data], laidTests := true, laidLooks := .later }
def HuffmanEncodesCardSaid : Prop := Claim7.holds Tryd.pinned (.plain (OpenSpec.ofChange huffmanEncodesSpec)) huffmanEncodesCard

/-- THE TIED CARD OF 'louverlaw03.HuffmanDecodes'. -/
def huffmanDecodesCard : Claim7 := { stood := { row := huffmanDecodesRow, standIns := [], harness := (true, "43961c6f4fc9798d06b5af1e7a609388ab970caccaf7ee891e9154f357eeb81f"), looks := false }, kinds := [], alts := [], laidByText := true, laidKinds := [.data], laidTests := true, laidLooks := .later }
def HuffmanDecodesCardSaid : Prop := Claim7.holds Tryd.pinned (.plain (OpenSpec.ofChange huffmanDecodesSpec)) huffmanDecodesCard

/-- THE TIED CARD OF 'louverlaw03.HuffmanCuts'. -/
def huffmanCutsCard : Claim7 := { stood := { row := huffmanCutsRow, standIns := [], harness := (true, "43961c6f4fc9798d06b5af1e7a609388ab970caccaf7ee891e9154f357eeb81f"), looks := false }, kinds := [], alts := [], laidByText := true, laidKinds := [.data], laidTests := true, laidLooks := .later }
def HuffmanCutsCardSaid : Prop := Claim7.holds Tryd.pinned (.plain (OpenSpec.ofChange huffmanCutsSpec)) huffmanCutsCard

/-- THE SECOND FORM's CARD OF 'louverlaw03.HuffmanCode'. -/
def huffmanCodeUptoCard : Claim7 := { stood := { row := huffmanCodeUptoRow, standIns := [], harness := (true, "43961c6f4fc9798d06b5af1e7a609388ab970caccaf7ee891e9154f357eeb81f"), looks := false }, kinds := [], alts := [], laidByText := true, laidKinds := [.data], laidTests := true, laidLooks := .later }
def HuffmanCodeUptoCardSaid : Prop := Claim7.holds Tryd.pinned (.plain (OpenSpec.upto huffmanCodeSpec)) huffmanCodeUptoCard

/-- THE SECOND FORM's CARD OF 'louverlaw03.HuffmanFull'. -/
def huffmanFullUptoCard : Claim7 := { stood := { row := huffmanFullUptoRow, standIns := [], harness := (true, "43961c6f4fc9798d06b5af1e7a609388ab970caccaf7ee891e9154f357eeb81f"), looks := false }, kinds := [], alts := [], laidByText := true, laidKinds := [.data], laidTests := true, laidLooks := .later }
def HuffmanFullUptoCardSaid : Prop := Claim7.holds Tryd.pinned (.plain (OpenSpec.upto huffmanFullSpec)) huffmanFullUptoCard

/-- THE SECOND FORM's CARD OF 'louverlaw03.HuffmanJoins'. -/
def huffmanJoinsUptoCard : Claim7 := { stood := { row := huffmanJoinsUptoRow, standIns := [], harness := (true, "43961c6f4fc9798d06b5af1e7a609388ab970caccaf7ee891e9154f357eeb81f"), looks := false }, kinds := [], alts := [], laidByText := true, laidKinds := [.data], laidTests := true, laidLooks := .later }
def HuffmanJoinsUptoCardSaid : Prop := Claim7.holds Tryd.pinned (.plain (OpenSpec.upto huffmanJoinsSpec)) huffmanJoinsUptoCard

/-- THE SECOND FORM's CARD OF 'louverlaw03.HuffmanEncodes'. -/
def huffmanEncodesUptoCard : Claim7 := { stood := { row := huffmanEncodesUptoRow, standIns := [], harness := (true, "43961c6f4fc9798d06b5af1e7a609388ab970caccaf7ee891e9154f357eeb81f"), looks := false }, kinds := [], alts := [], laidByText := true, laidKinds := [.data], laidTests := true, laidLooks := .later }
def HuffmanEncodesUptoCardSaid : Prop := Claim7.holds Tryd.pinned (.plain (OpenSpec.upto huffmanEncodesSpec)) huffmanEncodesUptoCard

/-- THE SECOND FORM's CARD OF 'louverlaw03.HuffmanDecodes'. -/
def huffmanDecodesUptoCard : Claim7 := { stood := { row := huffmanDecodesUptoRow, standIns := [], harness := (true, "43961c6f4fc9798d06b5af1e7a609388ab970caccaf7ee891e9154f357eeb81f"), looks := false }, kinds := [], alts := [], laidByText := true, laidKinds := [.data], laidTests := true, laidLooks := .later }
def HuffmanDecodesUptoCardSaid : Prop := Claim7.holds Tryd.pinned (.plain (OpenSpec.upto huffmanDecodesSpec)) huffmanDecodesUptoCard

/-- THE SECOND FORM's CARD OF 'louverlaw03.HuffmanCuts'. -/
def huffmanCutsUptoCard : Claim7 := { stood := { row := huffmanCutsUptoRow, standIns := [], harness := (true, "43961c6f4fc9798d06b5af1e7a609388ab970caccaf7ee891e9154f357eeb81f"), looks := false }, kinds := [], alts := [], laidByText := true, laidKinds := [.data], laidTests := true, laidLooks := .later }
def HuffmanCutsUptoCardSaid : Prop := Claim7.holds Tryd.pinned (.plain (OpenSpec.upto huffmanCutsSpec)) huffmanCutsUptoCard
end Rows
end Go.Proofs.YtedfgicbignbmaaDoor
