/-
  DERIVED. GIVEN WITH THE SEED: THE CARDS: each row of YtgbkllnfjehfcaaDoorRows.lean that lists a variable, with what it lists TIED to the program's text (the seventh form; the later family's looks); each row that meets fmt, with fmt's text TOLD by the authors' own Lean function (tested against real Go, not proved from fmt's source: count such statements apart). THE CARD IS WHAT COUNTS. Prove the row's statement (the work); the ties are given (YtgbkllnfjehfcaaDoorTie.lean); close each card by the builder's one call (the guide's Derived/Test/ToyasCard.lean, 'card_holds'). Laid BY PROGRAM, IN A SANDBOX (cutbox-door.mjs). By AI agents, Wed Nov 11 2026. No macro, syntax, notation, axiom, sorry.
-/
import Derived.Test.YtgbkllnfjehfcaaDoorRows
import GoSem.ClaimSeven
namespace Go.Proofs.YtgbkllnfjehfcaaDoor
namespace Rows

/-- THE TIED CARD OF 'louverlaw05.DyntableOldest'. -/
def dyntableOldestCard : Claim7 := { stood := { row := dyntableOldestRow, standIns := [], harness := (true, "4c5609caece91af1031f757019920a0fd2663bc2b0cf070720722adfc88d7bb4"), looks := false }, kinds := [], alts := [], laidByText := true, laidKinds := [.data], laidTests := true, laidLooks := .later }
def DyntableOldestCardSaid : Prop := Claim7.holds Tryd.pinned (.plain (OpenSpec.ofChange dyntableOldestSpec)) dyntableOldestCard

/-- THE TIED CARD OF 'louverlaw05.DyntableSame'. -/
def dyntableSameCard : Claim7 := { stood := { row := dyntableSameRow, standIns := [], harness := (true, "4c5609caece91af1031f757019920a0fd2663bc2b0cf070720722adfc88d7bb4"), looks := false }, kinds := [], alts := [], laidByText := true, laidKinds := [.data], laidTests := true, laidLooks := .later }
def DyntableSameCardSaid : Prop := Claim7.holds Tryd.pinned (.plain (OpenSpec.ofChange dyntableSameSpec)) dyntableSameCard

/-- THE TIED CARD OF 'louverlaw05.DyntablePlays'. -/
def dyntablePlaysCard : Claim7 := { stood := { row := dyntablePlaysRow, standIns := [], harness := (true, "4c5609caece91af1031f757019920a0fd2663bc2b0cf070720722adfc88d7bb4"), looks := false }, kinds := [], alts := [], laidByText := true, laidKinds := [.data], laidTests := true, laidLooks := .later }
def DyntablePlaysCardSaid : Prop := Claim7.holds Tryd.pinned (.plain (OpenSpec.ofChange dyntablePlaysSpec)) dyntablePlaysCard

/-- THE TIED CARD OF 'louverlaw05.DyntableNil'. -/
def dyntableNilCard : Claim7 := { stood := { row := dyntableNilRow, standIns := [], harness := (true, "4c5609caece91af1031f757019920a0fd2663bc2b0cf070720722adfc88d7bb4"), looks := false }, kinds := [], alts := [], laidByText := true, laidKinds := [.data], laidTests := true, laidLooks := .later }
def DyntableNilCardSaid : Prop := Claim7.holds Tryd.pinned (.plain (OpenSpec.ofChange dyntableNilSpec)) dyntableNilCard

/-- THE SECOND FORM's CARD OF 'louverlaw05.DyntableOldest'. -/
def dyntableOldestUptoCard : Claim7 := { stood := { row := dyntableOldestUptoRow, standIns := [], harness := (true, "4c5609caece91af1031f757019920a0fd2663bc2b0cf070720722adfc88d7bb4"), looks := false }, kinds := [], alts := [], laidByText := true, laidKinds := [.data], laidTests := true, laidLooks := .later }
def DyntableOldestUptoCardSaid : Prop := Claim7.holds Tryd.pinned (.plain (OpenSpec.upto dyntableOldestSpec)) dyntableOldestUptoCard

/-- THE SECOND FORM's CARD OF 'louverlaw05.DyntableSame'. -/
def dyntableSameUptoCard : Claim7 := { stood := { row := dyntableSameUptoRow, standIns := [], harness := (true, "4c5609caece91af1031f757019920a0fd2663bc2b0cf070720722adfc88d7bb4"), looks := false }, kinds := [], alts := [], laidByText := true, laidKinds := [.data], laidTests := true, laidLooks := .later }
def DyntableSameUptoCardSaid : Prop := Claim7.holds Tryd.pinned (.plain (OpenSpec.upto dyntableSameSpec)) dyntableSameUptoCard

/-- THE SECOND FORM's CARD OF 'louverlaw05.DyntablePlays'. -/
def dyntablePlaysUptoCard : Claim7 := { stood := { row := dyntablePlaysUptoRow, standIns := [], harness := (true, "4c5609caece91af1031f757019920a0fd2663bc2b0cf070720722adfc88d7bb4"), looks := false }, kinds := [], alts := [], laidByText := true, laidKinds := [.data], laidTests := true, laidLooks := .later }
def DyntablePlaysUptoCardSaid : Prop := Claim7.holds Tryd.pinned (.plain (OpenSpec.upto dyntablePlaysSpec)) dyntablePlaysUptoCard

/-- THE SECOND FORM's CARD OF 'louverlaw05.DyntableNil'. -/
def dyntableNilUptoCard : Claim7 := { stood := { row := dyntableNilUptoRow, standIns := [], harness := (true, "4c5609caece91af1031f757019920a0fd2663bc2b0cf070720722adfc88d7bb4"), looks := false }, kinds := [], alts := [], laidByText := true, laidKinds := [.data], laidTests := true, laidLooks := .later }
def DyntableNilUptoCardSaid : Prop := Claim7.holds Tryd.pinned (.plain (OpenSpec.upto dyntableNilSpec)) dyntableNilUptoCard
end Rows
end Go.Proofs.YtgbkllnfjehfcaaDoor
