/-
  DERIVED. GIVEN WITH THE SEED: THE CARDS: each row of YtinebjcfgmoniaaDoorRows.lean that lists a variable, with what it lists TIED to the program's text (the seventh form; the later family's looks); each row that meets fmt, with fmt's text TOLD by the authors' own Lean function (tested against real Go, not proved from fmt's source: count such statements apart). THE CARD IS WHAT COUNTS. Prove the row's statement (the work); the ties are given (YtinebjcfgmoniaaDoorTie.lean); close each card by the builder's one call (the guide's Derived/Test/ToyasCard.lean, 'card_holds'). Laid BY PROGRAM, IN A SANDBOX (cutbox-door.mjs). By AI agents, Wed Nov 11 2026. No macro, syntax, notation, axiom, sorry.
-/
import Derived.Test.YtinebjcfgmoniaaDoorRows
import GoSem.ClaimSeven
namespace Go.Proofs.YtinebjcfgmoniaaDoor
namespace Rows

/-- THE TIED CARD OF 'louverlaw06.HpackNil'. -/
def hpackNilCard : Claim7 := { stood := { row := hpackNilRow, standIns := [], harness := (true, "579213868d432182addd7334bf889c4801473dd9d9a4da6f8e4385e2ae131a67"), looks := false }, kinds := [], alts := [], laidByText := true, laidKinds := [.data, .data], laidTests := true, laidLooks := .later }
def HpackNilCardSaid : Prop := Claim7.holds Tryd.pinned (.plain (OpenSpec.ofChange hpackNilSpec)) hpackNilCard

/-- THE TIED CARD OF 'louverlaw06.HpackBack'. -/
def hpackBackCard : Claim7 := { stood := { row := hpackBackRow, standIns := [], harness := (true, "579213868d432182addd7334bf889c4801473dd9d9a4da6f8e4385e2ae131a67"), looks := false }, kinds := [], alts := [], laidByText := true, laidKinds := [.data, .data], laidTests := true, laidLooks := .later }
def HpackBackCardSaid : Prop := Claim7.holds Tryd.pinned (.plain (OpenSpec.ofChange hpackBackSpec)) hpackBackCard

/-- THE TIED CARD OF 'louverlaw06.HpackSame'. -/
def hpackSameCard : Claim7 := { stood := { row := hpackSameRow, standIns := [], harness := (true, "579213868d432182addd7334bf889c4801473dd9d9a4da6f8e4385e2ae131a67"), looks := false }, kinds := [], alts := [], laidByText := true, laidKinds := [.data, .data], laidTests := true, laidLooks := .later }
def HpackSameCardSaid : Prop := Claim7.holds Tryd.pinned (.plain (OpenSpec.ofChange hpackSameSpec)) hpackSameCard

/-- THE TIED CARD OF 'louverlaw06.HpackTwice'. -/
def hpackTwiceCard : Claim7 := { stood := { row := hpackTwiceRow, standIns := [], harness := (true, "579213868d432182addd7334bf889c4801473dd9d9a4da6f8e4385e2ae131a67"), looks := false }, kinds := [], alts := [], laidByText := true, laidKinds := [.data, .data], laidTests := true, laidLooks := .later }
def HpackTwiceCardSaid : Prop := Claim7.holds Tryd.pinned (.plain (OpenSpec.ofChange hpackTwiceSpec)) hpackTwiceCard

/-- THE TIED CARD OF 'louverlaw06.HpackGreat'. -/
def hpackGreatCard : Claim7 := { stood := { row := hpackGreatRow, standIns := [], harness := (true, "579213868d432182addd7334bf889c4801473dd9d9a4da6f8e4385e2ae131a67"), looks := false }, kinds := [], alts := [], laidByText := true, laidKinds := [.data, .data], laidTests := true, laidLooks := .later }
def HpackGreatCardSaid : Prop := Claim7.holds Tryd.pinned (.plain (OpenSpec.ofChange hpackGreatSpec)) hpackGreatCard

/-- THE TIED CARD OF 'louverlaw06.HpackGets'. -/
def hpackGetsCard : Claim7 := { stood := { row := hpackGetsRow, standIns := [], harness := (true, "579213868d432182addd7334bf889c4801473dd9d9a4da6f8e4385e2ae131a67"), looks := false }, kinds := [], alts := [], laidByText := true, laidKinds := [.data, .data], laidTests := true, laidLooks := .later }
def HpackGetsCardSaid : Prop := Claim7.holds Tryd.pinned (.plain (OpenSpec.ofChange hpackGetsSpec)) hpackGetsCard

/-- THE SECOND FORM's CARD OF 'louverlaw06.HpackNil'. -/
def hpackNilUptoCard : Claim7 := { stood := { row := hpackNilUptoRow, standIns := [], harness := (true, "579213868d432182addd7334bf889c4801473dd9d9a4da6f8e4385e2ae131a67"), looks := false }, kinds := [], alts := [], laidByText := true, laidKinds := [.data, .data], laidTests := true, laidLooks := .later }
def HpackNilUptoCardSaid : Prop := Claim7.holds Tryd.pinned (.plain (OpenSpec.upto hpackNilSpec)) hpackNilUptoCard

/-- THE SECOND FORM's CARD OF 'louverlaw06.HpackBack'. -/
def hpackBackUptoCard : Claim7 := { stood := { row := hpackBackUptoRow, standIns := [], harness := (true, "579213868d432182addd7334bf889c4801473dd9d9a4da6f8e4385e2ae131a67"), looks := false }, kinds := [], alts := [], laidByText := true, laidKinds := [.data, .data], laidTests := true, laidLooks := .later }
def HpackBackUptoCardSaid : Prop := Claim7.holds Tryd.pinned (.plain (OpenSpec.upto hpackBackSpec)) hpackBackUptoCard

/-- THE SECOND FORM's CARD OF 'louverlaw06.HpackSame'. -/
def hpackSameUptoCard : Claim7 := { stood := { row := hpackSameUptoRow, standIns := [], harness := (true, "579213868d432182addd7334bf889c4801473dd9d9a4da6f8e4385e2ae131a67"), looks := false }, kinds := [], alts := [], laidByText := true, laidKinds := [.data, .data], laidTests := true, laidLooks := .later }
def HpackSameUptoCardSaid : Prop := Claim7.holds Tryd.pinned (.plain (OpenSpec.upto hpackSameSpec)) hpackSameUptoCard

/-- THE SECOND FORM's CARD OF 'louverlaw06.HpackTwice'. -/
def hpackTwiceUptoCard : Claim7 := { stood := { row := hpackTwiceUptoRow, standIns := [], harness := (true, "579213868d432182addd7334bf889c4801473dd9d9a4da6f8e4385e2ae131a67"), looks := false }, kinds := [], alts := [], laidByText := true, laidKinds := [.data, .data], laidTests := true, laidLooks := .later }
def HpackTwiceUptoCardSaid : Prop := Claim7.holds Tryd.pinned (.plain (OpenSpec.upto hpackTwiceSpec)) hpackTwiceUptoCard

/-- THE SECOND FORM's CARD OF 'louverlaw06.HpackGreat'. -/
def hpackGreatUptoCard : Claim7 := { stood := { row := hpackGreatUptoRow, standIns := [], harness := (true, "579213868d432182addd7334bf889c4801473dd9d9a4da6f8e4385e2ae131a67"), looks := false }, kinds := [], alts := [], laidByText := true, laidKinds := [.data, .data], laidTests := true, laidLooks := .later }
def HpackGreatUptoCardSaid : Prop := Claim7.holds Tryd.pinned (.plain (OpenSpec.upto hpackGreatSpec)) hpackGreatUptoCard

/-- THE SECOND FORM's CARD OF 'louverlaw06.HpackGets'. -/
def hpackGetsUptoCard : Claim7 := { stood := { row := hpackGetsUptoRow, standIns := [], harness := (true, "579213868d432182addd7334bf889c4801473dd9d9a4da6f8e4385e2ae131a67"), looks := false }, kinds := [], alts := [], laidByText := true, laidKinds := [.data, .data], laidTests := true, laidLooks := .later }
def HpackGetsUptoCardSaid : Prop := Claim7.holds Tryd.pinned (.plain (OpenSpec.upto hpackGetsSpec)) hpackGetsUptoCard
end Rows
end Go.Proofs.YtinebjcfgmoniaaDoor
