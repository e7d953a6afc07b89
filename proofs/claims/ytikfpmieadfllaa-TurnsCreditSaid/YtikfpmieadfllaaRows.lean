/-
  No cell of these rows narrows 'for every input' (looked for: loops, veiled, ifaces, maps, wideKeys, modest, calm, conditions, laid).
  DERIVED. THE GIVEN ROWS OF THIS SEAT. 5 by the template 'for every input the law returns true; each argument reads behind the call as it read before'; 0 by the template 'total and deterministic' (their statements: YtikfpmieadfllaaTotals.lean).
  GIVEN WITH THE SEED: the statements are not yours to turn. If you find one false, say at which input.
  Laid BY PROGRAM, IN A SANDBOX (cutbox-rows.mjs): the forced cells as the released guide's own fill.sh prints them over the translation c0332fa8e8e368d3… (all of the seat's roots in one cut). By AI agents, Wed Nov 11 2026. No macro, syntax, notation, axiom, sorry.
-/
import Derived.Test.YtikfpmieadfllaaChecked
import GoSem.Claim
import GoSem.ClaimJoined
import GoSem.ClaimMapViews
import Derived.JoinedTies
import Derived.KernelRfl
namespace Go.Proofs.Ytikfpmieadfllaa
/- THE CELL 'sum', in the pinned program and in every row, IS THE sha256 OF THE DUMP (.gsa) THAT YtikfpmieadfllaaProg.lean LOADS. Nothing in Lean hashes anything: it is a label: what it is worth is what the hold of that sum in a sandbox is worth. -/
noncomputable def Try.pinned : Pinned := { name := "ytikfpmieadfllaa", sum := "c0332fa8e8e368d34028b216243fc3725b5d48485172e456bae60ad2662c7490", checked := Try.checked }
namespace Rows
def none {H : Type} : Left H := { results := [], args := [] }

/-- 'louverlaw13.TurnsFair': WHATEVER THE INPUT: true; the input reads as it did. -/
def turnsFairSpec : ChangeSpec := { name := "turnsFair", fn := fun _ => fun
  | [d1, d2] => { results := [.lit (.bool true)], args := [d1, d2] }
  | _ => none }
def turnsFairRow : OpenClaim := { program := "ytikfpmieadfllaa", sum := "c0332fa8e8e368d34028b216243fc3725b5d48485172e456bae60ad2662c7490", func := "louver/louverlaw13.TurnsFair", spec := "turnsFair", unfollowed := true, recurses := true, apart := false }
def TurnsFairSaid : Prop := turnsFairRow.holds Try.pinned (OpenSpec.ofChange turnsFairSpec)

/-- ITS FALSE NEIGHBOUR: 'it returns false'. Refute it at one input. -/
def turnsFairWrong : ChangeSpec := { name := "turnsFair", fn := fun _ => fun
  | [d1, d2] => { results := [.lit (.bool false)], args := [d1, d2] }
  | _ => none }
def TurnsFairWrongFalsely : Prop := turnsFairRow.holds Try.pinned (OpenSpec.ofChange turnsFairWrong)

/-- 'louverlaw13.TurnsEnds': WHATEVER THE INPUT: true; the input reads as it did. -/
def turnsEndsSpec : ChangeSpec := { name := "turnsEnds", fn := fun _ => fun
  | [d1, d2] => { results := [.lit (.bool true)], args := [d1, d2] }
  | _ => none }
def turnsEndsRow : OpenClaim := { program := "ytikfpmieadfllaa", sum := "c0332fa8e8e368d34028b216243fc3725b5d48485172e456bae60ad2662c7490", func := "louver/louverlaw13.TurnsEnds", spec := "turnsEnds", unfollowed := true, recurses := true, apart := false }
def TurnsEndsSaid : Prop := turnsEndsRow.holds Try.pinned (OpenSpec.ofChange turnsEndsSpec)

/-- ITS FALSE NEIGHBOUR: 'it returns false'. Refute it at one input. -/
def turnsEndsWrong : ChangeSpec := { name := "turnsEnds", fn := fun _ => fun
  | [d1, d2] => { results := [.lit (.bool false)], args := [d1, d2] }
  | _ => none }
def TurnsEndsWrongFalsely : Prop := turnsEndsRow.holds Try.pinned (OpenSpec.ofChange turnsEndsWrong)

/-- 'louverlaw13.TurnsCredit': WHATEVER THE INPUT: true; the input reads as it did. -/
def turnsCreditSpec : ChangeSpec := { name := "turnsCredit", fn := fun _ => fun
  | [d1, d2] => { results := [.lit (.bool true)], args := [d1, d2] }
  | _ => none }
def turnsCreditRow : OpenClaim := { program := "ytikfpmieadfllaa", sum := "c0332fa8e8e368d34028b216243fc3725b5d48485172e456bae60ad2662c7490", func := "louver/louverlaw13.TurnsCredit", spec := "turnsCredit", unfollowed := true, recurses := true, apart := false }
def TurnsCreditSaid : Prop := turnsCreditRow.holds Try.pinned (OpenSpec.ofChange turnsCreditSpec)

/-- ITS FALSE NEIGHBOUR: 'it returns false'. Refute it at one input. -/
def turnsCreditWrong : ChangeSpec := { name := "turnsCredit", fn := fun _ => fun
  | [d1, d2] => { results := [.lit (.bool false)], args := [d1, d2] }
  | _ => none }
def TurnsCreditWrongFalsely : Prop := turnsCreditRow.holds Try.pinned (OpenSpec.ofChange turnsCreditWrong)

/-- 'louverlaw13.TurnsPlays': WHATEVER THE INPUT: true; the input reads as it did. -/
def turnsPlaysSpec : ChangeSpec := { name := "turnsPlays", fn := fun _ => fun
  | [d1, d2] => { results := [.lit (.bool true)], args := [d1, d2] }
  | _ => none }
def turnsPlaysRow : OpenClaim := { program := "ytikfpmieadfllaa", sum := "c0332fa8e8e368d34028b216243fc3725b5d48485172e456bae60ad2662c7490", func := "louver/louverlaw13.TurnsPlays", spec := "turnsPlays", unfollowed := true, recurses := true, apart := false }
def TurnsPlaysSaid : Prop := turnsPlaysRow.holds Try.pinned (OpenSpec.ofChange turnsPlaysSpec)

/-- ITS FALSE NEIGHBOUR: 'it returns false'. Refute it at one input. -/
def turnsPlaysWrong : ChangeSpec := { name := "turnsPlays", fn := fun _ => fun
  | [d1, d2] => { results := [.lit (.bool false)], args := [d1, d2] }
  | _ => none }
def TurnsPlaysWrongFalsely : Prop := turnsPlaysRow.holds Try.pinned (OpenSpec.ofChange turnsPlaysWrong)

/-- 'louverlaw13.TurnsNil': WHATEVER THE INPUT: true; the input reads as it did. -/
def turnsNilSpec : ChangeSpec := { name := "turnsNil", fn := fun _ => fun
  | [d1, d2, d3] => { results := [.lit (.bool true)], args := [d1, d2, d3] }
  | _ => none }
def turnsNilRow : OpenClaim := { program := "ytikfpmieadfllaa", sum := "c0332fa8e8e368d34028b216243fc3725b5d48485172e456bae60ad2662c7490", func := "louver/louverlaw13.TurnsNil", spec := "turnsNil", unfollowed := true, recurses := true, apart := false }
def TurnsNilSaid : Prop := turnsNilRow.holds Try.pinned (OpenSpec.ofChange turnsNilSpec)

/-- ITS FALSE NEIGHBOUR: 'it returns false'. Refute it at one input. -/
def turnsNilWrong : ChangeSpec := { name := "turnsNil", fn := fun _ => fun
  | [d1, d2, d3] => { results := [.lit (.bool false)], args := [d1, d2, d3] }
  | _ => none }
def TurnsNilWrongFalsely : Prop := turnsNilRow.holds Try.pinned (OpenSpec.ofChange turnsNilWrong)

/- THE SECOND FORM. 'bulk': how many values and letters a reading holds, each counted each time it is reached (what is shared counts as often as it is met; a slice's spare places count too). A statement '..UptoSaid' is the law's where the arguments, and the package variables that the reading takes, are together of bulk at most 1048576: NARROWER than '..Said'. Prove '..Said' where nothing that the law and all that it calls make is longer than what came in: it says more and counts as full. Else prove '..UptoSaid'. A law counts once. -/
mutual
def uptoBulk {H : Type} : DataW H → Nat
  | .lit (.string bytes) => bytes.length + 1
  | .lit _ => 1
  | .nil => 1
  | .ptr d => uptoBulk d + 1
  | .slice elems spare => uptoBulkAll elems + uptoBulkAll spare + 1
  | .agg parts => uptoBulkAll parts + 1
  | .iface _ d => uptoBulk d + 1
  | .map entries => uptoBulkEntries entries + 1
  | .held _ => 1
def uptoBulkAll {H : Type} : List (DataW H) → Nat
  | [] => 0
  | d :: r => uptoBulk d + uptoBulkAll r
def uptoBulkEntries {H : Type} : List (Lit × DataW H) → Nat
  | [] => 0
  | x :: r => uptoBulkEntry x + uptoBulkEntries r
def uptoBulkEntry {H : Type} : Lit × DataW H → Nat
  | (.string bytes, d) => bytes.length + uptoBulk d + 1
  | (_, d) => uptoBulk d + 1
 end
def uptoSmall : (H : Type) → List (DataW H) → Bool := fun _ ds => decide (uptoBulkAll ds ≤ 1048576)
def OpenSpec.upto (s : _root_.Go.ChangeSpec) : _root_.Go.OpenSpec := { _root_.Go.OpenSpec.ofChange s with cond := some uptoSmall }

/-- 'louverlaw13.TurnsFair', WHERE WHAT IT READS IS OF BULK AT MOST 1048576: true; the input reads as it did. -/
def turnsFairUptoRow : OpenClaim := { program := "ytikfpmieadfllaa", sum := "c0332fa8e8e368d34028b216243fc3725b5d48485172e456bae60ad2662c7490", func := "louver/louverlaw13.TurnsFair", spec := "turnsFair", unfollowed := true, recurses := true, apart := false, narrowed := true }
def TurnsFairUptoSaid : Prop := turnsFairUptoRow.holds Try.pinned (OpenSpec.upto turnsFairSpec)

/-- 'louverlaw13.TurnsEnds', WHERE WHAT IT READS IS OF BULK AT MOST 1048576: true; the input reads as it did. -/
def turnsEndsUptoRow : OpenClaim := { program := "ytikfpmieadfllaa", sum := "c0332fa8e8e368d34028b216243fc3725b5d48485172e456bae60ad2662c7490", func := "louver/louverlaw13.TurnsEnds", spec := "turnsEnds", unfollowed := true, recurses := true, apart := false, narrowed := true }
def TurnsEndsUptoSaid : Prop := turnsEndsUptoRow.holds Try.pinned (OpenSpec.upto turnsEndsSpec)

/-- 'louverlaw13.TurnsCredit', WHERE WHAT IT READS IS OF BULK AT MOST 1048576: true; the input reads as it did. -/
def turnsCreditUptoRow : OpenClaim := { program := "ytikfpmieadfllaa", sum := "c0332fa8e8e368d34028b216243fc3725b5d48485172e456bae60ad2662c7490", func := "louver/louverlaw13.TurnsCredit", spec := "turnsCredit", unfollowed := true, recurses := true, apart := false, narrowed := true }
def TurnsCreditUptoSaid : Prop := turnsCreditUptoRow.holds Try.pinned (OpenSpec.upto turnsCreditSpec)

/-- 'louverlaw13.TurnsPlays', WHERE WHAT IT READS IS OF BULK AT MOST 1048576: true; the input reads as it did. -/
def turnsPlaysUptoRow : OpenClaim := { program := "ytikfpmieadfllaa", sum := "c0332fa8e8e368d34028b216243fc3725b5d48485172e456bae60ad2662c7490", func := "louver/louverlaw13.TurnsPlays", spec := "turnsPlays", unfollowed := true, recurses := true, apart := false, narrowed := true }
def TurnsPlaysUptoSaid : Prop := turnsPlaysUptoRow.holds Try.pinned (OpenSpec.upto turnsPlaysSpec)

/-- 'louverlaw13.TurnsNil', WHERE WHAT IT READS IS OF BULK AT MOST 1048576: true; the input reads as it did. -/
def turnsNilUptoRow : OpenClaim := { program := "ytikfpmieadfllaa", sum := "c0332fa8e8e368d34028b216243fc3725b5d48485172e456bae60ad2662c7490", func := "louver/louverlaw13.TurnsNil", spec := "turnsNil", unfollowed := true, recurses := true, apart := false, narrowed := true }
def TurnsNilUptoSaid : Prop := turnsNilUptoRow.holds Try.pinned (OpenSpec.upto turnsNilSpec)

end Rows
end Go.Proofs.Ytikfpmieadfllaa
