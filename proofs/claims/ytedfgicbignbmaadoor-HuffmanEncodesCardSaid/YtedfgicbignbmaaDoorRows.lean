/-
  NARROWER THAN 'FOR EVERY INPUT', by the rows' own cells (each row's printed sentence says how): HuffmanCode: laid · HuffmanFull: laid · HuffmanJoins: laid · HuffmanEncodes: laid · HuffmanDecodes: laid · HuffmanCuts: laid.
  DERIVED. THE GIVEN ROWS OF THIS SEAT. 6 by the template 'for every input the law returns true; each argument reads behind the call as it read before'; 0 by the template 'total and deterministic' (their statements: YtedfgicbignbmaaDoorTotals.lean).
  GIVEN WITH THE SEED: the statements are not yours to turn. If you find one false, say at which input.
  Laid BY PROGRAM, IN A SANDBOX (cutbox-rows.mjs): the forced cells as the released guide's own fill.sh prints them over the translation 7e8127429d97966c… (all of the seat's roots in one cut). By AI agents, Wed Nov 11 2026. No macro, syntax, notation, axiom, sorry.
-/
import Derived.Test.YtedfgicbignbmaaDoorChecked
import GoSem.Claim
import GoSem.ClaimJoined
import GoSem.ClaimMapViews
import Derived.JoinedTies
import Derived.KernelRfl
namespace Go.Proofs.YtedfgicbignbmaaDoor
/- THE CELL 'sum', in the pinned program and in every row, IS THE sha256 OF THE DUMP (.gsa) THAT YtedfgicbignbmaaDoorProg.lean LOADS. Nothing in Lean hashes anything: it is a label: what it is worth is what the hold of that sum in a sandbox is worth. -/
noncomputable def Tryd.pinned : Pinned := { name := "ytedfgicbignbmaadoor", sum := "7e8127429d97966c33c22475789c84fb952c0c56bfd41cf2d0ae381e24a672ec", checked := Tryd.checked }
namespace Rows
def none {H : Type} : Left H := { results := [], args := [] }

/- WHAT THE LISTED PACKAGE-LEVEL VARIABLES READ AS WHEN THE CALL BEGINS. Each datum BY PROGRAM (the guide's laid-datum.mjs) off the statement by which the dump's own 'gosem.cut.vars' lays the variable. In a bare row this is a premise. The card (YtedfgicbignbmaaDoorCards.lean) ties it to the program's text. -/
def laid_louver_huffman_sizes {H : Type} : DataW H := .agg [.lit (.int .u8 13), .lit (.int .u8 23), .lit (.int .u8 28), .lit (.int .u8 28), .lit (.int .u8 28), .lit (.int .u8 28), .lit (.int .u8 28), .lit (.int .u8 28), .lit (.int .u8 28), .lit (.int .u8 24), .lit (.int .u8 30), .lit (.int .u8 28), .lit (.int .u8 28), .lit (.int .u8 30), .lit (.int .u8 28), .lit (.int .u8 28), .lit (.int .u8 28), .lit (.int .u8 28), .lit (.int .u8 28), .lit (.int .u8 28), .lit (.int .u8 28), .lit (.int .u8 28), .lit (.int .u8 30), .lit (.int .u8 28), .lit (.int .u8 28), .lit (.int .u8 28), .lit (.int .u8 28), .lit (.int .u8 28), .lit (.int .u8 28), .lit (.int .u8 28), .lit (.int .u8 28), .lit (.int .u8 28), .lit (.int .u8 6), .lit (.int .u8 10), .lit (.int .u8 10), .lit (.int .u8 12), .lit (.int .u8 13), .lit (.int .u8 6), .lit (.int .u8 8), .lit (.int .u8 11), .lit (.int .u8 10), .lit (.int .u8 10), .lit (.int .u8 8), .lit (.int .u8 11), .lit (.int .u8 8), .lit (.int .u8 6), .lit (.int .u8 6), .lit (.int .u8 6), .lit (.int .u8 5), .lit (.int .u8 5), .lit (.int .u8 5), .lit (.int .u8 6), .lit (.int .u8 6), .lit (.int .u8 6), .lit (.int .u8 6), .lit (.int .u8 6), .lit (.int .u8 6), .lit (.int .u8 6), .lit (.int .u8 7), .lit (.int .u8 8), .lit (.int .u8 15), .lit (.int .u8 6), .lit (.int .u8 12), .lit (.int .u8 10), .lit (.int .u8 13), .lit (.int .u8 6), .lit (.int .u8 7), .lit (.int .u8 7), .lit (.int .u8 7), .lit (.int .u8 7), .lit (.int .u8 7), .lit (.int .u8 7), .lit (.int .u8 7), .lit (.int .u8 7), .lit (.int .u8 7), .lit (.int .u8 7), .lit (.int .u8 7), .lit (.int .u8 7), .lit (.int .u8 7), .lit (.int .u8 7), .lit (.int .u8 7), .lit (.int .u8 7), .lit (.int .u8 7), .lit (.int .u8 7), .lit (.int .u8 7), .lit (.int .u8 7), .lit (.int .u8 7), .lit (.int .u8 7), .lit (.int .u8 8), .lit (.int .u8 7), .lit (.int .u8 8), .lit (.int .u8 13), .lit (.int .u8 19), .lit (.int .u8 13), .lit (.int .u8 14), .lit (.int .u8 6), .lit (.int .u8 15), .lit (.int .u8 5), .lit (.int .u8 6), .lit (.int .u8 5), .lit (.int .u8 6), .lit (.int .u8 5), .lit (.int .u8 6), .lit (.int .u8 6), .lit (.int .u8 6), .lit (.int .u8 5), .lit (.int .u8 7), .lit (.int .u8 7), .lit (.int .u8 6), .lit (.int .u8 6), .lit (.int .u8 6), .lit (.int .u8 5), .lit (.int .u8 6), .lit (.int .u8 7), .lit (.int .u8 6), .lit (.int .u8 5), .lit (.int .u8 5), .lit (.int .u8 6), .lit (.int .u8 7), .lit (.int .u8 7), .lit (.int .u8 7), .lit (.int .u8 7), .lit (.int .u8 7), .lit (.int .u8 15), .lit (.int .u8 11), .lit (.int .u8 14), .lit (.int .u8 13), .lit (.int .u8 28), .lit (.int .u8 20), .lit (.int .u8 22), .lit (.int .u8 20), .lit (.int .u8 20), .lit (.int .u8 22), .lit (.int .u8 22), .lit (.int .u8 22), .lit (.int .u8 23), .lit (.int .u8 22), .lit (.int .u8 23), .lit (.int .u8 23), .lit (.int .u8 23), .lit (.int .u8 23), .lit (.int .u8 23), .lit (.int .u8 24), .lit (.int .u8 23), .lit (.int .u8 24), .lit (.int .u8 24), .lit (.int .u8 22), .lit (.int .u8 23), .lit (.int .u8 24), .lit (.int .u8 23), .lit (.int .u8 23), .lit (.int .u8 23), .lit (.int .u8 23), .lit (.int .u8 21), .lit (.int .u8 22), .lit (.int .u8 23), .lit (.int .u8 22), .lit (.int .u8 23), .lit (.int .u8 23), .lit (.int .u8 24), .lit (.int .u8 22), .lit (.int .u8 21), .lit (.int .u8 20), .lit (.int .u8 22), .lit (.int .u8 22), .lit (.int .u8 23), .lit (.int .u8 23), .lit (.int .u8 21), .lit (.int .u8 23), .lit (.int .u8 22), .lit (.int .u8 22), .lit (.int .u8 24), .lit (.int .u8 21), .lit (.int .u8 22), .lit (.int .u8 23), .lit (.int .u8 23), .lit (.int .u8 21), .lit (.int .u8 21), .lit (.int .u8 22), .lit (.int .u8 21), .lit (.int .u8 23), .lit (.int .u8 22), .lit (.int .u8 23), .lit (.int .u8 23), .lit (.int .u8 20), .lit (.int .u8 22), .lit (.int .u8 22), .lit (.int .u8 22), .lit (.int .u8 23), .lit (.int .u8 22), .lit (.int .u8 22), .lit (.int .u8 23), .lit (.int .u8 26), .lit (.int .u8 26), .lit (.int .u8 20), .lit (.int .u8 19), .lit (.int .u8 22), .lit (.int .u8 23), .lit (.int .u8 22), .lit (.int .u8 25), .lit (.int .u8 26), .lit (.int .u8 26), .lit (.int .u8 26), .lit (.int .u8 27), .lit (.int .u8 27), .lit (.int .u8 26), .lit (.int .u8 24), .lit (.int .u8 25), .lit (.int .u8 19), .lit (.int .u8 21), .lit (.int .u8 26), .lit (.int .u8 27), .lit (.int .u8 27), .lit (.int .u8 26), .lit (.int .u8 27), .lit (.int .u8 24), .lit (.int .u8 21), .lit (.int .u8 21), .lit (.int .u8 26), .lit (.int .u8 26), .lit (.int .u8 28), .lit (.int .u8 27), .lit (.int .u8 27), .lit (.int .u8 27), .lit (.int .u8 20), .lit (.int .u8 24), .lit (.int .u8 20), .lit (.int .u8 21), .lit (.int .u8 22), .lit (.int .u8 21), .lit (.int .u8 21), .lit (.int .u8 23), .lit (.int .u8 22), .lit (.int .u8 22), .lit (.int .u8 25), .lit (.int .u8 25), .lit (.int .u8 24), .lit (.int .u8 24), .lit (.int .u8 26), .lit (.int .u8 23), .lit (.int .u8 26), .lit (.int .u8 27), .lit (.int .u8 26), .lit (.int .u8 26), .lit (.int .u8 27), .lit (.int .u8 27), .lit (.int .u8 27), .lit (.int .u8 27), .lit (.int .u8 27), .lit (.int .u8 28), .lit (.int .u8 27), .lit (.int .u8 27), .lit (.int .u8 27), .lit (.int .u8 27), .lit (.int .u8 27), .lit (.int .u8 26), .lit (.int .u8 30)]

/-- 'louverlaw03.HuffmanCode': WHATEVER THE INPUT: true; the input reads as it did. -/
def huffmanCodeSpec : ChangeSpec := { name := "huffmanCode", fn := fun _ => fun
  | [d1, d2] => { results := [.lit (.bool true)], args := [d1, d2] }
  | _ => none }
def huffmanCodeRow : OpenClaim := { program := "ytedfgicbignbmaadoor", sum := "7e8127429d97966c33c22475789c84fb952c0c56bfd41cf2d0ae381e24a672ec", func := "louver/louverlaw03.HuffmanCode", spec := "huffmanCode", named := ["louver/huffman.sizes"], plainKeys := false, apart := false, laid := [("louver/huffman.sizes", laid_louver_huffman_sizes)] }
def HuffmanCodeSaid : Prop := huffmanCodeRow.holds Tryd.pinned (OpenSpec.ofChange huffmanCodeSpec)

/-- ITS FALSE NEIGHBOUR: 'it returns false'. Refute it at one input. -/
def huffmanCodeWrong : ChangeSpec := { name := "huffmanCode", fn := fun _ => fun
  | [d1, d2] => { results := [.lit (.bool false)], args := [d1, d2] }
  | _ => none }
def HuffmanCodeWrongFalsely : Prop := huffmanCodeRow.holds Tryd.pinned (OpenSpec.ofChange huffmanCodeWrong)

/-- 'louverlaw03.HuffmanFull': WHATEVER THE INPUT: true; the input reads as it did. -/
def huffmanFullSpec : ChangeSpec := { name := "huffmanFull", fn := fun _ => fun
  | [d] => { results := [.lit (.bool true)], args := [d] }
  | _ => none }
def huffmanFullRow : OpenClaim := { program := "ytedfgicbignbmaadoor", sum := "7e8127429d97966c33c22475789c84fb952c0c56bfd41cf2d0ae381e24a672ec", func := "louver/louverlaw03.HuffmanFull", spec := "huffmanFull", named := ["louver/huffman.sizes"], plainKeys := false, apart := false, laid := [("louver/huffman.sizes", laid_louver_huffman_sizes)] }
def HuffmanFullSaid : Prop := huffmanFullRow.holds Tryd.pinned (OpenSpec.ofChange huffmanFullSpec)

/-- ITS FALSE NEIGHBOUR: 'it returns false'. Refute it at one input. -/
def huffmanFullWrong : ChangeSpec := { name := "huffmanFull", fn := fun _ => fun
  | [d] => { results := [.lit (.bool false)], args := [d] }
  | _ => none }
def HuffmanFullWrongFalsely : Prop := huffmanFullRow.holds Tryd.pinned (OpenSpec.ofChange huffmanFullWrong)

/-- 'louverlaw03.HuffmanJoins': WHATEVER THE INPUT: true; the input reads as it did. -/
def huffmanJoinsSpec : ChangeSpec := { name := "huffmanJoins", fn := fun _ => fun
  | [d1, d2] => { results := [.lit (.bool true)], args := [d1, d2] }
  | _ => none }
def huffmanJoinsRow : OpenClaim := { program := "ytedfgicbignbmaadoor", sum := "7e8127429d97966c33c22475789c84fb952c0c56bfd41cf2d0ae381e24a672ec", func := "louver/louverlaw03.HuffmanJoins", spec := "huffmanJoins", named := ["louver/huffman.sizes"], plainKeys := false, apart := false, laid := [("louver/huffman.sizes", laid_louver_huffman_sizes)] }
def HuffmanJoinsSaid : Prop := huffmanJoinsRow.holds Tryd.pinned (OpenSpec.ofChange huffmanJoinsSpec)

/-- ITS FALSE NEIGHBOUR: 'it returns false'. Refute it at one input. -/
def huffmanJoinsWrong : ChangeSpec := { name := "huffmanJoins", fn := fun _ => fun
  | [d1, d2] => { results := [.lit (.bool false)], args := [d1, d2] }
  | _ => none }
def HuffmanJoinsWrongFalsely : Prop := huffmanJoinsRow.holds Tryd.pinned (OpenSpec.ofChange huffmanJoinsWrong)

/-- 'louverlaw03.HuffmanEncodes': WHATEVER THE INPUT: true; the input reads as it did. -/
def huffmanEncodesSpec : ChangeSpec := { name := "huffmanEncodes", fn := fun _ => fun
  | [d] => { results := [.lit (.bool true)], args := [d] }
  | _ => none }
def huffmanEncodesRow : OpenClaim := { program := "ytedfgicbignbmaadoor", sum := "7e8127429d97966c33c22475789c84fb952c0c56bfd41cf2d0ae381e24a672ec", func := "louver/louverlaw03.HuffmanEncodes", spec := "huffmanEncodes", named := ["louver/huffman.sizes"], plainKeys := false, apart := false, laid := [("louver/huffman.sizes", laid_louver_huffman_sizes)] }
def HuffmanEncodesSaid : Prop := huffmanEncodesRow.holds Tryd.pinned (OpenSpec.ofChange huffmanEncodesSpec)

/-- ITS FALSE NEIGHBOUR: 'it returns false'. Refute it at one input. -/
def huffmanEncodesWrong : ChangeSpec := { name := "huffmanEncodes", fn := fun _ => fun
  | [d] => { results := [.lit (.bool false)], args := [d] }
  | _ => none }
def HuffmanEncodesWrongFalsely : Prop := huffmanEncodesRow.holds Tryd.pinned (OpenSpec.ofChange huffmanEncodesWrong)

/-- 'louverlaw03.HuffmanDecodes': WHATEVER THE INPUT: true; the input reads as it did. -/
def huffmanDecodesSpec : ChangeSpec := { name := "huffmanDecodes", fn := fun _ => fun
  | [d] => { results := [.lit (.bool true)], args := [d] }
  | _ => none }
def huffmanDecodesRow : OpenClaim := { program := "ytedfgicbignbmaadoor", sum := "7e8127429d97966c33c22475789c84fb952c0c56bfd41cf2d0ae381e24a672ec", func := "louver/louverlaw03.HuffmanDecodes", spec := "huffmanDecodes", named := ["louver/huffman.sizes"], plainKeys := false, apart := false, laid := [("louver/huffman.sizes", laid_louver_huffman_sizes)] }
def HuffmanDecodesSaid : Prop := huffmanDecodesRow.holds Tryd.pinned (OpenSpec.ofChange huffmanDecodesSpec)

/-- ITS FALSE NEIGHBOUR: 'it returns false'. Refute it at one input. -/
def huffmanDecodesWrong : ChangeSpec := { name := "huffmanDecodes", fn := fun _ => fun
  | [d] => { results := [.lit (.bool false)], args := [d] }
  | _ => none }
def HuffmanDecodesWrongFalsely : Prop := huffmanDecodesRow.holds Tryd.pinned (OpenSpec.ofChange huffmanDecodesWrong)

/-- 'louverlaw03.HuffmanCuts': WHATEVER THE INPUT: true; the input reads as it did. -/
def huffmanCutsSpec : ChangeSpec := { name := "huffmanCuts", fn := fun _ => fun
  | [d1, d2] => { results := [.lit (.bool true)], args := [d1, d2] }
  | _ => none }
def huffmanCutsRow : OpenClaim := { program := "ytedfgicbignbmaadoor", sum := "7e8127429d97966c33c22475789c84fb952c0c56bfd41cf2d0ae381e24a672ec", func := "louver/louverlaw03.HuffmanCuts", spec := "huffmanCuts", named := ["louver/huffman.sizes"], plainKeys := false, apart := false, laid := [("louver/huffman.sizes", laid_louver_huffman_sizes)] }
def HuffmanCutsSaid : Prop := huffmanCutsRow.holds Tryd.pinned (OpenSpec.ofChange huffmanCutsSpec)

/-- ITS FALSE NEIGHBOUR: 'it returns false'. Refute it at one input. -/
def huffmanCutsWrong : ChangeSpec := { name := "huffmanCuts", fn := fun _ => fun
  | [d1, d2] => { results := [.lit (.bool false)], args := [d1, d2] }
  | _ => none }
def HuffmanCutsWrongFalsely : Prop := huffmanCutsRow.holds Tryd.pinned (OpenSpec.ofChange huffmanCutsWrong)

/- THE SECOND FORM. 'bulk': how many values and letters a reading holds, each counted each time it is reached (what is shared counts as often as it is met; a slice's spare places count too). A statement '..UptoSaid' is the law's where the arguments, and the package variables that the reading takes, are together of bulk at most 1048576: NARROWER than '..Said'. Prove '..Said' where nothing that the law and all that it calls make is longer than what came in: it says more and counts as full. Else prove '..UptoSaid'. A law counts once. -/
mutual
def uptoBulk {H : Type} : DataW H → Nat
  | .lit (.string bytes) => bytes.length + 1
  | .lit _ => 1
  | .nil => 1
  | .ptr d => uptoBulk d + 1
  | .slice elems spare => uptoBulkAll elems + uptoBulkAll spare + 1
  | .agg parts => uptoBulkAll parts + 1
  | .iface _ d => uptoBulk d + 1
  | .map entries => uptoBulkEntries entries + 1
  | .held _ => 1
def uptoBulkAll {H : Type} : List (DataW H) → Nat
  | [] => 0
  | d :: r => uptoBulk d + uptoBulkAll r
def uptoBulkEntries {H : Type} : List (Lit × DataW H) → Nat
  | [] => 0
  | x :: r => uptoBulkEntry x + uptoBulkEntries r
def uptoBulkEntry {H : Type} : Lit × DataW H → Nat
  | (.string bytes, d) => bytes.length + uptoBulk d + 1
  | (_, d) => uptoBulk d + 1
 end
def uptoSmall : (H : Type) → List (DataW H) → Bool := fun _ ds => decide (uptoBulkAll ds ≤ 1048576)
def OpenSpec.upto (s : _root_.Go.ChangeSpec) : _root_.Go.OpenSpec := { _root_.Go.OpenSpec.ofChange s with cond := some uptoSmall }

/-- 'louverlaw03.HuffmanCode', WHERE WHAT IT READS IS OF BULK AT MOST 1048576: true; the input reads as it did. -/
def huffmanCodeUptoRow : OpenClaim := { program := "ytedfgicbignbmaadoor", sum := "7e8127429d97966c33c22475789c84fb952c0c56bfd41cf2d0ae381e24a672ec", func := "louver/louverlaw03.HuffmanCode", spec := "huffmanCode", named := ["louver/huffman.sizes"], plainKeys := false, apart := false, laid := [("louver/huffman.sizes", laid_louver_huffman_sizes)], narrowed := true }
def HuffmanCodeUptoSaid : Prop := huffmanCodeUptoRow.holds Tryd.pinned (OpenSpec.upto huffmanCodeSpec)

/-- 'louverlaw03.HuffmanFull', WHERE WHAT IT READS IS OF BULK AT MOST 1048576: true; the input reads as it did. -/
def huffmanFullUptoRow : OpenClaim := { program := "ytedfgicbignbmaadoor", sum := "7e8127429d97966c33c22475789c84fb952c0c56bfd41cf2d0ae381e24a672ec", func := "louver/louverlaw03.HuffmanFull", spec := "huffmanFull", named := ["louver/huffman.sizes"], plainKeys := false, apart := false, laid := [("louver/huffman.sizes", laid_louver_huffman_sizes)], narrowed := true }
def HuffmanFullUptoSaid : Prop := huffmanFullUptoRow.holds Tryd.pinned (OpenSpec.upto huffmanFullSpec)

/-- 'louverlaw03.HuffmanJoins', WHERE WHAT IT READS IS OF BULK AT MOST 1048576: true; the input reads as it did. -/
def huffmanJoinsUptoRow : OpenClaim := { program := "ytedfgicbignbmaadoor", sum := "7e8127429d97966c33c22475789c84fb952c0c56bfd41cf2d0ae381e24a672ec", func := "louver/louverlaw03.HuffmanJoins", spec := "huffmanJoins", named := ["louver/huffman.sizes"], plainKeys := false, apart := false, laid := [("louver/huffman.sizes", laid_louver_huffman_sizes)], narrowed := true }
def HuffmanJoinsUptoSaid : Prop := huffmanJoinsUptoRow.holds Tryd.pinned (OpenSpec.upto huffmanJoinsSpec)

/-- 'louverlaw03.HuffmanEncodes', WHERE WHAT IT READS IS OF BULK AT MOST 1048576: true; the input reads as it did. -/
def huffmanEncodesUptoRow : OpenClaim := { program := "ytedfgicbignbmaadoor", sum := "7e8127429d97966c33c22475789c84fb952c0c56bfd41cf2d0ae381e24a672ec", func := "louver/louverlaw03.HuffmanEncodes", spec := "huffmanEncodes", named := ["louver/huffman.sizes"], plainKeys := false, apart := false, laid := [("louver/huffman.sizes", laid_louver_huffman_sizes)], narrowed := true }
def HuffmanEncodesUptoSaid : Prop := huffmanEncodesUptoRow.holds Tryd.pinned (OpenSpec.upto huffmanEncodesSpec)

/-- 'louverlaw03.HuffmanDecodes', WHERE WHAT IT READS IS OF BULK AT MOST 1048576: true; the input reads as it did. -/
def huffmanDecodesUptoRow : OpenClaim := { program := "ytedfgicbignbmaadoor", sum := "7e8127429d97966c33c22475789c84fb952c0c56bfd41cf2d0ae381e24a672ec", func := "louver/louverlaw03.HuffmanDecodes", spec := "huffmanDecodes", named := ["louver/huffman.sizes"], plainKeys := false, apart := false, laid := [("louver/huffman.sizes", laid_louver_huffman_sizes)], narrowed := true }
def HuffmanDecodesUptoSaid : Prop := huffmanDecodesUptoRow.holds Tryd.pinned (OpenSpec.upto huffmanDecodesSpec)

/-- 'louverlaw03.HuffmanCuts', WHERE WHAT IT READS IS OF BULK AT MOST 1048576: true; the input reads as it did. -/
def huffmanCutsUptoRow : OpenClaim := { program := "ytedfgicbignbmaadoor", sum := "7e8127429d97966c33c22475789c84fb952c0c56bfd41cf2d0ae381e24a672ec", func := "louver/louverlaw03.HuffmanCuts", spec := "huffmanCuts", named := ["louver/huffman.sizes"], plainKeys := false, apart := false, laid := [("louver/huffman.sizes", laid_louver_huffman_sizes)], narrowed := true }
def HuffmanCutsUptoSaid : Prop := huffmanCutsUptoRow.holds Tryd.pinned (OpenSpec.upto huffmanCutsSpec)

end Rows
end Go.Proofs.YtedfgicbignbmaaDoor
