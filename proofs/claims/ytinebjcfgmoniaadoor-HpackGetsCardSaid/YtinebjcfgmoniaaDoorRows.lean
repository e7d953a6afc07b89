/-
  NARROWER THAN 'FOR EVERY INPUT', by the rows' own cells (each row's printed sentence says how): HpackNil: laid · HpackBack: laid · HpackSame: laid · HpackTwice: laid · HpackGreat: laid · HpackGets: laid.
  DERIVED. THE GIVEN ROWS OF THIS SEAT. 6 by the template 'for every input the law returns true; each argument reads behind the call as it read before'; 0 by the template 'total and deterministic' (their statements: YtinebjcfgmoniaaDoorTotals.lean).
  GIVEN WITH THE SEED: the statements are not yours to turn. If you find one false, say at which input.
  Laid BY PROGRAM, IN A SANDBOX (cutbox-rows.mjs): the forced cells as the released guide's own fill.sh prints them over the translation 4dfac11f78ced863… (all of the seat's roots in one cut). By AI agents, Wed Nov 11 2026. No macro, syntax, notation, axiom, sorry.
-/
import Derived.Test.YtinebjcfgmoniaaDoorChecked
import GoSem.Claim
import GoSem.ClaimJoined
import GoSem.ClaimMapViews
import Derived.JoinedTies
import Derived.KernelRfl
namespace Go.Proofs.YtinebjcfgmoniaaDoor
/- THE CELL 'sum', in the pinned program and in every row, IS THE sha256 OF THE DUMP (.gsa) THAT YtinebjcfgmoniaaDoorProg.lean LOADS. Nothing in Lean hashes anything: it is a label: what it is worth is what the hold of that sum in a sandbox is worth. -/
noncomputable def Tryd.pinned : Pinned := { name := "ytinebjcfgmoniaadoor", sum := "4dfac11f78ced86307583af222a9421270ede1dce466bcab614b095108740d01", checked := Tryd.checked }
namespace Rows
def none {H : Type} : Left H := { results := [], args := [] }

/- WHAT THE LISTED PACKAGE-LEVEL VARIABLES READ AS WHEN THE CALL BEGINS. Each datum BY PROGRAM (the guide's laid-datum.mjs) off the statement by which the dump's own 'gosem.cut.vars' lays the variable. In a bare row this is a premise. The card (YtinebjcfgmoniaaDoorCards.lean) ties it to the program's text. -/
def laid_louver_huffman_sizes {H : Type} : DataW H := .agg [.lit (.int .u8 13), .lit (.int .u8 23), .lit (.int .u8 28), .lit (.int .u8 28), .lit (.int .u8 28), .lit (.int .u8 28), .lit (.int .u8 28), .lit (.int .u8 28), .lit (.int .u8 28), .lit (.int .u8 24), .lit (.int .u8 30), .lit (.int .u8 28), .lit (.int .u8 28), .lit (.int .u8 30), .lit (.int .u8 28), .lit (.int .u8 28), .lit (.int .u8 28), .lit (.int .u8 28), .lit (.int .u8 28), .lit (.int .u8 28), .lit (.int .u8 28), .lit (.int .u8 28), .lit (.int .u8 30), .lit (.int .u8 28), .lit (.int .u8 28), .lit (.int .u8 28), .lit (.int .u8 28), .lit (.int .u8 28), .lit (.int .u8 28), .lit (.int .u8 28), .lit (.int .u8 28), .lit (.int .u8 28), .lit (.int .u8 6), .lit (.int .u8 10), .lit (.int .u8 10), .lit (.int .u8 12), .lit (.int .u8 13), .lit (.int .u8 6), .lit (.int .u8 8), .lit (.int .u8 11), .lit (.int .u8 10), .lit (.int .u8 10), .lit (.int .u8 8), .lit (.int .u8 11), .lit (.int .u8 8), .lit (.int .u8 6), .lit (.int .u8 6), .lit (.int .u8 6), .lit (.int .u8 5), .lit (.int .u8 5), .lit (.int .u8 5), .lit (.int .u8 6), .lit (.int .u8 6), .lit (.int .u8 6), .lit (.int .u8 6), .lit (.int .u8 6), .lit (.int .u8 6), .lit (.int .u8 6), .lit (.int .u8 7), .lit (.int .u8 8), .lit (.int .u8 15), .lit (.int .u8 6), .lit (.int .u8 12), .lit (.int .u8 10), .lit (.int .u8 13), .lit (.int .u8 6), .lit (.int .u8 7), .lit (.int .u8 7), .lit (.int .u8 7), .lit (.int .u8 7), .lit (.int .u8 7), .lit (.int .u8 7), .lit (.int .u8 7), .lit (.int .u8 7), .lit (.int .u8 7), .lit (.int .u8 7), .lit (.int .u8 7), .lit (.int .u8 7), .lit (.int .u8 7), .lit (.int .u8 7), .lit (.int .u8 7), .lit (.int .u8 7), .lit (.int .u8 7), .lit (.int .u8 7), .lit (.int .u8 7), .lit (.int .u8 7), .lit (.int .u8 7), .lit (.int .u8 7), .lit (.int .u8 8), .lit (.int .u8 7), .lit (.int .u8 8), .lit (.int .u8 13), .lit (.int .u8 19), .lit (.int .u8 13), .lit (.int .u8 14), .lit (.int .u8 6), .lit (.int .u8 15), .lit (.int .u8 5), .lit (.int .u8 6), .lit (.int .u8 5), .lit (.int .u8 6), .lit (.int .u8 5), .lit (.int .u8 6), .lit (.int .u8 6), .lit (.int .u8 6), .lit (.int .u8 5), .lit (.int .u8 7), .lit (.int .u8 7), .lit (.int .u8 6), .lit (.int .u8 6), .lit (.int .u8 6), .lit (.int .u8 5), .lit (.int .u8 6), .lit (.int .u8 7), .lit (.int .u8 6), .lit (.int .u8 5), .lit (.int .u8 5), .lit (.int .u8 6), .lit (.int .u8 7), .lit (.int .u8 7), .lit (.int .u8 7), .lit (.int .u8 7), .lit (.int .u8 7), .lit (.int .u8 15), .lit (.int .u8 11), .lit (.int .u8 14), .lit (.int .u8 13), .lit (.int .u8 28), .lit (.int .u8 20), .lit (.int .u8 22), .lit (.int .u8 20), .lit (.int .u8 20), .lit (.int .u8 22), .lit (.int .u8 22), .lit (.int .u8 22), .lit (.int .u8 23), .lit (.int .u8 22), .lit (.int .u8 23), .lit (.int .u8 23), .lit (.int .u8 23), .lit (.int .u8 23), .lit (.int .u8 23), .lit (.int .u8 24), .lit (.int .u8 23), .lit (.int .u8 24), .lit (.int .u8 24), .lit (.int .u8 22), .lit (.int .u8 23), .lit (.int .u8 24), .lit (.int .u8 23), .lit (.int .u8 23), .lit (.int .u8 23), .lit (.int .u8 23), .lit (.int .u8 21), .lit (.int .u8 22), .lit (.int .u8 23), .lit (.int .u8 22), .lit (.int .u8 23), .lit (.int .u8 23), .lit (.int .u8 24), .lit (.int .u8 22), .lit (.int .u8 21), .lit (.int .u8 20), .lit (.int .u8 22), .lit (.int .u8 22), .lit (.int .u8 23), .lit (.int .u8 23), .lit (.int .u8 21), .lit (.int .u8 23), .lit (.int .u8 22), .lit (.int .u8 22), .lit (.int .u8 24), .lit (.int .u8 21), .lit (.int .u8 22), .lit (.int .u8 23), .lit (.int .u8 23), .lit (.int .u8 21), .lit (.int .u8 21), .lit (.int .u8 22), .lit (.int .u8 21), .lit (.int .u8 23), .lit (.int .u8 22), .lit (.int .u8 23), .lit (.int .u8 23), .lit (.int .u8 20), .lit (.int .u8 22), .lit (.int .u8 22), .lit (.int .u8 22), .lit (.int .u8 23), .lit (.int .u8 22), .lit (.int .u8 22), .lit (.int .u8 23), .lit (.int .u8 26), .lit (.int .u8 26), .lit (.int .u8 20), .lit (.int .u8 19), .lit (.int .u8 22), .lit (.int .u8 23), .lit (.int .u8 22), .lit (.int .u8 25), .lit (.int .u8 26), .lit (.int .u8 26), .lit (.int .u8 26), .lit (.int .u8 27), .lit (.int .u8 27), .lit (.int .u8 26), .lit (.int .u8 24), .lit (.int .u8 25), .lit (.int .u8 19), .lit (.int .u8 21), .lit (.int .u8 26), .lit (.int .u8 27), .lit (.int .u8 27), .lit (.int .u8 26), .lit (.int .u8 27), .lit (.int .u8 24), .lit (.int .u8 21), .lit (.int .u8 21), .lit (.int .u8 26), .lit (.int .u8 26), .lit (.int .u8 28), .lit (.int .u8 27), .lit (.int .u8 27), .lit (.int .u8 27), .lit (.int .u8 20), .lit (.int .u8 24), .lit (.int .u8 20), .lit (.int .u8 21), .lit (.int .u8 22), .lit (.int .u8 21), .lit (.int .u8 21), .lit (.int .u8 23), .lit (.int .u8 22), .lit (.int .u8 22), .lit (.int .u8 25), .lit (.int .u8 25), .lit (.int .u8 24), .lit (.int .u8 24), .lit (.int .u8 26), .lit (.int .u8 23), .lit (.int .u8 26), .lit (.int .u8 27), .lit (.int .u8 26), .lit (.int .u8 26), .lit (.int .u8 27), .lit (.int .u8 27), .lit (.int .u8 27), .lit (.int .u8 27), .lit (.int .u8 27), .lit (.int .u8 28), .lit (.int .u8 27), .lit (.int .u8 27), .lit (.int .u8 27), .lit (.int .u8 27), .lit (.int .u8 27), .lit (.int .u8 26), .lit (.int .u8 30)]
def laid_louver_statics_known {H : Type} : DataW H := .agg [.agg [.lit (.string [58, 97, 117, 116, 104, 111, 114, 105, 116, 121]), .lit (.string []), .lit (.bool false)], .agg [.lit (.string [58, 109, 101, 116, 104, 111, 100]), .lit (.string [71, 69, 84]), .lit (.bool false)], .agg [.lit (.string [58, 109, 101, 116, 104, 111, 100]), .lit (.string [80, 79, 83, 84]), .lit (.bool false)], .agg [.lit (.string [58, 112, 97, 116, 104]), .lit (.string [47]), .lit (.bool false)], .agg [.lit (.string [58, 112, 97, 116, 104]), .lit (.string [47, 105, 110, 100, 101, 120, 46, 104, 116, 109, 108]), .lit (.bool false)], .agg [.lit (.string [58, 115, 99, 104, 101, 109, 101]), .lit (.string [104, 116, 116, 112]), .lit (.bool false)], .agg [.lit (.string [58, 115, 99, 104, 101, 109, 101]), .lit (.string [104, 116, 116, 112, 115]), .lit (.bool false)], .agg [.lit (.string [58, 115, 116, 97, 116, 117, 115]), .lit (.string [50, 48, 48]), .lit (.bool false)], .agg [.lit (.string [58, 115, 116, 97, 116, 117, 115]), .lit (.string [50, 48, 52]), .lit (.bool false)], .agg [.lit (.string [58, 115, 116, 97, 116, 117, 115]), .lit (.string [50, 48, 54]), .lit (.bool false)], .agg [.lit (.string [58, 115, 116, 97, 116, 117, 115]), .lit (.string [51, 48, 52]), .lit (.bool false)], .agg [.lit (.string [58, 115, 116, 97, 116, 117, 115]), .lit (.string [52, 48, 48]), .lit (.bool false)], .agg [.lit (.string [58, 115, 116, 97, 116, 117, 115]), .lit (.string [52, 48, 52]), .lit (.bool false)], .agg [.lit (.string [58, 115, 116, 97, 116, 117, 115]), .lit (.string [53, 48, 48]), .lit (.bool false)], .agg [.lit (.string [97, 99, 99, 101, 112, 116, 45, 99, 104, 97, 114, 115, 101, 116]), .lit (.string []), .lit (.bool false)], .agg [.lit (.string [97, 99, 99, 101, 112, 116, 45, 101, 110, 99, 111, 100, 105, 110, 103]), .lit (.string [103, 122, 105, 112, 44, 32, 100, 101, 102, 108, 97, 116, 101]), .lit (.bool false)], .agg [.lit (.string [97, 99, 99, 101, 112, 116, 45, 108, 97, 110, 103, 117, 97, 103, 101]), .lit (.string []), .lit (.bool false)], .agg [.lit (.string [97, 99, 99, 101, 112, 116, 45, 114, 97, 110, 103, 101, 115]), .lit (.string []), .lit (.bool false)], .agg [.lit (.string [97, 99, 99, 101, 112, 116]), .lit (.string []), .lit (.bool false)], .agg [.lit (.string [97, 99, 99, 101, 115, 115, 45, 99, 111, 110, 116, 114, 111, 108, 45, 97, 108, 108, 111, 119, 45, 111, 114, 105, 103, 105, 110]), .lit (.string []), .lit (.bool false)], .agg [.lit (.string [97, 103, 101]), .lit (.string []), .lit (.bool false)], .agg [.lit (.string [97, 108, 108, 111, 119]), .lit (.string []), .lit (.bool false)], .agg [.lit (.string [97, 117, 116, 104, 111, 114, 105, 122, 97, 116, 105, 111, 110]), .lit (.string []), .lit (.bool false)], .agg [.lit (.string [99, 97, 99, 104, 101, 45, 99, 111, 110, 116, 114, 111, 108]), .lit (.string []), .lit (.bool false)], .agg [.lit (.string [99, 111, 110, 116, 101, 110, 116, 45, 100, 105, 115, 112, 111, 115, 105, 116, 105, 111, 110]), .lit (.string []), .lit (.bool false)], .agg [.lit (.string [99, 111, 110, 116, 101, 110, 116, 45, 101, 110, 99, 111, 100, 105, 110, 103]), .lit (.string []), .lit (.bool false)], .agg [.lit (.string [99, 111, 110, 116, 101, 110, 116, 45, 108, 97, 110, 103, 117, 97, 103, 101]), .lit (.string []), .lit (.bool false)], .agg [.lit (.string [99, 111, 110, 116, 101, 110, 116, 45, 108, 101, 110, 103, 116, 104]), .lit (.string []), .lit (.bool false)], .agg [.lit (.string [99, 111, 110, 116, 101, 110, 116, 45, 108, 111, 99, 97, 116, 105, 111, 110]), .lit (.string []), .lit (.bool false)], .agg [.lit (.string [99, 111, 110, 116, 101, 110, 116, 45, 114, 97, 110, 103, 101]), .lit (.string []), .lit (.bool false)], .agg [.lit (.string [99, 111, 110, 116, 101, 110, 116, 45, 116, 121, 112, 101]), .lit (.string []), .lit (.bool false)], .agg [.lit (.string [99, 111, 111, 107, 105, 101]), .lit (.string []), .lit (.bool false)], .agg [.lit (.string [100, 97, 116, 101]), .lit (.string []), .lit (.bool false)], .agg [.lit (.string [101, 116, 97, 103]), .lit (.string []), .lit (.bool false)], .agg [.lit (.string [101, 120, 112, 101, 99, 116]), .lit (.string []), .lit (.bool false)], .agg [.lit (.string [101, 120, 112, 105, 114, 101, 115]), .lit (.string []), .lit (.bool false)], .agg [.lit (.string [102, 114, 111, 109]), .lit (.string []), .lit (.bool false)], .agg [.lit (.string [104, 111, 115, 116]), .lit (.string []), .lit (.bool false)], .agg [.lit (.string [105, 102, 45, 109, 97, 116, 99, 104]), .lit (.string []), .lit (.bool false)], .agg [.lit (.string [105, 102, 45, 109, 111, 100, 105, 102, 105, 101, 100, 45, 115, 105, 110, 99, 101]), .lit (.string []), .lit (.bool false)], .agg [.lit (.string [105, 102, 45, 110, 111, 110, 101, 45, 109, 97, 116, 99, 104]), .lit (.string []), .lit (.bool false)], .agg [.lit (.string [105, 102, 45, 114, 97, 110, 103, 101]), .lit (.string []), .lit (.bool false)], .agg [.lit (.string [105, 102, 45, 117, 110, 109, 111, 100, 105, 102, 105, 101, 100, 45, 115, 105, 110, 99, 101]), .lit (.string []), .lit (.bool false)], .agg [.lit (.string [108, 97, 115, 116, 45, 109, 111, 100, 105, 102, 105, 101, 100]), .lit (.string []), .lit (.bool false)], .agg [.lit (.string [108, 105, 110, 107]), .lit (.string []), .lit (.bool false)], .agg [.lit (.string [108, 111, 99, 97, 116, 105, 111, 110]), .lit (.string []), .lit (.bool false)], .agg [.lit (.string [109, 97, 120, 45, 102, 111, 114, 119, 97, 114, 100, 115]), .lit (.string []), .lit (.bool false)], .agg [.lit (.string [112, 114, 111, 120, 121, 45, 97, 117, 116, 104, 101, 110, 116, 105, 99, 97, 116, 101]), .lit (.string []), .lit (.bool false)], .agg [.lit (.string [112, 114, 111, 120, 121, 45, 97, 117, 116, 104, 111, 114, 105, 122, 97, 116, 105, 111, 110]), .lit (.string []), .lit (.bool false)], .agg [.lit (.string [114, 97, 110, 103, 101]), .lit (.string []), .lit (.bool false)], .agg [.lit (.string [114, 101, 102, 101, 114, 101, 114]), .lit (.string []), .lit (.bool false)], .agg [.lit (.string [114, 101, 102, 114, 101, 115, 104]), .lit (.string []), .lit (.bool false)], .agg [.lit (.string [114, 101, 116, 114, 121, 45, 97, 102, 116, 101, 114]), .lit (.string []), .lit (.bool false)], .agg [.lit (.string [115, 101, 114, 118, 101, 114]), .lit (.string []), .lit (.bool false)], .agg [.lit (.string [115, 101, 116, 45, 99, 111, 111, 107, 105, 101]), .lit (.string []), .lit (.bool false)], .agg [.lit (.string [115, 116, 114, 105, 99, 116, 45, 116, 114, 97, 110, 115, 112, 111, 114, 116, 45, 115, 101, 99, 117, 114, 105, 116, 121]), .lit (.string []), .lit (.bool false)], .agg [.lit (.string [116, 114, 97, 110, 115, 102, 101, 114, 45, 101, 110, 99, 111, 100, 105, 110, 103]), .lit (.string []), .lit (.bool false)], .agg [.lit (.string [117, 115, 101, 114, 45, 97, 103, 101, 110, 116]), .lit (.string []), .lit (.bool false)], .agg [.lit (.string [118, 97, 114, 121]), .lit (.string []), .lit (.bool false)], .agg [.lit (.string [118, 105, 97]), .lit (.string []), .lit (.bool false)], .agg [.lit (.string [119, 119, 119, 45, 97, 117, 116, 104, 101, 110, 116, 105, 99, 97, 116, 101]), .lit (.string []), .lit (.bool false)]]

/-- 'louverlaw06.HpackNil': WHATEVER THE INPUT: true; the input reads as it did. -/
def hpackNilSpec : ChangeSpec := { name := "hpackNil", fn := fun _ => fun
  | [d1, d2] => { results := [.lit (.bool true)], args := [d1, d2] }
  | _ => none }
def hpackNilRow : OpenClaim := { program := "ytinebjcfgmoniaadoor", sum := "4dfac11f78ced86307583af222a9421270ede1dce466bcab614b095108740d01", func := "louver/louverlaw06.HpackNil", spec := "hpackNil", named := ["louver/statics.known", "louver/huffman.sizes"], plainKeys := false, apart := false, laid := [("louver/huffman.sizes", laid_louver_huffman_sizes), ("louver/statics.known", laid_louver_statics_known)] }
def HpackNilSaid : Prop := hpackNilRow.holds Tryd.pinned (OpenSpec.ofChange hpackNilSpec)

/-- ITS FALSE NEIGHBOUR: 'it returns false'. Refute it at one input. -/
def hpackNilWrong : ChangeSpec := { name := "hpackNil", fn := fun _ => fun
  | [d1, d2] => { results := [.lit (.bool false)], args := [d1, d2] }
  | _ => none }
def HpackNilWrongFalsely : Prop := hpackNilRow.holds Tryd.pinned (OpenSpec.ofChange hpackNilWrong)

/-- 'louverlaw06.HpackBack': WHATEVER THE INPUT: true; the input reads as it did. -/
def hpackBackSpec : ChangeSpec := { name := "hpackBack", fn := fun _ => fun
  | [d1, d2, d3] => { results := [.lit (.bool true)], args := [d1, d2, d3] }
  | _ => none }
def hpackBackRow : OpenClaim := { program := "ytinebjcfgmoniaadoor", sum := "4dfac11f78ced86307583af222a9421270ede1dce466bcab614b095108740d01", func := "louver/louverlaw06.HpackBack", spec := "hpackBack", named := ["louver/statics.known", "louver/huffman.sizes"], plainKeys := false, apart := false, laid := [("louver/huffman.sizes", laid_louver_huffman_sizes), ("louver/statics.known", laid_louver_statics_known)] }
def HpackBackSaid : Prop := hpackBackRow.holds Tryd.pinned (OpenSpec.ofChange hpackBackSpec)

/-- ITS FALSE NEIGHBOUR: 'it returns false'. Refute it at one input. -/
def hpackBackWrong : ChangeSpec := { name := "hpackBack", fn := fun _ => fun
  | [d1, d2, d3] => { results := [.lit (.bool false)], args := [d1, d2, d3] }
  | _ => none }
def HpackBackWrongFalsely : Prop := hpackBackRow.holds Tryd.pinned (OpenSpec.ofChange hpackBackWrong)

/-- 'louverlaw06.HpackSame': WHATEVER THE INPUT: true; the input reads as it did. -/
def hpackSameSpec : ChangeSpec := { name := "hpackSame", fn := fun _ => fun
  | [d1, d2] => { results := [.lit (.bool true)], args := [d1, d2] }
  | _ => none }
def hpackSameRow : OpenClaim := { program := "ytinebjcfgmoniaadoor", sum := "4dfac11f78ced86307583af222a9421270ede1dce466bcab614b095108740d01", func := "louver/louverlaw06.HpackSame", spec := "hpackSame", named := ["louver/statics.known", "louver/huffman.sizes"], plainKeys := false, apart := false, laid := [("louver/huffman.sizes", laid_louver_huffman_sizes), ("louver/statics.known", laid_louver_statics_known)] }
def HpackSameSaid : Prop := hpackSameRow.holds Tryd.pinned (OpenSpec.ofChange hpackSameSpec)

/-- ITS FALSE NEIGHBOUR: 'it returns false'. Refute it at one input. -/
def hpackSameWrong : ChangeSpec := { name := "hpackSame", fn := fun _ => fun
  | [d1, d2] => { results := [.lit (.bool false)], args := [d1, d2] }
  | _ => none }
def HpackSameWrongFalsely : Prop := hpackSameRow.holds Tryd.pinned (OpenSpec.ofChange hpackSameWrong)

/-- 'louverlaw06.HpackTwice': WHATEVER THE INPUT: true; the input reads as it did. -/
def hpackTwiceSpec : ChangeSpec := { name := "hpackTwice", fn := fun _ => fun
  | [d] => { results := [.lit (.bool true)], args := [d] }
  | _ => none }
def hpackTwiceRow : OpenClaim := { program := "ytinebjcfgmoniaadoor", sum := "4dfac11f78ced86307583af222a9421270ede1dce466bcab614b095108740d01", func := "louver/louverlaw06.HpackTwice", spec := "hpackTwice", named := ["louver/statics.known", "louver/huffman.sizes"], plainKeys := false, apart := false, laid := [("louver/huffman.sizes", laid_louver_huffman_sizes), ("louver/statics.known", laid_louver_statics_known)] }
def HpackTwiceSaid : Prop := hpackTwiceRow.holds Tryd.pinned (OpenSpec.ofChange hpackTwiceSpec)

/-- ITS FALSE NEIGHBOUR: 'it returns false'. Refute it at one input. -/
def hpackTwiceWrong : ChangeSpec := { name := "hpackTwice", fn := fun _ => fun
  | [d] => { results := [.lit (.bool false)], args := [d] }
  | _ => none }
def HpackTwiceWrongFalsely : Prop := hpackTwiceRow.holds Tryd.pinned (OpenSpec.ofChange hpackTwiceWrong)

/-- 'louverlaw06.HpackGreat': WHATEVER THE INPUT: true; the input reads as it did. -/
def hpackGreatSpec : ChangeSpec := { name := "hpackGreat", fn := fun _ => fun
  | [d1, d2] => { results := [.lit (.bool true)], args := [d1, d2] }
  | _ => none }
def hpackGreatRow : OpenClaim := { program := "ytinebjcfgmoniaadoor", sum := "4dfac11f78ced86307583af222a9421270ede1dce466bcab614b095108740d01", func := "louver/louverlaw06.HpackGreat", spec := "hpackGreat", named := ["louver/statics.known", "louver/huffman.sizes"], plainKeys := false, apart := false, laid := [("louver/huffman.sizes", laid_louver_huffman_sizes), ("louver/statics.known", laid_louver_statics_known)] }
def HpackGreatSaid : Prop := hpackGreatRow.holds Tryd.pinned (OpenSpec.ofChange hpackGreatSpec)

/-- ITS FALSE NEIGHBOUR: 'it returns false'. Refute it at one input. -/
def hpackGreatWrong : ChangeSpec := { name := "hpackGreat", fn := fun _ => fun
  | [d1, d2] => { results := [.lit (.bool false)], args := [d1, d2] }
  | _ => none }
def HpackGreatWrongFalsely : Prop := hpackGreatRow.holds Tryd.pinned (OpenSpec.ofChange hpackGreatWrong)

/-- 'louverlaw06.HpackGets': WHATEVER THE INPUT: true; the input reads as it did. -/
def hpackGetsSpec : ChangeSpec := { name := "hpackGets", fn := fun _ => fun
  | [d1, d2] => { results := [.lit (.bool true)], args := [d1, d2] }
  | _ => none }
def hpackGetsRow : OpenClaim := { program := "ytinebjcfgmoniaadoor", sum := "4dfac11f78ced86307583af222a9421270ede1dce466bcab614b095108740d01", func := "louver/louverlaw06.HpackGets", spec := "hpackGets", named := ["louver/statics.known", "louver/huffman.sizes"], plainKeys := false, apart := false, laid := [("louver/huffman.sizes", laid_louver_huffman_sizes), ("louver/statics.known", laid_louver_statics_known)] }
def HpackGetsSaid : Prop := hpackGetsRow.holds Tryd.pinned (OpenSpec.ofChange hpackGetsSpec)

/-- ITS FALSE NEIGHBOUR: 'it returns false'. Refute it at one input. -/
def hpackGetsWrong : ChangeSpec := { name := "hpackGets", fn := fun _ => fun
  | [d1, d2] => { results := [.lit (.bool false)], args := [d1, d2] }
  | _ => none }
def HpackGetsWrongFalsely : Prop := hpackGetsRow.holds Tryd.pinned (OpenSpec.ofChange hpackGetsWrong)

/- THE SECOND FORM. 'bulk': how many values and letters a reading holds, each counted each time it is reached (what is shared counts as often as it is met; a slice's spare places count too). A statement '..UptoSaid' is the law's where the arguments, and the package variables that the reading takes, are together of bulk at most 1048576: NARROWER than '..Said'. Prove '..Said' where nothing that the law and all that it calls make is longer than what came in: it says more and counts as full. Else prove '..UptoSaid'. A law counts once. -/
mutual
def uptoBulk {H : Type} : DataW H → Nat
  | .lit (.string bytes) => bytes.length + 1
  | .lit _ => 1
  | .nil => 1
  | .ptr d => uptoBulk d + 1
  | .slice elems spare => uptoBulkAll elems + uptoBulkAll spare + 1
  | .agg parts => uptoBulkAll parts + 1
  | .iface _ d => uptoBulk d + 1
  | .map entries => uptoBulkEntries entries + 1
  | .held _ => 1
def uptoBulkAll {H : Type} : List (DataW H) → Nat
  | [] => 0
  | d :: r => uptoBulk d + uptoBulkAll r
def uptoBulkEntries {H : Type} : List (Lit × DataW H) → Nat
  | [] => 0
  | x :: r => uptoBulkEntry x + uptoBulkEntries r
def uptoBulkEntry {H : Type} : Lit × DataW H → Nat
  | (.string bytes, d) => bytes.length + uptoBulk d + 1
  | (_, d) => uptoBulk d + 1
 end
def uptoSmall : (H : Type) → List (DataW H) → Bool := fun _ ds => decide (uptoBulkAll ds ≤ 1048576)
def OpenSpec.upto (s : _root_.Go.ChangeSpec) : _root_.Go.OpenSpec := { _root_.Go.OpenSpec.ofChange s with cond := some uptoSmall }

/-- 'louverlaw06.HpackNil', WHERE WHAT IT READS IS OF BULK AT MOST 1048576: true; the input reads as it did. -/
def hpackNilUptoRow : OpenClaim := { program := "ytinebjcfgmoniaadoor", sum := "4dfac11f78ced86307583af222a9421270ede1dce466bcab614b095108740d01", func := "louver/louverlaw06.HpackNil", spec := "hpackNil", named := ["louver/statics.known", "louver/huffman.sizes"], plainKeys := false, apart := false, laid := [("louver/huffman.sizes", laid_louver_huffman_sizes), ("louver/statics.known", laid_louver_statics_known)], narrowed := true }
def HpackNilUptoSaid : Prop := hpackNilUptoRow.holds Tryd.pinned (OpenSpec.upto hpackNilSpec)

/-- 'louverlaw06.HpackBack', WHERE WHAT IT READS IS OF BULK AT MOST 1048576: true; the input reads as it did. -/
def hpackBackUptoRow : OpenClaim := { program := "ytinebjcfgmoniaadoor", sum := "4dfac11f78ced86307583af222a9421270ede1dce466bcab614b095108740d01", func := "louver/louverlaw06.HpackBack", spec := "hpackBack", named := ["louver/statics.known", "louver/huffman.sizes"], plainKeys := false, apart := false, laid := [("louver/huffman.sizes", laid_louver_huffman_sizes), ("louver/statics.known", laid_louver_statics_known)], narrowed := true }
def HpackBackUptoSaid : Prop := hpackBackUptoRow.holds Tryd.pinned (OpenSpec.upto hpackBackSpec)

/-- 'louverlaw06.HpackSame', WHERE WHAT IT READS IS OF BULK AT MOST 1048576: true; the input reads as it did. -/
def hpackSameUptoRow : OpenClaim := { program := "ytinebjcfgmoniaadoor", sum := "4dfac11f78ced86307583af222a9421270ede1dce466bcab614b095108740d01", func := "louver/louverlaw06.HpackSame", spec := "hpackSame", named := ["louver/statics.known", "louver/huffman.sizes"], plainKeys := false, apart := false, laid := [("louver/huffman.sizes", laid_louver_huffman_sizes), ("louver/statics.known", laid_louver_statics_known)], narrowed := true }
def HpackSameUptoSaid : Prop := hpackSameUptoRow.holds Tryd.pinned (OpenSpec.upto hpackSameSpec)

/-- 'louverlaw06.HpackTwice', WHERE WHAT IT READS IS OF BULK AT MOST 1048576: true; the input reads as it did. -/
def hpackTwiceUptoRow : OpenClaim := { program := "ytinebjcfgmoniaadoor", sum := "4dfac11f78ced86307583af222a9421270ede1dce466bcab614b095108740d01", func := "louver/louverlaw06.HpackTwice", spec := "hpackTwice", named := ["louver/statics.known", "louver/huffman.sizes"], plainKeys := false, apart := false, laid := [("louver/huffman.sizes", laid_louver_huffman_sizes), ("louver/statics.known", laid_louver_statics_known)], narrowed := true }
def HpackTwiceUptoSaid : Prop := hpackTwiceUptoRow.holds Tryd.pinned (OpenSpec.upto hpackTwiceSpec)

/-- 'louverlaw06.HpackGreat', WHERE WHAT IT READS IS OF BULK AT MOST 1048576: true; the input reads as it did. -/
def hpackGreatUptoRow : OpenClaim := { program := "ytinebjcfgmoniaadoor", sum := "4dfac11f78ced86307583af222a9421270ede1dce466bcab614b095108740d01", func := "louver/louverlaw06.HpackGreat", spec := "hpackGreat", named := ["louver/statics.known", "louver/huffman.sizes"], plainKeys := false, apart := false, laid := [("louver/huffman.sizes", laid_louver_huffman_sizes), ("louver/statics.known", laid_louver_statics_known)], narrowed := true }
def HpackGreatUptoSaid : Prop := hpackGreatUptoRow.holds Tryd.pinned (OpenSpec.upto hpackGreatSpec)

/-- 'louverlaw06.HpackGets', WHERE WHAT IT READS IS OF BULK AT MOST 1048576: true; the input reads as it did. -/
def hpackGetsUptoRow : OpenClaim := { program := "ytinebjcfgmoniaadoor", sum := "4dfac11f78ced86307583af222a9421270ede1dce466bcab614b095108740d01", func := "louver/louverlaw06.HpackGets", spec := "hpackGets", named := ["louver/statics.known", "louver/huffman.sizes"], plainKeys := false, apart := false, laid := [("louver/huffman.sizes", laid_louver_huffman_sizes), ("louver/statics.known", laid_louver_statics_known)], narrowed := true }
def HpackGetsUptoSaid : Prop := hpackGetsUptoRow.holds Tryd.pinned (OpenSpec.upto hpackGetsSpec)

end Rows
end Go.Proofs.YtinebjcfgmoniaaDoor
