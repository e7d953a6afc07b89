/- The row of the law HuffmanEncodes: whatever the input, the call returns true, and each argument reads behind the call as it read before. Conditions: those of the given statement, no others. -/
import Derived.Test.YtedfgicbignbmaaDoorRows
import Derived.Test.YtedfgicbignbmaaDoorCode3
import Derived.Test.YtedfgicbignbmaaDoorPureH
import Derived.Test.YtedfgicbignbmaaDoorSlJ
import Derived.Test.YtedfgicbignbmaaDoorCards
import Derived.Test.YtedfgicbignbmaaDoorTie
import Derived.Test.YtedfgicbignbmaaDoorSlR
import Derived.WalkKit
import Derived.ProofKit
import Derived.OpenShut
import Derived.ShutString
import Derived.ChangeOld
import Derived.Below
import Derived.SizedLaws
import Derived.Carry
import Derived.LaidMore
import Derived.Handed
import Derived.Stop.Joined
import Derived.SevenTiedAt
namespace Go.Proofs.YtedfgicbignbmaaDoor.huffmanEncodes
open Go Go.ChangeShapes Go.WideShapes Go.ChangeAt Go.RowKit Go.Proofs.Sl Go.Proofs.YtedfgicbignbmaaDoor.Sl
open Go.ChangeMaps (open_string shut_string)
set_option linter.unusedVariables false
theorem own : ownKnob Tryd.prog.godebug = none := by kernel_rfl
def laidL : List (String × DataW Unit) := [("louver/huffman.sizes", Rows.laid_louver_huffman_sizes)]
theorem door_met (os : Os) (args : Array Value) : laidMetH Tryd.prog laidL ((World.doorLaid Tryd.prog 14 os).forCall (fun _ _ => 0) ⟨#[], args, []⟩).memory :=
  laidMetH_of_parts3 (fuel := 8) (laidMet_of_run' 8 (by kernel_rfl) (by kernel_rfl)) (by kernel_rfl) (by kernel_rfl)
theorem glob0 {W : World} (h : laidMetH Tryd.prog laidL W) : Rds (kInt .u8) W.heap.size W [] (.slice (some ⟨0, 0, none⟩) 257 257) G0 := by
  rw [MakeChecks.laidMetH_plain _ _ _ (by kernel_rfl)] at h
  obtain ⟨ps, ⟨g0, t0, cs0, f0, p0, q0, hg0, ht0, hv0, hd0, _, _⟩, _, _⟩ := h
  exact Rds.listed (g := 0) (t := 51) (N := 257) (f := (fun x : Int => ([.int .u8 x] : List Value))) (dec := (decA decI)) hg0 ht0 hv0 hd0 (by kernel_rfl) (by kernel_rfl) (inv_array (N := 257) (c := 1) Tryd.underlying51 (by kernel_rfl) (by kernel_rfl) (inv_int Tryd.underlying5)) G0qlen (by kernel_rfl) (by decide) (fun x => rfl) (fun _ => rfl) (by decide) (by decide)
set_option maxRecDepth 100000 in
theorem lifted (os : Os) (started : os.Started) (H : Type) (enc : TypeId × Value → H) :
    ReturnsInHanded {} Tryd.checked os 6 .any (fun w args => (Rows.huffmanEncodesSpec.pre enc Tryd.prog Tryd.f6 [] false w args ∧ laidMetH Tryd.prog laidL w) ∧ sizedMet enc Tryd.prog Tryd.f6 (OpenSpec.ofChange Rows.huffmanEncodesSpec) false w args)
      (Rows.huffmanEncodesSpec.post enc Tryd.prog Tryd.f6 false true false false) := by
  refine returnsInHanded_of_change_and (C := Tryd.checked) (X := fun w _ => laidMetH Tryd.prog laidL w) (fun _ _ _ hh h => h.of_heap hh) own started (by kernel_rfl) Tryd.func6
    (ChangeSpec.witness_shaped (enc := enc) (C := Tryd.checked) (os := os) (X := fun w _ => laidMetH Tryd.prog laidL w) false (World.doorLaid Tryd.prog 14 os) #[.string ByteArray.empty] 8 rfl (World.shaped_of_RefB (by kernel_rfl) (by kernel_rfl)) (by kernel_rfl) (by kernel_rfl) (by kernel_rfl) (door_met os _)) ?_
  intro W base args ds gs before hval0 hW hcnd hsz0 hL _
  have hsz : (DataW.weightsEach Tryd.prog (Tryd.f6.params.toList ++ Rows.huffmanEncodesSpec.plain.varTypes Tryd.prog) (ds ++ gs)).all (· ≤ reachBytes) = true := hsz0
  have hval : ∀ (j : Nat) t v, Tryd.f6.params[j]? = some t → args[j]? = some v → Value.okWide Tryd.prog W .any base t v := hval0
  have hW' := hW
  obtain ⟨p, q, hA0, hV, rfl, hfz, hnd⟩ := hW
  have hA : DataW.TrodAll enc Tryd.prog W 0 (fun _ => true) true Tryd.f6.params.toList args.toList ds p := hA0
  rw [Tryd.params6] at hA hval hsz
  obtain ⟨v0, vs0, d0, ds0, p0, q0, hargs, rfl, rfl, h0, r0⟩ := trodAll_cons hA
  obtain ⟨rfl, rfl, rfl⟩ := trodAll_nil r0
  obtain rfl : args = #[v0] := by cases args; simp_all
  obtain ⟨rfl, rfl⟩ := trodVars_none hV
  have z0 := Opn.arg (w := W) (opn_str Tryd.underlying9) h0 hsz (j := 0) rfl rfl
  obtain ⟨a0, rfl, rfl, rfl, y0⟩ := open_string Tryd.underlying9 (hval 0 9 v0 rfl rfl) h0
  have o0q : okS a0.data.toList := by have z := sized_string hsz (j := 0) (t := 9) rfl rfl; simpa [okS, reachBytes] using z
  clear hA0 hval0 hsz0 hsz
  obtain ⟨k, hk⟩ := louverlaw03qHuffmanEncodes_true a0.data.toList o0q
  refine (louverlaw03qHuffmanEncodes.calls k (glob0 hL) hk (St.init W)).mono fun e W' ⟨he, hS⟩ => ?_
  have bel := hS.bel
  subst he
  exact ⟨_, rfl, _, _, _, [], _, [], hW', trodAll_mk1 (shut_bool Tryd.underlying4 _), (trodAll_cons_mk (shut_string Tryd.underlying9 y0) trodAll_mk0), rfl, bel.frame _, fun h => by cases h⟩
theorem over : Rows.huffmanEncodesRow.holds Tryd.pinned (OpenSpec.ofChange Rows.huffmanEncodesSpec) :=
  OpenClaim.holds_of_wide 6 Tryd.f6 rfl rfl rfl rfl rfl rfl rfl ⟨rfl, rfl, rfl, rfl, rfl⟩ rfl rfl rfl rfl rfl (by kernel_rfl) Tryd.func6 (by kernel_rfl)
    (of_decide_eq_true (by kernel_rfl)) (by unfold Func.isWrapper; first | (rw [if_pos (by decide +kernel)]; kernel_rfl) | (rw [if_neg (by decide +kernel)]; exact ⟨rfl, rfl⟩))
    (fun os started H enc _ => lifted os started H enc)
theorem proved : Rows.HuffmanEncodesSaid := over
#print axioms proved
end Go.Proofs.YtedfgicbignbmaaDoor.huffmanEncodes
namespace Go.Proofs.YtedfgicbignbmaaDoor
/-- The tied card. -/
theorem huffmanEncodes_holds : Rows.HuffmanEncodesCardSaid :=
  Claim7.holds_tied_plain_at .later [] [.data] true (true, "43961c6f4fc9798d06b5af1e7a609388ab970caccaf7ee891e9154f357eeb81f") false
    huffmanEncodes.proved (fun _ h => by cases h) (by kernel_rfl) (fun _ h => by cases h) huffmanEncodes_row_tie rfl ⟨rfl, rfl⟩ (by kernel_rfl) rfl
    (fun f fn hf hfn => by
      obtain rfl : f = 6 := Option.some.inj ((show Tryd.prog.funcNamed "louver/louverlaw03.HuffmanEncodes" = some 6 by kernel_rfl).symm.trans hf) |>.symm
      obtain rfl : fn = Tryd.f6 := (Option.some.inj (Tryd.func6.symm.trans hfn)).symm
      exact ⟨by kernel_rfl, fun j t ht => by
        rw [Tryd.params6] at ht
        have hm : t ∈ [9] := by simpa using Array.mem_of_getElem? ht
        have hall : ([9].all fun u => !Tryd.prog.wantsStandIn u) = true := by kernel_rfl
        exact (show Tryd.prog.wantsStandIn t = false by simpa using List.all_eq_true.1 hall t hm)⟩)
    (by kernel_rfl)
#print axioms huffmanEncodes_holds
end Go.Proofs.YtedfgicbignbmaaDoor
