/- The row of the law HpackGreat: whatever the input, the call returns true, and each argument reads behind the call as it read before. Conditions: those of the given statement, no others. -/
import Derived.Test.YtinebjcfgmoniaaDoorRows
import Derived.Test.YtinebjcfgmoniaaDoorCodeHpackGreat3
import Derived.Test.YtinebjcfgmoniaaDoorPureHpackGreat
import Derived.Test.YtinebjcfgmoniaaDoorSlJ
import Derived.Test.YtinebjcfgmoniaaDoorCards
import Derived.Test.YtinebjcfgmoniaaDoorTie
import Derived.Test.YtinebjcfgmoniaaDoorSlR
import Derived.WalkKit
import Derived.ProofKit
import Derived.OpenShut
import Derived.ShutString
import Derived.ChangeOld
import Derived.Below
import Derived.SizedLaws
import Derived.Carry
import Derived.LaidMore
import Derived.Handed
import Derived.Stop.Joined
import Derived.SevenTiedAt
namespace Go.Proofs.YtinebjcfgmoniaaDoor.hpackGreat
open Go Go.ChangeShapes Go.WideShapes Go.ChangeAt Go.RowKit Go.Proofs.Sl Go.Proofs.YtinebjcfgmoniaaDoor.Sl
open Go.ChangeMaps (open_string shut_string)
set_option linter.unusedVariables false
theorem own : ownKnob Tryd.prog.godebug = none := by kernel_rfl
def laidL : List (String × DataW Unit) := [("louver/huffman.sizes", Rows.laid_louver_huffman_sizes), ("louver/statics.known", Rows.laid_louver_statics_known)]
theorem door_met (os : Os) (args : Array Value) : laidMetH Tryd.prog laidL ((World.doorLaid Tryd.prog 80 os).forCall (fun _ _ => 0) ⟨#[], args, []⟩).memory :=
  laidMetH_of_parts3 (fuel := 8) (laidMet_of_run' 8 (by kernel_rfl) (by kernel_rfl)) (by kernel_rfl) (by kernel_rfl)
theorem glob0 {W : World} (h : laidMetH Tryd.prog laidL W) : Rds k52 W.heap.size W [] (.slice (some ⟨0, 0, none⟩) 61 61) G0 := by
  rw [MakeChecks.laidMetH_plain _ _ _ (by kernel_rfl)] at h
  obtain ⟨ps, ⟨g0, t0, cs0, f0, p0, q0, hg0, ht0, hv0, hd0, ⟨g1, t1, cs1, f1, p1, q1, hg1, ht1, hv1, hd1, _, _⟩, _⟩, _, _⟩ := h
  exact Rds.listed (g := 0) (t := 106) (N := 61) (f := (fun x : S52 => ([.string (mkS x.f0), .string (mkS x.f1), .bool x.f2] : List Value))) (dec := (decA (decSt [decS, decS, decB]))) hg1 ht1 hv1 hd1 (by kernel_rfl) (by kernel_rfl) (inv_array (N := 61) (c := 3) Tryd.underlying106 (by kernel_rfl) (by kernel_rfl) (inv_struct Tryd.underlying52 (by kernel_rfl) (fi_cons (c := 1) rfl (by kernel_rfl) (inv_str Tryd.underlying9) (fi_cons (c := 1) rfl (by kernel_rfl) (inv_str Tryd.underlying9) (fi_cons (c := 1) rfl (by kernel_rfl) (inv_bool Tryd.underlying4) fi_nil))))) G0qlen (by kernel_rfl) (by decide) (fun x => ⟨_, _, rfl, rfl, ⟨_, _, rfl, rfl, rfl⟩⟩) (fun _ => rfl) (by decide) (by decide)
theorem glob1 {W : World} (h : laidMetH Tryd.prog laidL W) : Rds (kInt .u8) W.heap.size W [] (.slice (some ⟨1, 0, none⟩) 257 257) G1 := by
  rw [MakeChecks.laidMetH_plain _ _ _ (by kernel_rfl)] at h
  obtain ⟨ps, ⟨g0, t0, cs0, f0, p0, q0, hg0, ht0, hv0, hd0, ⟨g1, t1, cs1, f1, p1, q1, hg1, ht1, hv1, hd1, _, _⟩, _⟩, _, _⟩ := h
  exact Rds.listed (g := 1) (t := 122) (N := 257) (f := (fun x : Int => ([.int .u8 x] : List Value))) (dec := (decA decI)) hg0 ht0 hv0 hd0 (by kernel_rfl) (by kernel_rfl) (inv_array (N := 257) (c := 1) Tryd.underlying122 (by kernel_rfl) (by kernel_rfl) (inv_int Tryd.underlying5)) G1qlen (by kernel_rfl) (by decide) (fun x => rfl) (fun _ => rfl) (by decide) (by decide)
set_option maxRecDepth 100000 in
theorem lifted (os : Os) (started : os.Started) (H : Type) (enc : TypeId × Value → H) :
    ReturnsInHanded {} Tryd.checked os 7 .any (fun w args => (Rows.hpackGreatSpec.pre enc Tryd.prog Tryd.f7 [] false w args ∧ laidMetH Tryd.prog laidL w) ∧ sizedMet enc Tryd.prog Tryd.f7 (OpenSpec.ofChange Rows.hpackGreatSpec) false w args)
      (Rows.hpackGreatSpec.post enc Tryd.prog Tryd.f7 false true false false) := by
  refine returnsInHanded_of_change_and (C := Tryd.checked) (X := fun w _ => laidMetH Tryd.prog laidL w) (fun _ _ _ hh h => h.of_heap hh) own started (by kernel_rfl) Tryd.func7
    (ChangeSpec.witness_shaped (enc := enc) (C := Tryd.checked) (os := os) (X := fun w _ => laidMetH Tryd.prog laidL w) false (World.doorLaid Tryd.prog 80 os) #[.string ByteArray.empty, .int .u16 0] 8 rfl (World.shaped_of_RefB (by kernel_rfl) (by kernel_rfl)) (by kernel_rfl) (by kernel_rfl) (by kernel_rfl) (door_met os _)) ?_
  intro W base args ds gs before hval0 hW hcnd hsz0 hL _
  have hsz : (DataW.weightsEach Tryd.prog (Tryd.f7.params.toList ++ Rows.hpackGreatSpec.plain.varTypes Tryd.prog) (ds ++ gs)).all (· ≤ reachBytes) = true := hsz0
  have hval : ∀ (j : Nat) t v, Tryd.f7.params[j]? = some t → args[j]? = some v → Value.okWide Tryd.prog W .any base t v := hval0
  have hW' := hW
  obtain ⟨p, q, hA0, hV, rfl, hfz, hnd⟩ := hW
  have hA : DataW.TrodAll enc Tryd.prog W 0 (fun _ => true) true Tryd.f7.params.toList args.toList ds p := hA0
  rw [Tryd.params7] at hA hval hsz
  obtain ⟨v0, vs0, d0, ds0, p0, q0, hargs, rfl, rfl, h0, r0⟩ := trodAll_cons hA
  obtain ⟨v1, vs1, d1, ds1, p1, q1, rfl, rfl, rfl, h1, r1⟩ := trodAll_cons r0
  obtain ⟨rfl, rfl, rfl⟩ := trodAll_nil r1
  obtain rfl : args = #[v0, v1] := by cases args; simp_all
  obtain ⟨rfl, rfl⟩ := trodVars_none hV
  have z0 := Opn.arg (w := W) (opn_str Tryd.underlying9) h0 hsz (j := 0) rfl rfl
  obtain ⟨a0, rfl, rfl, rfl, y0⟩ := open_string Tryd.underlying9 (hval 0 9 v0 rfl rfl) h0
  have o0q : okS a0.data.toList := by have z := sized_string hsz (j := 0) (t := 9) rfl rfl; simpa [okS, reachBytes] using z
  have z1 := Opn.arg (w := W) (opn_int Tryd.underlying54) h1 hsz (j := 1) rfl rfl
  obtain ⟨a1, rfl, rfl, rfl, w1⟩ := open_int Tryd.underlying54 (hval 1 54 v1 rfl rfl) h1
  have o1q : okI .u16 a1 := by obtain ⟨q_, e_, o_⟩ := z1; injection e_ with e_; injection e_ with _ e_; exact e_ ▸ o_
  clear hA0 hval0 hsz0 hsz
  obtain ⟨k, hk⟩ := louverlaw06qHpackGreat_true a0.data.toList a1 o0q o1q
  refine (louverlaw06qHpackGreat.calls k (glob0 hL) (glob1 hL) hk (St.init W)).mono fun e W' ⟨he, hS⟩ => ?_
  have bel := hS.bel
  subst he
  exact ⟨_, rfl, _, _, _, [], _, [], hW', trodAll_mk1 (shut_bool Tryd.underlying4 _), (trodAll_cons_mk (shut_string Tryd.underlying9 y0) (trodAll_cons_mk (shut_int Tryd.underlying54 w1) trodAll_mk0)), rfl, bel.frame _, fun h => by cases h⟩
theorem over : Rows.hpackGreatRow.holds Tryd.pinned (OpenSpec.ofChange Rows.hpackGreatSpec) :=
  OpenClaim.holds_of_wide 7 Tryd.f7 rfl rfl rfl rfl rfl rfl rfl ⟨rfl, rfl, rfl, rfl, rfl⟩ rfl rfl rfl rfl rfl (by kernel_rfl) Tryd.func7 (by kernel_rfl)
    (of_decide_eq_true (by kernel_rfl)) (by unfold Func.isWrapper; first | (rw [if_pos (by decide +kernel)]; kernel_rfl) | (rw [if_neg (by decide +kernel)]; exact ⟨rfl, rfl⟩))
    (fun os started H enc _ => lifted os started H enc)
theorem proved : Rows.HpackGreatSaid := over
#print axioms proved
end Go.Proofs.YtinebjcfgmoniaaDoor.hpackGreat
namespace Go.Proofs.YtinebjcfgmoniaaDoor
/-- The tied card. -/
theorem hpackGreat_holds : Rows.HpackGreatCardSaid :=
  Claim7.holds_tied_plain_at .later [] [.data, .data] true (true, "579213868d432182addd7334bf889c4801473dd9d9a4da6f8e4385e2ae131a67") false
    hpackGreat.proved (fun _ h => by cases h) (by kernel_rfl) (fun _ h => by cases h) hpackGreat_row_tie rfl ⟨rfl, rfl⟩ (by kernel_rfl) rfl
    (fun f fn hf hfn => by
      obtain rfl : f = 7 := Option.some.inj ((show Tryd.prog.funcNamed "louver/louverlaw06.HpackGreat" = some 7 by kernel_rfl).symm.trans hf) |>.symm
      obtain rfl : fn = Tryd.f7 := (Option.some.inj (Tryd.func7.symm.trans hfn)).symm
      exact ⟨by kernel_rfl, fun j t ht => by
        rw [Tryd.params7] at ht
        have hm : t ∈ [9, 54] := by simpa using Array.mem_of_getElem? ht
        have hall : ([9, 54].all fun u => !Tryd.prog.wantsStandIn u) = true := by kernel_rfl
        exact (show Tryd.prog.wantsStandIn t = false by simpa using List.all_eq_true.1 hall t hm)⟩)
    (by kernel_rfl)
#print axioms hpackGreat_holds
end Go.Proofs.YtinebjcfgmoniaaDoor
