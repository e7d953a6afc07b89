/- The row of the law HpackTwice: whatever the input, the call returns true, and each argument reads behind the call as it read before. Conditions: those of the given statement, no others. -/
import Derived.Test.YtinebjcfgmoniaaDoorRows
import Derived.Test.YtinebjcfgmoniaaDoorCodeHpackTwice3
import Derived.Test.YtinebjcfgmoniaaDoorPureHpackTwice
import Derived.Test.YtinebjcfgmoniaaDoorSlJ
import Derived.Test.YtinebjcfgmoniaaDoorCards
import Derived.Test.YtinebjcfgmoniaaDoorTie
import Derived.Test.YtinebjcfgmoniaaDoorSlR
import Derived.WalkKit
import Derived.ProofKit
import Derived.OpenShut
import Derived.ShutString
import Derived.ChangeOld
import Derived.Below
import Derived.SizedLaws
import Derived.Carry
import Derived.LaidMore
import Derived.Handed
import Derived.Stop.Joined
import Derived.SevenTiedAt
namespace Go.Proofs.YtinebjcfgmoniaaDoor.hpackTwice
open Go Go.ChangeShapes Go.WideShapes Go.ChangeAt Go.RowKit Go.Proofs.Sl Go.Proofs.YtinebjcfgmoniaaDoor.Sl
open Go.ChangeMaps (open_string shut_string)
set_option linter.unusedVariables false
theorem own : ownKnob Tryd.prog.godebug = none := by kernel_rfl
theorem laidOut : laidOutB Tryd.prog = true := by kernel_rfl
def ok52 (x : S52) : Prop := okS x.f0 ∧ okS x.f1 ∧ okB x.f2
theorem o52 {H : Type} {enc : TypeId × Value → H} {w : World} : Opn enc Tryd.prog w k52 52 ok52 := opn_struct (fun p => ⟨p.1, p.2.1, p.2.2⟩) (fun _ => rfl) Tryd.underlying52 (by kernel_rfl) (fo_cons rfl (by kernel_rfl) (opn_str Tryd.underlying9) (fo_cons rfl (by kernel_rfl) (opn_str Tryd.underlying9) (fo_one rfl (by kernel_rfl) (opn_bool Tryd.underlying4))))
def laidL : List (String × DataW Unit) := [("louver/huffman.sizes", Rows.laid_louver_huffman_sizes), ("louver/statics.known", Rows.laid_louver_statics_known)]
theorem door_met (os : Os) (args : Array Value) : laidMetH Tryd.prog laidL ((World.doorLaid Tryd.prog 80 os).forCall (fun _ _ => 0) ⟨#[], args, []⟩).memory :=
  laidMetH_of_parts3 (fuel := 8) (laidMet_of_run' 8 (by kernel_rfl) (by kernel_rfl)) (by kernel_rfl) (by kernel_rfl)
theorem glob0 {W : World} (h : laidMetH Tryd.prog laidL W) : Rds k52 W.heap.size W [] (.slice (some ⟨0, 0, none⟩) 61 61) G0 := by
  rw [MakeChecks.laidMetH_plain _ _ _ (by kernel_rfl)] at h
  obtain ⟨ps, ⟨g0, t0, cs0, f0, p0, q0, hg0, ht0, hv0, hd0, ⟨g1, t1, cs1, f1, p1, q1, hg1, ht1, hv1, hd1, _, _⟩, _⟩, _, _⟩ := h
  exact Rds.listed (g := 0) (t := 106) (N := 61) (f := (fun x : S52 => ([.string (mkS x.f0), .string (mkS x.f1), .bool x.f2] : List Value))) (dec := (decA (decSt [decS, decS, decB]))) hg1 ht1 hv1 hd1 (by kernel_rfl) (by kernel_rfl) (inv_array (N := 61) (c := 3) Tryd.underlying106 (by kernel_rfl) (by kernel_rfl) (inv_struct Tryd.underlying52 (by kernel_rfl) (fi_cons (c := 1) rfl (by kernel_rfl) (inv_str Tryd.underlying9) (fi_cons (c := 1) rfl (by kernel_rfl) (inv_str Tryd.underlying9) (fi_cons (c := 1) rfl (by kernel_rfl) (inv_bool Tryd.underlying4) fi_nil))))) G0qlen (by kernel_rfl) (by decide) (fun x => ⟨_, _, rfl, rfl, ⟨_, _, rfl, rfl, rfl⟩⟩) (fun _ => rfl) (by decide) (by decide)
theorem glob1 {W : World} (h : laidMetH Tryd.prog laidL W) : Rds (kInt .u8) W.heap.size W [] (.slice (some ⟨1, 0, none⟩) 257 257) G1 := by
  rw [MakeChecks.laidMetH_plain _ _ _ (by kernel_rfl)] at h
  obtain ⟨ps, ⟨g0, t0, cs0, f0, p0, q0, hg0, ht0, hv0, hd0, ⟨g1, t1, cs1, f1, p1, q1, hg1, ht1, hv1, hd1, _, _⟩, _⟩, _, _⟩ := h
  exact Rds.listed (g := 1) (t := 122) (N := 257) (f := (fun x : Int => ([.int .u8 x] : List Value))) (dec := (decA decI)) hg0 ht0 hv0 hd0 (by kernel_rfl) (by kernel_rfl) (inv_array (N := 257) (c := 1) Tryd.underlying122 (by kernel_rfl) (by kernel_rfl) (inv_int Tryd.underlying5)) G1qlen (by kernel_rfl) (by decide) (fun x => rfl) (fun _ => rfl) (by decide) (by decide)
set_option maxRecDepth 100000 in
theorem lifted (os : Os) (started : os.Started) (H : Type) (enc : TypeId × Value → H) :
    ReturnsInHanded {} Tryd.checked os 6 .any (fun w args => (Rows.hpackTwiceSpec.pre enc Tryd.prog Tryd.f6 [] false w args ∧ laidMetH Tryd.prog laidL w) ∧ sizedMet enc Tryd.prog Tryd.f6 (OpenSpec.ofChange Rows.hpackTwiceSpec) false w args)
      (Rows.hpackTwiceSpec.post enc Tryd.prog Tryd.f6 false true false false) := by
  refine returnsInHanded_of_change_and (C := Tryd.checked) (X := fun w _ => laidMetH Tryd.prog laidL w) (fun _ _ _ hh h => h.of_heap hh) own started (by kernel_rfl) Tryd.func6
    (ChangeSpec.witness_shaped (enc := enc) (C := Tryd.checked) (os := os) (X := fun w _ => laidMetH Tryd.prog laidL w) false (World.doorLaid Tryd.prog 80 os) #[.slice none 0 0] 8 rfl (World.shaped_of_RefB (by kernel_rfl) (by kernel_rfl)) (by kernel_rfl) (by kernel_rfl) (by kernel_rfl) (door_met os _)) ?_
  intro W base args ds gs before hval0 hW hcnd hsz0 hL _
  have hsz : (DataW.weightsEach Tryd.prog (Tryd.f6.params.toList ++ Rows.hpackTwiceSpec.plain.varTypes Tryd.prog) (ds ++ gs)).all (· ≤ reachBytes) = true := hsz0
  have hval : ∀ (j : Nat) t v, Tryd.f6.params[j]? = some t → args[j]? = some v → Value.okWide Tryd.prog W .any base t v := hval0
  have hW' := hW
  obtain ⟨p, q, hA0, hV, rfl, hfz, hnd⟩ := hW
  have hA : DataW.TrodAll enc Tryd.prog W 0 (fun _ => true) true Tryd.f6.params.toList args.toList ds p := hA0
  rw [Tryd.params6] at hA hval hsz
  obtain ⟨v0, vs0, d0, ds0, p0, q0, hargs, rfl, rfl, h0, r0⟩ := trodAll_cons hA
  obtain ⟨rfl, rfl, rfl⟩ := trodAll_nil r0
  obtain rfl : args = #[v0] := by cases args; simp_all
  obtain ⟨rfl, rfl⟩ := trodVars_none hV
  have lt0 : ∀ x ∈ p0, x.block < W.heap.size := by obtain ⟨m, hm⟩ := h0; exact DataW.trod_lt m _ _ _ hm
  obtain ⟨a0, ⟨u0, e0, hp0⟩, o0q⟩ := Opn.arg (w := W) (opn_slice (bytes := 40) Tryd.underlying23 (by kernel_rfl) (by kernel_rfl) (by decide) o52) h0 hsz (j := 0) rfl rfl
  obtain ⟨A0, l0, c0, rfl⟩ := okWide_slice Tryd.underlying23 (hval 0 23 v0 rfl rfl)
  obtain rfl : u0 = .slice A0 l0 c0 := by simpa [Value.cells] using e0.symm
  clear hA0 hval0 hsz0 hsz
  obtain ⟨k, hk⟩ := louverlaw06qHpackTwice_true a0 o0q
  refine (louverlaw06qHpackTwice.calls k hp0 (glob0 hL) (glob1 hL) hk (St.init W)).mono fun e W' ⟨he, hS⟩ => ?_
  have bel := hS.bel
  subst he
  exact ⟨_, rfl, _, _, _, [], _, [], hW', trodAll_mk1 (shut_bool Tryd.underlying4 _), (trodAll_cons_mk (Below.trod laidOut (by kernel_rfl) (of_decide_eq_true (by kernel_rfl)) h0 bel lt0) trodAll_mk0), rfl, bel.frame _, fun h => by cases h⟩
theorem over : Rows.hpackTwiceRow.holds Tryd.pinned (OpenSpec.ofChange Rows.hpackTwiceSpec) :=
  OpenClaim.holds_of_wide 6 Tryd.f6 rfl rfl rfl rfl rfl rfl rfl ⟨rfl, rfl, rfl, rfl, rfl⟩ rfl rfl rfl rfl rfl (by kernel_rfl) Tryd.func6 (by kernel_rfl)
    (of_decide_eq_true (by kernel_rfl)) (by unfold Func.isWrapper; first | (rw [if_pos (by decide +kernel)]; kernel_rfl) | (rw [if_neg (by decide +kernel)]; exact ⟨rfl, rfl⟩))
    (fun os started H enc _ => lifted os started H enc)
theorem proved : Rows.HpackTwiceSaid := over
#print axioms proved
end Go.Proofs.YtinebjcfgmoniaaDoor.hpackTwice
namespace Go.Proofs.YtinebjcfgmoniaaDoor
/-- The tied card. -/
theorem hpackTwice_holds : Rows.HpackTwiceCardSaid :=
  Claim7.holds_tied_plain_at .later [] [.data, .data] true (true, "579213868d432182addd7334bf889c4801473dd9d9a4da6f8e4385e2ae131a67") false
    hpackTwice.proved (fun _ h => by cases h) (by kernel_rfl) (fun _ h => by cases h) hpackTwice_row_tie rfl ⟨rfl, rfl⟩ (by kernel_rfl) rfl
    (fun f fn hf hfn => by
      obtain rfl : f = 6 := Option.some.inj ((show Tryd.prog.funcNamed "louver/louverlaw06.HpackTwice" = some 6 by kernel_rfl).symm.trans hf) |>.symm
      obtain rfl : fn = Tryd.f6 := (Option.some.inj (Tryd.func6.symm.trans hfn)).symm
      exact ⟨by kernel_rfl, fun j t ht => by
        rw [Tryd.params6] at ht
        have hm : t ∈ [23] := by simpa using Array.mem_of_getElem? ht
        have hall : ([23].all fun u => !Tryd.prog.wantsStandIn u) = true := by kernel_rfl
        exact (show Tryd.prog.wantsStandIn t = false by simpa using List.all_eq_true.1 hall t hm)⟩)
    (by kernel_rfl)
#print axioms hpackTwice_holds
end Go.Proofs.YtinebjcfgmoniaaDoor
