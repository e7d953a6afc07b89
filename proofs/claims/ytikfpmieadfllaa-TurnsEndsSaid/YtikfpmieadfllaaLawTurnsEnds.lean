/- The row of the law TurnsEnds: whatever the input, the call returns true, and each argument reads behind the call as it read before. Conditions: those of the given statement, no others. -/
import Derived.Test.YtikfpmieadfllaaRows
import Derived.Test.YtikfpmieadfllaaCodeTurnsEnds2
import Derived.Test.YtikfpmieadfllaaPureTurnsEnds
import Derived.Test.YtikfpmieadfllaaSlJ
import Derived.WalkKit
import Derived.ProofKit
import Derived.OpenShut
import Derived.ShutString
import Derived.ChangeOld
import Derived.Below
import Derived.SizedLaws
import Derived.Carry
namespace Go.Proofs.Ytikfpmieadfllaa.turnsEnds
open Go Go.ChangeShapes Go.WideShapes Go.ChangeAt Go.RowKit Go.Proofs.Sl Go.Proofs.Ytikfpmieadfllaa.Sl
open Go.ChangeMaps (open_string shut_string)
set_option linter.unusedVariables false
theorem own : ownKnob Try.prog.godebug = none := by kernel_rfl
theorem laidOut : laidOutB Try.prog = true := by kernel_rfl
set_option maxRecDepth 100000 in
theorem lifted (os : Os) (started : os.Started) (H : Type) (enc : TypeId × Value → H) :
    ReturnsInHanded {} Try.checked os 4 .any (Rows.turnsEndsSpec.pre6 enc Try.prog Try.f4 Rows.turnsEndsRow.domain false) (Rows.turnsEndsSpec.post enc Try.prog Try.f4 false true false false) := by
  refine returnsInHanded_of_change_sized (C := Try.checked) own started (by kernel_rfl) Try.func4
    (ChangeSpec.witness6 (enc := enc) (C := Try.checked) false ⟨#[], #[.slice none 0 0, .int .u8 0], []⟩ 8 (by kernel_rfl) (by kernel_rfl) (by kernel_rfl) (by kernel_rfl)) ?_
  intro W base args ds gs before hval0 hW hcnd hsz0 _
  have hsz : (DataW.weightsEach Try.prog (Try.f4.params.toList ++ Rows.turnsEndsSpec.plain.varTypes Try.prog) (ds ++ gs)).all (· ≤ reachBytes) = true := hsz0
  have hval : ∀ (j : Nat) t v, Try.f4.params[j]? = some t → args[j]? = some v → Value.okWide Try.prog W .any base t v := hval0
  have hW' := hW
  obtain ⟨p, q, hA0, hV, rfl, hfz, hnd⟩ := hW
  have hA : DataW.TrodAll enc Try.prog W 0 (fun _ => true) true Try.f4.params.toList args.toList ds p := hA0
  rw [Try.params4] at hA hval hsz
  obtain ⟨v0, vs0, d0, ds0, p0, q0, hargs, rfl, rfl, h0, r0⟩ := trodAll_cons hA
  obtain ⟨v1, vs1, d1, ds1, p1, q1, rfl, rfl, rfl, h1, r1⟩ := trodAll_cons r0
  obtain ⟨rfl, rfl, rfl⟩ := trodAll_nil r1
  obtain rfl : args = #[v0, v1] := by cases args; simp_all
  obtain ⟨rfl, rfl⟩ := trodVars_none hV
  have lt0 : ∀ x ∈ p0, x.block < W.heap.size := by obtain ⟨m, hm⟩ := h0; exact DataW.trod_lt m _ _ _ hm
  obtain ⟨a0, ⟨u0, e0, hp0⟩, o0q⟩ := Opn.arg (w := W) (opn_slice (bytes := 24) Try.underlying32 (by kernel_rfl) (by kernel_rfl) (by decide) (opn_slice (bytes := 1) Try.underlying27 (by kernel_rfl) (by kernel_rfl) (by decide) (opn_int Try.underlying5))) h0 hsz (j := 0) rfl rfl
  obtain ⟨A0, l0, c0, rfl⟩ := okWide_slice Try.underlying32 (hval 0 32 v0 rfl rfl)
  obtain rfl : u0 = .slice A0 l0 c0 := by simpa [Value.cells] using e0.symm
  have z1 := Opn.arg (w := W) (opn_int Try.underlying5) h1 hsz (j := 1) rfl rfl
  obtain ⟨a1, rfl, rfl, rfl, w1⟩ := open_int Try.underlying5 (hval 1 5 v1 rfl rfl) h1
  have o1q : okI .u8 a1 := by obtain ⟨q_, e_, o_⟩ := z1; injection e_ with e_; injection e_ with _ e_; exact e_ ▸ o_
  clear hA0 hval0 hsz0 hsz
  obtain ⟨k, hk⟩ := louverlaw13qTurnsEnds_true a0 a1 o0q o1q
  refine (louverlaw13qTurnsEnds.calls k hp0 hk (St.init W)).mono fun e W' ⟨he, hS⟩ => ?_
  have bel := hS.bel
  subst he
  exact ⟨_, rfl, _, _, _, [], _, [], hW', trodAll_mk1 (shut_bool Try.underlying4 _), (trodAll_cons_mk (Below.trod laidOut (by kernel_rfl) (of_decide_eq_true (by kernel_rfl)) h0 bel lt0) (trodAll_cons_mk (shut_int Try.underlying5 w1) trodAll_mk0)), rfl, bel.frame _, fun h => by cases h⟩
theorem over : Rows.turnsEndsRow.holds Try.pinned (OpenSpec.ofChange Rows.turnsEndsSpec) :=
  OpenClaim.holds_of_wide 4 Try.f4 rfl rfl rfl rfl rfl rfl rfl ⟨rfl, rfl, rfl, rfl, rfl⟩ rfl rfl rfl rfl rfl (by kernel_rfl) Try.func4 (by kernel_rfl)
    (of_decide_eq_true (by kernel_rfl)) (by unfold Func.isWrapper; first | (rw [if_pos (by decide +kernel)]; kernel_rfl) | (rw [if_neg (by decide +kernel)]; exact ⟨rfl, rfl⟩))
    (fun os started H enc _ => lifted os started H enc)
theorem proved : Rows.TurnsEndsSaid := over
#print axioms proved
end Go.Proofs.Ytikfpmieadfllaa.turnsEnds
namespace Go.Proofs.Ytikfpmieadfllaa
/-- The row, under a short name, for the claim. -/
theorem turnsEnds_holds : Rows.TurnsEndsSaid := turnsEnds.proved
end Go.Proofs.Ytikfpmieadfllaa
