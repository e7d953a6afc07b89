/- The row of the law TurnsCredit: whatever the input, the call returns true, and each argument reads behind the call as it read before. Conditions: those of the given statement, no others. -/
import Derived.Test.YtikfpmieadfllaaRows
import Derived.Test.YtikfpmieadfllaaCodeTurnsCredit2
import Derived.Test.YtikfpmieadfllaaPureTurnsCredit
import Derived.Test.YtikfpmieadfllaaSlJ
import Derived.WalkKit
import Derived.ProofKit
import Derived.OpenShut
import Derived.ShutString
import Derived.ChangeOld
import Derived.Below
import Derived.SizedLaws
import Derived.Carry
namespace Go.Proofs.Ytikfpmieadfllaa.turnsCredit
open Go Go.ChangeShapes Go.WideShapes Go.ChangeAt Go.RowKit Go.Proofs.Sl Go.Proofs.Ytikfpmieadfllaa.Sl
open Go.ChangeMaps (open_string shut_string)
set_option linter.unusedVariables false
theorem own : ownKnob Try.prog.godebug = none := by kernel_rfl
theorem laidOut : laidOutB Try.prog = true := by kernel_rfl
def ok45 (x : S45) : Prop := (okI .i64) x.f0 ∧ (okI .u32) x.f1 ∧ (okI .i64) x.f2 ∧ (okL 1 (okI .u8)) x.f3 ∧ okB x.f4 ∧ (okI .u32) x.f5 ∧ (okI .u32) x.f6
theorem o45 {H : Type} {enc : TypeId × Value → H} {w : World} : Opn enc Try.prog w k45 45 ok45 := opn_struct (fun p => ⟨p.1, p.2.1, p.2.2.1, p.2.2.2.1, p.2.2.2.2.1, p.2.2.2.2.2.1, p.2.2.2.2.2.2⟩) (fun _ => rfl) Try.underlying45 (by kernel_rfl) (fo_cons rfl (by kernel_rfl) (opn_int Try.underlying3) (fo_cons rfl (by kernel_rfl) (opn_int Try.underlying25) (fo_cons rfl (by kernel_rfl) (opn_int Try.underlying3) (fo_cons rfl (by kernel_rfl) (opn_slice (bytes := 1) Try.underlying27 (by kernel_rfl) (by kernel_rfl) (by decide) (opn_int Try.underlying5)) (fo_cons rfl (by kernel_rfl) (opn_bool Try.underlying4) (fo_cons rfl (by kernel_rfl) (opn_int Try.underlying25) (fo_one rfl (by kernel_rfl) (opn_int Try.underlying25))))))))
set_option maxRecDepth 100000 in
theorem lifted (os : Os) (started : os.Started) (H : Type) (enc : TypeId × Value → H) :
    ReturnsInHanded {} Try.checked os 5 .any (Rows.turnsCreditSpec.pre6 enc Try.prog Try.f5 Rows.turnsCreditRow.domain false) (Rows.turnsCreditSpec.post enc Try.prog Try.f5 false true false false) := by
  refine returnsInHanded_of_change_sized (C := Try.checked) own started (by kernel_rfl) Try.func5
    (ChangeSpec.witness6 (enc := enc) (C := Try.checked) false ⟨#[], #[.int .i64 0, .slice none 0 0], []⟩ 8 (by kernel_rfl) (by kernel_rfl) (by kernel_rfl) (by kernel_rfl)) ?_
  intro W base args ds gs before hval0 hW hcnd hsz0 _
  have hsz : (DataW.weightsEach Try.prog (Try.f5.params.toList ++ Rows.turnsCreditSpec.plain.varTypes Try.prog) (ds ++ gs)).all (· ≤ reachBytes) = true := hsz0
  have hval : ∀ (j : Nat) t v, Try.f5.params[j]? = some t → args[j]? = some v → Value.okWide Try.prog W .any base t v := hval0
  have hW' := hW
  obtain ⟨p, q, hA0, hV, rfl, hfz, hnd⟩ := hW
  have hA : DataW.TrodAll enc Try.prog W 0 (fun _ => true) true Try.f5.params.toList args.toList ds p := hA0
  rw [Try.params5] at hA hval hsz
  obtain ⟨v0, vs0, d0, ds0, p0, q0, hargs, rfl, rfl, h0, r0⟩ := trodAll_cons hA
  obtain ⟨v1, vs1, d1, ds1, p1, q1, rfl, rfl, rfl, h1, r1⟩ := trodAll_cons r0
  obtain ⟨rfl, rfl, rfl⟩ := trodAll_nil r1
  obtain rfl : args = #[v0, v1] := by cases args; simp_all
  obtain ⟨rfl, rfl⟩ := trodVars_none hV
  have z0 := Opn.arg (w := W) (opn_int Try.underlying2) h0 hsz (j := 0) rfl rfl
  obtain ⟨a0, rfl, rfl, rfl, w0⟩ := open_int Try.underlying2 (hval 0 2 v0 rfl rfl) h0
  have o0q : okI .i64 a0 := by obtain ⟨q_, e_, o_⟩ := z0; injection e_ with e_; injection e_ with _ e_; exact e_ ▸ o_
  have lt1 : ∀ x ∈ p1, x.block < W.heap.size := by obtain ⟨m, hm⟩ := h1; exact DataW.trod_lt m _ _ _ hm
  obtain ⟨a1, ⟨u1, e1, hp1⟩, o1q⟩ := Opn.arg (w := W) (opn_slice (bytes := 64) Try.underlying38 (by kernel_rfl) (by kernel_rfl) (by decide) o45) h1 hsz (j := 1) rfl rfl
  obtain ⟨A1, l1, c1, rfl⟩ := okWide_slice Try.underlying38 (hval 1 38 v1 rfl rfl)
  obtain rfl : u1 = .slice A1 l1 c1 := by simpa [Value.cells] using e1.symm
  clear hA0 hval0 hsz0 hsz
  obtain ⟨k, hk⟩ := louverlaw13qTurnsCredit_true a0 a1 o0q o1q
  refine (louverlaw13qTurnsCredit.calls k hp1 hk (St.init W)).mono fun e W' ⟨he, hS⟩ => ?_
  have bel := hS.bel
  subst he
  exact ⟨_, rfl, _, _, _, [], _, [], hW', trodAll_mk1 (shut_bool Try.underlying4 _), (trodAll_cons_mk (shut_int Try.underlying2 w0) (trodAll_cons_mk (Below.trod laidOut (by kernel_rfl) (of_decide_eq_true (by kernel_rfl)) h1 bel lt1) trodAll_mk0)), rfl, bel.frame _, fun h => by cases h⟩
theorem over : Rows.turnsCreditRow.holds Try.pinned (OpenSpec.ofChange Rows.turnsCreditSpec) :=
  OpenClaim.holds_of_wide 5 Try.f5 rfl rfl rfl rfl rfl rfl rfl ⟨rfl, rfl, rfl, rfl, rfl⟩ rfl rfl rfl rfl rfl (by kernel_rfl) Try.func5 (by kernel_rfl)
    (of_decide_eq_true (by kernel_rfl)) (by unfold Func.isWrapper; first | (rw [if_pos (by decide +kernel)]; kernel_rfl) | (rw [if_neg (by decide +kernel)]; exact ⟨rfl, rfl⟩))
    (fun os started H enc _ => lifted os started H enc)
theorem proved : Rows.TurnsCreditSaid := over
#print axioms proved
end Go.Proofs.Ytikfpmieadfllaa.turnsCredit
namespace Go.Proofs.Ytikfpmieadfllaa
/-- The row, under a short name, for the claim. -/
theorem turnsCredit_holds : Rows.TurnsCreditSaid := turnsCredit.proved
end Go.Proofs.Ytikfpmieadfllaa
