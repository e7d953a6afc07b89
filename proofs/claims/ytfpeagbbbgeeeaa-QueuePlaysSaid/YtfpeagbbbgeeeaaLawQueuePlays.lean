/- The row of the law QueuePlays: whatever the input, the call returns true, and each argument reads behind the call as it read before. Conditions: those of the given statement, no others. -/
import Derived.Test.YtfpeagbbbgeeeaaRows
import Derived.Test.YtfpeagbbbgeeeaaCode2
import Derived.Test.YtfpeagbbbgeeeaaPureC
import Derived.Test.YtfpeagbbbgeeeaaSlJ
import Derived.WalkKit
import Derived.ProofKit
import Derived.OpenShut
import Derived.ShutString
import Derived.ChangeOld
import Derived.Below
import Derived.SizedLaws
import Derived.Carry
namespace Go.Proofs.Ytfpeagbbbgeeeaa.queuePlays
open Go Go.ChangeShapes Go.WideShapes Go.ChangeAt Go.RowKit Go.Proofs.Sl Go.Proofs.Ytfpeagbbbgeeeaa.Sl
open Go.ChangeMaps (open_string shut_string)
set_option linter.unusedVariables false
theorem own : ownKnob Try.prog.godebug = none := by kernel_rfl
theorem laidOut : laidOutB Try.prog = true := by kernel_rfl
def ok38 (x : S38) : Prop := (okI .i64) x.f0 ∧ (okL 1 (okI .u8)) x.f1 ∧ (okI .i64) x.f2
theorem o38 {H : Type} {enc : TypeId × Value → H} {w : World} : Opn enc Try.prog w k38 38 ok38 := opn_struct (fun p => ⟨p.1, p.2.1, p.2.2⟩) (fun _ => rfl) Try.underlying38 (by kernel_rfl) (fo_cons rfl (by kernel_rfl) (opn_int Try.underlying3) (fo_cons rfl (by kernel_rfl) (opn_slice (bytes := 1) Try.underlying26 (by kernel_rfl) (by kernel_rfl) (by decide) (opn_int Try.underlying5)) (fo_one rfl (by kernel_rfl) (opn_int Try.underlying3))))
set_option maxRecDepth 100000 in
theorem lifted (os : Os) (started : os.Started) (H : Type) (enc : TypeId × Value → H) :
    ReturnsInHanded {} Try.checked os 4 .any (Rows.queuePlaysSpec.pre6 enc Try.prog Try.f4 Rows.queuePlaysRow.domain false) (Rows.queuePlaysSpec.post enc Try.prog Try.f4 false true false false) := by
  refine returnsInHanded_of_change_sized (C := Try.checked) own started (by kernel_rfl) Try.func4
    (ChangeSpec.witness6 (enc := enc) (C := Try.checked) false ⟨#[], #[.int .i64 0, .int .i64 0, .slice none 0 0], []⟩ 8 (by kernel_rfl) (by kernel_rfl) (by kernel_rfl) (by kernel_rfl)) ?_
  intro W base args ds gs before hval0 hW hcnd hsz0 _
  have hsz : (DataW.weightsEach Try.prog (Try.f4.params.toList ++ Rows.queuePlaysSpec.plain.varTypes Try.prog) (ds ++ gs)).all (· ≤ reachBytes) = true := hsz0
  have hval : ∀ (j : Nat) t v, Try.f4.params[j]? = some t → args[j]? = some v → Value.okWide Try.prog W .any base t v := hval0
  have hW' := hW
  obtain ⟨p, q, hA0, hV, rfl, hfz, hnd⟩ := hW
  have hA : DataW.TrodAll enc Try.prog W 0 (fun _ => true) true Try.f4.params.toList args.toList ds p := hA0
  rw [Try.params4] at hA hval hsz
  obtain ⟨v0, vs0, d0, ds0, p0, q0, hargs, rfl, rfl, h0, r0⟩ := trodAll_cons hA
  obtain ⟨v1, vs1, d1, ds1, p1, q1, rfl, rfl, rfl, h1, r1⟩ := trodAll_cons r0
  obtain ⟨v2, vs2, d2, ds2, p2, q2, rfl, rfl, rfl, h2, r2⟩ := trodAll_cons r1
  obtain ⟨rfl, rfl, rfl⟩ := trodAll_nil r2
  obtain rfl : args = #[v0, v1, v2] := by cases args; simp_all
  obtain ⟨rfl, rfl⟩ := trodVars_none hV
  have z0 := Opn.arg (w := W) (opn_int Try.underlying3) h0 hsz (j := 0) rfl rfl
  obtain ⟨a0, rfl, rfl, rfl, w0⟩ := open_int Try.underlying3 (hval 0 3 v0 rfl rfl) h0
  have o0q : okI .i64 a0 := by obtain ⟨q_, e_, o_⟩ := z0; injection e_ with e_; injection e_ with _ e_; exact e_ ▸ o_
  have z1 := Opn.arg (w := W) (opn_int Try.underlying3) h1 hsz (j := 1) rfl rfl
  obtain ⟨a1, rfl, rfl, rfl, w1⟩ := open_int Try.underlying3 (hval 1 3 v1 rfl rfl) h1
  have o1q : okI .i64 a1 := by obtain ⟨q_, e_, o_⟩ := z1; injection e_ with e_; injection e_ with _ e_; exact e_ ▸ o_
  have lt2 : ∀ x ∈ p2, x.block < W.heap.size := by obtain ⟨m, hm⟩ := h2; exact DataW.trod_lt m _ _ _ hm
  obtain ⟨a2, ⟨u2, e2, hp2⟩, o2q⟩ := Opn.arg (w := W) (opn_slice (bytes := 40) Try.underlying33 (by kernel_rfl) (by kernel_rfl) (by decide) o38) h2 hsz (j := 2) rfl rfl
  obtain ⟨A2, l2, c2, rfl⟩ := okWide_slice Try.underlying33 (hval 2 33 v2 rfl rfl)
  obtain rfl : u2 = .slice A2 l2 c2 := by simpa [Value.cells] using e2.symm
  clear hA0 hval0 hsz0 hsz
  obtain ⟨k, hk⟩ := louverlaw23qQueuePlays_true a0 a1 a2 o0q o1q o2q
  refine (louverlaw23qQueuePlays.calls k hp2 hk (St.init W)).mono fun e W' ⟨he, hS⟩ => ?_
  have bel := hS.bel
  subst he
  exact ⟨_, rfl, _, _, _, [], _, [], hW', trodAll_mk1 (shut_bool Try.underlying4 _), (trodAll_cons_mk (shut_int Try.underlying3 w0) (trodAll_cons_mk (shut_int Try.underlying3 w1) (trodAll_cons_mk (Below.trod laidOut (by kernel_rfl) (of_decide_eq_true (by kernel_rfl)) h2 bel lt2) trodAll_mk0))), rfl, bel.frame _, fun h => by cases h⟩
theorem over : Rows.queuePlaysRow.holds Try.pinned (OpenSpec.ofChange Rows.queuePlaysSpec) :=
  OpenClaim.holds_of_wide 4 Try.f4 rfl rfl rfl rfl rfl rfl rfl ⟨rfl, rfl, rfl, rfl, rfl⟩ rfl rfl rfl rfl rfl (by kernel_rfl) Try.func4 (by kernel_rfl)
    (of_decide_eq_true (by kernel_rfl)) (by unfold Func.isWrapper; first | (rw [if_pos (by decide +kernel)]; kernel_rfl) | (rw [if_neg (by decide +kernel)]; exact ⟨rfl, rfl⟩))
    (fun os started H enc _ => lifted os started H enc)
theorem proved : Rows.QueuePlaysSaid := over
#print axioms proved
end Go.Proofs.Ytfpeagbbbgeeeaa.queuePlays
namespace Go.Proofs.Ytfpeagbbbgeeeaa
/-- The row, under a short name, for the claim. -/
theorem queuePlays_holds : Rows.QueuePlaysSaid := queuePlays.proved
end Go.Proofs.Ytfpeagbbbgeeeaa
