/- The row of the law PrefixPuts: whatever the input, the call returns true, and each argument reads behind the call as it read before. Conditions: those of the given statement, no others. -/
import Derived.Test.YtonhiiedhnhanaaRows
import Derived.Test.YtonhiiedhnhanaaCode2
import Derived.Test.YtonhiiedhnhanaaPureD
import Derived.Test.YtonhiiedhnhanaaSlJ
import Derived.WalkKit
import Derived.ProofKit
import Derived.OpenShut
import Derived.ShutString
import Derived.ChangeOld
import Derived.Below
import Derived.SizedLaws
import Derived.Carry
namespace Go.Proofs.Ytonhiiedhnhanaa.prefixPuts
open Go Go.ChangeShapes Go.WideShapes Go.ChangeAt Go.RowKit Go.Proofs.Sl Go.Proofs.Ytonhiiedhnhanaa.Sl
open Go.ChangeMaps (open_string shut_string)
set_option linter.unusedVariables false
theorem own : ownKnob Try.prog.godebug = none := by kernel_rfl
theorem laidOut : laidOutB Try.prog = true := by kernel_rfl
set_option maxRecDepth 100000 in
theorem lifted (os : Os) (started : os.Started) (H : Type) (enc : TypeId × Value → H) :
    ReturnsInHanded {} Try.checked os 4 .any (Rows.prefixPutsSpec.pre6 enc Try.prog Try.f4 Rows.prefixPutsRow.domain false) (Rows.prefixPutsSpec.post enc Try.prog Try.f4 false true false false) := by
  refine returnsInHanded_of_change_sized (C := Try.checked) own started (by kernel_rfl) Try.func4
    (ChangeSpec.witness6 (enc := enc) (C := Try.checked) false ⟨#[], #[.slice none 0 0, .int .i64 0, .int .u8 0, .int .u32 0, .slice none 0 0], []⟩ 8 (by kernel_rfl) (by kernel_rfl) (by kernel_rfl) (by kernel_rfl)) ?_
  intro W base args ds gs before hval0 hW hcnd hsz0 _
  have hsz : (DataW.weightsEach Try.prog (Try.f4.params.toList ++ Rows.prefixPutsSpec.plain.varTypes Try.prog) (ds ++ gs)).all (· ≤ reachBytes) = true := hsz0
  have hval : ∀ (j : Nat) t v, Try.f4.params[j]? = some t → args[j]? = some v → Value.okWide Try.prog W .any base t v := hval0
  have hW' := hW
  obtain ⟨p, q, hA0, hV, rfl, hfz, hnd⟩ := hW
  have hA : DataW.TrodAll enc Try.prog W 0 (fun _ => true) true Try.f4.params.toList args.toList ds p := hA0
  rw [Try.params4] at hA hval hsz
  obtain ⟨v0, vs0, d0, ds0, p0, q0, hargs, rfl, rfl, h0, r0⟩ := trodAll_cons hA
  obtain ⟨v1, vs1, d1, ds1, p1, q1, rfl, rfl, rfl, h1, r1⟩ := trodAll_cons r0
  obtain ⟨v2, vs2, d2, ds2, p2, q2, rfl, rfl, rfl, h2, r2⟩ := trodAll_cons r1
  obtain ⟨v3, vs3, d3, ds3, p3, q3, rfl, rfl, rfl, h3, r3⟩ := trodAll_cons r2
  obtain ⟨v4, vs4, d4, ds4, p4, q4, rfl, rfl, rfl, h4, r4⟩ := trodAll_cons r3
  obtain ⟨rfl, rfl, rfl⟩ := trodAll_nil r4
  obtain rfl : args = #[v0, v1, v2, v3, v4] := by cases args; simp_all
  obtain ⟨rfl, rfl⟩ := trodVars_none hV
  have lt0 : ∀ x ∈ p0, x.block < W.heap.size := by obtain ⟨m, hm⟩ := h0; exact DataW.trod_lt m _ _ _ hm
  obtain ⟨a0, ⟨u0, e0, hp0⟩, o0q⟩ := Opn.arg (w := W) (opn_slice (bytes := 1) Try.underlying26 (by kernel_rfl) (by kernel_rfl) (by decide) (opn_int Try.underlying5)) h0 hsz (j := 0) rfl rfl
  obtain ⟨A0, l0, c0, rfl⟩ := okWide_slice Try.underlying26 (hval 0 26 v0 rfl rfl)
  obtain rfl : u0 = .slice A0 l0 c0 := by simpa [Value.cells] using e0.symm
  have z1 := Opn.arg (w := W) (opn_int Try.underlying3) h1 hsz (j := 1) rfl rfl
  obtain ⟨a1, rfl, rfl, rfl, w1⟩ := open_int Try.underlying3 (hval 1 3 v1 rfl rfl) h1
  have o1q : okI .i64 a1 := by obtain ⟨q_, e_, o_⟩ := z1; injection e_ with e_; injection e_ with _ e_; exact e_ ▸ o_
  have z2 := Opn.arg (w := W) (opn_int Try.underlying5) h2 hsz (j := 2) rfl rfl
  obtain ⟨a2, rfl, rfl, rfl, w2⟩ := open_int Try.underlying5 (hval 2 5 v2 rfl rfl) h2
  have o2q : okI .u8 a2 := by obtain ⟨q_, e_, o_⟩ := z2; injection e_ with e_; injection e_ with _ e_; exact e_ ▸ o_
  have z3 := Opn.arg (w := W) (opn_int Try.underlying22) h3 hsz (j := 3) rfl rfl
  obtain ⟨a3, rfl, rfl, rfl, w3⟩ := open_int Try.underlying22 (hval 3 22 v3 rfl rfl) h3
  have o3q : okI .u32 a3 := by obtain ⟨q_, e_, o_⟩ := z3; injection e_ with e_; injection e_ with _ e_; exact e_ ▸ o_
  have lt4 : ∀ x ∈ p4, x.block < W.heap.size := by obtain ⟨m, hm⟩ := h4; exact DataW.trod_lt m _ _ _ hm
  obtain ⟨a4, ⟨u4, e4, hp4⟩, o4q⟩ := Opn.arg (w := W) (opn_slice (bytes := 1) Try.underlying26 (by kernel_rfl) (by kernel_rfl) (by decide) (opn_int Try.underlying5)) h4 hsz (j := 4) rfl rfl
  obtain ⟨A4, l4, c4, rfl⟩ := okWide_slice Try.underlying26 (hval 4 26 v4 rfl rfl)
  obtain rfl : u4 = .slice A4 l4 c4 := by simpa [Value.cells] using e4.symm
  clear hA0 hval0 hsz0 hsz
  obtain ⟨k, hk⟩ := louverlaw02qPrefixPuts_true a0 a1 a2 a3 a4 o0q o1q o2q o3q o4q
  refine (louverlaw02qPrefixPuts.calls k hp0 hp4 hk (St.init W)).mono fun e W' ⟨he, hS⟩ => ?_
  have bel := hS.bel
  subst he
  exact ⟨_, rfl, _, _, _, [], _, [], hW', trodAll_mk1 (shut_bool Try.underlying4 _), (trodAll_cons_mk (Below.trod laidOut (by kernel_rfl) (of_decide_eq_true (by kernel_rfl)) h0 bel lt0) (trodAll_cons_mk (shut_int Try.underlying3 w1) (trodAll_cons_mk (shut_int Try.underlying5 w2) (trodAll_cons_mk (shut_int Try.underlying22 w3) (trodAll_cons_mk (Below.trod laidOut (by kernel_rfl) (of_decide_eq_true (by kernel_rfl)) h4 bel lt4) trodAll_mk0))))), rfl, bel.frame _, fun h => by cases h⟩
theorem over : Rows.prefixPutsRow.holds Try.pinned (OpenSpec.ofChange Rows.prefixPutsSpec) :=
  OpenClaim.holds_of_wide 4 Try.f4 rfl rfl rfl rfl rfl rfl rfl ⟨rfl, rfl, rfl, rfl, rfl⟩ rfl rfl rfl rfl rfl (by kernel_rfl) Try.func4 (by kernel_rfl)
    (of_decide_eq_true (by kernel_rfl)) (by unfold Func.isWrapper; first | (rw [if_pos (by decide +kernel)]; kernel_rfl) | (rw [if_neg (by decide +kernel)]; exact ⟨rfl, rfl⟩))
    (fun os started H enc _ => lifted os started H enc)
theorem proved : Rows.PrefixPutsSaid := over
#print axioms proved
end Go.Proofs.Ytonhiiedhnhanaa.prefixPuts
namespace Go.Proofs.Ytonhiiedhnhanaa
/-- The row, under a short name, for the claim. -/
theorem prefixPuts_holds : Rows.PrefixPutsSaid := prefixPuts.proved
end Go.Proofs.Ytonhiiedhnhanaa
