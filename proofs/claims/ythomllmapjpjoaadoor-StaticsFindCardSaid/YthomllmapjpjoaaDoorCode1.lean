/- What the functions of this program compute, told as plain functions, and that the calls come to just that. Printed by this session's program; part 1. -/
import Derived.Test.YthomllmapjpjoaaDoorProg
import Derived.Test.YthomllmapjpjoaaDoorSlQ
set_option linter.unusedVariables false
set_option linter.unusedSimpArgs false
set_option linter.unnecessarySimpa false
namespace Go.Proofs.YthomllmapjpjoaaDoor.Sl
open Go Go.RowKit Go.Proofs.Sl
structure S23 where
  f0 : (List UInt8)
  f1 : (List UInt8)
  f2 : Bool
  deriving DecidableEq
def z23 : S23 := ⟨[], [], false⟩
def k23 : Kd S23 := kIso (kPair kStr (kPair kStr kBool)) (fun x : S23 => (x.f0, (x.f1, x.f2)))
theorem k23qflat : k23.Flat := kIso_flat (kPair_flat kStr_flat (kPair_flat kStr_flat kBool_flat))
theorem k23qind : k23.Ind := kIso_ind (kPair_ind kStr_ind (kPair_ind kStr_ind kBool_ind))
theorem k23qrd {b : Nat} {w0 : World} {R : Frag} {x : S23} {cs : List Value} (h : k23.rd b w0 R x cs) : cs = [.string (mkS x.f0), .string (mkS x.f1), .bool x.f2] := by
  obtain ⟨c1q, c2q, rfl, h3q, h4q⟩ := h
  obtain ⟨c5q, c6q, rfl, h7q, h8q⟩ := h4q
  obtain rfl := h3q
  obtain rfl := h7q
  obtain rfl := h8q
  exact rfl
theorem k23qrep {b : Nat} {w0 : World} {R : Frag} {x : S23} {cs : List Value} {M : Frag} (h : k23.rep b w0 R x cs M) : cs = [.string (mkS x.f0), .string (mkS x.f1), .bool x.f2] ∧ M = [] := by
  obtain ⟨c9q, c10q, M13q, M14q, rfl, rfl, h11q, h12q⟩ := h
  obtain ⟨c15q, c16q, M19q, M20q, rfl, rfl, h17q, h18q⟩ := h12q
  obtain ⟨rfl, rfl⟩ := h11q
  obtain ⟨rfl, rfl⟩ := h17q
  obtain ⟨rfl, rfl⟩ := h18q
  exact ⟨rfl, by simp⟩
theorem k23qno {b : Nat} {w0 : World} {R : Frag} {x : S23} {cs : List Value} {M : Frag} (h : k23.rep b w0 R x cs M) : M = [] := by
  obtain ⟨_, hM_⟩ := k23qrep h
  exact hM_
theorem k23qmk {b : Nat} {w0 : World} {R : Frag} {x : S23}  : ∃ M, k23.rep b w0 R x [.string (mkS x.f0), .string (mkS x.f1), .bool x.f2] M ∧ M = [] := ⟨_, ⟨_, _, _, _, rfl, rfl, ⟨rfl, rfl⟩, ⟨_, _, _, _, rfl, rfl, ⟨rfl, rfl⟩, ⟨rfl, rfl⟩⟩⟩, by simp⟩
def G0 : List S23 := [⟨[58, 97, 117, 116, 104, 111, 114, 105, 116, 121], [], false⟩, ⟨[58, 109, 101, 116, 104, 111, 100], [71, 69, 84], false⟩, ⟨[58, 109, 101, 116, 104, 111, 100], [80, 79, 83, 84], false⟩, ⟨[58, 112, 97, 116, 104], [47], false⟩, ⟨[58, 112, 97, 116, 104], [47, 105, 110, 100, 101, 120, 46, 104, 116, 109, 108], false⟩, ⟨[58, 115, 99, 104, 101, 109, 101], [104, 116, 116, 112], false⟩, ⟨[58, 115, 99, 104, 101, 109, 101], [104, 116, 116, 112, 115], false⟩, ⟨[58, 115, 116, 97, 116, 117, 115], [50, 48, 48], false⟩, ⟨[58, 115, 116, 97, 116, 117, 115], [50, 48, 52], false⟩, ⟨[58, 115, 116, 97, 116, 117, 115], [50, 48, 54], false⟩, ⟨[58, 115, 116, 97, 116, 117, 115], [51, 48, 52], false⟩, ⟨[58, 115, 116, 97, 116, 117, 115], [52, 48, 48], false⟩, ⟨[58, 115, 116, 97, 116, 117, 115], [52, 48, 52], false⟩, ⟨[58, 115, 116, 97, 116, 117, 115], [53, 48, 48], false⟩, ⟨[97, 99, 99, 101, 112, 116, 45, 99, 104, 97, 114, 115, 101, 116], [], false⟩, ⟨[97, 99, 99, 101, 112, 116, 45, 101, 110, 99, 111, 100, 105, 110, 103], [103, 122, 105, 112, 44, 32, 100, 101, 102, 108, 97, 116, 101], false⟩, ⟨[97, 99, 99, 101, 112, 116, 45, 108, 97, 110, 103, 117, 97, 103, 101], [], false⟩, ⟨[97, 99, 99, 101, 112, 116, 45, 114, 97, 110, 103, 101, 115], [], false⟩, ⟨[97, 99, 99, 101, 112, 116], [], false⟩, ⟨[97, 99, 99, 101, 115, 115, 45, 99, 111, 110, 116, 114, 111, 108, 45, 97, 108, 108, 111, 119, 45, 111, 114, 105, 103, 105, 110], [], false⟩, ⟨[97, 103, 101], [], false⟩, ⟨[97, 108, 108, 111, 119], [], false⟩, ⟨[97, 117, 116, 104, 111, 114, 105, 122, 97, 116, 105, 111, 110], [], false⟩, ⟨[99, 97, 99, 104, 101, 45, 99, 111, 110, 116, 114, 111, 108], [], false⟩, ⟨[99, 111, 110, 116, 101, 110, 116, 45, 100, 105, 115, 112, 111, 115, 105, 116, 105, 111, 110], [], false⟩, ⟨[99, 111, 110, 116, 101, 110, 116, 45, 101, 110, 99, 111, 100, 105, 110, 103], [], false⟩, ⟨[99, 111, 110, 116, 101, 110, 116, 45, 108, 97, 110, 103, 117, 97, 103, 101], [], false⟩, ⟨[99, 111, 110, 116, 101, 110, 116, 45, 108, 101, 110, 103, 116, 104], [], false⟩, ⟨[99, 111, 110, 116, 101, 110, 116, 45, 108, 111, 99, 97, 116, 105, 111, 110], [], false⟩, ⟨[99, 111, 110, 116, 101, 110, 116, 45, 114, 97, 110, 103, 101], [], false⟩, ⟨[99, 111, 110, 116, 101, 110, 116, 45, 116, 121, 112, 101], [], false⟩, ⟨[99, 111, 111, 107, 105, 101], [], false⟩, ⟨[100, 97, 116, 101], [], false⟩, ⟨[101, 116, 97, 103], [], false⟩, ⟨[101, 120, 112, 101, 99, 116], [], false⟩, ⟨[101, 120, 112, 105, 114, 101, 115], [], false⟩, ⟨[102, 114, 111, 109], [], false⟩, ⟨[104, 111, 115, 116], [], false⟩, ⟨[105, 102, 45, 109, 97, 116, 99, 104], [], false⟩, ⟨[105, 102, 45, 109, 111, 100, 105, 102, 105, 101, 100, 45, 115, 105, 110, 99, 101], [], false⟩, ⟨[105, 102, 45, 110, 111, 110, 101, 45, 109, 97, 116, 99, 104], [], false⟩, ⟨[105, 102, 45, 114, 97, 110, 103, 101], [], false⟩, ⟨[105, 102, 45, 117, 110, 109, 111, 100, 105, 102, 105, 101, 100, 45, 115, 105, 110, 99, 101], [], false⟩, ⟨[108, 97, 115, 116, 45, 109, 111, 100, 105, 102, 105, 101, 100], [], false⟩, ⟨[108, 105, 110, 107], [], false⟩, ⟨[108, 111, 99, 97, 116, 105, 111, 110], [], false⟩, ⟨[109, 97, 120, 45, 102, 111, 114, 119, 97, 114, 100, 115], [], false⟩, ⟨[112, 114, 111, 120, 121, 45, 97, 117, 116, 104, 101, 110, 116, 105, 99, 97, 116, 101], [], false⟩, ⟨[112, 114, 111, 120, 121, 45, 97, 117, 116, 104, 111, 114, 105, 122, 97, 116, 105, 111, 110], [], false⟩, ⟨[114, 97, 110, 103, 101], [], false⟩, ⟨[114, 101, 102, 101, 114, 101, 114], [], false⟩, ⟨[114, 101, 102, 114, 101, 115, 104], [], false⟩, ⟨[114, 101, 116, 114, 121, 45, 97, 102, 116, 101, 114], [], false⟩, ⟨[115, 101, 114, 118, 101, 114], [], false⟩, ⟨[115, 101, 116, 45, 99, 111, 111, 107, 105, 101], [], false⟩, ⟨[115, 116, 114, 105, 99, 116, 45, 116, 114, 97, 110, 115, 112, 111, 114, 116, 45, 115, 101, 99, 117, 114, 105, 116, 121], [], false⟩, ⟨[116, 114, 97, 110, 115, 102, 101, 114, 45, 101, 110, 99, 111, 100, 105, 110, 103], [], false⟩, ⟨[117, 115, 101, 114, 45, 97, 103, 101, 110, 116], [], false⟩, ⟨[118, 97, 114, 121], [], false⟩, ⟨[118, 105, 97], [], false⟩, ⟨[119, 119, 119, 45, 97, 117, 116, 104, 101, 110, 116, 105, 99, 97, 116, 101], [], false⟩]
theorem G0qlen : G0.length = 61 := rfl
abbrev GC0 : List Value := G0.flatMap (fun x : S23 => ([.string (mkS x.f0), .string (mkS x.f1), .bool x.f2] : List Value))
theorem GC0qat {b : Nat} {w0 : World} {R : Frag} (h : Rds k23 b w0 R (.slice (some ⟨0, 0, none⟩) 61 61) G0) : ∀ j u, GC0[j]? = some u → Kn b w0 R ((⟨0, 0, none⟩ : Addr).add j) u := Rds.flat_cells (by decide) (fun h_ => k23qrd h_) (fun _ => rfl) h
/-! ### louver/statics.At -/
def statics_At.f (p0 : Int) : Option (S23 × Bool) := if p0 < 1 then (some ((⟨([] : List UInt8), ([] : List UInt8), false⟩ : S23), false)) else (if p0 > 61 then (some ((⟨([] : List UInt8), ([] : List UInt8), false⟩ : S23), false)) else (if 0 ≤ (IntKind.i64.wrap (p0 - 1)) then (if (IntKind.i64.wrap (p0 - 1)) < (61 : Int) then (some ((⟨(gt z23 G0 (IntKind.i64.wrap (p0 - 1))).f0, (gt z23 G0 (IntKind.i64.wrap (p0 - 1))).f1, (gt z23 G0 (IntKind.i64.wrap (p0 - 1))).f2⟩ : S23), true)) else (none)) else (none)))
set_option maxHeartbeats 2000000 in
set_option maxRecDepth 100000 in
theorem statics_At.calls {b : Nat} {w0 W : World} {R : Frag} {Fs : List Frag} {p0 : Int}  {r0q : S23} {r1q : Bool} (hg0 : Rds k23 b w0 [] (.slice (some ⟨0, 0, none⟩) 61 61) G0) (H : statics_At.f p0 = some (r0q, r1q)) (hS : St b w0 W R (Fs)) :
    Calls Tryd.prog 6 ([.int .i64 p0] : List Value).toArray W (fun e W' => e = .returned (.tuple #[.agg #[.string (mkS r0q.f0), .string (mkS r0q.f1), .bool r0q.f2], .bool r1q]) ∧ St b w0 W' R (Fs)) := by
  unfold statics_At.f at H
  refine calls_enter Tryd.func6 rfl 15 rfl (by kernel_rfl) (fun a h => ?_)
  refine wp_seq ?_
  refine WL.start ?_
  refine WL.op' (m := 0) h rfl rfl ?_
  refine owp_new (fun g_ => .pointer (some ⟨g_, 0, none⟩)) (.cells ([.string (mkS ([] : List UInt8)), .string (mkS ([] : List UInt8)), .bool false] : List Value).toArray 23 (0, 0)) h rfl (by kernel_rfl) (by kernel_rfl) hS (fun a66q W68q g69q h67q hS70q => ?_)
  refine WL.block (c := 1) (m' := 2) h67q rfl [(3, .bool false)] (by kernel_rfl) (fun a71q h72q => ?_)
  clear h67q a66q
  refine WL.done (by kernel_rfl) ?_
  refine wp_seq ?_
  refine wp_seq ?_
  refine WL.start ?_
  refine WL.block (c := 3) (m' := 3) h72q rfl [(6, .bool (decide (p0 < 1))), (5, .bool (decide (p0 < 1))), (4, .int .i64 p0)] (by kernel_rfl) (fun a73q h74q => ?_)
  clear h72q a71q
  by_cases c75q : p0 < 1
  · rw [if_pos c75q] at H
    have hb_ : (decide (p0 < 1)) = true := decide_eq_true c75q
    try rw [hb_] at h74q
    clear hb_
    refine WL.skipped (m := 3) h74q rfl rfl (by kernel_rfl) rfl (fun a76q h77q => ?_)
    clear h74q a73q
    refine WL.skipped (m := 4) h77q rfl rfl (by kernel_rfl) rfl (fun a78q h79q => ?_)
    clear h77q a76q
    refine WL.block (c := 1) (m' := 6) h79q rfl [(9, .bool true)] (by kernel_rfl) (fun a80q h81q => ?_)
    clear h79q a78q
    refine WL.done (by kernel_rfl) ?_
    refine wp_then h81q rfl ?_
    refine wp_seq ?_
    refine WL.start ?_
    refine WL.block (c := 1) (m' := 1) h81q rfl [(10, .agg #[.string (mkS ([] : List UInt8)), .string (mkS ([] : List UInt8)), .bool false])] (by kernel_rfl) (fun a82q h83q => ?_)
    clear h81q a80q
    refine WL.op' (m := 1) h83q rfl rfl ?_
    refine owp_store (i := 0) (vs := ([.string (mkS ([] : List UInt8)), .string (mkS ([] : List UInt8)), .bool false] : List Value)) h83q rfl (by kernel_rfl) rfl rfl rfl rfl (by simp [Value.oneCell']) (by kernel_rfl) hS70q (by simp) (cs' := ([.string (mkS ([] : List UInt8)), .string (mkS ([] : List UInt8)), .bool false] : List Value)) rfl (fun a84q W86q h85q hS87q => ?_)
    clear h83q a82q
    refine WL.block (c := 1) (m' := 3) h85q rfl [(3, .bool false)] (by kernel_rfl) (fun a88q h89q => ?_)
    clear h85q a84q
    refine WL.done (by kernel_rfl) ?_
    refine wp_ret ?_
    have hS90q : St b w0 W86q R (Fs) := hS87q.drop_
    obtain ⟨rfl, rfl⟩ := ret2 H
    repeat (first | refine then_ret ?_ | refine inBlock_ret ?_ | refine inBlock_go ?_)
    refine body_ret (v := .tuple #[.agg #[.string (mkS ([] : List UInt8)), .string (mkS ([] : List UInt8)), .bool false], .bool false]) h89q (by kernel_rfl) (res_many (xs := [ResultVar.cell 2 23, ResultVar.tmp 3]) rfl ⟨⟨_, rfl, loadVarN Tryd.underlying23 rfl (cs := ([.string (mkS ([] : List UInt8)), .string (mkS ([] : List UInt8)), .bool false] : List Value)) (by kernel_rfl) (hS87q.cells (vs := ([.string (mkS ([] : List UInt8)), .string (mkS ([] : List UInt8)), .bool false] : List Value)) rfl)⟩, rfl, trivial⟩ rfl) ?_
    exact ⟨rfl, hS90q⟩
  · rw [if_neg c75q] at H
    have hb_ : (decide (p0 < 1)) = false := decide_eq_false c75q
    try rw [hb_] at h74q
    clear hb_
    refine WL.op' (m := 3) h74q rfl rfl (owp_run h74q rfl (by kernel_rfl) (v := .int .i64 p0) (by kernel_rfl) (fun a91q h92q => ?_))
    clear h74q a73q
    refine WL.op' (m := 4) h92q rfl rfl (owp_run h92q rfl (by kernel_rfl) (v := .bool (decide (p0 > 61))) (by kernel_rfl) (fun a93q h94q => ?_))
    clear h92q a91q
    refine WL.block (c := 1) (m' := 6) h94q rfl [(9, .bool (decide (p0 > 61)))] (by kernel_rfl) (fun a95q h96q => ?_)
    clear h94q a93q
    refine WL.done (by kernel_rfl) ?_
    by_cases c97q : p0 > 61
    · rw [if_pos c97q] at H
      have hb_ : (decide (p0 > 61)) = true := decide_eq_true c97q
      try rw [hb_] at h96q
      clear hb_
      refine wp_then h96q rfl ?_
      refine wp_seq ?_
      refine WL.start ?_
      refine WL.block (c := 1) (m' := 1) h96q rfl [(10, .agg #[.string (mkS ([] : List UInt8)), .string (mkS ([] : List UInt8)), .bool false])] (by kernel_rfl) (fun a98q h99q => ?_)
      clear h96q a95q
      refine WL.op' (m := 1) h99q rfl rfl ?_
      refine owp_store (i := 0) (vs := ([.string (mkS ([] : List UInt8)), .string (mkS ([] : List UInt8)), .bool false] : List Value)) h99q rfl (by kernel_rfl) rfl rfl rfl rfl (by simp [Value.oneCell']) (by kernel_rfl) hS70q (by simp) (cs' := ([.string (mkS ([] : List UInt8)), .string (mkS ([] : List UInt8)), .bool false] : List Value)) rfl (fun a100q W102q h101q hS103q => ?_)
      clear h99q a98q
      refine WL.block (c := 1) (m' := 3) h101q rfl [(3, .bool false)] (by kernel_rfl) (fun a104q h105q => ?_)
      clear h101q a100q
      refine WL.done (by kernel_rfl) ?_
      refine wp_ret ?_
      have hS106q : St b w0 W102q R (Fs) := hS103q.drop_
      obtain ⟨rfl, rfl⟩ := ret2 H
      repeat (first | refine then_ret ?_ | refine inBlock_ret ?_ | refine inBlock_go ?_)
      refine body_ret (v := .tuple #[.agg #[.string (mkS ([] : List UInt8)), .string (mkS ([] : List UInt8)), .bool false], .bool false]) h105q (by kernel_rfl) (res_many (xs := [ResultVar.cell 2 23, ResultVar.tmp 3]) rfl ⟨⟨_, rfl, loadVarN Tryd.underlying23 rfl (cs := ([.string (mkS ([] : List UInt8)), .string (mkS ([] : List UInt8)), .bool false] : List Value)) (by kernel_rfl) (hS103q.cells (vs := ([.string (mkS ([] : List UInt8)), .string (mkS ([] : List UInt8)), .bool false] : List Value)) rfl)⟩, rfl, trivial⟩ rfl) ?_
      exact ⟨rfl, hS106q⟩
    · rw [if_neg c97q] at H
      have hb_ : (decide (p0 > 61)) = false := decide_eq_false c97q
      try rw [hb_] at h96q
      clear hb_
      refine wp_else h96q rfl ?_
      refine wp_skip ?_
      refine wp_seq ?_
      refine WL.start ?_
      refine WL.block (c := 2) (m' := 2) h96q rfl [(12, .int .i64 (IntKind.i64.wrap (p0 - 1))), (11, .int .i64 p0)] (by kernel_rfl) (fun a107q h108q => ?_)
      clear h96q a95q
      by_cases c109q : 0 ≤ (IntKind.i64.wrap (p0 - 1))
      · rw [if_pos c109q] at H
        by_cases c110q : (IntKind.i64.wrap (p0 - 1)) < (61 : Int)
        · rw [if_pos c110q] at H
          have hx111q : Rds k23 b w0 R (.slice (some ⟨0, 0, none⟩) 61 61) G0 := Rds.mono (fun _ h_ => by cases h_) hg0
          have hi112q : 0 ≤ (IntKind.i64.wrap (p0 - 1)) := by first | assumption | omega
          have hi114q : (IntKind.i64.wrap (p0 - 1)) < ((61 : Nat) : Int) := by omega
          have hi113q : (IntKind.i64.wrap (p0 - 1)) < (G0.length : Int) := by rw [G0qlen]; exact hi114q
          refine WL.op' (m := 2) h108q rfl rfl ?_
          refine owp_run (v := .pointer (some ((⟨0, 0, none⟩ : Addr).add ((IntKind.i64.wrap (p0 - 1)).toNat * 3)))) h108q rfl (by kernel_rfl) (run_idxarr (ad := ⟨0, 0, none⟩) (sz := 3) rfl rfl rfl Tryd.underlying34 (by kernel_rfl) hi112q hi114q) (fun a115q h116q => ?_)
          clear h108q a107q
          obtain ⟨ad117q, cs118q, ha119q, hr121q, hc120q⟩ := Rds.elemAny hx111q hi112q (gt_get (z := z23) hi112q hi113q)
          obtain rfl := Option.some.inj ha119q
          obtain rfl := k23qrd hr121q
          refine WL.op' (m := 3) h116q rfl rfl ?_
          refine owp_run (v := .agg #[.string (mkS ((gt z23 G0 (IntKind.i64.wrap (p0 - 1))).f0)), .string (mkS ((gt z23 G0 (IntKind.i64.wrap (p0 - 1))).f1)), .bool ((gt z23 G0 (IntKind.i64.wrap (p0 - 1))).f2)]) h116q rfl (by kernel_rfl) (run_loadN rfl rfl Tryd.underlying23 rfl (cs := ([.string (mkS ((gt z23 G0 (IntKind.i64.wrap (p0 - 1))).f0)), .string (mkS ((gt z23 G0 (IntKind.i64.wrap (p0 - 1))).f1)), .bool ((gt z23 G0 (IntKind.i64.wrap (p0 - 1))).f2)] : List Value)) (by kernel_rfl) (hc120q _ (fun _ _ hk_ => hS70q.kn hk_))) (fun a122q h123q => ?_)
          clear h116q a115q
          refine WL.op' (m := 4) h123q rfl rfl ?_
          refine owp_store (i := 0) (vs := ([.string (mkS ((gt z23 G0 (IntKind.i64.wrap (p0 - 1))).f0)), .string (mkS ((gt z23 G0 (IntKind.i64.wrap (p0 - 1))).f1)), .bool ((gt z23 G0 (IntKind.i64.wrap (p0 - 1))).f2)] : List Value)) h123q rfl (by kernel_rfl) rfl rfl rfl rfl (by simp [Value.oneCell']) (by kernel_rfl) hS70q (by simp) (cs' := ([.string (mkS ((gt z23 G0 (IntKind.i64.wrap (p0 - 1))).f0)), .string (mkS ((gt z23 G0 (IntKind.i64.wrap (p0 - 1))).f1)), .bool ((gt z23 G0 (IntKind.i64.wrap (p0 - 1))).f2)] : List Value)) rfl (fun a124q W126q h125q hS127q => ?_)
          clear h123q a122q
          refine WL.block (c := 1) (m' := 6) h125q rfl [(3, .bool true)] (by kernel_rfl) (fun a128q h129q => ?_)
          clear h125q a124q
          refine WL.done (by kernel_rfl) ?_
          refine wp_ret ?_
          have hS130q : St b w0 W126q R (Fs) := hS127q.drop_
          obtain ⟨rfl, rfl⟩ := ret2 H
          repeat (first | refine then_ret ?_ | refine inBlock_ret ?_ | refine inBlock_go ?_)
          refine body_ret (v := .tuple #[.agg #[.string (mkS ((gt z23 G0 (IntKind.i64.wrap (p0 - 1))).f0)), .string (mkS ((gt z23 G0 (IntKind.i64.wrap (p0 - 1))).f1)), .bool ((gt z23 G0 (IntKind.i64.wrap (p0 - 1))).f2)], .bool true]) h129q (by kernel_rfl) (res_many (xs := [ResultVar.cell 2 23, ResultVar.tmp 3]) rfl ⟨⟨_, rfl, loadVarN Tryd.underlying23 rfl (cs := ([.string (mkS ((gt z23 G0 (IntKind.i64.wrap (p0 - 1))).f0)), .string (mkS ((gt z23 G0 (IntKind.i64.wrap (p0 - 1))).f1)), .bool ((gt z23 G0 (IntKind.i64.wrap (p0 - 1))).f2)] : List Value)) (by kernel_rfl) (hS127q.cells (vs := ([.string (mkS ((gt z23 G0 (IntKind.i64.wrap (p0 - 1))).f0)), .string (mkS ((gt z23 G0 (IntKind.i64.wrap (p0 - 1))).f1)), .bool ((gt z23 G0 (IntKind.i64.wrap (p0 - 1))).f2)] : List Value)) rfl)⟩, rfl, trivial⟩ rfl) ?_
          exact ⟨rfl, hS130q⟩
        · rw [if_neg c110q] at H
          cases H
      · rw [if_neg c109q] at H
        cases H

/-! ### louver/louverref04.Table -/
def louverref04qTable.f  : Option ((List (List UInt8))) := some ([([58, 97, 117, 116, 104, 111, 114, 105, 116, 121] : List UInt8), ([] : List UInt8), ([58, 109, 101, 116, 104, 111, 100] : List UInt8), ([71, 69, 84] : List UInt8), ([58, 109, 101, 116, 104, 111, 100] : List UInt8), ([80, 79, 83, 84] : List UInt8), ([58, 112, 97, 116, 104] : List UInt8), ([47] : List UInt8), ([58, 112, 97, 116, 104] : List UInt8), ([47, 105, 110, 100, 101, 120, 46, 104, 116, 109, 108] : List UInt8), ([58, 115, 99, 104, 101, 109, 101] : List UInt8), ([104, 116, 116, 112] : List UInt8), ([58, 115, 99, 104, 101, 109, 101] : List UInt8), ([104, 116, 116, 112, 115] : List UInt8), ([58, 115, 116, 97, 116, 117, 115] : List UInt8), ([50, 48, 48] : List UInt8), ([58, 115, 116, 97, 116, 117, 115] : List UInt8), ([50, 48, 52] : List UInt8), ([58, 115, 116, 97, 116, 117, 115] : List UInt8), ([50, 48, 54] : List UInt8), ([58, 115, 116, 97, 116, 117, 115] : List UInt8), ([51, 48, 52] : List UInt8), ([58, 115, 116, 97, 116, 117, 115] : List UInt8), ([52, 48, 48] : List UInt8), ([58, 115, 116, 97, 116, 117, 115] : List UInt8), ([52, 48, 52] : List UInt8), ([58, 115, 116, 97, 116, 117, 115] : List UInt8), ([53, 48, 48] : List UInt8), ([97, 99, 99, 101, 112, 116, 45, 99, 104, 97, 114, 115, 101, 116] : List UInt8), ([] : List UInt8), ([97, 99, 99, 101, 112, 116, 45, 101, 110, 99, 111, 100, 105, 110, 103] : List UInt8), ([103, 122, 105, 112, 44, 32, 100, 101, 102, 108, 97, 116, 101] : List UInt8), ([97, 99, 99, 101, 112, 116, 45, 108, 97, 110, 103, 117, 97, 103, 101] : List UInt8), ([] : List UInt8), ([97, 99, 99, 101, 112, 116, 45, 114, 97, 110, 103, 101, 115] : List UInt8), ([] : List UInt8), ([97, 99, 99, 101, 112, 116] : List UInt8), ([] : List UInt8), ([97, 99, 99, 101, 115, 115, 45, 99, 111, 110, 116, 114, 111, 108, 45, 97, 108, 108, 111, 119, 45, 111, 114, 105, 103, 105, 110] : List UInt8), ([] : List UInt8), ([97, 103, 101] : List UInt8), ([] : List UInt8), ([97, 108, 108, 111, 119] : List UInt8), ([] : List UInt8), ([97, 117, 116, 104, 111, 114, 105, 122, 97, 116, 105, 111, 110] : List UInt8), ([] : List UInt8), ([99, 97, 99, 104, 101, 45, 99, 111, 110, 116, 114, 111, 108] : List UInt8), ([] : List UInt8), ([99, 111, 110, 116, 101, 110, 116, 45, 100, 105, 115, 112, 111, 115, 105, 116, 105, 111, 110] : List UInt8), ([] : List UInt8), ([99, 111, 110, 116, 101, 110, 116, 45, 101, 110, 99, 111, 100, 105, 110, 103] : List UInt8), ([] : List UInt8), ([99, 111, 110, 116, 101, 110, 116, 45, 108, 97, 110, 103, 117, 97, 103, 101] : List UInt8), ([] : List UInt8), ([99, 111, 110, 116, 101, 110, 116, 45, 108, 101, 110, 103, 116, 104] : List UInt8), ([] : List UInt8), ([99, 111, 110, 116, 101, 110, 116, 45, 108, 111, 99, 97, 116, 105, 111, 110] : List UInt8), ([] : List UInt8), ([99, 111, 110, 116, 101, 110, 116, 45, 114, 97, 110, 103, 101] : List UInt8), ([] : List UInt8), ([99, 111, 110, 116, 101, 110, 116, 45, 116, 121, 112, 101] : List UInt8), ([] : List UInt8), ([99, 111, 111, 107, 105, 101] : List UInt8), ([] : List UInt8), ([100, 97, 116, 101] : List UInt8), ([] : List UInt8), ([101, 116, 97, 103] : List UInt8), ([] : List UInt8), ([101, 120, 112, 101, 99, 116] : List UInt8), ([] : List UInt8), ([101, 120, 112, 105, 114, 101, 115] : List UInt8), ([] : List UInt8), ([102, 114, 111, 109] : List UInt8), ([] : List UInt8), ([104, 111, 115, 116] : List UInt8), ([] : List UInt8), ([105, 102, 45, 109, 97, 116, 99, 104] : List UInt8), ([] : List UInt8), ([105, 102, 45, 109, 111, 100, 105, 102, 105, 101, 100, 45, 115, 105, 110, 99, 101] : List UInt8), ([] : List UInt8), ([105, 102, 45, 110, 111, 110, 101, 45, 109, 97, 116, 99, 104] : List UInt8), ([] : List UInt8), ([105, 102, 45, 114, 97, 110, 103, 101] : List UInt8), ([] : List UInt8), ([105, 102, 45, 117, 110, 109, 111, 100, 105, 102, 105, 101, 100, 45, 115, 105, 110, 99, 101] : List UInt8), ([] : List UInt8), ([108, 97, 115, 116, 45, 109, 111, 100, 105, 102, 105, 101, 100] : List UInt8), ([] : List UInt8), ([108, 105, 110, 107] : List UInt8), ([] : List UInt8), ([108, 111, 99, 97, 116, 105, 111, 110] : List UInt8), ([] : List UInt8), ([109, 97, 120, 45, 102, 111, 114, 119, 97, 114, 100, 115] : List UInt8), ([] : List UInt8), ([112, 114, 111, 120, 121, 45, 97, 117, 116, 104, 101, 110, 116, 105, 99, 97, 116, 101] : List UInt8), ([] : List UInt8), ([112, 114, 111, 120, 121, 45, 97, 117, 116, 104, 111, 114, 105, 122, 97, 116, 105, 111, 110] : List UInt8), ([] : List UInt8), ([114, 97, 110, 103, 101] : List UInt8), ([] : List UInt8), ([114, 101, 102, 101, 114, 101, 114] : List UInt8), ([] : List UInt8), ([114, 101, 102, 114, 101, 115, 104] : List UInt8), ([] : List UInt8), ([114, 101, 116, 114, 121, 45, 97, 102, 116, 101, 114] : List UInt8), ([] : List UInt8), ([115, 101, 114, 118, 101, 114] : List UInt8), ([] : List UInt8), ([115, 101, 116, 45, 99, 111, 111, 107, 105, 101] : List UInt8), ([] : List UInt8), ([115, 116, 114, 105, 99, 116, 45, 116, 114, 97, 110, 115, 112, 111, 114, 116, 45, 115, 101, 99, 117, 114, 105, 116, 121] : List UInt8), ([] : List UInt8), ([116, 114, 97, 110, 115, 102, 101, 114, 45, 101, 110, 99, 111, 100, 105, 110, 103] : List UInt8), ([] : List UInt8), ([117, 115, 101, 114, 45, 97, 103, 101, 110, 116] : List UInt8), ([] : List UInt8), ([118, 97, 114, 121] : List UInt8), ([] : List UInt8), ([118, 105, 97] : List UInt8), ([] : List UInt8), ([119, 119, 119, 45, 97, 117, 116, 104, 101, 110, 116, 105, 99, 97, 116, 101] : List UInt8), ([] : List UInt8)] : List (List UInt8))
set_option maxHeartbeats 2000000 in
set_option maxRecDepth 100000 in
theorem louverref04qTable.calls {b : Nat} {w0 W : World} {R : Frag} {Fs : List Frag}   {r0q : (List (List UInt8))}  (H : louverref04qTable.f = some r0q) (hS : St b w0 W R (Fs)) :
    Calls Tryd.prog 11 ([] : List Value).toArray W (fun e W' => ∃ (u0q : Value) (N0q : Frag), e = .returned (u0q) ∧ Row kStr 9 b w0 R u0q r0q N0q ∧ St b w0 W' R (N0q :: Fs)) := by
  unfold louverref04qTable.f at H
  refine calls_enter Tryd.func11 rfl 2 rfl (by kernel_rfl) (fun a h => ?_)
  refine wp_seq ?_
  refine WL.start ?_
  refine WL.block (c := 1) (m' := 1) h rfl [(0, .slice none 0 0)] (by kernel_rfl) (fun a11q h12q => ?_)
  refine WL.done (by kernel_rfl) ?_
  refine wp_seq ?_
  refine WL.start ?_
  refine WL.op' (m := 0) h12q rfl rfl ?_
  refine owp_new (fun g_ => .slice (some ⟨g_, 0, none⟩) 122 122) (.cells ([.string (mkS ([58, 97, 117, 116, 104, 111, 114, 105, 116, 121] : List UInt8)), .string (mkS ([] : List UInt8)), .string (mkS ([58, 109, 101, 116, 104, 111, 100] : List UInt8)), .string (mkS ([71, 69, 84] : List UInt8)), .string (mkS ([58, 109, 101, 116, 104, 111, 100] : List UInt8)), .string (mkS ([80, 79, 83, 84] : List UInt8)), .string (mkS ([58, 112, 97, 116, 104] : List UInt8)), .string (mkS ([47] : List UInt8)), .string (mkS ([58, 112, 97, 116, 104] : List UInt8)), .string (mkS ([47, 105, 110, 100, 101, 120, 46, 104, 116, 109, 108] : List UInt8)), .string (mkS ([58, 115, 99, 104, 101, 109, 101] : List UInt8)), .string (mkS ([104, 116, 116, 112] : List UInt8)), .string (mkS ([58, 115, 99, 104, 101, 109, 101] : List UInt8)), .string (mkS ([104, 116, 116, 112, 115] : List UInt8)), .string (mkS ([58, 115, 116, 97, 116, 117, 115] : List UInt8)), .string (mkS ([50, 48, 48] : List UInt8)), .string (mkS ([58, 115, 116, 97, 116, 117, 115] : List UInt8)), .string (mkS ([50, 48, 52] : List UInt8)), .string (mkS ([58, 115, 116, 97, 116, 117, 115] : List UInt8)), .string (mkS ([50, 48, 54] : List UInt8)), .string (mkS ([58, 115, 116, 97, 116, 117, 115] : List UInt8)), .string (mkS ([51, 48, 52] : List UInt8)), .string (mkS ([58, 115, 116, 97, 116, 117, 115] : List UInt8)), .string (mkS ([52, 48, 48] : List UInt8)), .string (mkS ([58, 115, 116, 97, 116, 117, 115] : List UInt8)), .string (mkS ([52, 48, 52] : List UInt8)), .string (mkS ([58, 115, 116, 97, 116, 117, 115] : List UInt8)), .string (mkS ([53, 48, 48] : List UInt8)), .string (mkS ([97, 99, 99, 101, 112, 116, 45, 99, 104, 97, 114, 115, 101, 116] : List UInt8)), .string (mkS ([] : List UInt8)), .string (mkS ([97, 99, 99, 101, 112, 116, 45, 101, 110, 99, 111, 100, 105, 110, 103] : List UInt8)), .string (mkS ([103, 122, 105, 112, 44, 32, 100, 101, 102, 108, 97, 116, 101] : List UInt8)), .string (mkS ([97, 99, 99, 101, 112, 116, 45, 108, 97, 110, 103, 117, 97, 103, 101] : List UInt8)), .string (mkS ([] : List UInt8)), .string (mkS ([97, 99, 99, 101, 112, 116, 45, 114, 97, 110, 103, 101, 115] : List UInt8)), .string (mkS ([] : List UInt8)), .string (mkS ([97, 99, 99, 101, 112, 116] : List UInt8)), .string (mkS ([] : List UInt8)), .string (mkS ([97, 99, 99, 101, 115, 115, 45, 99, 111, 110, 116, 114, 111, 108, 45, 97, 108, 108, 111, 119, 45, 111, 114, 105, 103, 105, 110] : List UInt8)), .string (mkS ([] : List UInt8)), .string (mkS ([97, 103, 101] : List UInt8)), .string (mkS ([] : List UInt8)), .string (mkS ([97, 108, 108, 111, 119] : List UInt8)), .string (mkS ([] : List UInt8)), .string (mkS ([97, 117, 116, 104, 111, 114, 105, 122, 97, 116, 105, 111, 110] : List UInt8)), .string (mkS ([] : List UInt8)), .string (mkS ([99, 97, 99, 104, 101, 45, 99, 111, 110, 116, 114, 111, 108] : List UInt8)), .string (mkS ([] : List UInt8)), .string (mkS ([99, 111, 110, 116, 101, 110, 116, 45, 100, 105, 115, 112, 111, 115, 105, 116, 105, 111, 110] : List UInt8)), .string (mkS ([] : List UInt8)), .string (mkS ([99, 111, 110, 116, 101, 110, 116, 45, 101, 110, 99, 111, 100, 105, 110, 103] : List UInt8)), .string (mkS ([] : List UInt8)), .string (mkS ([99, 111, 110, 116, 101, 110, 116, 45, 108, 97, 110, 103, 117, 97, 103, 101] : List UInt8)), .string (mkS ([] : List UInt8)), .string (mkS ([99, 111, 110, 116, 101, 110, 116, 45, 108, 101, 110, 103, 116, 104] : List UInt8)), .string (mkS ([] : List UInt8)), .string (mkS ([99, 111, 110, 116, 101, 110, 116, 45, 108, 111, 99, 97, 116, 105, 111, 110] : List UInt8)), .string (mkS ([] : List UInt8)), .string (mkS ([99, 111, 110, 116, 101, 110, 116, 45, 114, 97, 110, 103, 101] : List UInt8)), .string (mkS ([] : List UInt8)), .string (mkS ([99, 111, 110, 116, 101, 110, 116, 45, 116, 121, 112, 101] : List UInt8)), .string (mkS ([] : List UInt8)), .string (mkS ([99, 111, 111, 107, 105, 101] : List UInt8)), .string (mkS ([] : List UInt8)), .string (mkS ([100, 97, 116, 101] : List UInt8)), .string (mkS ([] : List UInt8)), .string (mkS ([101, 116, 97, 103] : List UInt8)), .string (mkS ([] : List UInt8)), .string (mkS ([101, 120, 112, 101, 99, 116] : List UInt8)), .string (mkS ([] : List UInt8)), .string (mkS ([101, 120, 112, 105, 114, 101, 115] : List UInt8)), .string (mkS ([] : List UInt8)), .string (mkS ([102, 114, 111, 109] : List UInt8)), .string (mkS ([] : List UInt8)), .string (mkS ([104, 111, 115, 116] : List UInt8)), .string (mkS ([] : List UInt8)), .string (mkS ([105, 102, 45, 109, 97, 116, 99, 104] : List UInt8)), .string (mkS ([] : List UInt8)), .string (mkS ([105, 102, 45, 109, 111, 100, 105, 102, 105, 101, 100, 45, 115, 105, 110, 99, 101] : List UInt8)), .string (mkS ([] : List UInt8)), .string (mkS ([105, 102, 45, 110, 111, 110, 101, 45, 109, 97, 116, 99, 104] : List UInt8)), .string (mkS ([] : List UInt8)), .string (mkS ([105, 102, 45, 114, 97, 110, 103, 101] : List UInt8)), .string (mkS ([] : List UInt8)), .string (mkS ([105, 102, 45, 117, 110, 109, 111, 100, 105, 102, 105, 101, 100, 45, 115, 105, 110, 99, 101] : List UInt8)), .string (mkS ([] : List UInt8)), .string (mkS ([108, 97, 115, 116, 45, 109, 111, 100, 105, 102, 105, 101, 100] : List UInt8)), .string (mkS ([] : List UInt8)), .string (mkS ([108, 105, 110, 107] : List UInt8)), .string (mkS ([] : List UInt8)), .string (mkS ([108, 111, 99, 97, 116, 105, 111, 110] : List UInt8)), .string (mkS ([] : List UInt8)), .string (mkS ([109, 97, 120, 45, 102, 111, 114, 119, 97, 114, 100, 115] : List UInt8)), .string (mkS ([] : List UInt8)), .string (mkS ([112, 114, 111, 120, 121, 45, 97, 117, 116, 104, 101, 110, 116, 105, 99, 97, 116, 101] : List UInt8)), .string (mkS ([] : List UInt8)), .string (mkS ([112, 114, 111, 120, 121, 45, 97, 117, 116, 104, 111, 114, 105, 122, 97, 116, 105, 111, 110] : List UInt8)), .string (mkS ([] : List UInt8)), .string (mkS ([114, 97, 110, 103, 101] : List UInt8)), .string (mkS ([] : List UInt8)), .string (mkS ([114, 101, 102, 101, 114, 101, 114] : List UInt8)), .string (mkS ([] : List UInt8)), .string (mkS ([114, 101, 102, 114, 101, 115, 104] : List UInt8)), .string (mkS ([] : List UInt8)), .string (mkS ([114, 101, 116, 114, 121, 45, 97, 102, 116, 101, 114] : List UInt8)), .string (mkS ([] : List UInt8)), .string (mkS ([115, 101, 114, 118, 101, 114] : List UInt8)), .string (mkS ([] : List UInt8)), .string (mkS ([115, 101, 116, 45, 99, 111, 111, 107, 105, 101] : List UInt8)), .string (mkS ([] : List UInt8)), .string (mkS ([115, 116, 114, 105, 99, 116, 45, 116, 114, 97, 110, 115, 112, 111, 114, 116, 45, 115, 101, 99, 117, 114, 105, 116, 121] : List UInt8)), .string (mkS ([] : List UInt8)), .string (mkS ([116, 114, 97, 110, 115, 102, 101, 114, 45, 101, 110, 99, 111, 100, 105, 110, 103] : List UInt8)), .string (mkS ([] : List UInt8)), .string (mkS ([117, 115, 101, 114, 45, 97, 103, 101, 110, 116] : List UInt8)), .string (mkS ([] : List UInt8)), .string (mkS ([118, 97, 114, 121] : List UInt8)), .string (mkS ([] : List UInt8)), .string (mkS ([118, 105, 97] : List UInt8)), .string (mkS ([] : List UInt8)), .string (mkS ([119, 119, 119, 45, 97, 117, 116, 104, 101, 110, 116, 105, 99, 97, 116, 101] : List UInt8)), .string (mkS ([] : List UInt8))] : List Value).toArray 9 (0, 0)) h12q rfl (by kernel_rfl) (by kernel_rfl) hS (fun a13q W15q g16q h14q hS17q => ?_)
  clear h12q a11q
  have hr18q : Row kStr 9 b w0 R (.slice (some ⟨g16q, 0, none⟩) 122 122) ([([58, 97, 117, 116, 104, 111, 114, 105, 116, 121] : List UInt8), ([] : List UInt8), ([58, 109, 101, 116, 104, 111, 100] : List UInt8), ([71, 69, 84] : List UInt8), ([58, 109, 101, 116, 104, 111, 100] : List UInt8), ([80, 79, 83, 84] : List UInt8), ([58, 112, 97, 116, 104] : List UInt8), ([47] : List UInt8), ([58, 112, 97, 116, 104] : List UInt8), ([47, 105, 110, 100, 101, 120, 46, 104, 116, 109, 108] : List UInt8), ([58, 115, 99, 104, 101, 109, 101] : List UInt8), ([104, 116, 116, 112] : List UInt8), ([58, 115, 99, 104, 101, 109, 101] : List UInt8), ([104, 116, 116, 112, 115] : List UInt8), ([58, 115, 116, 97, 116, 117, 115] : List UInt8), ([50, 48, 48] : List UInt8), ([58, 115, 116, 97, 116, 117, 115] : List UInt8), ([50, 48, 52] : List UInt8), ([58, 115, 116, 97, 116, 117, 115] : List UInt8), ([50, 48, 54] : List UInt8), ([58, 115, 116, 97, 116, 117, 115] : List UInt8), ([51, 48, 52] : List UInt8), ([58, 115, 116, 97, 116, 117, 115] : List UInt8), ([52, 48, 48] : List UInt8), ([58, 115, 116, 97, 116, 117, 115] : List UInt8), ([52, 48, 52] : List UInt8), ([58, 115, 116, 97, 116, 117, 115] : List UInt8), ([53, 48, 48] : List UInt8), ([97, 99, 99, 101, 112, 116, 45, 99, 104, 97, 114, 115, 101, 116] : List UInt8), ([] : List UInt8), ([97, 99, 99, 101, 112, 116, 45, 101, 110, 99, 111, 100, 105, 110, 103] : List UInt8), ([103, 122, 105, 112, 44, 32, 100, 101, 102, 108, 97, 116, 101] : List UInt8), ([97, 99, 99, 101, 112, 116, 45, 108, 97, 110, 103, 117, 97, 103, 101] : List UInt8), ([] : List UInt8), ([97, 99, 99, 101, 112, 116, 45, 114, 97, 110, 103, 101, 115] : List UInt8), ([] : List UInt8), ([97, 99, 99, 101, 112, 116] : List UInt8), ([] : List UInt8), ([97, 99, 99, 101, 115, 115, 45, 99, 111, 110, 116, 114, 111, 108, 45, 97, 108, 108, 111, 119, 45, 111, 114, 105, 103, 105, 110] : List UInt8), ([] : List UInt8), ([97, 103, 101] : List UInt8), ([] : List UInt8), ([97, 108, 108, 111, 119] : List UInt8), ([] : List UInt8), ([97, 117, 116, 104, 111, 114, 105, 122, 97, 116, 105, 111, 110] : List UInt8), ([] : List UInt8), ([99, 97, 99, 104, 101, 45, 99, 111, 110, 116, 114, 111, 108] : List UInt8), ([] : List UInt8), ([99, 111, 110, 116, 101, 110, 116, 45, 100, 105, 115, 112, 111, 115, 105, 116, 105, 111, 110] : List UInt8), ([] : List UInt8), ([99, 111, 110, 116, 101, 110, 116, 45, 101, 110, 99, 111, 100, 105, 110, 103] : List UInt8), ([] : List UInt8), ([99, 111, 110, 116, 101, 110, 116, 45, 108, 97, 110, 103, 117, 97, 103, 101] : List UInt8), ([] : List UInt8), ([99, 111, 110, 116, 101, 110, 116, 45, 108, 101, 110, 103, 116, 104] : List UInt8), ([] : List UInt8), ([99, 111, 110, 116, 101, 110, 116, 45, 108, 111, 99, 97, 116, 105, 111, 110] : List UInt8), ([] : List UInt8), ([99, 111, 110, 116, 101, 110, 116, 45, 114, 97, 110, 103, 101] : List UInt8), ([] : List UInt8), ([99, 111, 110, 116, 101, 110, 116, 45, 116, 121, 112, 101] : List UInt8), ([] : List UInt8), ([99, 111, 111, 107, 105, 101] : List UInt8), ([] : List UInt8), ([100, 97, 116, 101] : List UInt8), ([] : List UInt8), ([101, 116, 97, 103] : List UInt8), ([] : List UInt8), ([101, 120, 112, 101, 99, 116] : List UInt8), ([] : List UInt8), ([101, 120, 112, 105, 114, 101, 115] : List UInt8), ([] : List UInt8), ([102, 114, 111, 109] : List UInt8), ([] : List UInt8), ([104, 111, 115, 116] : List UInt8), ([] : List UInt8), ([105, 102, 45, 109, 97, 116, 99, 104] : List UInt8), ([] : List UInt8), ([105, 102, 45, 109, 111, 100, 105, 102, 105, 101, 100, 45, 115, 105, 110, 99, 101] : List UInt8), ([] : List UInt8), ([105, 102, 45, 110, 111, 110, 101, 45, 109, 97, 116, 99, 104] : List UInt8), ([] : List UInt8), ([105, 102, 45, 114, 97, 110, 103, 101] : List UInt8), ([] : List UInt8), ([105, 102, 45, 117, 110, 109, 111, 100, 105, 102, 105, 101, 100, 45, 115, 105, 110, 99, 101] : List UInt8), ([] : List UInt8), ([108, 97, 115, 116, 45, 109, 111, 100, 105, 102, 105, 101, 100] : List UInt8), ([] : List UInt8), ([108, 105, 110, 107] : List UInt8), ([] : List UInt8), ([108, 111, 99, 97, 116, 105, 111, 110] : List UInt8), ([] : List UInt8), ([109, 97, 120, 45, 102, 111, 114, 119, 97, 114, 100, 115] : List UInt8), ([] : List UInt8), ([112, 114, 111, 120, 121, 45, 97, 117, 116, 104, 101, 110, 116, 105, 99, 97, 116, 101] : List UInt8), ([] : List UInt8), ([112, 114, 111, 120, 121, 45, 97, 117, 116, 104, 111, 114, 105, 122, 97, 116, 105, 111, 110] : List UInt8), ([] : List UInt8), ([114, 97, 110, 103, 101] : List UInt8), ([] : List UInt8), ([114, 101, 102, 101, 114, 101, 114] : List UInt8), ([] : List UInt8), ([114, 101, 102, 114, 101, 115, 104] : List UInt8), ([] : List UInt8), ([114, 101, 116, 114, 121, 45, 97, 102, 116, 101, 114] : List UInt8), ([] : List UInt8), ([115, 101, 114, 118, 101, 114] : List UInt8), ([] : List UInt8), ([115, 101, 116, 45, 99, 111, 111, 107, 105, 101] : List UInt8), ([] : List UInt8), ([115, 116, 114, 105, 99, 116, 45, 116, 114, 97, 110, 115, 112, 111, 114, 116, 45, 115, 101, 99, 117, 114, 105, 116, 121] : List UInt8), ([] : List UInt8), ([116, 114, 97, 110, 115, 102, 101, 114, 45, 101, 110, 99, 111, 100, 105, 110, 103] : List UInt8), ([] : List UInt8), ([117, 115, 101, 114, 45, 97, 103, 101, 110, 116] : List UInt8), ([] : List UInt8), ([118, 97, 114, 121] : List UInt8), ([] : List UInt8), ([118, 105, 97] : List UInt8), ([] : List UInt8), ([119, 119, 119, 45, 97, 117, 116, 104, 101, 110, 116, 105, 99, 97, 116, 101] : List UInt8), ([] : List UInt8)] : List (List UInt8)) [(g16q, .cells ([.string (mkS ([58, 97, 117, 116, 104, 111, 114, 105, 116, 121] : List UInt8)), .string (mkS ([] : List UInt8)), .string (mkS ([58, 109, 101, 116, 104, 111, 100] : List UInt8)), .string (mkS ([71, 69, 84] : List UInt8)), .string (mkS ([58, 109, 101, 116, 104, 111, 100] : List UInt8)), .string (mkS ([80, 79, 83, 84] : List UInt8)), .string (mkS ([58, 112, 97, 116, 104] : List UInt8)), .string (mkS ([47] : List UInt8)), .string (mkS ([58, 112, 97, 116, 104] : List UInt8)), .string (mkS ([47, 105, 110, 100, 101, 120, 46, 104, 116, 109, 108] : List UInt8)), .string (mkS ([58, 115, 99, 104, 101, 109, 101] : List UInt8)), .string (mkS ([104, 116, 116, 112] : List UInt8)), .string (mkS ([58, 115, 99, 104, 101, 109, 101] : List UInt8)), .string (mkS ([104, 116, 116, 112, 115] : List UInt8)), .string (mkS ([58, 115, 116, 97, 116, 117, 115] : List UInt8)), .string (mkS ([50, 48, 48] : List UInt8)), .string (mkS ([58, 115, 116, 97, 116, 117, 115] : List UInt8)), .string (mkS ([50, 48, 52] : List UInt8)), .string (mkS ([58, 115, 116, 97, 116, 117, 115] : List UInt8)), .string (mkS ([50, 48, 54] : List UInt8)), .string (mkS ([58, 115, 116, 97, 116, 117, 115] : List UInt8)), .string (mkS ([51, 48, 52] : List UInt8)), .string (mkS ([58, 115, 116, 97, 116, 117, 115] : List UInt8)), .string (mkS ([52, 48, 48] : List UInt8)), .string (mkS ([58, 115, 116, 97, 116, 117, 115] : List UInt8)), .string (mkS ([52, 48, 52] : List UInt8)), .string (mkS ([58, 115, 116, 97, 116, 117, 115] : List UInt8)), .string (mkS ([53, 48, 48] : List UInt8)), .string (mkS ([97, 99, 99, 101, 112, 116, 45, 99, 104, 97, 114, 115, 101, 116] : List UInt8)), .string (mkS ([] : List UInt8)), .string (mkS ([97, 99, 99, 101, 112, 116, 45, 101, 110, 99, 111, 100, 105, 110, 103] : List UInt8)), .string (mkS ([103, 122, 105, 112, 44, 32, 100, 101, 102, 108, 97, 116, 101] : List UInt8)), .string (mkS ([97, 99, 99, 101, 112, 116, 45, 108, 97, 110, 103, 117, 97, 103, 101] : List UInt8)), .string (mkS ([] : List UInt8)), .string (mkS ([97, 99, 99, 101, 112, 116, 45, 114, 97, 110, 103, 101, 115] : List UInt8)), .string (mkS ([] : List UInt8)), .string (mkS ([97, 99, 99, 101, 112, 116] : List UInt8)), .string (mkS ([] : List UInt8)), .string (mkS ([97, 99, 99, 101, 115, 115, 45, 99, 111, 110, 116, 114, 111, 108, 45, 97, 108, 108, 111, 119, 45, 111, 114, 105, 103, 105, 110] : List UInt8)), .string (mkS ([] : List UInt8)), .string (mkS ([97, 103, 101] : List UInt8)), .string (mkS ([] : List UInt8)), .string (mkS ([97, 108, 108, 111, 119] : List UInt8)), .string (mkS ([] : List UInt8)), .string (mkS ([97, 117, 116, 104, 111, 114, 105, 122, 97, 116, 105, 111, 110] : List UInt8)), .string (mkS ([] : List UInt8)), .string (mkS ([99, 97, 99, 104, 101, 45, 99, 111, 110, 116, 114, 111, 108] : List UInt8)), .string (mkS ([] : List UInt8)), .string (mkS ([99, 111, 110, 116, 101, 110, 116, 45, 100, 105, 115, 112, 111, 115, 105, 116, 105, 111, 110] : List UInt8)), .string (mkS ([] : List UInt8)), .string (mkS ([99, 111, 110, 116, 101, 110, 116, 45, 101, 110, 99, 111, 100, 105, 110, 103] : List UInt8)), .string (mkS ([] : List UInt8)), .string (mkS ([99, 111, 110, 116, 101, 110, 116, 45, 108, 97, 110, 103, 117, 97, 103, 101] : List UInt8)), .string (mkS ([] : List UInt8)), .string (mkS ([99, 111, 110, 116, 101, 110, 116, 45, 108, 101, 110, 103, 116, 104] : List UInt8)), .string (mkS ([] : List UInt8)), .string (mkS ([99, 111, 110, 116, 101, 110, 116, 45, 108, 111, 99, 97, 116, 105, 111, 110] : List UInt8)), .string (mkS ([] : List UInt8)), .string (mkS ([99, 111, 110, 116, 101, 110, 116, 45, 114, 97, 110, 103, 101] : List UInt8)), .string (mkS ([] : List UInt8)), .string (mkS ([99, 111, 110, 116, 101, 110, 116, 45, 116, 121, 112, 101] : List UInt8)), .string (mkS ([] : List UInt8)), .string (mkS ([99, 111, 111, 107, 105, 101] : List UInt8)), .string (mkS ([] : List UInt8)), .string (mkS ([100, 97, 116, 101] : List UInt8)), .string (mkS ([] : List UInt8)), .string (mkS ([101, 116, 97, 103] : List UInt8)), .string (mkS ([] : List UInt8)), .string (mkS ([101, 120, 112, 101, 99, 116] : List UInt8)), .string (mkS ([] : List UInt8)), .string (mkS ([101, 120, 112, 105, 114, 101, 115] : List UInt8)), .string (mkS ([] : List UInt8)), .string (mkS ([102, 114, 111, 109] : List UInt8)), .string (mkS ([] : List UInt8)), .string (mkS ([104, 111, 115, 116] : List UInt8)), .string (mkS ([] : List UInt8)), .string (mkS ([105, 102, 45, 109, 97, 116, 99, 104] : List UInt8)), .string (mkS ([] : List UInt8)), .string (mkS ([105, 102, 45, 109, 111, 100, 105, 102, 105, 101, 100, 45, 115, 105, 110, 99, 101] : List UInt8)), .string (mkS ([] : List UInt8)), .string (mkS ([105, 102, 45, 110, 111, 110, 101, 45, 109, 97, 116, 99, 104] : List UInt8)), .string (mkS ([] : List UInt8)), .string (mkS ([105, 102, 45, 114, 97, 110, 103, 101] : List UInt8)), .string (mkS ([] : List UInt8)), .string (mkS ([105, 102, 45, 117, 110, 109, 111, 100, 105, 102, 105, 101, 100, 45, 115, 105, 110, 99, 101] : List UInt8)), .string (mkS ([] : List UInt8)), .string (mkS ([108, 97, 115, 116, 45, 109, 111, 100, 105, 102, 105, 101, 100] : List UInt8)), .string (mkS ([] : List UInt8)), .string (mkS ([108, 105, 110, 107] : List UInt8)), .string (mkS ([] : List UInt8)), .string (mkS ([108, 111, 99, 97, 116, 105, 111, 110] : List UInt8)), .string (mkS ([] : List UInt8)), .string (mkS ([109, 97, 120, 45, 102, 111, 114, 119, 97, 114, 100, 115] : List UInt8)), .string (mkS ([] : List UInt8)), .string (mkS ([112, 114, 111, 120, 121, 45, 97, 117, 116, 104, 101, 110, 116, 105, 99, 97, 116, 101] : List UInt8)), .string (mkS ([] : List UInt8)), .string (mkS ([112, 114, 111, 120, 121, 45, 97, 117, 116, 104, 111, 114, 105, 122, 97, 116, 105, 111, 110] : List UInt8)), .string (mkS ([] : List UInt8)), .string (mkS ([114, 97, 110, 103, 101] : List UInt8)), .string (mkS ([] : List UInt8)), .string (mkS ([114, 101, 102, 101, 114, 101, 114] : List UInt8)), .string (mkS ([] : List UInt8)), .string (mkS ([114, 101, 102, 114, 101, 115, 104] : List UInt8)), .string (mkS ([] : List UInt8)), .string (mkS ([114, 101, 116, 114, 121, 45, 97, 102, 116, 101, 114] : List UInt8)), .string (mkS ([] : List UInt8)), .string (mkS ([115, 101, 114, 118, 101, 114] : List UInt8)), .string (mkS ([] : List UInt8)), .string (mkS ([115, 101, 116, 45, 99, 111, 111, 107, 105, 101] : List UInt8)), .string (mkS ([] : List UInt8)), .string (mkS ([115, 116, 114, 105, 99, 116, 45, 116, 114, 97, 110, 115, 112, 111, 114, 116, 45, 115, 101, 99, 117, 114, 105, 116, 121] : List UInt8)), .string (mkS ([] : List UInt8)), .string (mkS ([116, 114, 97, 110, 115, 102, 101, 114, 45, 101, 110, 99, 111, 100, 105, 110, 103] : List UInt8)), .string (mkS ([] : List UInt8)), .string (mkS ([117, 115, 101, 114, 45, 97, 103, 101, 110, 116] : List UInt8)), .string (mkS ([] : List UInt8)), .string (mkS ([118, 97, 114, 121] : List UInt8)), .string (mkS ([] : List UInt8)), .string (mkS ([118, 105, 97] : List UInt8)), .string (mkS ([] : List UInt8)), .string (mkS ([119, 119, 119, 45, 97, 117, 116, 104, 101, 110, 116, 105, 99, 97, 116, 101] : List UInt8)), .string (mkS ([] : List UInt8))] : List Value).toArray 9 (0, 0))] := Row.lit (xs := ([([58, 97, 117, 116, 104, 111, 114, 105, 116, 121] : List UInt8), ([] : List UInt8), ([58, 109, 101, 116, 104, 111, 100] : List UInt8), ([71, 69, 84] : List UInt8), ([58, 109, 101, 116, 104, 111, 100] : List UInt8), ([80, 79, 83, 84] : List UInt8), ([58, 112, 97, 116, 104] : List UInt8), ([47] : List UInt8), ([58, 112, 97, 116, 104] : List UInt8), ([47, 105, 110, 100, 101, 120, 46, 104, 116, 109, 108] : List UInt8), ([58, 115, 99, 104, 101, 109, 101] : List UInt8), ([104, 116, 116, 112] : List UInt8), ([58, 115, 99, 104, 101, 109, 101] : List UInt8), ([104, 116, 116, 112, 115] : List UInt8), ([58, 115, 116, 97, 116, 117, 115] : List UInt8), ([50, 48, 48] : List UInt8), ([58, 115, 116, 97, 116, 117, 115] : List UInt8), ([50, 48, 52] : List UInt8), ([58, 115, 116, 97, 116, 117, 115] : List UInt8), ([50, 48, 54] : List UInt8), ([58, 115, 116, 97, 116, 117, 115] : List UInt8), ([51, 48, 52] : List UInt8), ([58, 115, 116, 97, 116, 117, 115] : List UInt8), ([52, 48, 48] : List UInt8), ([58, 115, 116, 97, 116, 117, 115] : List UInt8), ([52, 48, 52] : List UInt8), ([58, 115, 116, 97, 116, 117, 115] : List UInt8), ([53, 48, 48] : List UInt8), ([97, 99, 99, 101, 112, 116, 45, 99, 104, 97, 114, 115, 101, 116] : List UInt8), ([] : List UInt8), ([97, 99, 99, 101, 112, 116, 45, 101, 110, 99, 111, 100, 105, 110, 103] : List UInt8), ([103, 122, 105, 112, 44, 32, 100, 101, 102, 108, 97, 116, 101] : List UInt8), ([97, 99, 99, 101, 112, 116, 45, 108, 97, 110, 103, 117, 97, 103, 101] : List UInt8), ([] : List UInt8), ([97, 99, 99, 101, 112, 116, 45, 114, 97, 110, 103, 101, 115] : List UInt8), ([] : List UInt8), ([97, 99, 99, 101, 112, 116] : List UInt8), ([] : List UInt8), ([97, 99, 99, 101, 115, 115, 45, 99, 111, 110, 116, 114, 111, 108, 45, 97, 108, 108, 111, 119, 45, 111, 114, 105, 103, 105, 110] : List UInt8), ([] : List UInt8), ([97, 103, 101] : List UInt8), ([] : List UInt8), ([97, 108, 108, 111, 119] : List UInt8), ([] : List UInt8), ([97, 117, 116, 104, 111, 114, 105, 122, 97, 116, 105, 111, 110] : List UInt8), ([] : List UInt8), ([99, 97, 99, 104, 101, 45, 99, 111, 110, 116, 114, 111, 108] : List UInt8), ([] : List UInt8), ([99, 111, 110, 116, 101, 110, 116, 45, 100, 105, 115, 112, 111, 115, 105, 116, 105, 111, 110] : List UInt8), ([] : List UInt8), ([99, 111, 110, 116, 101, 110, 116, 45, 101, 110, 99, 111, 100, 105, 110, 103] : List UInt8), ([] : List UInt8), ([99, 111, 110, 116, 101, 110, 116, 45, 108, 97, 110, 103, 117, 97, 103, 101] : List UInt8), ([] : List UInt8), ([99, 111, 110, 116, 101, 110, 116, 45, 108, 101, 110, 103, 116, 104] : List UInt8), ([] : List UInt8), ([99, 111, 110, 116, 101, 110, 116, 45, 108, 111, 99, 97, 116, 105, 111, 110] : List UInt8), ([] : List UInt8), ([99, 111, 110, 116, 101, 110, 116, 45, 114, 97, 110, 103, 101] : List UInt8), ([] : List UInt8), ([99, 111, 110, 116, 101, 110, 116, 45, 116, 121, 112, 101] : List UInt8), ([] : List UInt8), ([99, 111, 111, 107, 105, 101] : List UInt8), ([] : List UInt8), ([100, 97, 116, 101] : List UInt8), ([] : List UInt8), ([101, 116, 97, 103] : List UInt8), ([] : List UInt8), ([101, 120, 112, 101, 99, 116] : List UInt8), ([] : List UInt8), ([101, 120, 112, 105, 114, 101, 115] : List UInt8), ([] : List UInt8), ([102, 114, 111, 109] : List UInt8), ([] : List UInt8), ([104, 111, 115, 116] : List UInt8), ([] : List UInt8), ([105, 102, 45, 109, 97, 116, 99, 104] : List UInt8), ([] : List UInt8), ([105, 102, 45, 109, 111, 100, 105, 102, 105, 101, 100, 45, 115, 105, 110, 99, 101] : List UInt8), ([] : List UInt8), ([105, 102, 45, 110, 111, 110, 101, 45, 109, 97, 116, 99, 104] : List UInt8), ([] : List UInt8), ([105, 102, 45, 114, 97, 110, 103, 101] : List UInt8), ([] : List UInt8), ([105, 102, 45, 117, 110, 109, 111, 100, 105, 102, 105, 101, 100, 45, 115, 105, 110, 99, 101] : List UInt8), ([] : List UInt8), ([108, 97, 115, 116, 45, 109, 111, 100, 105, 102, 105, 101, 100] : List UInt8), ([] : List UInt8), ([108, 105, 110, 107] : List UInt8), ([] : List UInt8), ([108, 111, 99, 97, 116, 105, 111, 110] : List UInt8), ([] : List UInt8), ([109, 97, 120, 45, 102, 111, 114, 119, 97, 114, 100, 115] : List UInt8), ([] : List UInt8), ([112, 114, 111, 120, 121, 45, 97, 117, 116, 104, 101, 110, 116, 105, 99, 97, 116, 101] : List UInt8), ([] : List UInt8), ([112, 114, 111, 120, 121, 45, 97, 117, 116, 104, 111, 114, 105, 122, 97, 116, 105, 111, 110] : List UInt8), ([] : List UInt8), ([114, 97, 110, 103, 101] : List UInt8), ([] : List UInt8), ([114, 101, 102, 101, 114, 101, 114] : List UInt8), ([] : List UInt8), ([114, 101, 102, 114, 101, 115, 104] : List UInt8), ([] : List UInt8), ([114, 101, 116, 114, 121, 45, 97, 102, 116, 101, 114] : List UInt8), ([] : List UInt8), ([115, 101, 114, 118, 101, 114] : List UInt8), ([] : List UInt8), ([115, 101, 116, 45, 99, 111, 111, 107, 105, 101] : List UInt8), ([] : List UInt8), ([115, 116, 114, 105, 99, 116, 45, 116, 114, 97, 110, 115, 112, 111, 114, 116, 45, 115, 101, 99, 117, 114, 105, 116, 121] : List UInt8), ([] : List UInt8), ([116, 114, 97, 110, 115, 102, 101, 114, 45, 101, 110, 99, 111, 100, 105, 110, 103] : List UInt8), ([] : List UInt8), ([117, 115, 101, 114, 45, 97, 103, 101, 110, 116] : List UInt8), ([] : List UInt8), ([118, 97, 114, 121] : List UInt8), ([] : List UInt8), ([118, 105, 97] : List UInt8), ([] : List UInt8), ([119, 119, 119, 45, 97, 117, 116, 104, 101, 110, 116, 105, 99, 97, 116, 101] : List UInt8), ([] : List UInt8)] : List (List UInt8))) (Mi := []) (reps_str _) (by simp [maxLen])
  refine WL.block (c := 1) (m' := 2) h14q rfl [(0, .slice (some ⟨g16q, 0, none⟩) 122 122)] (by kernel_rfl) (fun a19q h20q => ?_)
  clear h14q a13q
  refine WL.done (by kernel_rfl) ?_
  refine wp_ret ?_
  obtain rfl := Option.some.inj H
  repeat (first | refine then_ret ?_ | refine inBlock_ret ?_ | refine inBlock_go ?_)
  refine body_ret (v := .slice (some ⟨g16q, 0, none⟩) 122 122) h20q (by kernel_rfl) (by kernel_rfl) ?_
  exact ⟨.slice (some ⟨g16q, 0, none⟩) 122 122, [(g16q, .cells ([.string (mkS ([58, 97, 117, 116, 104, 111, 114, 105, 116, 121] : List UInt8)), .string (mkS ([] : List UInt8)), .string (mkS ([58, 109, 101, 116, 104, 111, 100] : List UInt8)), .string (mkS ([71, 69, 84] : List UInt8)), .string (mkS ([58, 109, 101, 116, 104, 111, 100] : List UInt8)), .string (mkS ([80, 79, 83, 84] : List UInt8)), .string (mkS ([58, 112, 97, 116, 104] : List UInt8)), .string (mkS ([47] : List UInt8)), .string (mkS ([58, 112, 97, 116, 104] : List UInt8)), .string (mkS ([47, 105, 110, 100, 101, 120, 46, 104, 116, 109, 108] : List UInt8)), .string (mkS ([58, 115, 99, 104, 101, 109, 101] : List UInt8)), .string (mkS ([104, 116, 116, 112] : List UInt8)), .string (mkS ([58, 115, 99, 104, 101, 109, 101] : List UInt8)), .string (mkS ([104, 116, 116, 112, 115] : List UInt8)), .string (mkS ([58, 115, 116, 97, 116, 117, 115] : List UInt8)), .string (mkS ([50, 48, 48] : List UInt8)), .string (mkS ([58, 115, 116, 97, 116, 117, 115] : List UInt8)), .string (mkS ([50, 48, 52] : List UInt8)), .string (mkS ([58, 115, 116, 97, 116, 117, 115] : List UInt8)), .string (mkS ([50, 48, 54] : List UInt8)), .string (mkS ([58, 115, 116, 97, 116, 117, 115] : List UInt8)), .string (mkS ([51, 48, 52] : List UInt8)), .string (mkS ([58, 115, 116, 97, 116, 117, 115] : List UInt8)), .string (mkS ([52, 48, 48] : List UInt8)), .string (mkS ([58, 115, 116, 97, 116, 117, 115] : List UInt8)), .string (mkS ([52, 48, 52] : List UInt8)), .string (mkS ([58, 115, 116, 97, 116, 117, 115] : List UInt8)), .string (mkS ([53, 48, 48] : List UInt8)), .string (mkS ([97, 99, 99, 101, 112, 116, 45, 99, 104, 97, 114, 115, 101, 116] : List UInt8)), .string (mkS ([] : List UInt8)), .string (mkS ([97, 99, 99, 101, 112, 116, 45, 101, 110, 99, 111, 100, 105, 110, 103] : List UInt8)), .string (mkS ([103, 122, 105, 112, 44, 32, 100, 101, 102, 108, 97, 116, 101] : List UInt8)), .string (mkS ([97, 99, 99, 101, 112, 116, 45, 108, 97, 110, 103, 117, 97, 103, 101] : List UInt8)), .string (mkS ([] : List UInt8)), .string (mkS ([97, 99, 99, 101, 112, 116, 45, 114, 97, 110, 103, 101, 115] : List UInt8)), .string (mkS ([] : List UInt8)), .string (mkS ([97, 99, 99, 101, 112, 116] : List UInt8)), .string (mkS ([] : List UInt8)), .string (mkS ([97, 99, 99, 101, 115, 115, 45, 99, 111, 110, 116, 114, 111, 108, 45, 97, 108, 108, 111, 119, 45, 111, 114, 105, 103, 105, 110] : List UInt8)), .string (mkS ([] : List UInt8)), .string (mkS ([97, 103, 101] : List UInt8)), .string (mkS ([] : List UInt8)), .string (mkS ([97, 108, 108, 111, 119] : List UInt8)), .string (mkS ([] : List UInt8)), .string (mkS ([97, 117, 116, 104, 111, 114, 105, 122, 97, 116, 105, 111, 110] : List UInt8)), .string (mkS ([] : List UInt8)), .string (mkS ([99, 97, 99, 104, 101, 45, 99, 111, 110, 116, 114, 111, 108] : List UInt8)), .string (mkS ([] : List UInt8)), .string (mkS ([99, 111, 110, 116, 101, 110, 116, 45, 100, 105, 115, 112, 111, 115, 105, 116, 105, 111, 110] : List UInt8)), .string (mkS ([] : List UInt8)), .string (mkS ([99, 111, 110, 116, 101, 110, 116, 45, 101, 110, 99, 111, 100, 105, 110, 103] : List UInt8)), .string (mkS ([] : List UInt8)), .string (mkS ([99, 111, 110, 116, 101, 110, 116, 45, 108, 97, 110, 103, 117, 97, 103, 101] : List UInt8)), .string (mkS ([] : List UInt8)), .string (mkS ([99, 111, 110, 116, 101, 110, 116, 45, 108, 101, 110, 103, 116, 104] : List UInt8)), .string (mkS ([] : List UInt8)), .string (mkS ([99, 111, 110, 116, 101, 110, 116, 45, 108, 111, 99, 97, 116, 105, 111, 110] : List UInt8)), .string (mkS ([] : List UInt8)), .string (mkS ([99, 111, 110, 116, 101, 110, 116, 45, 114, 97, 110, 103, 101] : List UInt8)), .string (mkS ([] : List UInt8)), .string (mkS ([99, 111, 110, 116, 101, 110, 116, 45, 116, 121, 112, 101] : List UInt8)), .string (mkS ([] : List UInt8)), .string (mkS ([99, 111, 111, 107, 105, 101] : List UInt8)), .string (mkS ([] : List UInt8)), .string (mkS ([100, 97, 116, 101] : List UInt8)), .string (mkS ([] : List UInt8)), .string (mkS ([101, 116, 97, 103] : List UInt8)), .string (mkS ([] : List UInt8)), .string (mkS ([101, 120, 112, 101, 99, 116] : List UInt8)), .string (mkS ([] : List UInt8)), .string (mkS ([101, 120, 112, 105, 114, 101, 115] : List UInt8)), .string (mkS ([] : List UInt8)), .string (mkS ([102, 114, 111, 109] : List UInt8)), .string (mkS ([] : List UInt8)), .string (mkS ([104, 111, 115, 116] : List UInt8)), .string (mkS ([] : List UInt8)), .string (mkS ([105, 102, 45, 109, 97, 116, 99, 104] : List UInt8)), .string (mkS ([] : List UInt8)), .string (mkS ([105, 102, 45, 109, 111, 100, 105, 102, 105, 101, 100, 45, 115, 105, 110, 99, 101] : List UInt8)), .string (mkS ([] : List UInt8)), .string (mkS ([105, 102, 45, 110, 111, 110, 101, 45, 109, 97, 116, 99, 104] : List UInt8)), .string (mkS ([] : List UInt8)), .string (mkS ([105, 102, 45, 114, 97, 110, 103, 101] : List UInt8)), .string (mkS ([] : List UInt8)), .string (mkS ([105, 102, 45, 117, 110, 109, 111, 100, 105, 102, 105, 101, 100, 45, 115, 105, 110, 99, 101] : List UInt8)), .string (mkS ([] : List UInt8)), .string (mkS ([108, 97, 115, 116, 45, 109, 111, 100, 105, 102, 105, 101, 100] : List UInt8)), .string (mkS ([] : List UInt8)), .string (mkS ([108, 105, 110, 107] : List UInt8)), .string (mkS ([] : List UInt8)), .string (mkS ([108, 111, 99, 97, 116, 105, 111, 110] : List UInt8)), .string (mkS ([] : List UInt8)), .string (mkS ([109, 97, 120, 45, 102, 111, 114, 119, 97, 114, 100, 115] : List UInt8)), .string (mkS ([] : List UInt8)), .string (mkS ([112, 114, 111, 120, 121, 45, 97, 117, 116, 104, 101, 110, 116, 105, 99, 97, 116, 101] : List UInt8)), .string (mkS ([] : List UInt8)), .string (mkS ([112, 114, 111, 120, 121, 45, 97, 117, 116, 104, 111, 114, 105, 122, 97, 116, 105, 111, 110] : List UInt8)), .string (mkS ([] : List UInt8)), .string (mkS ([114, 97, 110, 103, 101] : List UInt8)), .string (mkS ([] : List UInt8)), .string (mkS ([114, 101, 102, 101, 114, 101, 114] : List UInt8)), .string (mkS ([] : List UInt8)), .string (mkS ([114, 101, 102, 114, 101, 115, 104] : List UInt8)), .string (mkS ([] : List UInt8)), .string (mkS ([114, 101, 116, 114, 121, 45, 97, 102, 116, 101, 114] : List UInt8)), .string (mkS ([] : List UInt8)), .string (mkS ([115, 101, 114, 118, 101, 114] : List UInt8)), .string (mkS ([] : List UInt8)), .string (mkS ([115, 101, 116, 45, 99, 111, 111, 107, 105, 101] : List UInt8)), .string (mkS ([] : List UInt8)), .string (mkS ([115, 116, 114, 105, 99, 116, 45, 116, 114, 97, 110, 115, 112, 111, 114, 116, 45, 115, 101, 99, 117, 114, 105, 116, 121] : List UInt8)), .string (mkS ([] : List UInt8)), .string (mkS ([116, 114, 97, 110, 115, 102, 101, 114, 45, 101, 110, 99, 111, 100, 105, 110, 103] : List UInt8)), .string (mkS ([] : List UInt8)), .string (mkS ([117, 115, 101, 114, 45, 97, 103, 101, 110, 116] : List UInt8)), .string (mkS ([] : List UInt8)), .string (mkS ([118, 97, 114, 121] : List UInt8)), .string (mkS ([] : List UInt8)), .string (mkS ([118, 105, 97] : List UInt8)), .string (mkS ([] : List UInt8)), .string (mkS ([119, 119, 119, 45, 97, 117, 116, 104, 101, 110, 116, 105, 99, 97, 116, 101] : List UInt8)), .string (mkS ([] : List UInt8))] : List Value).toArray 9 (0, 0))], rfl, hr18q, hS17q⟩

/-! ### louver/louverref04.At -/
def louverref04qAt.f (p0 : Int) : Option ((List UInt8) × (List UInt8) × Bool) := bnd1 (louverref04qTable.f) fun r213q => (if p0 < 1 then (some (([] : List UInt8), ([] : List UInt8), false)) else (if p0 > (IntKind.i64.wrap (Int.tdiv (r213q.length : Int) 2)) then (some (([] : List UInt8), ([] : List UInt8), false)) else (if 0 ≤ (IntKind.i64.wrap ((IntKind.i64.wrap (2 * p0)) - 2)) then (if (IntKind.i64.wrap ((IntKind.i64.wrap (2 * p0)) - 2)) < (r213q.length : Int) then (if 0 ≤ (IntKind.i64.wrap ((IntKind.i64.wrap (2 * p0)) - 1)) then (if (IntKind.i64.wrap ((IntKind.i64.wrap (2 * p0)) - 1)) < (r213q.length : Int) then (some ((gt [] r213q (IntKind.i64.wrap ((IntKind.i64.wrap (2 * p0)) - 2))), (gt [] r213q (IntKind.i64.wrap ((IntKind.i64.wrap (2 * p0)) - 1))), true)) else (none)) else (none)) else (none)) else (none))))
set_option maxHeartbeats 2000000 in
set_option maxRecDepth 100000 in
theorem louverref04qAt.calls {b : Nat} {w0 W : World} {R : Frag} {Fs : List Frag} {p0 : Int}  {r0q : (List UInt8)} {r1q : (List UInt8)} {r2q : Bool}  (H : louverref04qAt.f p0 = some (r0q, r1q, r2q)) (hS : St b w0 W R (Fs)) :
    Calls Tryd.prog 7 ([.int .i64 p0] : List Value).toArray W (fun e W' => e = .returned (.tuple #[.string (mkS r0q), .string (mkS r1q), .bool r2q]) ∧ St b w0 W' R (Fs)) := by
  unfold louverref04qAt.f at H
  refine calls_enter Tryd.func7 rfl 28 rfl (by kernel_rfl) (fun a h => ?_)
  refine wp_seq ?_
  refine WL.start ?_
  refine WL.block (c := 3) (m' := 3) h rfl [(4, .bool false), (3, .string (mkS ([] : List UInt8))), (2, .string (mkS ([] : List UInt8)))] (by kernel_rfl) (fun a210q h211q => ?_)
  refine WL.done (by kernel_rfl) ?_
  refine wp_seq ?_
  refine WL.start ?_
  obtain ⟨r213q, A212q, H⟩ := bind1 H
  refine WL.op' (m := 0) h211q rfl rfl ?_
  refine owp_call [] h211q rfl (by kernel_rfl) rfl Tryd.func11 (by kernel_rfl) rfl (by kernel_rfl) (louverref04qTable.calls  A212q hS) (fun e215q W214q hp216q => ?_)
  obtain ⟨v219q, M220q, rfl, hr221q, hS222q⟩ := hp216q
  refine ⟨_, rfl, fun a217q h218q => ?_⟩
  clear h211q a210q
  obtain ⟨A223q, c224q, rfl⟩ := hr221q.form
  refine WL.block (c := 1) (m' := 2) h218q rfl [(5, .slice A223q r213q.length c224q)] (by kernel_rfl) (fun a225q h226q => ?_)
  clear h218q a217q
  refine WL.done (by kernel_rfl) ?_
  refine wp_seq ?_
  refine wp_seq ?_
  refine WL.start ?_
  refine WL.block (c := 3) (m' := 3) h226q rfl [(9, .bool (decide (p0 < 1))), (8, .bool (decide (p0 < 1))), (7, .int .i64 p0)] (by kernel_rfl) (fun a227q h228q => ?_)
  clear h226q a225q
  by_cases c229q : p0 < 1
  · rw [if_pos c229q] at H
    have hb_ : (decide (p0 < 1)) = true := decide_eq_true c229q
    try rw [hb_] at h228q
    clear hb_
    refine WL.skipped (m := 3) h228q rfl rfl (by kernel_rfl) rfl (fun a230q h231q => ?_)
    clear h228q a227q
    refine WL.skipped (m := 4) h231q rfl rfl (by kernel_rfl) rfl (fun a232q h233q => ?_)
    clear h231q a230q
    refine WL.skipped (m := 5) h233q rfl rfl (by kernel_rfl) rfl (fun a234q h235q => ?_)
    clear h233q a232q
    refine WL.skipped (m := 6) h235q rfl rfl (by kernel_rfl) rfl (fun a236q h237q => ?_)
    clear h235q a234q
    refine WL.skipped (m := 7) h237q rfl rfl (by kernel_rfl) rfl (fun a238q h239q => ?_)
    clear h237q a236q
    refine WL.block (c := 1) (m' := 9) h239q rfl [(15, .bool true)] (by kernel_rfl) (fun a240q h241q => ?_)
    clear h239q a238q
    refine WL.done (by kernel_rfl) ?_
    refine wp_then h241q rfl ?_
    refine wp_seq ?_
    refine WL.start ?_
    refine WL.block (c := 3) (m' := 3) h241q rfl [(4, .bool false), (3, .string (mkS ([] : List UInt8))), (2, .string (mkS ([] : List UInt8)))] (by kernel_rfl) (fun a242q h243q => ?_)
    clear h241q a240q
    refine WL.done (by kernel_rfl) ?_
    refine wp_ret ?_
    have hS244q : St b w0 W214q R (Fs) := hS222q.drop_
    obtain ⟨rfl, rfl, rfl⟩ := ret3 H
    repeat (first | refine then_ret ?_ | refine inBlock_ret ?_ | refine inBlock_go ?_)
    refine body_ret (v := .tuple #[.string (mkS ([] : List UInt8)), .string (mkS ([] : List UInt8)), .bool false]) h243q (by kernel_rfl) (by kernel_rfl) ?_
    exact ⟨rfl, hS244q⟩
  · rw [if_neg c229q] at H
    have hb_ : (decide (p0 < 1)) = false := decide_eq_false c229q
    try rw [hb_] at h228q
    clear hb_
    refine WL.op' (m := 3) h228q rfl rfl (owp_run h228q rfl (by kernel_rfl) (v := .int .i64 p0) (by kernel_rfl) (fun a245q h246q => ?_))
    clear h228q a227q
    refine WL.op' (m := 4) h246q rfl rfl (owp_run h246q rfl (by kernel_rfl) (v := .slice A223q r213q.length c224q) (by kernel_rfl) (fun a247q h248q => ?_))
    clear h246q a245q
    refine WL.op' (m := 5) h248q rfl rfl (owp_run h248q rfl (by kernel_rfl) (v := .int .i64 (r213q.length : Int)) (by kernel_rfl) (fun a249q h250q => ?_))
    clear h248q a247q
    refine WL.op' (m := 6) h250q rfl rfl (owp_run h250q rfl (by kernel_rfl) (v := .int .i64 (IntKind.i64.wrap (Int.tdiv (r213q.length : Int) 2))) (by kernel_rfl) (fun a251q h252q => ?_))
    clear h250q a249q
    refine WL.op' (m := 7) h252q rfl rfl (owp_run h252q rfl (by kernel_rfl) (v := .bool (decide (p0 > (IntKind.i64.wrap (Int.tdiv (r213q.length : Int) 2))))) (by kernel_rfl) (fun a253q h254q => ?_))
    clear h252q a251q
    refine WL.block (c := 1) (m' := 9) h254q rfl [(15, .bool (decide (p0 > (IntKind.i64.wrap (Int.tdiv (r213q.length : Int) 2)))))] (by kernel_rfl) (fun a255q h256q => ?_)
    clear h254q a253q
    refine WL.done (by kernel_rfl) ?_
    by_cases c257q : p0 > (IntKind.i64.wrap (Int.tdiv (r213q.length : Int) 2))
    · rw [if_pos c257q] at H
      have hb_ : (decide (p0 > (IntKind.i64.wrap (Int.tdiv (r213q.length : Int) 2)))) = true := decide_eq_true c257q
      try rw [hb_] at h256q
      clear hb_
      refine wp_then h256q rfl ?_
      refine wp_seq ?_
      refine WL.start ?_
      refine WL.block (c := 3) (m' := 3) h256q rfl [(4, .bool false), (3, .string (mkS ([] : List UInt8))), (2, .string (mkS ([] : List UInt8)))] (by kernel_rfl) (fun a258q h259q => ?_)
      clear h256q a255q
      refine WL.done (by kernel_rfl) ?_
      refine wp_ret ?_
      have hS260q : St b w0 W214q R (Fs) := hS222q.drop_
      obtain ⟨rfl, rfl, rfl⟩ := ret3 H
      repeat (first | refine then_ret ?_ | refine inBlock_ret ?_ | refine inBlock_go ?_)
      refine body_ret (v := .tuple #[.string (mkS ([] : List UInt8)), .string (mkS ([] : List UInt8)), .bool false]) h259q (by kernel_rfl) (by kernel_rfl) ?_
      exact ⟨rfl, hS260q⟩
    · rw [if_neg c257q] at H
      have hb_ : (decide (p0 > (IntKind.i64.wrap (Int.tdiv (r213q.length : Int) 2)))) = false := decide_eq_false c257q
      try rw [hb_] at h256q
      clear hb_
      refine wp_else h256q rfl ?_
      refine wp_skip ?_
      refine wp_seq ?_
      refine WH.start (fun w_ => (∀ a_ u_, Kn b w0 (M220q ++ R) a_ u_ → w_.cell? a_ = some u_) ∧ True) (by kernel_rfl) #[false, false, false, false, false, false, false, false, false, false, false, false, false, false, false] 15 rfl rfl ?_
      have hS365q := hS222q.drew
      refine WH.take 0 (listed' := #[true, false, false, false, false, false, false, false, false, false, false, false, false, false, false]) h256q rfl rfl (by kernel_rfl) rfl rfl (.slice A223q r213q.length c224q) (fun _ _ => by kernel_rfl) ⟨(fun _ _ hk_ => (hS365q).pool.kn hk_), trivial⟩ (fun _ _ _ h_ => h_) (fun a366q h367q => ?_)
      clear h256q a255q
      refine WH.take 1 (listed' := #[true, true, false, false, false, false, false, false, false, false, false, false, false, false, false]) h367q rfl rfl (by kernel_rfl) rfl rfl (.int .i64 p0) (fun _ _ => by kernel_rfl) ⟨(fun _ _ hk_ => (hS365q).pool.kn hk_), trivial⟩ (fun _ _ _ h_ => h_) (fun a368q h369q => ?_)
      clear h367q a366q
      refine WH.take 2 (listed' := #[true, true, true, false, false, false, false, false, false, false, false, false, false, false, false]) h369q rfl rfl (by kernel_rfl) rfl rfl (.int .i64 (IntKind.i64.wrap (2 * p0))) (fun _ _ => by kernel_rfl) ⟨(fun _ _ hk_ => (hS365q).pool.kn hk_), trivial⟩ (fun _ _ _ h_ => h_) (fun a370q h371q => ?_)
      clear h369q a368q
      refine WH.take 3 (listed' := #[true, true, true, true, false, false, false, false, false, false, false, false, false, false, false]) h371q rfl rfl (by kernel_rfl) rfl rfl (.int .i64 (IntKind.i64.wrap ((IntKind.i64.wrap (2 * p0)) - 2))) (fun _ _ => by kernel_rfl) ⟨(fun _ _ hk_ => (hS365q).pool.kn hk_), trivial⟩ (fun _ _ _ h_ => h_) (fun a372q h373q => ?_)
      clear h371q a370q
      refine WH.take 6 (listed' := #[true, true, true, true, false, false, true, false, false, false, false, false, false, false, false]) h373q rfl rfl (by kernel_rfl) rfl rfl (.slice A223q r213q.length c224q) (fun _ _ => by kernel_rfl) ⟨(fun _ _ hk_ => (hS365q).pool.kn hk_), trivial⟩ (fun _ _ _ h_ => h_) (fun a374q h375q => ?_)
      clear h373q a372q
      refine WH.take 7 (listed' := #[true, true, true, true, false, false, true, true, false, false, false, false, false, false, false]) h375q rfl rfl (by kernel_rfl) rfl rfl (.int .i64 p0) (fun _ _ => by kernel_rfl) ⟨(fun _ _ hk_ => (hS365q).pool.kn hk_), trivial⟩ (fun _ _ _ h_ => h_) (fun a376q h377q => ?_)
      clear h375q a374q
      refine WH.take 8 (listed' := #[true, true, true, true, false, false, true, true, true, false, false, false, false, false, false]) h377q rfl rfl (by kernel_rfl) rfl rfl (.int .i64 (IntKind.i64.wrap (2 * p0))) (fun _ _ => by kernel_rfl) ⟨(fun _ _ hk_ => (hS365q).pool.kn hk_), trivial⟩ (fun _ _ _ h_ => h_) (fun a378q h379q => ?_)
      clear h377q a376q
      refine WH.take 9 (listed' := #[true, true, true, true, false, false, true, true, true, true, false, false, false, false, false]) h379q rfl rfl (by kernel_rfl) rfl rfl (.int .i64 (IntKind.i64.wrap ((IntKind.i64.wrap (2 * p0)) - 1))) (fun _ _ => by kernel_rfl) ⟨(fun _ _ hk_ => (hS365q).pool.kn hk_), trivial⟩ (fun _ _ _ h_ => h_) (fun a380q h381q => ?_)
      clear h379q a378q
      by_cases c382q : 0 ≤ (IntKind.i64.wrap ((IntKind.i64.wrap (2 * p0)) - 2))
      · rw [if_pos c382q] at H
        by_cases c383q : (IntKind.i64.wrap ((IntKind.i64.wrap (2 * p0)) - 2)) < (r213q.length : Int)
        · rw [if_pos c383q] at H
          have hi386q : 0 ≤ IntKind.i64.wrap ((IntKind.i64.wrap (2 * p0)) - 2) := by first | assumption | omega
          have hi387q : (IntKind.i64.wrap ((IntKind.i64.wrap (2 * p0)) - 2)) < (r213q.length : Int) := by first | assumption | omega
          obtain ⟨ad384q, _, ha385q, -, -⟩ := Rds.elemAny hr221q.rds hi386q (gt_get (z := []) hi386q hi387q)
          refine WH.take 4 (listed' := #[true, true, true, true, true, false, true, true, true, true, false, false, false, false, false]) h381q rfl rfl (by kernel_rfl) rfl rfl (.pointer (some (ad384q.add ((IntKind.i64.wrap ((IntKind.i64.wrap (2 * p0)) - 2)).toNat * 1)))) (fun w_ hs_ => (run_idx (ad := ad384q) (sz := 1) rfl (by rw [← ha385q]; rfl) rfl Tryd.underlying35 (by kernel_rfl) hi386q hi387q)) ⟨(fun _ _ hk_ => (hS365q).pool.kn hk_), trivial⟩ (fun _ _ _ h_ => h_) (fun a388q h389q => ?_)
          clear h381q a380q
          obtain ⟨ad390q, cs391q, ha392q, hr394q, hc393q⟩ := Rds.elemAny hr221q.rds hi386q (gt_get (z := []) hi386q hi387q)
          rw [ha385q] at ha392q; obtain rfl := Option.some.inj ha392q
          obtain rfl : cs391q = [.string (mkS (gt [] r213q (IntKind.i64.wrap ((IntKind.i64.wrap (2 * p0)) - 2))))] := hr394q
          refine WH.take 5 (listed' := #[true, true, true, true, true, true, true, true, true, true, false, false, false, false, false]) h389q rfl rfl (by kernel_rfl) rfl rfl (.string (mkS (gt [] r213q (IntKind.i64.wrap ((IntKind.i64.wrap (2 * p0)) - 2))))) (fun w_ hs_ => (run_load1 rfl rfl Tryd.underlying9 rfl (cell0 (hc393q _ hs_.1)))) ⟨(fun _ _ hk_ => (hS365q).pool.kn hk_), trivial⟩ (fun _ _ _ h_ => h_) (fun a395q h396q => ?_)
          clear h389q a388q
          refine WH.take 12 (listed' := #[true, true, true, true, true, true, true, true, true, true, false, false, true, false, false]) h396q rfl rfl (by kernel_rfl) rfl rfl (.string (mkS (gt [] r213q (IntKind.i64.wrap ((IntKind.i64.wrap (2 * p0)) - 2))))) (fun _ _ => by kernel_rfl) ⟨(fun _ _ hk_ => (hS365q).pool.kn hk_), trivial⟩ (fun _ _ _ h_ => h_) (fun a397q h398q => ?_)
          clear h396q a395q
          by_cases c399q : 0 ≤ (IntKind.i64.wrap ((IntKind.i64.wrap (2 * p0)) - 1))
          · rw [if_pos c399q] at H
            by_cases c400q : (IntKind.i64.wrap ((IntKind.i64.wrap (2 * p0)) - 1)) < (r213q.length : Int)
            · rw [if_pos c400q] at H
              have hi403q : 0 ≤ IntKind.i64.wrap ((IntKind.i64.wrap (2 * p0)) - 1) := by first | assumption | omega
              have hi404q : (IntKind.i64.wrap ((IntKind.i64.wrap (2 * p0)) - 1)) < (r213q.length : Int) := by first | assumption | omega
              obtain ⟨ad401q, _, ha402q, -, -⟩ := Rds.elemAny hr221q.rds hi403q (gt_get (z := []) hi403q hi404q)
              refine WH.take 10 (listed' := #[true, true, true, true, true, true, true, true, true, true, true, false, true, false, false]) h398q rfl rfl (by kernel_rfl) rfl rfl (.pointer (some (ad401q.add ((IntKind.i64.wrap ((IntKind.i64.wrap (2 * p0)) - 1)).toNat * 1)))) (fun w_ hs_ => (run_idx (ad := ad401q) (sz := 1) rfl (by rw [← ha402q]; rfl) rfl Tryd.underlying35 (by kernel_rfl) hi403q hi404q)) ⟨(fun _ _ hk_ => (hS365q).pool.kn hk_), trivial⟩ (fun _ _ _ h_ => h_) (fun a405q h406q => ?_)
              clear h398q a397q
              obtain ⟨ad407q, cs408q, ha409q, hr411q, hc410q⟩ := Rds.elemAny hr221q.rds hi403q (gt_get (z := []) hi403q hi404q)
              rw [ha402q] at ha409q; obtain rfl := Option.some.inj ha409q
              obtain rfl : cs408q = [.string (mkS (gt [] r213q (IntKind.i64.wrap ((IntKind.i64.wrap (2 * p0)) - 1))))] := hr411q
              refine WH.take 11 (listed' := #[true, true, true, true, true, true, true, true, true, true, true, true, true, false, false]) h406q rfl rfl (by kernel_rfl) rfl rfl (.string (mkS (gt [] r213q (IntKind.i64.wrap ((IntKind.i64.wrap (2 * p0)) - 1))))) (fun w_ hs_ => (run_load1 rfl rfl Tryd.underlying9 rfl (cell0 (hc410q _ hs_.1)))) ⟨(fun _ _ hk_ => (hS365q).pool.kn hk_), trivial⟩ (fun _ _ _ h_ => h_) (fun a412q h413q => ?_)
              clear h406q a405q
              refine WH.take 13 (listed' := #[true, true, true, true, true, true, true, true, true, true, true, true, true, true, false]) h413q rfl rfl (by kernel_rfl) rfl rfl (.string (mkS (gt [] r213q (IntKind.i64.wrap ((IntKind.i64.wrap (2 * p0)) - 1))))) (fun _ _ => by kernel_rfl) ⟨(fun _ _ hk_ => (hS365q).pool.kn hk_), trivial⟩ (fun _ _ _ h_ => h_) (fun a414q h415q => ?_)
              clear h413q a412q
              refine WH.take 14 (listed' := #[true, true, true, true, true, true, true, true, true, true, true, true, true, true, true]) h415q rfl rfl (by kernel_rfl) rfl rfl (.bool true) (fun _ _ => by kernel_rfl) ⟨(fun _ _ hk_ => (hS365q).pool.kn hk_), trivial⟩ (fun _ _ _ h_ => h_) (fun a416q h417q => ?_)
              clear h415q a414q
              refine WH.done (by kernel_rfl) ?_
              refine wp_ret ?_
              have hS418q : St b w0 W214q.drew R (Fs) := hS365q.drop_
              obtain ⟨rfl, rfl, rfl⟩ := ret3 H
              repeat (first | refine then_ret ?_ | refine inBlock_ret ?_ | refine inBlock_go ?_)
              refine body_ret (v := .tuple #[.string (mkS (gt [] r213q (IntKind.i64.wrap ((IntKind.i64.wrap (2 * p0)) - 2)))), .string (mkS (gt [] r213q (IntKind.i64.wrap ((IntKind.i64.wrap (2 * p0)) - 1)))), .bool true]) h417q (by kernel_rfl) (by kernel_rfl) ?_
              exact ⟨rfl, hS418q⟩
            · rw [if_neg c400q] at H
              cases H
          · rw [if_neg c399q] at H
            cases H
        · rw [if_neg c383q] at H
          cases H
      · rw [if_neg c382q] at H
        cases H

/-! ### louver/statics.Find -/
def statics_Find.l0 : Nat → Int → Int → (List UInt8) → (List UInt8) → Option (Int × Bool)
  | 0, _, _, _, _ => none
  | k + 1, x178q, x179q, p0, p1 => if x179q < 61 then (if 0 ≤ x179q then (if x179q < (61 : Int) then (if ((gt z23 G0 x179q).f0) = p0 then (if ((gt z23 G0 x179q).f1) = p1 then (some (IntKind.i64.wrap (x179q + 1), true)) else (if x178q = 0 then (statics_Find.l0 k (IntKind.i64.wrap (x179q + 1)) (IntKind.i64.wrap (x179q + 1)) p0 p1) else (statics_Find.l0 k x178q (IntKind.i64.wrap (x179q + 1)) p0 p1))) else (statics_Find.l0 k x178q (IntKind.i64.wrap (x179q + 1)) p0 p1)) else (none)) else (none)) else (some (x178q, false))
def statics_Find.f (k : Nat) (p0 : (List UInt8)) (p1 : (List UInt8)) : Option (Int × Bool) := statics_Find.l0 k 0 0 p0 p1
set_option maxHeartbeats 2000000 in
set_option maxRecDepth 100000 in
theorem statics_Find.calls (k : Nat) {b : Nat} {w0 W : World} {R : Frag} {Fs : List Frag} {p0 : (List UInt8)} {p1 : (List UInt8)}  {r0q : Int} {r1q : Bool} (hg0 : Rds k23 b w0 [] (.slice (some ⟨0, 0, none⟩) 61 61) G0) (H : statics_Find.f k p0 p1 = some (r0q, r1q)) (hS : St b w0 W R (Fs)) :
    Calls Tryd.prog 8 ([.string (mkS p0), .string (mkS p1)] : List Value).toArray W (fun e W' => e = .returned (.tuple #[.int .i64 r0q, .bool r1q]) ∧ St b w0 W' R (Fs)) := by
  unfold statics_Find.f at H
  refine calls_enter Tryd.func8 rfl 33 rfl (by kernel_rfl) (fun a h => ?_)
  refine wp_seq ?_
  refine WL.start ?_
  refine WL.block (c := 2) (m' := 2) h rfl [(5, .bool false), (4, .int .i64 0)] (by kernel_rfl) (fun a165q h166q => ?_)
  refine WL.done (by kernel_rfl) ?_
  refine wp_seq ?_
  refine WL.start ?_
  refine WL.block (c := 1) (m' := 1) h166q rfl [(6, .int .i64 0)] (by kernel_rfl) (fun a167q h168q => ?_)
  clear h166q a165q
  refine WL.done (by kernel_rfl) ?_
  refine wp_seq ?_
  refine wp_seq ?_
  refine WL.start ?_
  refine WL.op' (m := 0) h168q rfl rfl ?_
  refine owp_run (v := .agg GC0.toArray) h168q rfl (by kernel_rfl) (run_loadN rfl rfl Tryd.underlying34 rfl (cs := GC0) (by kernel_rfl) (fun _ _ hj_ => (fun _ _ hk_ => hS.kn hk_) _ _ ((GC0qat hg0 _ _ hj_).mono (fun _ h_ => by cases h_)))) (fun a169q h170q => ?_)
  clear h168q a167q
  refine WL.block (c := 1) (m' := 2) h170q rfl [(10, .int .i64 0)] (by kernel_rfl) (fun a171q h172q => ?_)
  clear h170q a169q
  refine WL.done (by kernel_rfl) ?_
  refine wp_block ?_
  refine wp_loop_ghost (fun kq_ a_ W_ => ∃ (x178q : Int), ∃ (x179q : Int), Hd a_ 33 [(0, .string (mkS p0)), (1, .string (mkS p1)), (6, .int .i64 x178q), (9, .agg GC0.toArray), (10, .int .i64 x179q)] ∧ Asd (statics_Find.l0 kq_ x178q x179q p0 p1 = some (r0q, r1q)) ∧ Asd (kq_ ≤ k) ∧ Asd (St b w0 W_ R (Fs))) k ⟨0, 0, h172q.keep ⟨rfl, rfl, rfl, rfl, rfl, trivial⟩, ⟨H⟩, ⟨Nat.le_refl _⟩, ⟨hS⟩⟩ ?_
  clear H hS
  rintro k177q a174q W175q ⟨x178q, x179q, h173q, ⟨H⟩, ⟨hkk177q⟩, ⟨hS176q⟩⟩
  obtain _ | k180q := k177q
  · exact absurd H (by simp [statics_Find.l0])
  simp only [statics_Find.l0] at H
  refine wp_seq ?_
  refine WL.start ?_
  refine WL.block (c := 1) (m' := 1) h173q rfl [(11, .bool (decide (x179q < 61)))] (by kernel_rfl) (fun a181q h182q => ?_)
  clear h173q a174q
  refine WL.done (by kernel_rfl) ?_
  refine wp_seq ?_
  by_cases c183q : x179q < 61
  · rw [if_pos c183q] at H
    have hb_ : (decide (x179q < 61)) = true := decide_eq_true c183q
    try rw [hb_] at h182q
    clear hb_
    refine wp_then h182q rfl ?_
    refine wp_skip ?_
    refine wp_seq ?_
    refine wp_block ?_
    refine wp_seq ?_
    refine WL.start ?_
    refine WL.block (c := 1) (m' := 1) h182q rfl [(12, .int .i64 x179q)] (by kernel_rfl) (fun a184q h185q => ?_)
    clear h182q a181q
    by_cases c186q : 0 ≤ x179q
    · rw [if_pos c186q] at H
      by_cases c187q : x179q < (61 : Int)
      · rw [if_pos c187q] at H
        have hi188q : 0 ≤ x179q := by first | assumption | omega
        have hi190q : x179q < ((61 : Nat) : Int) := by omega
        have hi189q : x179q < (G0.length : Int) := by rw [G0qlen]; exact hi190q
        refine WL.op' (m := 1) h185q rfl rfl ?_
        refine owp_run (v := .agg #[.string (mkS ((gt z23 G0 x179q).f0)), .string (mkS ((gt z23 G0 x179q).f1)), .bool ((gt z23 G0 x179q).f2)]) h185q rfl (by kernel_rfl) (run_index_st rfl rfl rfl Tryd.underlying34 Tryd.underlying23 rfl (by kernel_rfl) hi188q hi190q (sz := 3) (cs' := ([.string (mkS ((gt z23 G0 x179q).f0)), .string (mkS ((gt z23 G0 x179q).f1)), .bool ((gt z23 G0 x179q).f2)] : List Value)) (flat_at (f := (fun x : S23 => ([.string (mkS x.f0), .string (mkS x.f1), .bool x.f2] : List Value))) (sz := 3) (fun _ => rfl) G0 _ _ (gt_get (z := z23) hi188q hi189q))) (fun a191q h192q => ?_)
        clear h185q a184q
        refine WL.op' (m := 2) h192q rfl rfl ?_
        refine owp_new (fun g_ => .pointer (some ⟨g_, 0, none⟩)) (.cells ([.string (mkS ([] : List UInt8)), .string (mkS ([] : List UInt8)), .bool false] : List Value).toArray 23 (0, 0)) h192q rfl (by kernel_rfl) (by kernel_rfl) hS176q (fun a193q W195q g196q h194q hS197q => ?_)
        clear h192q a191q
        refine WL.block (c := 1) (m' := 4) h194q rfl [(7, .int .i64 x179q)] (by kernel_rfl) (fun a198q h199q => ?_)
        clear h194q a193q
        refine WL.op' (m := 4) h199q rfl rfl ?_
        refine owp_store (i := 0) (vs := ([.string (mkS ((gt z23 G0 x179q).f0)), .string (mkS ((gt z23 G0 x179q).f1)), .bool ((gt z23 G0 x179q).f2)] : List Value)) h199q rfl (by kernel_rfl) rfl rfl rfl rfl (by simp [Value.oneCell']) (by kernel_rfl) hS197q (by simp) (cs' := ([.string (mkS ((gt z23 G0 x179q).f0)), .string (mkS ((gt z23 G0 x179q).f1)), .bool ((gt z23 G0 x179q).f2)] : List Value)) rfl (fun a200q W202q h201q hS203q => ?_)
        clear h199q a198q
        refine WL.done (by kernel_rfl) ?_
        refine wp_block ?_
        refine wp_seq ?_
        refine WL.start ?_
        refine WL.block (c := 1) (m' := 1) h201q rfl [(15, .pointer (some ⟨g196q, 0, none⟩))] (by kernel_rfl) (fun a204q h205q => ?_)
        clear h201q a200q
        refine WL.op' (m := 1) h205q rfl rfl ?_
        refine owp_run (v := .string (mkS ((gt z23 G0 x179q).f0))) h205q rfl (by kernel_rfl) (run_load1 rfl rfl Tryd.underlying9 rfl (hS203q.cell (i := 0) rfl)) (fun a206q h207q => ?_)
        clear h205q a204q
        refine WL.block (c := 1) (m' := 3) h207q rfl [(17, .string (mkS p0))] (by kernel_rfl) (fun a208q h209q => ?_)
        clear h207q a206q
        refine WL.op' (m := 3) h209q rfl rfl ?_
        refine owp_run (v := .bool (!decide (((gt z23 G0 x179q).f0) = p0))) h209q rfl (by kernel_rfl) (run_strne rfl rfl rfl) (fun a210q h211q => ?_)
        clear h209q a208q
        refine WL.block (c := 1) (m' := 5) h211q rfl [(14, .bool (!decide (((gt z23 G0 x179q).f0) = p0)))] (by kernel_rfl) (fun a212q h213q => ?_)
        clear h211q a210q
        refine WL.done (by kernel_rfl) ?_
        by_cases c214q : ((gt z23 G0 x179q).f0) = p0
        · rw [if_pos c214q] at H
          have hb_ : (decide (((gt z23 G0 x179q).f0) = p0)) = true := decide_eq_true c214q
          try rw [hb_] at h213q
          clear hb_
          refine wp_else h213q rfl ?_
          refine wp_seq ?_
          refine WL.start ?_
          refine WL.block (c := 1) (m' := 1) h213q rfl [(20, .pointer (some ⟨g196q, 1, none⟩))] (by kernel_rfl) (fun a215q h216q => ?_)
          clear h213q a212q
          refine WL.op' (m := 1) h216q rfl rfl ?_
          refine owp_run (v := .string (mkS ((gt z23 G0 x179q).f1))) h216q rfl (by kernel_rfl) (run_load1 rfl rfl Tryd.underlying9 rfl (hS203q.cell (i := 1) rfl)) (fun a217q h218q => ?_)
          clear h216q a215q
          refine WL.block (c := 1) (m' := 3) h218q rfl [(22, .string (mkS p1))] (by kernel_rfl) (fun a219q h220q => ?_)
          clear h218q a217q
          refine WL.op' (m := 3) h220q rfl rfl ?_
          refine owp_run (v := .bool (decide (((gt z23 G0 x179q).f1) = p1))) h220q rfl (by kernel_rfl) (run_streq rfl rfl rfl) (fun a221q h222q => ?_)
          clear h220q a219q
          refine WL.block (c := 1) (m' := 5) h222q rfl [(19, .bool (decide (((gt z23 G0 x179q).f1) = p1)))] (by kernel_rfl) (fun a223q h224q => ?_)
          clear h222q a221q
          refine WL.done (by kernel_rfl) ?_
          by_cases c225q : ((gt z23 G0 x179q).f1) = p1
          · rw [if_pos c225q] at H
            have hb_ : (decide (((gt z23 G0 x179q).f1) = p1)) = true := decide_eq_true c225q
            try rw [hb_] at h224q
            clear hb_
            refine wp_then h224q rfl ?_
            refine wp_seq ?_
            refine WL.start ?_
            refine WL.block (c := 4) (m' := 4) h224q rfl [(5, .bool true), (4, .int .i64 (IntKind.i64.wrap (x179q + 1))), (25, .int .i64 (IntKind.i64.wrap (x179q + 1))), (24, .int .i64 x179q)] (by kernel_rfl) (fun a226q h227q => ?_)
            clear h224q a223q
            refine WL.done (by kernel_rfl) ?_
            refine wp_ret ?_
            have hS228q : St b w0 W202q R (Fs) := hS203q.drop_
            obtain ⟨rfl, rfl⟩ := ret2 H
            repeat (first | refine then_ret ?_ | refine inBlock_ret ?_ | refine inBlock_go ?_)
            refine body_ret (v := .tuple #[.int .i64 (IntKind.i64.wrap (x179q + 1)), .bool true]) h227q (by kernel_rfl) (by kernel_rfl) ?_
            exact ⟨rfl, hS228q⟩
          · rw [if_neg c225q] at H
            have hb_ : (decide (((gt z23 G0 x179q).f1) = p1)) = false := decide_eq_false c225q
            try rw [hb_] at h224q
            clear hb_
            refine wp_else h224q rfl ?_
            refine wp_seq ?_
            refine WL.start ?_
            refine WL.block (c := 3) (m' := 3) h224q rfl [(26, .bool (decide (x178q = 0))), (28, .bool (decide (x178q = 0))), (27, .int .i64 x178q)] (by kernel_rfl) (fun a229q h230q => ?_)
            clear h224q a223q
            refine WL.done (by kernel_rfl) ?_
            by_cases c231q : x178q = 0
            · rw [if_pos c231q] at H
              have hb_ : (decide (x178q = 0)) = true := decide_eq_true c231q
              try rw [hb_] at h230q
              clear hb_
              refine wp_then h230q rfl ?_
              refine WL.start ?_
              refine WL.block (c := 3) (m' := 3) h230q rfl [(6, .int .i64 (IntKind.i64.wrap (x179q + 1))), (30, .int .i64 (IntKind.i64.wrap (x179q + 1))), (29, .int .i64 x179q)] (by kernel_rfl) (fun a232q h233q => ?_)
              clear h230q a229q
              refine WL.done (by kernel_rfl) ?_
              refine WL.start ?_
              refine WL.block (c := 2) (m' := 2) h233q rfl [(10, .int .i64 (IntKind.i64.wrap (x179q + 1))), (31, .int .i64 (IntKind.i64.wrap (x179q + 1)))] (by kernel_rfl) (fun a234q h235q => ?_)
              clear h233q a232q
              refine WL.done (by kernel_rfl) ?_
              have hS236q : St b w0 W202q R (Fs) := hS203q.drop_
              exact ⟨k180q, by omega, IntKind.i64.wrap (x179q + 1), IntKind.i64.wrap (x179q + 1), h235q.keep ⟨rfl, rfl, rfl, rfl, rfl, trivial⟩, ⟨H⟩, ⟨by omega⟩, ⟨hS236q⟩⟩
            · rw [if_neg c231q] at H
              have hb_ : (decide (x178q = 0)) = false := decide_eq_false c231q
              try rw [hb_] at h230q
              clear hb_
              refine wp_else h230q rfl ?_
              refine wp_skip ?_
              refine WL.start ?_
              refine WL.block (c := 2) (m' := 2) h230q rfl [(10, .int .i64 (IntKind.i64.wrap (x179q + 1))), (31, .int .i64 (IntKind.i64.wrap (x179q + 1)))] (by kernel_rfl) (fun a237q h238q => ?_)
              clear h230q a229q
              refine WL.done (by kernel_rfl) ?_
              have hS239q : St b w0 W202q R (Fs) := hS203q.drop_
              exact ⟨k180q, by omega, x178q, IntKind.i64.wrap (x179q + 1), h238q.keep ⟨rfl, rfl, rfl, rfl, rfl, trivial⟩, ⟨H⟩, ⟨by omega⟩, ⟨hS239q⟩⟩
        · rw [if_neg c214q] at H
          have hb_ : (decide (((gt z23 G0 x179q).f0) = p0)) = false := decide_eq_false c214q
          try rw [hb_] at h213q
          clear hb_
          refine wp_then h213q rfl ?_
          refine wp_skip ?_
          refine WL.start ?_
          refine WL.block (c := 2) (m' := 2) h213q rfl [(10, .int .i64 (IntKind.i64.wrap (x179q + 1))), (31, .int .i64 (IntKind.i64.wrap (x179q + 1)))] (by kernel_rfl) (fun a240q h241q => ?_)
          clear h213q a212q
          refine WL.done (by kernel_rfl) ?_
          have hS242q : St b w0 W202q R (Fs) := hS203q.drop_
          exact ⟨k180q, by omega, x178q, IntKind.i64.wrap (x179q + 1), h241q.keep ⟨rfl, rfl, rfl, rfl, rfl, trivial⟩, ⟨H⟩, ⟨by omega⟩, ⟨hS242q⟩⟩
      · rw [if_neg c187q] at H
        cases H
    · rw [if_neg c186q] at H
      cases H
  · rw [if_neg c183q] at H
    have hb_ : (decide (x179q < 61)) = false := decide_eq_false c183q
    try rw [hb_] at h182q
    clear hb_
    refine wp_else h182q rfl ?_
    refine wp_exit ?_
    refine wp_seq ?_
    refine WL.start ?_
    refine WL.block (c := 3) (m' := 3) h182q rfl [(5, .bool false), (4, .int .i64 x178q), (32, .int .i64 x178q)] (by kernel_rfl) (fun a243q h244q => ?_)
    clear h182q a181q
    refine WL.done (by kernel_rfl) ?_
    refine wp_ret ?_
    obtain ⟨rfl, rfl⟩ := ret2 H
    repeat (first | refine then_ret ?_ | refine inBlock_ret ?_ | refine inBlock_go ?_)
    refine body_ret (v := .tuple #[.int .i64 x178q, .bool false]) h244q (by kernel_rfl) (by kernel_rfl) ?_
    exact ⟨rfl, hS176q⟩

/-! ### louver/statics.Len -/
def statics_Len.f  : Option (Int) := some 61
set_option maxHeartbeats 2000000 in
set_option maxRecDepth 100000 in
theorem statics_Len.calls {b : Nat} {w0 W : World} {R : Frag} {Fs : List Frag}   {r0q : Int}  (H : statics_Len.f = some r0q) (hS : St b w0 W R (Fs)) :
    Calls Tryd.prog 12 ([] : List Value).toArray W (fun e W' => e = .returned (.int .i64 r0q) ∧ St b w0 W' R (Fs)) := by
  unfold statics_Len.f at H
  refine calls_enter Tryd.func12 rfl 1 rfl (by kernel_rfl) (fun a h => ?_)
  refine wp_seq ?_
  refine WL.start ?_
  refine WL.block (c := 1) (m' := 1) h rfl [(0, .int .i64 0)] (by kernel_rfl) (fun a5q h6q => ?_)
  refine WL.done (by kernel_rfl) ?_
  refine wp_seq ?_
  refine WL.start ?_
  refine WL.block (c := 1) (m' := 1) h6q rfl [(0, .int .i64 61)] (by kernel_rfl) (fun a7q h8q => ?_)
  clear h6q a5q
  refine WL.done (by kernel_rfl) ?_
  refine wp_ret ?_
  obtain rfl := Option.some.inj H
  repeat (first | refine then_ret ?_ | refine inBlock_ret ?_ | refine inBlock_go ?_)
  refine body_ret (v := .int .i64 61) h8q (by kernel_rfl) (by kernel_rfl) ?_
  exact ⟨rfl, hS⟩

/-! ### louver/louverlaw04.fixed -/
def louverlaw04qfixed.f (k : Nat)  : Option (Bool) := bnd2 (statics_At.f 2) fun r144q r145q => (bnd2 (statics_Find.f k ([58, 115, 116, 97, 116, 117, 115] : List UInt8) ([50, 48, 49] : List UInt8)) fun r166q r167q => (if r145q = true then (if (decide (r144q.f0 = ([58, 109, 101, 116, 104, 111, 100] : List UInt8)) && (decide (r144q.f1 = ([71, 69, 84] : List UInt8)) && decide (r144q.f2 = false))) = true then (if r166q = 8 then (if r167q = true then (some false) else (bnd1 (statics_Len.f) fun r210q => (some (decide (r210q = 61))))) else (some false)) else (some false)) else (some false)))
set_option maxHeartbeats 2000000 in
set_option maxRecDepth 100000 in
theorem louverlaw04qfixed.calls (k : Nat) {b : Nat} {w0 W : World} {R : Frag} {Fs : List Frag}   {r0q : Bool} (hg0 : Rds k23 b w0 [] (.slice (some ⟨0, 0, none⟩) 61 61) G0) (H : louverlaw04qfixed.f k = some r0q) (hS : St b w0 W R (Fs)) :
    Calls Tryd.prog 9 ([] : List Value).toArray W (fun e W' => e = .returned (.bool r0q) ∧ St b w0 W' R (Fs)) := by
  unfold louverlaw04qfixed.f at H
  refine calls_enter Tryd.func9 rfl 31 rfl (by kernel_rfl) (fun a h => ?_)
  refine wp_seq ?_
  refine WL.start ?_
  refine WL.block (c := 1) (m' := 1) h rfl [(0, .bool false)] (by kernel_rfl) (fun a141q h142q => ?_)
  refine WL.done (by kernel_rfl) ?_
  refine wp_seq ?_
  refine WL.start ?_
  obtain ⟨r144q, r145q, A143q, H⟩ := bind2 H
  refine WL.op' (m := 0) h142q rfl rfl ?_
  refine owp_call [.int .i64 2] h142q rfl (by kernel_rfl) rfl Tryd.func6 (by kernel_rfl) rfl (by kernel_rfl) (statics_At.calls hg0 A143q hS) (fun e147q W146q hp148q => ?_)
  obtain ⟨rfl, hS151q⟩ := hp148q
  refine ⟨_, rfl, fun a149q h150q => ?_⟩
  clear h142q a141q
  refine WL.block (c := 3) (m' := 4) h150q rfl [(8, .bool r145q), (7, .agg #[.string (mkS r144q.f0), .string (mkS r144q.f1), .bool r144q.f2]), (5, .tuple #[.agg #[.string (mkS r144q.f0), .string (mkS r144q.f1), .bool r144q.f2], .bool r145q])] (by kernel_rfl) (fun a152q h153q => ?_)
  clear h150q a149q
  refine WL.op' (m := 4) h153q rfl rfl ?_
  refine owp_new (fun g_ => .pointer (some ⟨g_, 0, none⟩)) (.cells ([.string (mkS ([] : List UInt8)), .string (mkS ([] : List UInt8)), .bool false] : List Value).toArray 23 (0, 0)) h153q rfl (by kernel_rfl) (by kernel_rfl) hS151q (fun a154q W156q g157q h155q hS158q => ?_)
  clear h153q a152q
  refine WL.op' (m := 5) h155q rfl rfl ?_
  refine owp_store (i := 0) (vs := ([.string (mkS r144q.f0), .string (mkS r144q.f1), .bool r144q.f2] : List Value)) h155q rfl (by kernel_rfl) rfl rfl rfl rfl (by simp [Value.oneCell']) (by kernel_rfl) hS158q (by simp) (cs' := ([.string (mkS r144q.f0), .string (mkS r144q.f1), .bool r144q.f2] : List Value)) rfl (fun a159q W161q h160q hS162q => ?_)
  clear h155q a154q
  refine WL.block (c := 1) (m' := 7) h160q rfl [(2, .bool r145q)] (by kernel_rfl) (fun a163q h164q => ?_)
  clear h160q a159q
  refine WL.done (by kernel_rfl) ?_
  refine wp_seq ?_
  refine WL.start ?_
  obtain ⟨r166q, r167q, A165q, H⟩ := bind2 H
  refine WL.op' (m := 0) h164q rfl rfl ?_
  refine owp_call [.string (mkS ([58, 115, 116, 97, 116, 117, 115] : List UInt8)), .string (mkS ([50, 48, 49] : List UInt8))] h164q rfl (by kernel_rfl) rfl Tryd.func8 (by kernel_rfl) rfl (by kernel_rfl) (statics_Find.calls k hg0 A165q hS162q) (fun e169q W168q hp170q => ?_)
  obtain ⟨rfl, hS173q⟩ := hp170q
  refine ⟨_, rfl, fun a171q h172q => ?_⟩
  clear h164q a163q
  refine WL.block (c := 5) (m' := 6) h172q rfl [(4, .bool r167q), (3, .int .i64 r166q), (12, .bool r167q), (11, .int .i64 r166q), (9, .tuple #[.int .i64 r166q, .bool r167q])] (by kernel_rfl) (fun a174q h175q => ?_)
  clear h172q a171q
  refine WL.done (by kernel_rfl) ?_
  refine wp_seq ?_
  refine WL.start ?_
  refine WL.block (c := 2) (m' := 2) h175q rfl [(14, .bool r145q), (13, .bool r145q)] (by kernel_rfl) (fun a176q h177q => ?_)
  clear h175q a174q
  by_cases c178q : r145q = true
  · rw [if_pos c178q] at H
    have hb_ : r145q = true := c178q
    try rw [hb_] at h177q
    clear hb_
    refine WL.op' (m := 2) h177q rfl rfl ?_
    refine owp_run (v := .agg #[.string (mkS r144q.f0), .string (mkS r144q.f1), .bool r144q.f2]) h177q rfl (by kernel_rfl) (run_loadN rfl rfl Tryd.underlying23 rfl (cs := ([.string (mkS r144q.f0), .string (mkS r144q.f1), .bool r144q.f2] : List Value)) (by kernel_rfl) (hS173q.cells (vs := ([.string (mkS r144q.f0), .string (mkS r144q.f1), .bool r144q.f2] : List Value)) rfl)) (fun a179q h180q => ?_)
    clear h177q a176q
    refine WL.op' (m := 3) h180q rfl rfl (owp_run h180q rfl (by kernel_rfl) (v := .agg #[.string (mkS ([58, 109, 101, 116, 104, 111, 100] : List UInt8)), .string (mkS ([71, 69, 84] : List UInt8)), .bool false]) (by kernel_rfl) (fun a181q h182q => ?_))
    clear h180q a179q
    refine WL.op' (m := 4) h182q rfl rfl ?_
    refine owp_run (v := .bool (decide (r144q.f0 = ([58, 109, 101, 116, 104, 111, 100] : List UInt8)) && (decide (r144q.f1 = ([71, 69, 84] : List UInt8)) && decide (r144q.f2 = false)))) h182q rfl (by kernel_rfl) (run_steq (xs := [.string (mkS r144q.f0), .string (mkS r144q.f1), .bool r144q.f2]) (ys := [.string (mkS ([58, 109, 101, 116, 104, 111, 100] : List UInt8)), .string (mkS ([71, 69, 84] : List UInt8)), .bool false]) rfl rfl rfl (by kernel_rfl) (eqs_of Tryd.underlying23 (by kernel_rfl) (eqf_cons rfl (by kernel_rfl) rfl rfl (eqi_str Tryd.underlying9) (eqf_cons rfl (by kernel_rfl) rfl rfl (eqi_str Tryd.underlying9) (eqf_last rfl (by kernel_rfl) rfl rfl (eqi_bool Tryd.underlying4)))))) (fun a183q h184q => ?_)
    clear h182q a181q
    refine WL.block (c := 2) (m' := 7) h184q rfl [(19, .bool (decide (r144q.f0 = ([58, 109, 101, 116, 104, 111, 100] : List UInt8)) && (decide (r144q.f1 = ([71, 69, 84] : List UInt8)) && decide (r144q.f2 = false)))), (18, .bool (decide (r144q.f0 = ([58, 109, 101, 116, 104, 111, 100] : List UInt8)) && (decide (r144q.f1 = ([71, 69, 84] : List UInt8)) && decide (r144q.f2 = false))))] (by kernel_rfl) (fun a185q h186q => ?_)
    clear h184q a183q
    by_cases c187q : (decide (r144q.f0 = ([58, 109, 101, 116, 104, 111, 100] : List UInt8)) && (decide (r144q.f1 = ([71, 69, 84] : List UInt8)) && decide (r144q.f2 = false))) = true
    · rw [if_pos c187q] at H
      have hb_ : (decide (r144q.f0 = ([58, 109, 101, 116, 104, 111, 100] : List UInt8)) && (decide (r144q.f1 = ([71, 69, 84] : List UInt8)) && decide (r144q.f2 = false))) = true := c187q
      try rw [hb_] at h186q
      clear hb_
      refine WL.op' (m := 7) h186q rfl rfl (owp_run h186q rfl (by kernel_rfl) (v := .int .i64 r166q) (by kernel_rfl) (fun a188q h189q => ?_))
      clear h186q a185q
      refine WL.op' (m := 8) h189q rfl rfl (owp_run h189q rfl (by kernel_rfl) (v := .bool (decide (r166q = 8))) (by kernel_rfl) (fun a190q h191q => ?_))
      clear h189q a188q
      refine WL.block (c := 2) (m' := 11) h191q rfl [(23, .bool (decide (r166q = 8))), (22, .bool (decide (r166q = 8)))] (by kernel_rfl) (fun a192q h193q => ?_)
      clear h191q a190q
      by_cases c194q : r166q = 8
      · rw [if_pos c194q] at H
        have hb_ : (decide (r166q = 8)) = true := decide_eq_true c194q
        try rw [hb_] at h193q
        clear hb_
        refine WL.op' (m := 11) h193q rfl rfl (owp_run h193q rfl (by kernel_rfl) (v := .bool r167q) (by kernel_rfl) (fun a195q h196q => ?_))
        clear h193q a192q
        refine WL.op' (m := 12) h196q rfl rfl (owp_run h196q rfl (by kernel_rfl) (v := .bool (!r167q)) (by kernel_rfl) (fun a197q h198q => ?_))
        clear h196q a195q
        refine WL.block (c := 2) (m' := 15) h198q rfl [(27, .bool (!r167q)), (26, .bool (!r167q))] (by kernel_rfl) (fun a199q h200q => ?_)
        clear h198q a197q
        by_cases c201q : r167q = true
        · rw [if_pos c201q] at H
          have hb_ : r167q = true := c201q
          try rw [hb_] at h200q
          clear hb_
          refine WL.skipped (m := 15) h200q rfl rfl (by kernel_rfl) rfl (fun a202q h203q => ?_)
          clear h200q a199q
          refine WL.skipped (m := 16) h203q rfl rfl (by kernel_rfl) rfl (fun a204q h205q => ?_)
          clear h203q a202q
          refine WL.block (c := 2) (m' := 19) h205q rfl [(0, .bool false), (30, .bool false)] (by kernel_rfl) (fun a206q h207q => ?_)
          clear h205q a204q
          refine WL.done (by kernel_rfl) ?_
          refine wp_ret ?_
          have hS208q : St b w0 W168q R (Fs) := hS173q.drop_
          obtain rfl := Option.some.inj H
          repeat (first | refine then_ret ?_ | refine inBlock_ret ?_ | refine inBlock_go ?_)
          refine body_ret (v := .bool false) h207q (by kernel_rfl) (by kernel_rfl) ?_
          exact ⟨rfl, hS208q⟩
        · rw [if_neg c201q] at H
          have hb_ : r167q = false := (Bool.eq_false_iff.2 c201q)
          try rw [hb_] at h200q
          clear hb_
          obtain ⟨r210q, A209q, H⟩ := bind1 H
          refine WL.op' (m := 15) h200q rfl rfl ?_
          refine owp_call [] h200q rfl (by kernel_rfl) rfl Tryd.func12 (by kernel_rfl) rfl (by kernel_rfl) (statics_Len.calls  A209q hS173q) (fun e212q W211q hp213q => ?_)
          obtain ⟨rfl, hS216q⟩ := hp213q
          refine ⟨_, rfl, fun a214q h215q => ?_⟩
          clear h200q a199q
          refine WL.op' (m := 16) h215q rfl rfl (owp_run h215q rfl (by kernel_rfl) (v := .bool (decide (r210q = 61))) (by kernel_rfl) (fun a217q h218q => ?_))
          clear h215q a214q
          refine WL.block (c := 2) (m' := 19) h218q rfl [(0, .bool (decide (r210q = 61))), (30, .bool (decide (r210q = 61)))] (by kernel_rfl) (fun a219q h220q => ?_)
          clear h218q a217q
          refine WL.done (by kernel_rfl) ?_
          refine wp_ret ?_
          have hS221q : St b w0 W211q R (Fs) := hS216q.drop_
          obtain rfl := Option.some.inj H
          repeat (first | refine then_ret ?_ | refine inBlock_ret ?_ | refine inBlock_go ?_)
          refine body_ret (v := .bool (decide (r210q = 61))) h220q (by kernel_rfl) (by kernel_rfl) ?_
          exact ⟨rfl, hS221q⟩
      · rw [if_neg c194q] at H
        have hb_ : (decide (r166q = 8)) = false := decide_eq_false c194q
        try rw [hb_] at h193q
        clear hb_
        refine WL.skipped (m := 11) h193q rfl rfl (by kernel_rfl) rfl (fun a222q h223q => ?_)
        clear h193q a192q
        refine WL.skipped (m := 12) h223q rfl rfl (by kernel_rfl) rfl (fun a224q h225q => ?_)
        clear h223q a222q
        refine WL.block (c := 2) (m' := 15) h225q rfl [(27, .bool false), (26, .bool false)] (by kernel_rfl) (fun a226q h227q => ?_)
        clear h225q a224q
        refine WL.skipped (m := 15) h227q rfl rfl (by kernel_rfl) rfl (fun a228q h229q => ?_)
        clear h227q a226q
        refine WL.skipped (m := 16) h229q rfl rfl (by kernel_rfl) rfl (fun a230q h231q => ?_)
        clear h229q a228q
        refine WL.block (c := 2) (m' := 19) h231q rfl [(0, .bool false), (30, .bool false)] (by kernel_rfl) (fun a232q h233q => ?_)
        clear h231q a230q
        refine WL.done (by kernel_rfl) ?_
        refine wp_ret ?_
        have hS234q : St b w0 W168q R (Fs) := hS173q.drop_
        obtain rfl := Option.some.inj H
        repeat (first | refine then_ret ?_ | refine inBlock_ret ?_ | refine inBlock_go ?_)
        refine body_ret (v := .bool false) h233q (by kernel_rfl) (by kernel_rfl) ?_
        exact ⟨rfl, hS234q⟩
    · rw [if_neg c187q] at H
      have hb_ : (decide (r144q.f0 = ([58, 109, 101, 116, 104, 111, 100] : List UInt8)) && (decide (r144q.f1 = ([71, 69, 84] : List UInt8)) && decide (r144q.f2 = false))) = false := (Bool.eq_false_iff.2 c187q)
      try rw [hb_] at h186q
      clear hb_
      refine WL.skipped (m := 7) h186q rfl rfl (by kernel_rfl) rfl (fun a235q h236q => ?_)
      clear h186q a185q
      refine WL.skipped (m := 8) h236q rfl rfl (by kernel_rfl) rfl (fun a237q h238q => ?_)
      clear h236q a235q
      refine WL.block (c := 2) (m' := 11) h238q rfl [(23, .bool false), (22, .bool false)] (by kernel_rfl) (fun a239q h240q => ?_)
      clear h238q a237q
      refine WL.skipped (m := 11) h240q rfl rfl (by kernel_rfl) rfl (fun a241q h242q => ?_)
      clear h240q a239q
      refine WL.skipped (m := 12) h242q rfl rfl (by kernel_rfl) rfl (fun a243q h244q => ?_)
      clear h242q a241q
      refine WL.block (c := 2) (m' := 15) h244q rfl [(27, .bool false), (26, .bool false)] (by kernel_rfl) (fun a245q h246q => ?_)
      clear h244q a243q
      refine WL.skipped (m := 15) h246q rfl rfl (by kernel_rfl) rfl (fun a247q h248q => ?_)
      clear h246q a245q
      refine WL.skipped (m := 16) h248q rfl rfl (by kernel_rfl) rfl (fun a249q h250q => ?_)
      clear h248q a247q
      refine WL.block (c := 2) (m' := 19) h250q rfl [(0, .bool false), (30, .bool false)] (by kernel_rfl) (fun a251q h252q => ?_)
      clear h250q a249q
      refine WL.done (by kernel_rfl) ?_
      refine wp_ret ?_
      have hS253q : St b w0 W168q R (Fs) := hS173q.drop_
      obtain rfl := Option.some.inj H
      repeat (first | refine then_ret ?_ | refine inBlock_ret ?_ | refine inBlock_go ?_)
      refine body_ret (v := .bool false) h252q (by kernel_rfl) (by kernel_rfl) ?_
      exact ⟨rfl, hS253q⟩
  · rw [if_neg c178q] at H
    have hb_ : r145q = false := (Bool.eq_false_iff.2 c178q)
    try rw [hb_] at h177q
    clear hb_
    refine WL.skipped (m := 2) h177q rfl rfl (by kernel_rfl) rfl (fun a254q h255q => ?_)
    clear h177q a176q
    refine WL.skipped (m := 3) h255q rfl rfl (by kernel_rfl) rfl (fun a256q h257q => ?_)
    clear h255q a254q
    refine WL.skipped (m := 4) h257q rfl rfl (by kernel_rfl) rfl (fun a258q h259q => ?_)
    clear h257q a256q
    refine WL.block (c := 2) (m' := 7) h259q rfl [(19, .bool false), (18, .bool false)] (by kernel_rfl) (fun a260q h261q => ?_)
    clear h259q a258q
    refine WL.skipped (m := 7) h261q rfl rfl (by kernel_rfl) rfl (fun a262q h263q => ?_)
    clear h261q a260q
    refine WL.skipped (m := 8) h263q rfl rfl (by kernel_rfl) rfl (fun a264q h265q => ?_)
    clear h263q a262q
    refine WL.block (c := 2) (m' := 11) h265q rfl [(23, .bool false), (22, .bool false)] (by kernel_rfl) (fun a266q h267q => ?_)
    clear h265q a264q
    refine WL.skipped (m := 11) h267q rfl rfl (by kernel_rfl) rfl (fun a268q h269q => ?_)
    clear h267q a266q
    refine WL.skipped (m := 12) h269q rfl rfl (by kernel_rfl) rfl (fun a270q h271q => ?_)
    clear h269q a268q
    refine WL.block (c := 2) (m' := 15) h271q rfl [(27, .bool false), (26, .bool false)] (by kernel_rfl) (fun a272q h273q => ?_)
    clear h271q a270q
    refine WL.skipped (m := 15) h273q rfl rfl (by kernel_rfl) rfl (fun a274q h275q => ?_)
    clear h273q a272q
    refine WL.skipped (m := 16) h275q rfl rfl (by kernel_rfl) rfl (fun a276q h277q => ?_)
    clear h275q a274q
    refine WL.block (c := 2) (m' := 19) h277q rfl [(0, .bool false), (30, .bool false)] (by kernel_rfl) (fun a278q h279q => ?_)
    clear h277q a276q
    refine WL.done (by kernel_rfl) ?_
    refine wp_ret ?_
    have hS280q : St b w0 W168q R (Fs) := hS173q.drop_
    obtain rfl := Option.some.inj H
    repeat (first | refine then_ret ?_ | refine inBlock_ret ?_ | refine inBlock_go ?_)
    refine body_ret (v := .bool false) h279q (by kernel_rfl) (by kernel_rfl) ?_
    exact ⟨rfl, hS280q⟩

/-! ### louver/louverlaw04.StaticsAt -/
def louverlaw04qStaticsAt.f (k : Nat) (p0 : Int) : Option (Bool) := bnd2 (statics_At.f p0) fun r240q r241q => (bnd3 (louverref04qAt.f p0) fun r264q r265q r266q => (if r240q.f0 = r264q then (if r240q.f1 = r265q then (if r240q.f2 = true then (some false) else (if (r241q != r266q) = true then (some false) else (bnd2 (statics_Find.f k r264q r265q) fun r330q r331q => (bnd1 (louverlaw04qfixed.f k) fun r341q => (if r341q = true then (if r241q = true then (if r330q = p0 then (some r331q) else (some false)) else (some true)) else (some false)))))) else (some false)) else (some false)))
set_option maxHeartbeats 2000000 in
set_option maxRecDepth 100000 in
theorem louverlaw04qStaticsAt.calls (k : Nat) {b : Nat} {w0 W : World} {R : Frag} {Fs : List Frag} {p0 : Int}  {r0q : Bool} (hg0 : Rds k23 b w0 [] (.slice (some ⟨0, 0, none⟩) 61 61) G0) (H : louverlaw04qStaticsAt.f k p0 = some r0q) (hS : St b w0 W R (Fs)) :
    Calls Tryd.prog 3 ([.int .i64 p0] : List Value).toArray W (fun e W' => e = .returned (.bool r0q) ∧ St b w0 W' R (Fs)) := by
  unfold louverlaw04qStaticsAt.f at H
  refine calls_enter Tryd.func3 rfl 59 rfl (by kernel_rfl) (fun a h => ?_)
  refine wp_seq ?_
  refine WL.start ?_
  refine WL.block (c := 1) (m' := 1) h rfl [(2, .bool false)] (by kernel_rfl) (fun a235q h236q => ?_)
  refine WL.done (by kernel_rfl) ?_
  refine wp_seq ?_
  refine WL.start ?_
  refine WL.block (c := 1) (m' := 1) h236q rfl [(11, .int .i64 p0)] (by kernel_rfl) (fun a237q h238q => ?_)
  clear h236q a235q
  obtain ⟨r240q, r241q, A239q, H⟩ := bind2 H
  refine WL.op' (m := 1) h238q rfl rfl ?_
  refine owp_call [.int .i64 p0] h238q rfl (by kernel_rfl) rfl Tryd.func6 (by kernel_rfl) rfl (by kernel_rfl) (statics_At.calls hg0 A239q hS) (fun e243q W242q hp244q => ?_)
  obtain ⟨rfl, hS247q⟩ := hp244q
  refine ⟨_, rfl, fun a245q h246q => ?_⟩
  clear h238q a237q
  refine WL.block (c := 3) (m' := 5) h246q rfl [(14, .bool r241q), (13, .agg #[.string (mkS r240q.f0), .string (mkS r240q.f1), .bool r240q.f2]), (10, .tuple #[.agg #[.string (mkS r240q.f0), .string (mkS r240q.f1), .bool r240q.f2], .bool r241q])] (by kernel_rfl) (fun a248q h249q => ?_)
  clear h246q a245q
  refine WL.op' (m := 5) h249q rfl rfl ?_
  refine owp_new (fun g_ => .pointer (some ⟨g_, 0, none⟩)) (.cells ([.string (mkS ([] : List UInt8)), .string (mkS ([] : List UInt8)), .bool false] : List Value).toArray 23 (0, 0)) h249q rfl (by kernel_rfl) (by kernel_rfl) hS247q (fun a250q W252q g253q h251q hS254q => ?_)
  clear h249q a248q
  refine WL.op' (m := 6) h251q rfl rfl ?_
  refine owp_store (i := 0) (vs := ([.string (mkS r240q.f0), .string (mkS r240q.f1), .bool r240q.f2] : List Value)) h251q rfl (by kernel_rfl) rfl rfl rfl rfl (by simp [Value.oneCell']) (by kernel_rfl) hS254q (by simp) (cs' := ([.string (mkS r240q.f0), .string (mkS r240q.f1), .bool r240q.f2] : List Value)) rfl (fun a255q W257q h256q hS258q => ?_)
  clear h251q a250q
  refine WL.block (c := 1) (m' := 8) h256q rfl [(4, .bool r241q)] (by kernel_rfl) (fun a259q h260q => ?_)
  clear h256q a255q
  refine WL.done (by kernel_rfl) ?_
  refine wp_seq ?_
  refine WL.start ?_
  refine WL.block (c := 1) (m' := 1) h260q rfl [(16, .int .i64 p0)] (by kernel_rfl) (fun a261q h262q => ?_)
  clear h260q a259q
  obtain ⟨r264q, r265q, r266q, A263q, H⟩ := bind3 H
  refine WL.op' (m := 1) h262q rfl rfl ?_
  refine owp_call [.int .i64 p0] h262q rfl (by kernel_rfl) rfl Tryd.func7 (by kernel_rfl) rfl (by kernel_rfl) (louverref04qAt.calls  A263q hS258q) (fun e268q W267q hp269q => ?_)
  obtain ⟨rfl, hS272q⟩ := hp269q
  refine ⟨_, rfl, fun a270q h271q => ?_⟩
  clear h262q a261q
  refine WL.block (c := 7) (m' := 9) h271q rfl [(7, .bool r266q), (6, .string (mkS r265q)), (5, .string (mkS r264q)), (20, .bool r266q), (19, .string (mkS r265q)), (18, .string (mkS r264q)), (15, .tuple #[.string (mkS r264q), .string (mkS r265q), .bool r266q])] (by kernel_rfl) (fun a273q h274q => ?_)
  clear h271q a270q
  refine WL.done (by kernel_rfl) ?_
  refine wp_seq ?_
  refine wp_seq ?_
  refine WL.start ?_
  refine WL.block (c := 1) (m' := 1) h274q rfl [(21, .pointer (some ⟨g253q, 0, none⟩))] (by kernel_rfl) (fun a275q h276q => ?_)
  clear h274q a273q
  refine WL.op' (m := 1) h276q rfl rfl ?_
  refine owp_run (v := .string (mkS r240q.f0)) h276q rfl (by kernel_rfl) (run_load1 rfl rfl Tryd.underlying9 rfl (hS272q.cell (i := 0) rfl)) (fun a277q h278q => ?_)
  clear h276q a275q
  refine WL.block (c := 1) (m' := 3) h278q rfl [(23, .string (mkS r264q))] (by kernel_rfl) (fun a279q h280q => ?_)
  clear h278q a277q
  refine WL.op' (m := 3) h280q rfl rfl ?_
  refine owp_run (v := .bool (!decide (r240q.f0 = r264q))) h280q rfl (by kernel_rfl) (run_strne rfl rfl rfl) (fun a281q h282q => ?_)
  clear h280q a279q
  refine WL.block (c := 1) (m' := 5) h282q rfl [(25, .bool (!decide (r240q.f0 = r264q)))] (by kernel_rfl) (fun a283q h284q => ?_)
  clear h282q a281q
  by_cases c285q : r240q.f0 = r264q
  · rw [if_pos c285q] at H
    have hb_ : (decide (r240q.f0 = r264q)) = true := decide_eq_true c285q
    try rw [hb_] at h284q
    clear hb_
    refine WL.op' (m := 5) h284q rfl rfl (owp_run h284q rfl (by kernel_rfl) (v := .pointer (some ⟨g253q, 1, none⟩)) (by kernel_rfl) (fun a286q h287q => ?_))
    clear h284q a283q
    refine WL.op' (m := 6) h287q rfl rfl ?_
    refine owp_run (v := .string (mkS r240q.f1)) h287q rfl (by kernel_rfl) (run_load1 rfl rfl Tryd.underlying9 rfl (hS272q.cell (i := 1) rfl)) (fun a288q h289q => ?_)
    clear h287q a286q
    refine WL.op' (m := 7) h289q rfl rfl (owp_run h289q rfl (by kernel_rfl) (v := .string (mkS r265q)) (by kernel_rfl) (fun a290q h291q => ?_))
    clear h289q a288q
    refine WL.op' (m := 8) h291q rfl rfl ?_
    refine owp_run (v := .bool (!decide (r240q.f1 = r265q))) h291q rfl (by kernel_rfl) (run_strne rfl rfl rfl) (fun a292q h293q => ?_)
    clear h291q a290q
    refine WL.block (c := 2) (m' := 11) h293q rfl [(31, .bool (!decide (r240q.f1 = r265q))), (30, .bool (!decide (r240q.f1 = r265q)))] (by kernel_rfl) (fun a294q h295q => ?_)
    clear h293q a292q
    by_cases c296q : r240q.f1 = r265q
    · rw [if_pos c296q] at H
      have hb_ : (decide (r240q.f1 = r265q)) = true := decide_eq_true c296q
      try rw [hb_] at h295q
      clear hb_
      refine WL.op' (m := 11) h295q rfl rfl (owp_run h295q rfl (by kernel_rfl) (v := .pointer (some ⟨g253q, 2, none⟩)) (by kernel_rfl) (fun a297q h298q => ?_))
      clear h295q a294q
      refine WL.op' (m := 12) h298q rfl rfl ?_
      refine owp_run (v := .bool r240q.f2) h298q rfl (by kernel_rfl) (run_load1 rfl rfl Tryd.underlying4 rfl (hS272q.cell (i := 2) rfl)) (fun a299q h300q => ?_)
      clear h298q a297q
      refine WL.block (c := 2) (m' := 15) h300q rfl [(35, .bool r240q.f2), (34, .bool r240q.f2)] (by kernel_rfl) (fun a301q h302q => ?_)
      clear h300q a299q
      by_cases c303q : r240q.f2 = true
      · rw [if_pos c303q] at H
        have hb_ : r240q.f2 = true := c303q
        try rw [hb_] at h302q
        clear hb_
        refine WL.skipped (m := 15) h302q rfl rfl (by kernel_rfl) rfl (fun a304q h305q => ?_)
        clear h302q a301q
        refine WL.skipped (m := 16) h305q rfl rfl (by kernel_rfl) rfl (fun a306q h307q => ?_)
        clear h305q a304q
        refine WL.skipped (m := 17) h307q rfl rfl (by kernel_rfl) rfl (fun a308q h309q => ?_)
        clear h307q a306q
        refine WL.block (c := 1) (m' := 19) h309q rfl [(39, .bool true)] (by kernel_rfl) (fun a310q h311q => ?_)
        clear h309q a308q
        refine WL.done (by kernel_rfl) ?_
        refine wp_then h311q rfl ?_
        refine wp_seq ?_
        refine WL.start ?_
        refine WL.block (c := 1) (m' := 1) h311q rfl [(2, .bool false)] (by kernel_rfl) (fun a312q h313q => ?_)
        clear h311q a310q
        refine WL.done (by kernel_rfl) ?_
        refine wp_ret ?_
        have hS314q : St b w0 W267q R (Fs) := hS272q.drop_
        obtain rfl := Option.some.inj H
        repeat (first | refine then_ret ?_ | refine inBlock_ret ?_ | refine inBlock_go ?_)
        refine body_ret (v := .bool false) h313q (by kernel_rfl) (by kernel_rfl) ?_
        exact ⟨rfl, hS314q⟩
      · rw [if_neg c303q] at H
        have hb_ : r240q.f2 = false := (Bool.eq_false_iff.2 c303q)
        try rw [hb_] at h302q
        clear hb_
        refine WL.op' (m := 15) h302q rfl rfl (owp_run h302q rfl (by kernel_rfl) (v := .bool r241q) (by kernel_rfl) (fun a315q h316q => ?_))
        clear h302q a301q
        refine WL.op' (m := 16) h316q rfl rfl (owp_run h316q rfl (by kernel_rfl) (v := .bool r266q) (by kernel_rfl) (fun a317q h318q => ?_))
        clear h316q a315q
        refine WL.op' (m := 17) h318q rfl rfl (owp_run h318q rfl (by kernel_rfl) (v := .bool (r241q != r266q)) (by kernel_rfl) (fun a319q h320q => ?_))
        clear h318q a317q
        refine WL.block (c := 1) (m' := 19) h320q rfl [(39, .bool (r241q != r266q))] (by kernel_rfl) (fun a321q h322q => ?_)
        clear h320q a319q
        refine WL.done (by kernel_rfl) ?_
        by_cases c323q : (r241q != r266q) = true
        · rw [if_pos c323q] at H
          have hb_ : (r241q != r266q) = true := c323q
          try rw [hb_] at h322q
          clear hb_
          refine wp_then h322q rfl ?_
          refine wp_seq ?_
          refine WL.start ?_
          refine WL.block (c := 1) (m' := 1) h322q rfl [(2, .bool false)] (by kernel_rfl) (fun a324q h325q => ?_)
          clear h322q a321q
          refine WL.done (by kernel_rfl) ?_
          refine wp_ret ?_
          have hS326q : St b w0 W267q R (Fs) := hS272q.drop_
          obtain rfl := Option.some.inj H
          repeat (first | refine then_ret ?_ | refine inBlock_ret ?_ | refine inBlock_go ?_)
          refine body_ret (v := .bool false) h325q (by kernel_rfl) (by kernel_rfl) ?_
          exact ⟨rfl, hS326q⟩
        · rw [if_neg c323q] at H
          have hb_ : (r241q != r266q) = false := (Bool.eq_false_iff.2 c323q)
          try rw [hb_] at h322q
          clear hb_
          refine wp_else h322q rfl ?_
          refine wp_skip ?_
          refine wp_seq ?_
          refine WL.start ?_
          refine WL.block (c := 2) (m' := 2) h322q rfl [(42, .string (mkS r265q)), (41, .string (mkS r264q))] (by kernel_rfl) (fun a327q h328q => ?_)
          clear h322q a321q
          obtain ⟨r330q, r331q, A329q, H⟩ := bind2 H
          refine WL.op' (m := 2) h328q rfl rfl ?_
          refine owp_call [.string (mkS r264q), .string (mkS r265q)] h328q rfl (by kernel_rfl) rfl Tryd.func8 (by kernel_rfl) rfl (by kernel_rfl) (statics_Find.calls k hg0 A329q hS272q) (fun e333q W332q hp334q => ?_)
          obtain ⟨rfl, hS337q⟩ := hp334q
          refine ⟨_, rfl, fun a335q h336q => ?_⟩
          clear h328q a327q
          refine WL.block (c := 5) (m' := 8) h336q rfl [(9, .bool r331q), (8, .int .i64 r330q), (45, .bool r331q), (44, .int .i64 r330q), (40, .tuple #[.int .i64 r330q, .bool r331q])] (by kernel_rfl) (fun a338q h339q => ?_)
          clear h336q a335q
          refine WL.done (by kernel_rfl) ?_
          refine wp_seq ?_
          refine WL.start ?_
          obtain ⟨r341q, A340q, H⟩ := bind1 H
          refine WL.op' (m := 0) h339q rfl rfl ?_
          refine owp_call [] h339q rfl (by kernel_rfl) rfl Tryd.func9 (by kernel_rfl) rfl (by kernel_rfl) (louverlaw04qfixed.calls k hg0 A340q hS337q) (fun e343q W342q hp344q => ?_)
          obtain ⟨rfl, hS347q⟩ := hp344q
          refine ⟨_, rfl, fun a345q h346q => ?_⟩
          clear h339q a338q
          refine WL.block (c := 1) (m' := 2) h346q rfl [(47, .bool r341q)] (by kernel_rfl) (fun a348q h349q => ?_)
          clear h346q a345q
          by_cases c350q : r341q = true
          · rw [if_pos c350q] at H
            have hb_ : r341q = true := c350q
            try rw [hb_] at h349q
            clear hb_
            refine WL.op' (m := 2) h349q rfl rfl (owp_run h349q rfl (by kernel_rfl) (v := .bool r241q) (by kernel_rfl) (fun a351q h352q => ?_))
            clear h349q a348q
            refine WL.op' (m := 3) h352q rfl rfl (owp_run h352q rfl (by kernel_rfl) (v := .bool (!r241q)) (by kernel_rfl) (fun a353q h354q => ?_))
            clear h352q a351q
            refine WL.op' (m := 4) h354q rfl rfl (owp_run h354q rfl (by kernel_rfl) (v := .bool (!r241q)) (by kernel_rfl) (fun a355q h356q => ?_))
            clear h354q a353q
            by_cases c357q : r241q = true
            · rw [if_pos c357q] at H
              have hb_ : r241q = true := c357q
              try rw [hb_] at h356q
              clear hb_
              refine WL.op' (m := 5) h356q rfl rfl (owp_run h356q rfl (by kernel_rfl) (v := .int .i64 r330q) (by kernel_rfl) (fun a358q h359q => ?_))
              clear h356q a355q
              refine WL.op' (m := 6) h359q rfl rfl (owp_run h359q rfl (by kernel_rfl) (v := .int .i64 p0) (by kernel_rfl) (fun a360q h361q => ?_))
              clear h359q a358q
              refine WL.op' (m := 7) h361q rfl rfl (owp_run h361q rfl (by kernel_rfl) (v := .bool (decide (r330q = p0))) (by kernel_rfl) (fun a362q h363q => ?_))
              clear h361q a360q
              refine WL.op' (m := 8) h363q rfl rfl (owp_run h363q rfl (by kernel_rfl) (v := .bool (decide (r330q = p0))) (by kernel_rfl) (fun a364q h365q => ?_))
              clear h363q a362q
              by_cases c366q : r330q = p0
              · rw [if_pos c366q] at H
                have hb_ : (decide (r330q = p0)) = true := decide_eq_true c366q
                try rw [hb_] at h365q
                clear hb_
                refine WL.op' (m := 9) h365q rfl rfl (owp_run h365q rfl (by kernel_rfl) (v := .bool r331q) (by kernel_rfl) (fun a367q h368q => ?_))
                clear h365q a364q
                refine WL.op' (m := 10) h368q rfl rfl (owp_run h368q rfl (by kernel_rfl) (v := .bool r331q) (by kernel_rfl) (fun a369q h370q => ?_))
                clear h368q a367q
                refine WL.op' (m := 11) h370q rfl rfl (owp_run h370q rfl (by kernel_rfl) (v := .bool r331q) (by kernel_rfl) (fun a371q h372q => ?_))
                clear h370q a369q
                refine WL.block (c := 2) (m' := 14) h372q rfl [(2, .bool r331q), (58, .bool r331q)] (by kernel_rfl) (fun a373q h374q => ?_)
                clear h372q a371q
                refine WL.done (by kernel_rfl) ?_
                refine wp_ret ?_
                have hS375q : St b w0 W342q R (Fs) := hS347q.drop_
                obtain rfl := Option.some.inj H
                repeat (first | refine then_ret ?_ | refine inBlock_ret ?_ | refine inBlock_go ?_)
                refine body_ret (v := .bool r331q) h374q (by kernel_rfl) (by kernel_rfl) ?_
                exact ⟨rfl, hS375q⟩
              · rw [if_neg c366q] at H
                have hb_ : (decide (r330q = p0)) = false := decide_eq_false c366q
                try rw [hb_] at h365q
                clear hb_
                refine WL.skipped (m := 9) h365q rfl rfl (by kernel_rfl) rfl (fun a376q h377q => ?_)
                clear h365q a364q
                refine WL.op' (m := 10) h377q rfl rfl (owp_run h377q rfl (by kernel_rfl) (v := .bool false) (by kernel_rfl) (fun a378q h379q => ?_))
                clear h377q a376q
                refine WL.op' (m := 11) h379q rfl rfl (owp_run h379q rfl (by kernel_rfl) (v := .bool false) (by kernel_rfl) (fun a380q h381q => ?_))
                clear h379q a378q
                refine WL.block (c := 2) (m' := 14) h381q rfl [(2, .bool false), (58, .bool false)] (by kernel_rfl) (fun a382q h383q => ?_)
                clear h381q a380q
                refine WL.done (by kernel_rfl) ?_
                refine wp_ret ?_
                have hS384q : St b w0 W342q R (Fs) := hS347q.drop_
                obtain rfl := Option.some.inj H
                repeat (first | refine then_ret ?_ | refine inBlock_ret ?_ | refine inBlock_go ?_)
                refine body_ret (v := .bool false) h383q (by kernel_rfl) (by kernel_rfl) ?_
                exact ⟨rfl, hS384q⟩
            · rw [if_neg c357q] at H
              have hb_ : r241q = false := (Bool.eq_false_iff.2 c357q)
              try rw [hb_] at h356q
              clear hb_
              refine WL.skipped (m := 5) h356q rfl rfl (by kernel_rfl) rfl (fun a385q h386q => ?_)
              clear h356q a355q
              refine WL.skipped (m := 6) h386q rfl rfl (by kernel_rfl) rfl (fun a387q h388q => ?_)
              clear h386q a385q
              refine WL.skipped (m := 7) h388q rfl rfl (by kernel_rfl) rfl (fun a389q h390q => ?_)
              clear h388q a387q
              refine WL.skipped (m := 8) h390q rfl rfl (by kernel_rfl) rfl (fun a391q h392q => ?_)
              clear h390q a389q
              refine WL.skipped (m := 9) h392q rfl rfl (by kernel_rfl) rfl (fun a393q h394q => ?_)
              clear h392q a391q
              refine WL.skipped (m := 10) h394q rfl rfl (by kernel_rfl) rfl (fun a395q h396q => ?_)
              clear h394q a393q
              refine WL.op' (m := 11) h396q rfl rfl (owp_run h396q rfl (by kernel_rfl) (v := .bool true) (by kernel_rfl) (fun a397q h398q => ?_))
              clear h396q a395q
              refine WL.block (c := 2) (m' := 14) h398q rfl [(2, .bool true), (58, .bool true)] (by kernel_rfl) (fun a399q h400q => ?_)
              clear h398q a397q
              refine WL.done (by kernel_rfl) ?_
              refine wp_ret ?_
              have hS401q : St b w0 W342q R (Fs) := hS347q.drop_
              obtain rfl := Option.some.inj H
              repeat (first | refine then_ret ?_ | refine inBlock_ret ?_ | refine inBlock_go ?_)
              refine body_ret (v := .bool true) h400q (by kernel_rfl) (by kernel_rfl) ?_
              exact ⟨rfl, hS401q⟩
          · rw [if_neg c350q] at H
            have hb_ : r341q = false := (Bool.eq_false_iff.2 c350q)
            try rw [hb_] at h349q
            clear hb_
            refine WL.skipped (m := 2) h349q rfl rfl (by kernel_rfl) rfl (fun a402q h403q => ?_)
            clear h349q a348q
            refine WL.skipped (m := 3) h403q rfl rfl (by kernel_rfl) rfl (fun a404q h405q => ?_)
            clear h403q a402q
            refine WL.skipped (m := 4) h405q rfl rfl (by kernel_rfl) rfl (fun a406q h407q => ?_)
            clear h405q a404q
            refine WL.skipped (m := 5) h407q rfl rfl (by kernel_rfl) rfl (fun a408q h409q => ?_)
            clear h407q a406q
            refine WL.skipped (m := 6) h409q rfl rfl (by kernel_rfl) rfl (fun a410q h411q => ?_)
            clear h409q a408q
            refine WL.skipped (m := 7) h411q rfl rfl (by kernel_rfl) rfl (fun a412q h413q => ?_)
            clear h411q a410q
            refine WL.skipped (m := 8) h413q rfl rfl (by kernel_rfl) rfl (fun a414q h415q => ?_)
            clear h413q a412q
            refine WL.skipped (m := 9) h415q rfl rfl (by kernel_rfl) rfl (fun a416q h417q => ?_)
            clear h415q a414q
            refine WL.skipped (m := 10) h417q rfl rfl (by kernel_rfl) rfl (fun a418q h419q => ?_)
            clear h417q a416q
            refine WL.skipped (m := 11) h419q rfl rfl (by kernel_rfl) rfl (fun a420q h421q => ?_)
            clear h419q a418q
            refine WL.block (c := 2) (m' := 14) h421q rfl [(2, .bool false), (58, .bool false)] (by kernel_rfl) (fun a422q h423q => ?_)
            clear h421q a420q
            refine WL.done (by kernel_rfl) ?_
            refine wp_ret ?_
            have hS424q : St b w0 W342q R (Fs) := hS347q.drop_
            obtain rfl := Option.some.inj H
            repeat (first | refine then_ret ?_ | refine inBlock_ret ?_ | refine inBlock_go ?_)
            refine body_ret (v := .bool false) h423q (by kernel_rfl) (by kernel_rfl) ?_
            exact ⟨rfl, hS424q⟩
    · rw [if_neg c296q] at H
      have hb_ : (decide (r240q.f1 = r265q)) = false := decide_eq_false c296q
      try rw [hb_] at h295q
      clear hb_
      refine WL.skipped (m := 11) h295q rfl rfl (by kernel_rfl) rfl (fun a425q h426q => ?_)
      clear h295q a294q
      refine WL.skipped (m := 12) h426q rfl rfl (by kernel_rfl) rfl (fun a427q h428q => ?_)
      clear h426q a425q
      refine WL.block (c := 2) (m' := 15) h428q rfl [(35, .bool true), (34, .bool true)] (by kernel_rfl) (fun a429q h430q => ?_)
      clear h428q a427q
      refine WL.skipped (m := 15) h430q rfl rfl (by kernel_rfl) rfl (fun a431q h432q => ?_)
      clear h430q a429q
      refine WL.skipped (m := 16) h432q rfl rfl (by kernel_rfl) rfl (fun a433q h434q => ?_)
      clear h432q a431q
      refine WL.skipped (m := 17) h434q rfl rfl (by kernel_rfl) rfl (fun a435q h436q => ?_)
      clear h434q a433q
      refine WL.block (c := 1) (m' := 19) h436q rfl [(39, .bool true)] (by kernel_rfl) (fun a437q h438q => ?_)
      clear h436q a435q
      refine WL.done (by kernel_rfl) ?_
      refine wp_then h438q rfl ?_
      refine wp_seq ?_
      refine WL.start ?_
      refine WL.block (c := 1) (m' := 1) h438q rfl [(2, .bool false)] (by kernel_rfl) (fun a439q h440q => ?_)
      clear h438q a437q
      refine WL.done (by kernel_rfl) ?_
      refine wp_ret ?_
      have hS441q : St b w0 W267q R (Fs) := hS272q.drop_
      obtain rfl := Option.some.inj H
      repeat (first | refine then_ret ?_ | refine inBlock_ret ?_ | refine inBlock_go ?_)
      refine body_ret (v := .bool false) h440q (by kernel_rfl) (by kernel_rfl) ?_
      exact ⟨rfl, hS441q⟩
  · rw [if_neg c285q] at H
    have hb_ : (decide (r240q.f0 = r264q)) = false := decide_eq_false c285q
    try rw [hb_] at h284q
    clear hb_
    refine WL.skipped (m := 5) h284q rfl rfl (by kernel_rfl) rfl (fun a442q h443q => ?_)
    clear h284q a283q
    refine WL.skipped (m := 6) h443q rfl rfl (by kernel_rfl) rfl (fun a444q h445q => ?_)
    clear h443q a442q
    refine WL.skipped (m := 7) h445q rfl rfl (by kernel_rfl) rfl (fun a446q h447q => ?_)
    clear h445q a444q
    refine WL.skipped (m := 8) h447q rfl rfl (by kernel_rfl) rfl (fun a448q h449q => ?_)
    clear h447q a446q
    refine WL.block (c := 2) (m' := 11) h449q rfl [(31, .bool true), (30, .bool true)] (by kernel_rfl) (fun a450q h451q => ?_)
    clear h449q a448q
    refine WL.skipped (m := 11) h451q rfl rfl (by kernel_rfl) rfl (fun a452q h453q => ?_)
    clear h451q a450q
    refine WL.skipped (m := 12) h453q rfl rfl (by kernel_rfl) rfl (fun a454q h455q => ?_)
    clear h453q a452q
    refine WL.block (c := 2) (m' := 15) h455q rfl [(35, .bool true), (34, .bool true)] (by kernel_rfl) (fun a456q h457q => ?_)
    clear h455q a454q
    refine WL.skipped (m := 15) h457q rfl rfl (by kernel_rfl) rfl (fun a458q h459q => ?_)
    clear h457q a456q
    refine WL.skipped (m := 16) h459q rfl rfl (by kernel_rfl) rfl (fun a460q h461q => ?_)
    clear h459q a458q
    refine WL.skipped (m := 17) h461q rfl rfl (by kernel_rfl) rfl (fun a462q h463q => ?_)
    clear h461q a460q
    refine WL.block (c := 1) (m' := 19) h463q rfl [(39, .bool true)] (by kernel_rfl) (fun a464q h465q => ?_)
    clear h463q a462q
    refine WL.done (by kernel_rfl) ?_
    refine wp_then h465q rfl ?_
    refine wp_seq ?_
    refine WL.start ?_
    refine WL.block (c := 1) (m' := 1) h465q rfl [(2, .bool false)] (by kernel_rfl) (fun a466q h467q => ?_)
    clear h465q a464q
    refine WL.done (by kernel_rfl) ?_
    refine wp_ret ?_
    have hS468q : St b w0 W267q R (Fs) := hS272q.drop_
    obtain rfl := Option.some.inj H
    repeat (first | refine then_ret ?_ | refine inBlock_ret ?_ | refine inBlock_go ?_)
    refine body_ret (v := .bool false) h467q (by kernel_rfl) (by kernel_rfl) ?_
    exact ⟨rfl, hS468q⟩

/-! ### louver/louverref04.Find -/
mutual
def louverref04qFind.l0 : Nat → Int → (List UInt8) → (List UInt8) → (List (List UInt8)) → Option (Int × Bool)
  | 0, _, _, _, _ => none
  | k + 1, x321q, p0, p1, r300q => if x321q < (r300q.length : Int) then (if 0 ≤ x321q then (if (gt [] r300q x321q) = p0 then (if 0 ≤ (IntKind.i64.wrap (x321q + 1)) then (if (IntKind.i64.wrap (x321q + 1)) < (r300q.length : Int) then (if (gt [] r300q (IntKind.i64.wrap (x321q + 1))) = p1 then (some (IntKind.i64.wrap ((IntKind.i64.wrap (Int.tdiv x321q 2)) + 1), true)) else (louverref04qFind.l0 k (IntKind.i64.wrap (x321q + 2)) p0 p1 r300q)) else (none)) else (none)) else (louverref04qFind.l0 k (IntKind.i64.wrap (x321q + 2)) p0 p1 r300q)) else (none)) else (louverref04qFind.l1 k 0 p0 r300q)
def louverref04qFind.l1 : Nat → Int → (List UInt8) → (List (List UInt8)) → Option (Int × Bool)
  | 0, _, _, _ => none
  | k + 1, x407q, p0, r300q => if x407q < (r300q.length : Int) then (if 0 ≤ x407q then (if (gt [] r300q x407q) = p0 then (some (IntKind.i64.wrap ((IntKind.i64.wrap (Int.tdiv x407q 2)) + 1), false)) else (louverref04qFind.l1 k (IntKind.i64.wrap (x407q + 2)) p0 r300q)) else (none)) else (some (0, false))
end
def louverref04qFind.f (k : Nat) (p0 : (List UInt8)) (p1 : (List UInt8)) : Option (Int × Bool) := bnd1 (louverref04qTable.f) fun r300q => (louverref04qFind.l0 k 0 p0 p1 r300q)
set_option maxHeartbeats 2000000 in
set_option maxRecDepth 100000 in
theorem louverref04qFind.calls (k : Nat) {b : Nat} {w0 W : World} {R : Frag} {Fs : List Frag} {p0 : (List UInt8)} {p1 : (List UInt8)}  {r0q : Int} {r1q : Bool}  (H : louverref04qFind.f k p0 p1 = some (r0q, r1q)) (hS : St b w0 W R (Fs)) :
    Calls Tryd.prog 10 ([.string (mkS p0), .string (mkS p1)] : List Value).toArray W (fun e W' => e = .returned (.tuple #[.int .i64 r0q, .bool r1q]) ∧ St b w0 W' R (Fs)) := by
  unfold louverref04qFind.f at H
  refine calls_enter Tryd.func10 rfl 49 rfl (by kernel_rfl) (fun a h => ?_)
  refine wp_seq ?_
  refine WL.start ?_
  refine WL.block (c := 2) (m' := 2) h rfl [(5, .bool false), (4, .int .i64 0)] (by kernel_rfl) (fun a297q h298q => ?_)
  refine WL.done (by kernel_rfl) ?_
  refine wp_seq ?_
  refine WL.start ?_
  obtain ⟨r300q, A299q, H⟩ := bind1 H
  refine WL.op' (m := 0) h298q rfl rfl ?_
  refine owp_call [] h298q rfl (by kernel_rfl) rfl Tryd.func11 (by kernel_rfl) rfl (by kernel_rfl) (louverref04qTable.calls  A299q hS) (fun e302q W301q hp303q => ?_)
  obtain ⟨v306q, M307q, rfl, hr308q, hS309q⟩ := hp303q
  refine ⟨_, rfl, fun a304q h305q => ?_⟩
  clear h298q a297q
  obtain ⟨A310q, c311q, rfl⟩ := hr308q.form
  refine WL.block (c := 1) (m' := 2) h305q rfl [(6, .slice A310q r300q.length c311q)] (by kernel_rfl) (fun a312q h313q => ?_)
  clear h305q a304q
  refine WL.done (by kernel_rfl) ?_
  refine wp_seq ?_
  refine wp_seq ?_
  refine WL.start ?_
  refine WL.block (c := 1) (m' := 1) h313q rfl [(7, .int .i64 0)] (by kernel_rfl) (fun a314q h315q => ?_)
  clear h313q a312q
  refine WL.done (by kernel_rfl) ?_
  refine wp_block ?_
  refine wp_loop_ghost (fun kq_ a_ W_ => ∃ (x321q : Int), Hd a_ 49 [(0, .string (mkS p0)), (1, .string (mkS p1)), (6, .slice A310q r300q.length c311q), (7, .int .i64 x321q)] ∧ Asd (louverref04qFind.l0 kq_ x321q p0 p1 r300q = some (r0q, r1q)) ∧ Asd (kq_ ≤ k) ∧ Asd (St b w0 W_ R (M307q :: Fs))) k ⟨0, h315q.keep ⟨rfl, rfl, rfl, rfl, trivial⟩, ⟨H⟩, ⟨Nat.le_refl _⟩, ⟨hS309q⟩⟩ ?_
  clear H hS309q
  rintro k320q a317q W318q ⟨x321q, h316q, ⟨H⟩, ⟨hkk320q⟩, ⟨hS319q⟩⟩
  obtain _ | k322q := k320q
  · exact absurd H (by simp [louverref04qFind.l0])
  simp only [louverref04qFind.l0] at H
  refine wp_seq ?_
  refine wp_seq ?_
  refine WL.start ?_
  refine WL.block (c := 4) (m' := 4) h316q rfl [(13, .bool (decide (x321q < (r300q.length : Int)))), (12, .int .i64 (r300q.length : Int)), (11, .slice A310q r300q.length c311q), (10, .int .i64 x321q)] (by kernel_rfl) (fun a323q h324q => ?_)
  clear h316q a317q
  refine WL.done (by kernel_rfl) ?_
  by_cases c325q : x321q < (r300q.length : Int)
  · rw [if_pos c325q] at H
    have hb_ : (decide (x321q < (r300q.length : Int))) = true := decide_eq_true c325q
    try rw [hb_] at h324q
    clear hb_
    refine wp_then h324q rfl ?_
    refine wp_skip ?_
    refine wp_seq ?_
    refine wp_block ?_
    refine wp_seq ?_
    refine WL.start ?_
    refine WL.block (c := 2) (m' := 2) h324q rfl [(17, .int .i64 x321q), (16, .slice A310q r300q.length c311q)] (by kernel_rfl) (fun a326q h327q => ?_)
    clear h324q a323q
    by_cases c328q : 0 ≤ x321q
    · rw [if_pos c328q] at H
      have hi331q : 0 ≤ x321q := by first | assumption | omega
      have hi332q : x321q < (r300q.length : Int) := by first | assumption | omega
      obtain ⟨ad329q, _, ha330q, -, -⟩ := Rds.elemAny hr308q.rds hi331q (gt_get (z := []) hi331q hi332q)
      refine WL.op' (m := 2) h327q rfl rfl ?_
      refine owp_run (v := .pointer (some (ad329q.add (x321q.toNat * 1)))) h327q rfl (by kernel_rfl) (run_idx (ad := ad329q) (sz := 1) rfl (by rw [← ha330q]; rfl) rfl Tryd.underlying35 (by kernel_rfl) hi331q hi332q) (fun a333q h334q => ?_)
      clear h327q a326q
      obtain ⟨ad335q, cs336q, ha337q, hr339q, hc338q⟩ := Rds.elemAny hr308q.rds hi331q (gt_get (z := []) hi331q hi332q)
      rw [ha330q] at ha337q; obtain rfl := Option.some.inj ha337q
      obtain rfl : cs336q = [.string (mkS (gt [] r300q x321q))] := hr339q
      refine WL.op' (m := 3) h334q rfl rfl ?_
      refine owp_run (v := .string (mkS (gt [] r300q x321q))) h334q rfl (by kernel_rfl) (run_load1 rfl rfl Tryd.underlying9 rfl (cell0 (hc338q _ (fun _ _ hk_ => (hS319q).pool.kn hk_)))) (fun a340q h341q => ?_)
      clear h334q a333q
      refine WL.block (c := 1) (m' := 5) h341q rfl [(20, .string (mkS p0))] (by kernel_rfl) (fun a342q h343q => ?_)
      clear h341q a340q
      refine WL.op' (m := 5) h343q rfl rfl ?_
      refine owp_run (v := .bool (decide ((gt [] r300q x321q) = p0))) h343q rfl (by kernel_rfl) (run_streq rfl rfl rfl) (fun a344q h345q => ?_)
      clear h343q a342q
      refine WL.block (c := 1) (m' := 7) h345q rfl [(22, .bool (decide ((gt [] r300q x321q) = p0)))] (by kernel_rfl) (fun a346q h347q => ?_)
      clear h345q a344q
      by_cases c348q : (gt [] r300q x321q) = p0
      · rw [if_pos c348q] at H
        have hb_ : (decide ((gt [] r300q x321q) = p0)) = true := decide_eq_true c348q
        try rw [hb_] at h347q
        clear hb_
        refine WL.op' (m := 7) h347q rfl rfl (owp_run h347q rfl (by kernel_rfl) (v := .slice A310q r300q.length c311q) (by kernel_rfl) (fun a349q h350q => ?_))
        clear h347q a346q
        refine WL.op' (m := 8) h350q rfl rfl (owp_run h350q rfl (by kernel_rfl) (v := .int .i64 x321q) (by kernel_rfl) (fun a351q h352q => ?_))
        clear h350q a349q
        refine WL.op' (m := 9) h352q rfl rfl (owp_run h352q rfl (by kernel_rfl) (v := .int .i64 (IntKind.i64.wrap (x321q + 1))) (by kernel_rfl) (fun a353q h354q => ?_))
        clear h352q a351q
        by_cases c355q : 0 ≤ (IntKind.i64.wrap (x321q + 1))
        · rw [if_pos c355q] at H
          by_cases c356q : (IntKind.i64.wrap (x321q + 1)) < (r300q.length : Int)
          · rw [if_pos c356q] at H
            have hi359q : 0 ≤ IntKind.i64.wrap (x321q + 1) := by first | assumption | omega
            have hi360q : (IntKind.i64.wrap (x321q + 1)) < (r300q.length : Int) := by first | assumption | omega
            obtain ⟨ad357q, _, ha358q, -, -⟩ := Rds.elemAny hr308q.rds hi359q (gt_get (z := []) hi359q hi360q)
            refine WL.op' (m := 10) h354q rfl rfl ?_
            refine owp_run (v := .pointer (some (ad357q.add ((IntKind.i64.wrap (x321q + 1)).toNat * 1)))) h354q rfl (by kernel_rfl) (run_idx (ad := ad357q) (sz := 1) rfl (by rw [← ha358q]; rfl) rfl Tryd.underlying35 (by kernel_rfl) hi359q hi360q) (fun a361q h362q => ?_)
            clear h354q a353q
            obtain ⟨ad363q, cs364q, ha365q, hr367q, hc366q⟩ := Rds.elemAny hr308q.rds hi359q (gt_get (z := []) hi359q hi360q)
            rw [ha358q] at ha365q; obtain rfl := Option.some.inj ha365q
            obtain rfl : cs364q = [.string (mkS (gt [] r300q (IntKind.i64.wrap (x321q + 1))))] := hr367q
            refine WL.op' (m := 11) h362q rfl rfl ?_
            refine owp_run (v := .string (mkS (gt [] r300q (IntKind.i64.wrap (x321q + 1))))) h362q rfl (by kernel_rfl) (run_load1 rfl rfl Tryd.underlying9 rfl (cell0 (hc366q _ (fun _ _ hk_ => (hS319q).pool.kn hk_)))) (fun a368q h369q => ?_)
            clear h362q a361q
            refine WL.op' (m := 12) h369q rfl rfl (owp_run h369q rfl (by kernel_rfl) (v := .string (mkS p1)) (by kernel_rfl) (fun a370q h371q => ?_))
            clear h369q a368q
            refine WL.op' (m := 13) h371q rfl rfl ?_
            refine owp_run (v := .bool (decide ((gt [] r300q (IntKind.i64.wrap (x321q + 1))) = p1))) h371q rfl (by kernel_rfl) (run_streq rfl rfl rfl) (fun a372q h373q => ?_)
            clear h371q a370q
            refine WL.block (c := 1) (m' := 15) h373q rfl [(30, .bool (decide ((gt [] r300q (IntKind.i64.wrap (x321q + 1))) = p1)))] (by kernel_rfl) (fun a374q h375q => ?_)
            clear h373q a372q
            refine WL.done (by kernel_rfl) ?_
            by_cases c376q : (gt [] r300q (IntKind.i64.wrap (x321q + 1))) = p1
            · rw [if_pos c376q] at H
              have hb_ : (decide ((gt [] r300q (IntKind.i64.wrap (x321q + 1))) = p1)) = true := decide_eq_true c376q
              try rw [hb_] at h375q
              clear hb_
              refine wp_then h375q rfl ?_
              refine wp_seq ?_
              refine WL.start ?_
              refine WL.block (c := 5) (m' := 5) h375q rfl [(5, .bool true), (4, .int .i64 (IntKind.i64.wrap ((IntKind.i64.wrap (Int.tdiv x321q 2)) + 1))), (33, .int .i64 (IntKind.i64.wrap ((IntKind.i64.wrap (Int.tdiv x321q 2)) + 1))), (32, .int .i64 (IntKind.i64.wrap (Int.tdiv x321q 2))), (31, .int .i64 x321q)] (by kernel_rfl) (fun a377q h378q => ?_)
              clear h375q a374q
              refine WL.done (by kernel_rfl) ?_
              refine wp_ret ?_
              have hS379q : St b w0 W318q R (Fs) := hS319q.drop_
              obtain ⟨rfl, rfl⟩ := ret2 H
              repeat (first | refine then_ret ?_ | refine inBlock_ret ?_ | refine inBlock_go ?_)
              refine body_ret (v := .tuple #[.int .i64 (IntKind.i64.wrap ((IntKind.i64.wrap (Int.tdiv x321q 2)) + 1)), .bool true]) h378q (by kernel_rfl) (by kernel_rfl) ?_
              exact ⟨rfl, hS379q⟩
            · rw [if_neg c376q] at H
              have hb_ : (decide ((gt [] r300q (IntKind.i64.wrap (x321q + 1))) = p1)) = false := decide_eq_false c376q
              try rw [hb_] at h375q
              clear hb_
              refine wp_else h375q rfl ?_
              refine wp_skip ?_
              refine WL.start ?_
              refine WL.block (c := 3) (m' := 3) h375q rfl [(7, .int .i64 (IntKind.i64.wrap (x321q + 2))), (15, .int .i64 (IntKind.i64.wrap (x321q + 2))), (14, .int .i64 x321q)] (by kernel_rfl) (fun a380q h381q => ?_)
              clear h375q a374q
              refine WL.done (by kernel_rfl) ?_
              exact ⟨k322q, by omega, IntKind.i64.wrap (x321q + 2), h381q.keep ⟨rfl, rfl, rfl, rfl, trivial⟩, ⟨H⟩, ⟨by omega⟩, ⟨hS319q⟩⟩
          · rw [if_neg c356q] at H
            cases H
        · rw [if_neg c355q] at H
          cases H
      · rw [if_neg c348q] at H
        have hb_ : (decide ((gt [] r300q x321q) = p0)) = false := decide_eq_false c348q
        try rw [hb_] at h347q
        clear hb_
        refine WL.skipped (m := 7) h347q rfl rfl (by kernel_rfl) rfl (fun a382q h383q => ?_)
        clear h347q a346q
        refine WL.skipped (m := 8) h383q rfl rfl (by kernel_rfl) rfl (fun a384q h385q => ?_)
        clear h383q a382q
        refine WL.skipped (m := 9) h385q rfl rfl (by kernel_rfl) rfl (fun a386q h387q => ?_)
        clear h385q a384q
        refine WL.skipped (m := 10) h387q rfl rfl (by kernel_rfl) rfl (fun a388q h389q => ?_)
        clear h387q a386q
        refine WL.skipped (m := 11) h389q rfl rfl (by kernel_rfl) rfl (fun a390q h391q => ?_)
        clear h389q a388q
        refine WL.skipped (m := 12) h391q rfl rfl (by kernel_rfl) rfl (fun a392q h393q => ?_)
        clear h391q a390q
        refine WL.skipped (m := 13) h393q rfl rfl (by kernel_rfl) rfl (fun a394q h395q => ?_)
        clear h393q a392q
        refine WL.block (c := 1) (m' := 15) h395q rfl [(30, .bool false)] (by kernel_rfl) (fun a396q h397q => ?_)
        clear h395q a394q
        refine WL.done (by kernel_rfl) ?_
        refine wp_else h397q rfl ?_
        refine wp_skip ?_
        refine WL.start ?_
        refine WL.block (c := 3) (m' := 3) h397q rfl [(7, .int .i64 (IntKind.i64.wrap (x321q + 2))), (15, .int .i64 (IntKind.i64.wrap (x321q + 2))), (14, .int .i64 x321q)] (by kernel_rfl) (fun a398q h399q => ?_)
        clear h397q a396q
        refine WL.done (by kernel_rfl) ?_
        exact ⟨k322q, by omega, IntKind.i64.wrap (x321q + 2), h399q.keep ⟨rfl, rfl, rfl, rfl, trivial⟩, ⟨H⟩, ⟨by omega⟩, ⟨hS319q⟩⟩
    · rw [if_neg c328q] at H
      cases H
  · rw [if_neg c325q] at H
    have hb_ : (decide (x321q < (r300q.length : Int))) = false := decide_eq_false c325q
    try rw [hb_] at h324q
    clear hb_
    refine wp_else h324q rfl ?_
    refine wp_exit ?_
    refine wp_seq ?_
    refine wp_seq ?_
    refine WL.start ?_
    refine WL.block (c := 1) (m' := 1) h324q rfl [(8, .int .i64 0)] (by kernel_rfl) (fun a400q h401q => ?_)
    clear h324q a323q
    refine WL.done (by kernel_rfl) ?_
    refine wp_block ?_
    refine wp_loop_ghost (fun kq_ a_ W_ => ∃ (x407q : Int), Hd a_ 49 [(0, .string (mkS p0)), (6, .slice A310q r300q.length c311q), (8, .int .i64 x407q)] ∧ Asd (louverref04qFind.l1 kq_ x407q p0 r300q = some (r0q, r1q)) ∧ Asd (kq_ ≤ k322q) ∧ Asd (St b w0 W_ R (M307q :: Fs))) k322q ⟨0, h401q.keep ⟨rfl, rfl, rfl, trivial⟩, ⟨H⟩, ⟨Nat.le_refl _⟩, ⟨hS319q⟩⟩ ?_
    clear H hS319q
    rintro k406q a403q W404q ⟨x407q, h402q, ⟨H⟩, ⟨hkk406q⟩, ⟨hS405q⟩⟩
    obtain _ | k408q := k406q
    · exact absurd H (by simp [louverref04qFind.l1])
    simp only [louverref04qFind.l1] at H
    refine wp_seq ?_
    refine wp_seq ?_
    refine WL.start ?_
    refine WL.block (c := 4) (m' := 4) h402q rfl [(37, .bool (decide (x407q < (r300q.length : Int)))), (36, .int .i64 (r300q.length : Int)), (35, .slice A310q r300q.length c311q), (34, .int .i64 x407q)] (by kernel_rfl) (fun a409q h410q => ?_)
    clear h402q a403q
    refine WL.done (by kernel_rfl) ?_
    by_cases c411q : x407q < (r300q.length : Int)
    · rw [if_pos c411q] at H
      have hb_ : (decide (x407q < (r300q.length : Int))) = true := decide_eq_true c411q
      try rw [hb_] at h410q
      clear hb_
      refine wp_then h410q rfl ?_
      refine wp_skip ?_
      refine wp_seq ?_
      refine wp_block ?_
      refine wp_seq ?_
      refine WL.start ?_
      refine WL.block (c := 2) (m' := 2) h410q rfl [(41, .int .i64 x407q), (40, .slice A310q r300q.length c311q)] (by kernel_rfl) (fun a412q h413q => ?_)
      clear h410q a409q
      by_cases c414q : 0 ≤ x407q
      · rw [if_pos c414q] at H
        have hi417q : 0 ≤ x407q := by first | assumption | omega
        have hi418q : x407q < (r300q.length : Int) := by first | assumption | omega
        obtain ⟨ad415q, _, ha416q, -, -⟩ := Rds.elemAny hr308q.rds hi417q (gt_get (z := []) hi417q hi418q)
        refine WL.op' (m := 2) h413q rfl rfl ?_
        refine owp_run (v := .pointer (some (ad415q.add (x407q.toNat * 1)))) h413q rfl (by kernel_rfl) (run_idx (ad := ad415q) (sz := 1) rfl (by rw [← ha416q]; rfl) rfl Tryd.underlying35 (by kernel_rfl) hi417q hi418q) (fun a419q h420q => ?_)
        clear h413q a412q
        obtain ⟨ad421q, cs422q, ha423q, hr425q, hc424q⟩ := Rds.elemAny hr308q.rds hi417q (gt_get (z := []) hi417q hi418q)
        rw [ha416q] at ha423q; obtain rfl := Option.some.inj ha423q
        obtain rfl : cs422q = [.string (mkS (gt [] r300q x407q))] := hr425q
        refine WL.op' (m := 3) h420q rfl rfl ?_
        refine owp_run (v := .string (mkS (gt [] r300q x407q))) h420q rfl (by kernel_rfl) (run_load1 rfl rfl Tryd.underlying9 rfl (cell0 (hc424q _ (fun _ _ hk_ => (hS405q).pool.kn hk_)))) (fun a426q h427q => ?_)
        clear h420q a419q
        refine WL.block (c := 1) (m' := 5) h427q rfl [(44, .string (mkS p0))] (by kernel_rfl) (fun a428q h429q => ?_)
        clear h427q a426q
        refine WL.op' (m := 5) h429q rfl rfl ?_
        refine owp_run (v := .bool (decide ((gt [] r300q x407q) = p0))) h429q rfl (by kernel_rfl) (run_streq rfl rfl rfl) (fun a430q h431q => ?_)
        clear h429q a428q
        refine WL.done (by kernel_rfl) ?_
        by_cases c432q : (gt [] r300q x407q) = p0
        · rw [if_pos c432q] at H
          have hb_ : (decide ((gt [] r300q x407q) = p0)) = true := decide_eq_true c432q
          try rw [hb_] at h431q
          clear hb_
          refine wp_then h431q rfl ?_
          refine wp_seq ?_
          refine WL.start ?_
          refine WL.block (c := 5) (m' := 5) h431q rfl [(5, .bool false), (4, .int .i64 (IntKind.i64.wrap ((IntKind.i64.wrap (Int.tdiv x407q 2)) + 1))), (48, .int .i64 (IntKind.i64.wrap ((IntKind.i64.wrap (Int.tdiv x407q 2)) + 1))), (47, .int .i64 (IntKind.i64.wrap (Int.tdiv x407q 2))), (46, .int .i64 x407q)] (by kernel_rfl) (fun a433q h434q => ?_)
          clear h431q a430q
          refine WL.done (by kernel_rfl) ?_
          refine wp_ret ?_
          have hS435q : St b w0 W404q R (Fs) := hS405q.drop_
          obtain ⟨rfl, rfl⟩ := ret2 H
          repeat (first | refine then_ret ?_ | refine inBlock_ret ?_ | refine inBlock_go ?_)
          refine body_ret (v := .tuple #[.int .i64 (IntKind.i64.wrap ((IntKind.i64.wrap (Int.tdiv x407q 2)) + 1)), .bool false]) h434q (by kernel_rfl) (by kernel_rfl) ?_
          exact ⟨rfl, hS435q⟩
        · rw [if_neg c432q] at H
          have hb_ : (decide ((gt [] r300q x407q) = p0)) = false := decide_eq_false c432q
          try rw [hb_] at h431q
          clear hb_
          refine wp_else h431q rfl ?_
          refine wp_skip ?_
          refine WL.start ?_
          refine WL.block (c := 3) (m' := 3) h431q rfl [(8, .int .i64 (IntKind.i64.wrap (x407q + 2))), (39, .int .i64 (IntKind.i64.wrap (x407q + 2))), (38, .int .i64 x407q)] (by kernel_rfl) (fun a436q h437q => ?_)
          clear h431q a430q
          refine WL.done (by kernel_rfl) ?_
          exact ⟨k408q, by omega, IntKind.i64.wrap (x407q + 2), h437q.keep ⟨rfl, rfl, rfl, trivial⟩, ⟨H⟩, ⟨by omega⟩, ⟨hS405q⟩⟩
      · rw [if_neg c414q] at H
        cases H
    · rw [if_neg c411q] at H
      have hb_ : (decide (x407q < (r300q.length : Int))) = false := decide_eq_false c411q
      try rw [hb_] at h410q
      clear hb_
      refine wp_else h410q rfl ?_
      refine wp_exit ?_
      refine wp_seq ?_
      refine WL.start ?_
      refine WL.block (c := 2) (m' := 2) h410q rfl [(5, .bool false), (4, .int .i64 0)] (by kernel_rfl) (fun a438q h439q => ?_)
      clear h410q a409q
      refine WL.done (by kernel_rfl) ?_
      refine wp_ret ?_
      have hS440q : St b w0 W404q R (Fs) := hS405q.drop_
      obtain ⟨rfl, rfl⟩ := ret2 H
      repeat (first | refine then_ret ?_ | refine inBlock_ret ?_ | refine inBlock_go ?_)
      refine body_ret (v := .tuple #[.int .i64 0, .bool false]) h439q (by kernel_rfl) (by kernel_rfl) ?_
      exact ⟨rfl, hS440q⟩

/-! ### louver/louverlaw04.StaticsFind -/
def louverlaw04qStaticsFind.f (k : Nat) (p0 : (List UInt8)) (p1 : (List UInt8)) : Option (Bool) := bnd2 (statics_Find.f k p0 p1) fun r86q r87q => (bnd2 (louverref04qFind.f k p0 p1) fun r99q r100q => (bnd1 (louverlaw04qfixed.f k) fun r110q => (if r110q = true then (if r86q = r99q then (some (r87q == r100q)) else (some false)) else (some false))))
set_option maxHeartbeats 2000000 in
set_option maxRecDepth 100000 in
theorem louverlaw04qStaticsFind.calls (k : Nat) {b : Nat} {w0 W : World} {R : Frag} {Fs : List Frag} {p0 : (List UInt8)} {p1 : (List UInt8)}  {r0q : Bool} (hg0 : Rds k23 b w0 [] (.slice (some ⟨0, 0, none⟩) 61 61) G0) (H : louverlaw04qStaticsFind.f k p0 p1 = some r0q) (hS : St b w0 W R (Fs)) :
    Calls Tryd.prog 4 ([.string (mkS p0), .string (mkS p1)] : List Value).toArray W (fun e W' => e = .returned (.bool r0q) ∧ St b w0 W' R (Fs)) := by
  unfold louverlaw04qStaticsFind.f at H
  refine calls_enter Tryd.func4 rfl 32 rfl (by kernel_rfl) (fun a h => ?_)
  refine wp_seq ?_
  refine WL.start ?_
  refine WL.block (c := 1) (m' := 1) h rfl [(4, .bool false)] (by kernel_rfl) (fun a81q h82q => ?_)
  refine WL.done (by kernel_rfl) ?_
  refine wp_seq ?_
  refine WL.start ?_
  refine WL.block (c := 2) (m' := 2) h82q rfl [(11, .string (mkS p1)), (10, .string (mkS p0))] (by kernel_rfl) (fun a83q h84q => ?_)
  clear h82q a81q
  obtain ⟨r86q, r87q, A85q, H⟩ := bind2 H
  refine WL.op' (m := 2) h84q rfl rfl ?_
  refine owp_call [.string (mkS p0), .string (mkS p1)] h84q rfl (by kernel_rfl) rfl Tryd.func8 (by kernel_rfl) rfl (by kernel_rfl) (statics_Find.calls k hg0 A85q hS) (fun e89q W88q hp90q => ?_)
  obtain ⟨rfl, hS93q⟩ := hp90q
  refine ⟨_, rfl, fun a91q h92q => ?_⟩
  clear h84q a83q
  refine WL.block (c := 5) (m' := 8) h92q rfl [(6, .bool r87q), (5, .int .i64 r86q), (14, .bool r87q), (13, .int .i64 r86q), (9, .tuple #[.int .i64 r86q, .bool r87q])] (by kernel_rfl) (fun a94q h95q => ?_)
  clear h92q a91q
  refine WL.done (by kernel_rfl) ?_
  refine wp_seq ?_
  refine WL.start ?_
  refine WL.block (c := 2) (m' := 2) h95q rfl [(17, .string (mkS p1)), (16, .string (mkS p0))] (by kernel_rfl) (fun a96q h97q => ?_)
  clear h95q a94q
  obtain ⟨r99q, r100q, A98q, H⟩ := bind2 H
  refine WL.op' (m := 2) h97q rfl rfl ?_
  refine owp_call [.string (mkS p0), .string (mkS p1)] h97q rfl (by kernel_rfl) rfl Tryd.func10 (by kernel_rfl) rfl (by kernel_rfl) (louverref04qFind.calls k  A98q hS93q) (fun e102q W101q hp103q => ?_)
  obtain ⟨rfl, hS106q⟩ := hp103q
  refine ⟨_, rfl, fun a104q h105q => ?_⟩
  clear h97q a96q
  refine WL.block (c := 5) (m' := 8) h105q rfl [(8, .bool r100q), (7, .int .i64 r99q), (20, .bool r100q), (19, .int .i64 r99q), (15, .tuple #[.int .i64 r99q, .bool r100q])] (by kernel_rfl) (fun a107q h108q => ?_)
  clear h105q a104q
  refine WL.done (by kernel_rfl) ?_
  refine wp_seq ?_
  refine WL.start ?_
  obtain ⟨r110q, A109q, H⟩ := bind1 H
  refine WL.op' (m := 0) h108q rfl rfl ?_
  refine owp_call [] h108q rfl (by kernel_rfl) rfl Tryd.func9 (by kernel_rfl) rfl (by kernel_rfl) (louverlaw04qfixed.calls k hg0 A109q hS106q) (fun e112q W111q hp113q => ?_)
  obtain ⟨rfl, hS116q⟩ := hp113q
  refine ⟨_, rfl, fun a114q h115q => ?_⟩
  clear h108q a107q
  refine WL.block (c := 1) (m' := 2) h115q rfl [(22, .bool r110q)] (by kernel_rfl) (fun a117q h118q => ?_)
  clear h115q a114q
  by_cases c119q : r110q = true
  · rw [if_pos c119q] at H
    have hb_ : r110q = true := c119q
    try rw [hb_] at h118q
    clear hb_
    refine WL.op' (m := 2) h118q rfl rfl (owp_run h118q rfl (by kernel_rfl) (v := .int .i64 r86q) (by kernel_rfl) (fun a120q h121q => ?_))
    clear h118q a117q
    refine WL.op' (m := 3) h121q rfl rfl (owp_run h121q rfl (by kernel_rfl) (v := .int .i64 r99q) (by kernel_rfl) (fun a122q h123q => ?_))
    clear h121q a120q
    refine WL.op' (m := 4) h123q rfl rfl (owp_run h123q rfl (by kernel_rfl) (v := .bool (decide (r86q = r99q))) (by kernel_rfl) (fun a124q h125q => ?_))
    clear h123q a122q
    refine WL.block (c := 2) (m' := 7) h125q rfl [(27, .bool (decide (r86q = r99q))), (26, .bool (decide (r86q = r99q)))] (by kernel_rfl) (fun a126q h127q => ?_)
    clear h125q a124q
    by_cases c128q : r86q = r99q
    · rw [if_pos c128q] at H
      have hb_ : (decide (r86q = r99q)) = true := decide_eq_true c128q
      try rw [hb_] at h127q
      clear hb_
      refine WL.op' (m := 7) h127q rfl rfl (owp_run h127q rfl (by kernel_rfl) (v := .bool r87q) (by kernel_rfl) (fun a129q h130q => ?_))
      clear h127q a126q
      refine WL.op' (m := 8) h130q rfl rfl (owp_run h130q rfl (by kernel_rfl) (v := .bool r100q) (by kernel_rfl) (fun a131q h132q => ?_))
      clear h130q a129q
      refine WL.op' (m := 9) h132q rfl rfl (owp_run h132q rfl (by kernel_rfl) (v := .bool (r87q == r100q)) (by kernel_rfl) (fun a133q h134q => ?_))
      clear h132q a131q
      refine WL.block (c := 2) (m' := 12) h134q rfl [(4, .bool (r87q == r100q)), (31, .bool (r87q == r100q))] (by kernel_rfl) (fun a135q h136q => ?_)
      clear h134q a133q
      refine WL.done (by kernel_rfl) ?_
      refine wp_ret ?_
      obtain rfl := Option.some.inj H
      repeat (first | refine then_ret ?_ | refine inBlock_ret ?_ | refine inBlock_go ?_)
      refine body_ret (v := .bool (r87q == r100q)) h136q (by kernel_rfl) (by kernel_rfl) ?_
      exact ⟨rfl, hS116q⟩
    · rw [if_neg c128q] at H
      have hb_ : (decide (r86q = r99q)) = false := decide_eq_false c128q
      try rw [hb_] at h127q
      clear hb_
      refine WL.skipped (m := 7) h127q rfl rfl (by kernel_rfl) rfl (fun a137q h138q => ?_)
      clear h127q a126q
      refine WL.skipped (m := 8) h138q rfl rfl (by kernel_rfl) rfl (fun a139q h140q => ?_)
      clear h138q a137q
      refine WL.skipped (m := 9) h140q rfl rfl (by kernel_rfl) rfl (fun a141q h142q => ?_)
      clear h140q a139q
      refine WL.block (c := 2) (m' := 12) h142q rfl [(4, .bool false), (31, .bool false)] (by kernel_rfl) (fun a143q h144q => ?_)
      clear h142q a141q
      refine WL.done (by kernel_rfl) ?_
      refine wp_ret ?_
      obtain rfl := Option.some.inj H
      repeat (first | refine then_ret ?_ | refine inBlock_ret ?_ | refine inBlock_go ?_)
      refine body_ret (v := .bool false) h144q (by kernel_rfl) (by kernel_rfl) ?_
      exact ⟨rfl, hS116q⟩
  · rw [if_neg c119q] at H
    have hb_ : r110q = false := (Bool.eq_false_iff.2 c119q)
    try rw [hb_] at h118q
    clear hb_
    refine WL.skipped (m := 2) h118q rfl rfl (by kernel_rfl) rfl (fun a145q h146q => ?_)
    clear h118q a117q
    refine WL.skipped (m := 3) h146q rfl rfl (by kernel_rfl) rfl (fun a147q h148q => ?_)
    clear h146q a145q
    refine WL.skipped (m := 4) h148q rfl rfl (by kernel_rfl) rfl (fun a149q h150q => ?_)
    clear h148q a147q
    refine WL.block (c := 2) (m' := 7) h150q rfl [(27, .bool false), (26, .bool false)] (by kernel_rfl) (fun a151q h152q => ?_)
    clear h150q a149q
    refine WL.skipped (m := 7) h152q rfl rfl (by kernel_rfl) rfl (fun a153q h154q => ?_)
    clear h152q a151q
    refine WL.skipped (m := 8) h154q rfl rfl (by kernel_rfl) rfl (fun a155q h156q => ?_)
    clear h154q a153q
    refine WL.skipped (m := 9) h156q rfl rfl (by kernel_rfl) rfl (fun a157q h158q => ?_)
    clear h156q a155q
    refine WL.block (c := 2) (m' := 12) h158q rfl [(4, .bool false), (31, .bool false)] (by kernel_rfl) (fun a159q h160q => ?_)
    clear h158q a157q
    refine WL.done (by kernel_rfl) ?_
    refine wp_ret ?_
    obtain rfl := Option.some.inj H
    repeat (first | refine then_ret ?_ | refine inBlock_ret ?_ | refine inBlock_go ?_)
    refine body_ret (v := .bool false) h160q (by kernel_rfl) (by kernel_rfl) ?_
    exact ⟨rfl, hS116q⟩

/-! ### louver/louverlaw04.StaticsNames -/
def louverlaw04qStaticsNames.f (k : Nat) (p0 : Int) (p1 : Int) : Option (Bool) := bnd2 (statics_At.f p0) fun r356q r357q => (bnd2 (statics_At.f p1) fun r380q r381q => (if r357q = true then (if r381q = true then (if r356q.f0 = r380q.f0 then (bnd2 (statics_Find.f k r356q.f0 ([0, 110, 111, 110, 101] : List UInt8)) fun r432q r433q => (bnd2 (statics_Find.f k r380q.f0 r380q.f1) fun r452q r453q => (bnd1 (louverlaw04qfixed.f k) fun r463q => (if r463q = true then (if r433q = true then (some false) else (if r432q > 0 then (if r432q ≤ (mnI p0 p1) then (if r453q = true then (some (decide (r452q = p1))) else (some false)) else (some false)) else (some false))) else (some false))))) else (bnd1 (louverlaw04qfixed.f k) fun r636q => (some r636q))) else (bnd1 (louverlaw04qfixed.f k) fun r660q => (some r660q))) else (bnd1 (louverlaw04qfixed.f k) fun r690q => (some r690q))))
set_option maxHeartbeats 2000000 in
set_option maxRecDepth 100000 in
theorem louverlaw04qStaticsNames.calls (k : Nat) {b : Nat} {w0 W : World} {R : Frag} {Fs : List Frag} {p0 : Int} {p1 : Int}  {r0q : Bool} (hg0 : Rds k23 b w0 [] (.slice (some ⟨0, 0, none⟩) 61 61) G0) (H : louverlaw04qStaticsNames.f k p0 p1 = some r0q) (hS : St b w0 W R (Fs)) :
    Calls Tryd.prog 5 ([.int .i64 p0, .int .i64 p1] : List Value).toArray W (fun e W' => e = .returned (.bool r0q) ∧ St b w0 W' R (Fs)) := by
  unfold louverlaw04qStaticsNames.f at H
  refine calls_enter Tryd.func5 rfl 75 rfl (by kernel_rfl) (fun a h => ?_)
  refine wp_seq ?_
  refine WL.start ?_
  refine WL.block (c := 1) (m' := 1) h rfl [(4, .bool false)] (by kernel_rfl) (fun a351q h352q => ?_)
  refine WL.done (by kernel_rfl) ?_
  refine wp_seq ?_
  refine WL.start ?_
  refine WL.block (c := 1) (m' := 1) h352q rfl [(14, .int .i64 p0)] (by kernel_rfl) (fun a353q h354q => ?_)
  clear h352q a351q
  obtain ⟨r356q, r357q, A355q, H⟩ := bind2 H
  refine WL.op' (m := 1) h354q rfl rfl ?_
  refine owp_call [.int .i64 p0] h354q rfl (by kernel_rfl) rfl Tryd.func6 (by kernel_rfl) rfl (by kernel_rfl) (statics_At.calls hg0 A355q hS) (fun e359q W358q hp360q => ?_)
  obtain ⟨rfl, hS363q⟩ := hp360q
  refine ⟨_, rfl, fun a361q h362q => ?_⟩
  clear h354q a353q
  refine WL.block (c := 3) (m' := 5) h362q rfl [(17, .bool r357q), (16, .agg #[.string (mkS r356q.f0), .string (mkS r356q.f1), .bool r356q.f2]), (13, .tuple #[.agg #[.string (mkS r356q.f0), .string (mkS r356q.f1), .bool r356q.f2], .bool r357q])] (by kernel_rfl) (fun a364q h365q => ?_)
  clear h362q a361q
  refine WL.op' (m := 5) h365q rfl rfl ?_
  refine owp_new (fun g_ => .pointer (some ⟨g_, 0, none⟩)) (.cells ([.string (mkS ([] : List UInt8)), .string (mkS ([] : List UInt8)), .bool false] : List Value).toArray 23 (0, 0)) h365q rfl (by kernel_rfl) (by kernel_rfl) hS363q (fun a366q W368q g369q h367q hS370q => ?_)
  clear h365q a364q
  refine WL.op' (m := 6) h367q rfl rfl ?_
  refine owp_store (i := 0) (vs := ([.string (mkS r356q.f0), .string (mkS r356q.f1), .bool r356q.f2] : List Value)) h367q rfl (by kernel_rfl) rfl rfl rfl rfl (by simp [Value.oneCell']) (by kernel_rfl) hS370q (by simp) (cs' := ([.string (mkS r356q.f0), .string (mkS r356q.f1), .bool r356q.f2] : List Value)) rfl (fun a371q W373q h372q hS374q => ?_)
  clear h367q a366q
  refine WL.block (c := 1) (m' := 8) h372q rfl [(6, .bool r357q)] (by kernel_rfl) (fun a375q h376q => ?_)
  clear h372q a371q
  refine WL.done (by kernel_rfl) ?_
  refine wp_seq ?_
  refine WL.start ?_
  refine WL.block (c := 1) (m' := 1) h376q rfl [(19, .int .i64 p1)] (by kernel_rfl) (fun a377q h378q => ?_)
  clear h376q a375q
  obtain ⟨r380q, r381q, A379q, H⟩ := bind2 H
  refine WL.op' (m := 1) h378q rfl rfl ?_
  refine owp_call [.int .i64 p1] h378q rfl (by kernel_rfl) rfl Tryd.func6 (by kernel_rfl) rfl (by kernel_rfl) (statics_At.calls hg0 A379q hS374q) (fun e383q W382q hp384q => ?_)
  obtain ⟨rfl, hS387q⟩ := hp384q
  refine ⟨_, rfl, fun a385q h386q => ?_⟩
  clear h378q a377q
  refine WL.block (c := 3) (m' := 5) h386q rfl [(22, .bool r381q), (21, .agg #[.string (mkS r380q.f0), .string (mkS r380q.f1), .bool r380q.f2]), (18, .tuple #[.agg #[.string (mkS r380q.f0), .string (mkS r380q.f1), .bool r380q.f2], .bool r381q])] (by kernel_rfl) (fun a388q h389q => ?_)
  clear h386q a385q
  refine WL.op' (m := 5) h389q rfl rfl ?_
  refine owp_new (fun g_ => .pointer (some ⟨g_, 0, none⟩)) (.cells ([.string (mkS ([] : List UInt8)), .string (mkS ([] : List UInt8)), .bool false] : List Value).toArray 23 (0, 0)) h389q rfl (by kernel_rfl) (by kernel_rfl) hS387q (fun a390q W392q g393q h391q hS394q => ?_)
  clear h389q a388q
  refine WL.op' (m := 6) h391q rfl rfl ?_
  refine owp_store (i := 0) (vs := ([.string (mkS r380q.f0), .string (mkS r380q.f1), .bool r380q.f2] : List Value)) h391q rfl (by kernel_rfl) rfl rfl rfl rfl (by simp [Value.oneCell']) (by kernel_rfl) hS394q (by simp) (cs' := ([.string (mkS r380q.f0), .string (mkS r380q.f1), .bool r380q.f2] : List Value)) rfl (fun a395q W397q h396q hS398q => ?_)
  clear h391q a390q
  refine WL.block (c := 1) (m' := 8) h396q rfl [(8, .bool r381q)] (by kernel_rfl) (fun a399q h400q => ?_)
  clear h396q a395q
  refine WL.done (by kernel_rfl) ?_
  refine wp_seq ?_
  refine wp_seq ?_
  refine WL.start ?_
  refine WL.block (c := 3) (m' := 3) h400q rfl [(25, .bool (!r357q)), (24, .bool (!r357q)), (23, .bool r357q)] (by kernel_rfl) (fun a401q h402q => ?_)
  clear h400q a399q
  by_cases c403q : r357q = true
  · rw [if_pos c403q] at H
    have hb_ : r357q = true := c403q
    try rw [hb_] at h402q
    clear hb_
    refine WL.op' (m := 3) h402q rfl rfl (owp_run h402q rfl (by kernel_rfl) (v := .bool r381q) (by kernel_rfl) (fun a404q h405q => ?_))
    clear h402q a401q
    refine WL.op' (m := 4) h405q rfl rfl (owp_run h405q rfl (by kernel_rfl) (v := .bool (!r381q)) (by kernel_rfl) (fun a406q h407q => ?_))
    clear h405q a404q
    refine WL.block (c := 2) (m' := 7) h407q rfl [(29, .bool (!r381q)), (28, .bool (!r381q))] (by kernel_rfl) (fun a408q h409q => ?_)
    clear h407q a406q
    by_cases c410q : r381q = true
    · rw [if_pos c410q] at H
      have hb_ : r381q = true := c410q
      try rw [hb_] at h409q
      clear hb_
      refine WL.op' (m := 7) h409q rfl rfl (owp_run h409q rfl (by kernel_rfl) (v := .pointer (some ⟨g369q, 0, none⟩)) (by kernel_rfl) (fun a411q h412q => ?_))
      clear h409q a408q
      have hS413q : St b w0 W397q R ([(g369q, .cells ([.string (mkS r356q.f0), .string (mkS r356q.f1), .bool r356q.f2] : List Value).toArray 23 (0, 0))] :: [(g393q, .cells ([.string (mkS r380q.f0), .string (mkS r380q.f1), .bool r380q.f2] : List Value).toArray 23 (0, 0))] :: Fs) := hS398q.bring 1 rfl rfl
      refine WL.op' (m := 8) h412q rfl rfl ?_
      refine owp_run (v := .string (mkS r356q.f0)) h412q rfl (by kernel_rfl) (run_load1 rfl rfl Tryd.underlying9 rfl (hS413q.cell (i := 0) rfl)) (fun a414q h415q => ?_)
      clear h412q a411q
      refine WL.op' (m := 9) h415q rfl rfl (owp_run h415q rfl (by kernel_rfl) (v := .pointer (some ⟨g393q, 0, none⟩)) (by kernel_rfl) (fun a416q h417q => ?_))
      clear h415q a414q
      have hS418q : St b w0 W397q R ([(g393q, .cells ([.string (mkS r380q.f0), .string (mkS r380q.f1), .bool r380q.f2] : List Value).toArray 23 (0, 0))] :: [(g369q, .cells ([.string (mkS r356q.f0), .string (mkS r356q.f1), .bool r356q.f2] : List Value).toArray 23 (0, 0))] :: Fs) := hS413q.bring 1 rfl rfl
      refine WL.op' (m := 10) h417q rfl rfl ?_
      refine owp_run (v := .string (mkS r380q.f0)) h417q rfl (by kernel_rfl) (run_load1 rfl rfl Tryd.underlying9 rfl (hS418q.cell (i := 0) rfl)) (fun a419q h420q => ?_)
      clear h417q a416q
      refine WL.op' (m := 11) h420q rfl rfl ?_
      refine owp_run (v := .bool (!decide (r356q.f0 = r380q.f0))) h420q rfl (by kernel_rfl) (run_strne rfl rfl rfl) (fun a421q h422q => ?_)
      clear h420q a419q
      refine WL.block (c := 1) (m' := 13) h422q rfl [(35, .bool (!decide (r356q.f0 = r380q.f0)))] (by kernel_rfl) (fun a423q h424q => ?_)
      clear h422q a421q
      refine WL.done (by kernel_rfl) ?_
      by_cases c425q : r356q.f0 = r380q.f0
      · rw [if_pos c425q] at H
        have hb_ : (decide (r356q.f0 = r380q.f0)) = true := decide_eq_true c425q
        try rw [hb_] at h424q
        clear hb_
        refine wp_else h424q rfl ?_
        refine wp_skip ?_
        refine wp_seq ?_
        refine WL.start ?_
        refine WL.block (c := 1) (m' := 1) h424q rfl [(38, .pointer (some ⟨g369q, 0, none⟩))] (by kernel_rfl) (fun a426q h427q => ?_)
        clear h424q a423q
        have hS428q : St b w0 W397q R ([(g369q, .cells ([.string (mkS r356q.f0), .string (mkS r356q.f1), .bool r356q.f2] : List Value).toArray 23 (0, 0))] :: [(g393q, .cells ([.string (mkS r380q.f0), .string (mkS r380q.f1), .bool r380q.f2] : List Value).toArray 23 (0, 0))] :: Fs) := hS418q.bring 1 rfl rfl
        refine WL.op' (m := 1) h427q rfl rfl ?_
        refine owp_run (v := .string (mkS r356q.f0)) h427q rfl (by kernel_rfl) (run_load1 rfl rfl Tryd.underlying9 rfl (hS428q.cell (i := 0) rfl)) (fun a429q h430q => ?_)
        clear h427q a426q
        obtain ⟨r432q, r433q, A431q, H⟩ := bind2 H
        refine WL.op' (m := 2) h430q rfl rfl ?_
        refine owp_call [.string (mkS r356q.f0), .string (mkS ([0, 110, 111, 110, 101] : List UInt8))] h430q rfl (by kernel_rfl) rfl Tryd.func8 (by kernel_rfl) rfl (by kernel_rfl) (statics_Find.calls k hg0 A431q hS428q) (fun e435q W434q hp436q => ?_)
        obtain ⟨rfl, hS439q⟩ := hp436q
        refine ⟨_, rfl, fun a437q h438q => ?_⟩
        clear h430q a429q
        refine WL.block (c := 5) (m' := 8) h438q rfl [(10, .bool r433q), (9, .int .i64 r432q), (42, .bool r433q), (41, .int .i64 r432q), (37, .tuple #[.int .i64 r432q, .bool r433q])] (by kernel_rfl) (fun a440q h441q => ?_)
        clear h438q a437q
        refine WL.done (by kernel_rfl) ?_
        refine wp_seq ?_
        refine WL.start ?_
        refine WL.block (c := 1) (m' := 1) h441q rfl [(44, .pointer (some ⟨g393q, 0, none⟩))] (by kernel_rfl) (fun a442q h443q => ?_)
        clear h441q a440q
        have hS444q : St b w0 W434q R ([(g393q, .cells ([.string (mkS r380q.f0), .string (mkS r380q.f1), .bool r380q.f2] : List Value).toArray 23 (0, 0))] :: [(g369q, .cells ([.string (mkS r356q.f0), .string (mkS r356q.f1), .bool r356q.f2] : List Value).toArray 23 (0, 0))] :: Fs) := hS439q.bring 1 rfl rfl
        refine WL.op' (m := 1) h443q rfl rfl ?_
        refine owp_run (v := .string (mkS r380q.f0)) h443q rfl (by kernel_rfl) (run_load1 rfl rfl Tryd.underlying9 rfl (hS444q.cell (i := 0) rfl)) (fun a445q h446q => ?_)
        clear h443q a442q
        refine WL.block (c := 1) (m' := 3) h446q rfl [(46, .pointer (some ⟨g393q, 1, none⟩))] (by kernel_rfl) (fun a447q h448q => ?_)
        clear h446q a445q
        refine WL.op' (m := 3) h448q rfl rfl ?_
        refine owp_run (v := .string (mkS r380q.f1)) h448q rfl (by kernel_rfl) (run_load1 rfl rfl Tryd.underlying9 rfl (hS444q.cell (i := 1) rfl)) (fun a449q h450q => ?_)
        clear h448q a447q
        obtain ⟨r452q, r453q, A451q, H⟩ := bind2 H
        refine WL.op' (m := 4) h450q rfl rfl ?_
        refine owp_call [.string (mkS r380q.f0), .string (mkS r380q.f1)] h450q rfl (by kernel_rfl) rfl Tryd.func8 (by kernel_rfl) rfl (by kernel_rfl) (statics_Find.calls k hg0 A451q hS444q) (fun e455q W454q hp456q => ?_)
        obtain ⟨rfl, hS459q⟩ := hp456q
        refine ⟨_, rfl, fun a457q h458q => ?_⟩
        clear h450q a449q
        refine WL.block (c := 5) (m' := 10) h458q rfl [(12, .bool r453q), (11, .int .i64 r452q), (50, .bool r453q), (49, .int .i64 r452q), (43, .tuple #[.int .i64 r452q, .bool r453q])] (by kernel_rfl) (fun a460q h461q => ?_)
        clear h458q a457q
        refine WL.done (by kernel_rfl) ?_
        refine wp_seq ?_
        refine WL.start ?_
        obtain ⟨r463q, A462q, H⟩ := bind1 H
        refine WL.op' (m := 0) h461q rfl rfl ?_
        refine owp_call [] h461q rfl (by kernel_rfl) rfl Tryd.func9 (by kernel_rfl) rfl (by kernel_rfl) (louverlaw04qfixed.calls k hg0 A462q hS459q) (fun e465q W464q hp466q => ?_)
        obtain ⟨rfl, hS469q⟩ := hp466q
        refine ⟨_, rfl, fun a467q h468q => ?_⟩
        clear h461q a460q
        refine WL.block (c := 1) (m' := 2) h468q rfl [(52, .bool r463q)] (by kernel_rfl) (fun a470q h471q => ?_)
        clear h468q a467q
        by_cases c472q : r463q = true
        · rw [if_pos c472q] at H
          have hb_ : r463q = true := c472q
          try rw [hb_] at h471q
          clear hb_
          refine WL.op' (m := 2) h471q rfl rfl (owp_run h471q rfl (by kernel_rfl) (v := .bool r433q) (by kernel_rfl) (fun a473q h474q => ?_))
          clear h471q a470q
          refine WL.op' (m := 3) h474q rfl rfl (owp_run h474q rfl (by kernel_rfl) (v := .bool (!r433q)) (by kernel_rfl) (fun a475q h476q => ?_))
          clear h474q a473q
          refine WL.block (c := 2) (m' := 6) h476q rfl [(56, .bool (!r433q)), (55, .bool (!r433q))] (by kernel_rfl) (fun a477q h478q => ?_)
          clear h476q a475q
          by_cases c479q : r433q = true
          · rw [if_pos c479q] at H
            have hb_ : r433q = true := c479q
            try rw [hb_] at h478q
            clear hb_
            refine WL.skipped (m := 6) h478q rfl rfl (by kernel_rfl) rfl (fun a480q h481q => ?_)
            clear h478q a477q
            refine WL.skipped (m := 7) h481q rfl rfl (by kernel_rfl) rfl (fun a482q h483q => ?_)
            clear h481q a480q
            refine WL.block (c := 2) (m' := 10) h483q rfl [(60, .bool false), (59, .bool false)] (by kernel_rfl) (fun a484q h485q => ?_)
            clear h483q a482q
            refine WL.skipped (m := 10) h485q rfl rfl (by kernel_rfl) rfl (fun a486q h487q => ?_)
            clear h485q a484q
            refine WL.skipped (m := 11) h487q rfl rfl (by kernel_rfl) rfl (fun a488q h489q => ?_)
            clear h487q a486q
            refine WL.skipped (m := 12) h489q rfl rfl (by kernel_rfl) rfl (fun a490q h491q => ?_)
            clear h489q a488q
            refine WL.skipped (m := 13) h491q rfl rfl (by kernel_rfl) rfl (fun a492q h493q => ?_)
            clear h491q a490q
            refine WL.skipped (m := 14) h493q rfl rfl (by kernel_rfl) rfl (fun a494q h495q => ?_)
            clear h493q a492q
            refine WL.block (c := 2) (m' := 17) h495q rfl [(67, .bool false), (66, .bool false)] (by kernel_rfl) (fun a496q h497q => ?_)
            clear h495q a494q
            refine WL.skipped (m := 17) h497q rfl rfl (by kernel_rfl) rfl (fun a498q h499q => ?_)
            clear h497q a496q
            refine WL.block (c := 2) (m' := 20) h499q rfl [(70, .bool false), (69, .bool false)] (by kernel_rfl) (fun a500q h501q => ?_)
            clear h499q a498q
            refine WL.skipped (m := 20) h501q rfl rfl (by kernel_rfl) rfl (fun a502q h503q => ?_)
            clear h501q a500q
            refine WL.skipped (m := 21) h503q rfl rfl (by kernel_rfl) rfl (fun a504q h505q => ?_)
            clear h503q a502q
            refine WL.skipped (m := 22) h505q rfl rfl (by kernel_rfl) rfl (fun a506q h507q => ?_)
            clear h505q a504q
            refine WL.block (c := 2) (m' := 25) h507q rfl [(4, .bool false), (74, .bool false)] (by kernel_rfl) (fun a508q h509q => ?_)
            clear h507q a506q
            refine WL.done (by kernel_rfl) ?_
            refine wp_ret ?_
            have hS510q : St b w0 W464q R ([(g369q, .cells ([.string (mkS r356q.f0), .string (mkS r356q.f1), .bool r356q.f2] : List Value).toArray 23 (0, 0))] :: Fs) := hS469q.drop_
            have hS511q : St b w0 W464q R (Fs) := hS510q.drop_
            obtain rfl := Option.some.inj H
            repeat (first | refine then_ret ?_ | refine inBlock_ret ?_ | refine inBlock_go ?_)
            refine body_ret (v := .bool false) h509q (by kernel_rfl) (by kernel_rfl) ?_
            exact ⟨rfl, hS511q⟩
          · rw [if_neg c479q] at H
            have hb_ : r433q = false := (Bool.eq_false_iff.2 c479q)
            try rw [hb_] at h478q
            clear hb_
            refine WL.op' (m := 6) h478q rfl rfl (owp_run h478q rfl (by kernel_rfl) (v := .int .i64 r432q) (by kernel_rfl) (fun a512q h513q => ?_))
            clear h478q a477q
            refine WL.op' (m := 7) h513q rfl rfl (owp_run h513q rfl (by kernel_rfl) (v := .bool (decide (r432q > 0))) (by kernel_rfl) (fun a514q h515q => ?_))
            clear h513q a512q
            refine WL.block (c := 2) (m' := 10) h515q rfl [(60, .bool (decide (r432q > 0))), (59, .bool (decide (r432q > 0)))] (by kernel_rfl) (fun a516q h517q => ?_)
            clear h515q a514q
            by_cases c518q : r432q > 0
            · rw [if_pos c518q] at H
              have hb_ : (decide (r432q > 0)) = true := decide_eq_true c518q
              try rw [hb_] at h517q
              clear hb_
              refine WL.op' (m := 10) h517q rfl rfl (owp_run h517q rfl (by kernel_rfl) (v := .int .i64 r432q) (by kernel_rfl) (fun a519q h520q => ?_))
              clear h517q a516q
              refine WL.op' (m := 11) h520q rfl rfl (owp_run h520q rfl (by kernel_rfl) (v := .int .i64 p0) (by kernel_rfl) (fun a521q h522q => ?_))
              clear h520q a519q
              refine WL.op' (m := 12) h522q rfl rfl (owp_run h522q rfl (by kernel_rfl) (v := .int .i64 p1) (by kernel_rfl) (fun a523q h524q => ?_))
              clear h522q a521q
              refine WL.op' (m := 13) h524q rfl rfl (owp_run h524q rfl (by kernel_rfl) (v := .int .i64 (mnI p0 p1)) (by kernel_rfl) (fun a525q h526q => ?_))
              clear h524q a523q
              refine WL.op' (m := 14) h526q rfl rfl (owp_run h526q rfl (by kernel_rfl) (v := .bool (decide (r432q ≤ (mnI p0 p1)))) (by kernel_rfl) (fun a527q h528q => ?_))
              clear h526q a525q
              refine WL.block (c := 2) (m' := 17) h528q rfl [(67, .bool (decide (r432q ≤ (mnI p0 p1)))), (66, .bool (decide (r432q ≤ (mnI p0 p1))))] (by kernel_rfl) (fun a529q h530q => ?_)
              clear h528q a527q
              by_cases c531q : r432q ≤ (mnI p0 p1)
              · rw [if_pos c531q] at H
                have hb_ : (decide (r432q ≤ (mnI p0 p1))) = true := decide_eq_true c531q
                try rw [hb_] at h530q
                clear hb_
                refine WL.op' (m := 17) h530q rfl rfl (owp_run h530q rfl (by kernel_rfl) (v := .bool r453q) (by kernel_rfl) (fun a532q h533q => ?_))
                clear h530q a529q
                refine WL.block (c := 2) (m' := 20) h533q rfl [(70, .bool r453q), (69, .bool r453q)] (by kernel_rfl) (fun a534q h535q => ?_)
                clear h533q a532q
                by_cases c536q : r453q = true
                · rw [if_pos c536q] at H
                  have hb_ : r453q = true := c536q
                  try rw [hb_] at h535q
                  clear hb_
                  refine WL.op' (m := 20) h535q rfl rfl (owp_run h535q rfl (by kernel_rfl) (v := .int .i64 r452q) (by kernel_rfl) (fun a537q h538q => ?_))
                  clear h535q a534q
                  refine WL.op' (m := 21) h538q rfl rfl (owp_run h538q rfl (by kernel_rfl) (v := .int .i64 p1) (by kernel_rfl) (fun a539q h540q => ?_))
                  clear h538q a537q
                  refine WL.op' (m := 22) h540q rfl rfl (owp_run h540q rfl (by kernel_rfl) (v := .bool (decide (r452q = p1))) (by kernel_rfl) (fun a541q h542q => ?_))
                  clear h540q a539q
                  refine WL.block (c := 2) (m' := 25) h542q rfl [(4, .bool (decide (r452q = p1))), (74, .bool (decide (r452q = p1)))] (by kernel_rfl) (fun a543q h544q => ?_)
                  clear h542q a541q
                  refine WL.done (by kernel_rfl) ?_
                  refine wp_ret ?_
                  have hS545q : St b w0 W464q R ([(g369q, .cells ([.string (mkS r356q.f0), .string (mkS r356q.f1), .bool r356q.f2] : List Value).toArray 23 (0, 0))] :: Fs) := hS469q.drop_
                  have hS546q : St b w0 W464q R (Fs) := hS545q.drop_
                  obtain rfl := Option.some.inj H
                  repeat (first | refine then_ret ?_ | refine inBlock_ret ?_ | refine inBlock_go ?_)
                  refine body_ret (v := .bool (decide (r452q = p1))) h544q (by kernel_rfl) (by kernel_rfl) ?_
                  exact ⟨rfl, hS546q⟩
                · rw [if_neg c536q] at H
                  have hb_ : r453q = false := (Bool.eq_false_iff.2 c536q)
                  try rw [hb_] at h535q
                  clear hb_
                  refine WL.skipped (m := 20) h535q rfl rfl (by kernel_rfl) rfl (fun a547q h548q => ?_)
                  clear h535q a534q
                  refine WL.skipped (m := 21) h548q rfl rfl (by kernel_rfl) rfl (fun a549q h550q => ?_)
                  clear h548q a547q
                  refine WL.skipped (m := 22) h550q rfl rfl (by kernel_rfl) rfl (fun a551q h552q => ?_)
                  clear h550q a549q
                  refine WL.block (c := 2) (m' := 25) h552q rfl [(4, .bool false), (74, .bool false)] (by kernel_rfl) (fun a553q h554q => ?_)
                  clear h552q a551q
                  refine WL.done (by kernel_rfl) ?_
                  refine wp_ret ?_
                  have hS555q : St b w0 W464q R ([(g369q, .cells ([.string (mkS r356q.f0), .string (mkS r356q.f1), .bool r356q.f2] : List Value).toArray 23 (0, 0))] :: Fs) := hS469q.drop_
                  have hS556q : St b w0 W464q R (Fs) := hS555q.drop_
                  obtain rfl := Option.some.inj H
                  repeat (first | refine then_ret ?_ | refine inBlock_ret ?_ | refine inBlock_go ?_)
                  refine body_ret (v := .bool false) h554q (by kernel_rfl) (by kernel_rfl) ?_
                  exact ⟨rfl, hS556q⟩
              · rw [if_neg c531q] at H
                have hb_ : (decide (r432q ≤ (mnI p0 p1))) = false := decide_eq_false c531q
                try rw [hb_] at h530q
                clear hb_
                refine WL.skipped (m := 17) h530q rfl rfl (by kernel_rfl) rfl (fun a557q h558q => ?_)
                clear h530q a529q
                refine WL.block (c := 2) (m' := 20) h558q rfl [(70, .bool false), (69, .bool false)] (by kernel_rfl) (fun a559q h560q => ?_)
                clear h558q a557q
                refine WL.skipped (m := 20) h560q rfl rfl (by kernel_rfl) rfl (fun a561q h562q => ?_)
                clear h560q a559q
                refine WL.skipped (m := 21) h562q rfl rfl (by kernel_rfl) rfl (fun a563q h564q => ?_)
                clear h562q a561q
                refine WL.skipped (m := 22) h564q rfl rfl (by kernel_rfl) rfl (fun a565q h566q => ?_)
                clear h564q a563q
                refine WL.block (c := 2) (m' := 25) h566q rfl [(4, .bool false), (74, .bool false)] (by kernel_rfl) (fun a567q h568q => ?_)
                clear h566q a565q
                refine WL.done (by kernel_rfl) ?_
                refine wp_ret ?_
                have hS569q : St b w0 W464q R ([(g369q, .cells ([.string (mkS r356q.f0), .string (mkS r356q.f1), .bool r356q.f2] : List Value).toArray 23 (0, 0))] :: Fs) := hS469q.drop_
                have hS570q : St b w0 W464q R (Fs) := hS569q.drop_
                obtain rfl := Option.some.inj H
                repeat (first | refine then_ret ?_ | refine inBlock_ret ?_ | refine inBlock_go ?_)
                refine body_ret (v := .bool false) h568q (by kernel_rfl) (by kernel_rfl) ?_
                exact ⟨rfl, hS570q⟩
            · rw [if_neg c518q] at H
              have hb_ : (decide (r432q > 0)) = false := decide_eq_false c518q
              try rw [hb_] at h517q
              clear hb_
              refine WL.skipped (m := 10) h517q rfl rfl (by kernel_rfl) rfl (fun a571q h572q => ?_)
              clear h517q a516q
              refine WL.skipped (m := 11) h572q rfl rfl (by kernel_rfl) rfl (fun a573q h574q => ?_)
              clear h572q a571q
              refine WL.skipped (m := 12) h574q rfl rfl (by kernel_rfl) rfl (fun a575q h576q => ?_)
              clear h574q a573q
              refine WL.skipped (m := 13) h576q rfl rfl (by kernel_rfl) rfl (fun a577q h578q => ?_)
              clear h576q a575q
              refine WL.skipped (m := 14) h578q rfl rfl (by kernel_rfl) rfl (fun a579q h580q => ?_)
              clear h578q a577q
              refine WL.block (c := 2) (m' := 17) h580q rfl [(67, .bool false), (66, .bool false)] (by kernel_rfl) (fun a581q h582q => ?_)
              clear h580q a579q
              refine WL.skipped (m := 17) h582q rfl rfl (by kernel_rfl) rfl (fun a583q h584q => ?_)
              clear h582q a581q
              refine WL.block (c := 2) (m' := 20) h584q rfl [(70, .bool false), (69, .bool false)] (by kernel_rfl) (fun a585q h586q => ?_)
              clear h584q a583q
              refine WL.skipped (m := 20) h586q rfl rfl (by kernel_rfl) rfl (fun a587q h588q => ?_)
              clear h586q a585q
              refine WL.skipped (m := 21) h588q rfl rfl (by kernel_rfl) rfl (fun a589q h590q => ?_)
              clear h588q a587q
              refine WL.skipped (m := 22) h590q rfl rfl (by kernel_rfl) rfl (fun a591q h592q => ?_)
              clear h590q a589q
              refine WL.block (c := 2) (m' := 25) h592q rfl [(4, .bool false), (74, .bool false)] (by kernel_rfl) (fun a593q h594q => ?_)
              clear h592q a591q
              refine WL.done (by kernel_rfl) ?_
              refine wp_ret ?_
              have hS595q : St b w0 W464q R ([(g369q, .cells ([.string (mkS r356q.f0), .string (mkS r356q.f1), .bool r356q.f2] : List Value).toArray 23 (0, 0))] :: Fs) := hS469q.drop_
              have hS596q : St b w0 W464q R (Fs) := hS595q.drop_
              obtain rfl := Option.some.inj H
              repeat (first | refine then_ret ?_ | refine inBlock_ret ?_ | refine inBlock_go ?_)
              refine body_ret (v := .bool false) h594q (by kernel_rfl) (by kernel_rfl) ?_
              exact ⟨rfl, hS596q⟩
        · rw [if_neg c472q] at H
          have hb_ : r463q = false := (Bool.eq_false_iff.2 c472q)
          try rw [hb_] at h471q
          clear hb_
          refine WL.skipped (m := 2) h471q rfl rfl (by kernel_rfl) rfl (fun a597q h598q => ?_)
          clear h471q a470q
          refine WL.skipped (m := 3) h598q rfl rfl (by kernel_rfl) rfl (fun a599q h600q => ?_)
          clear h598q a597q
          refine WL.block (c := 2) (m' := 6) h600q rfl [(56, .bool false), (55, .bool false)] (by kernel_rfl) (fun a601q h602q => ?_)
          clear h600q a599q
          refine WL.skipped (m := 6) h602q rfl rfl (by kernel_rfl) rfl (fun a603q h604q => ?_)
          clear h602q a601q
          refine WL.skipped (m := 7) h604q rfl rfl (by kernel_rfl) rfl (fun a605q h606q => ?_)
          clear h604q a603q
          refine WL.block (c := 2) (m' := 10) h606q rfl [(60, .bool false), (59, .bool false)] (by kernel_rfl) (fun a607q h608q => ?_)
          clear h606q a605q
          refine WL.skipped (m := 10) h608q rfl rfl (by kernel_rfl) rfl (fun a609q h610q => ?_)
          clear h608q a607q
          refine WL.skipped (m := 11) h610q rfl rfl (by kernel_rfl) rfl (fun a611q h612q => ?_)
          clear h610q a609q
          refine WL.skipped (m := 12) h612q rfl rfl (by kernel_rfl) rfl (fun a613q h614q => ?_)
          clear h612q a611q
          refine WL.skipped (m := 13) h614q rfl rfl (by kernel_rfl) rfl (fun a615q h616q => ?_)
          clear h614q a613q
          refine WL.skipped (m := 14) h616q rfl rfl (by kernel_rfl) rfl (fun a617q h618q => ?_)
          clear h616q a615q
          refine WL.block (c := 2) (m' := 17) h618q rfl [(67, .bool false), (66, .bool false)] (by kernel_rfl) (fun a619q h620q => ?_)
          clear h618q a617q
          refine WL.skipped (m := 17) h620q rfl rfl (by kernel_rfl) rfl (fun a621q h622q => ?_)
          clear h620q a619q
          refine WL.block (c := 2) (m' := 20) h622q rfl [(70, .bool false), (69, .bool false)] (by kernel_rfl) (fun a623q h624q => ?_)
          clear h622q a621q
          refine WL.skipped (m := 20) h624q rfl rfl (by kernel_rfl) rfl (fun a625q h626q => ?_)
          clear h624q a623q
          refine WL.skipped (m := 21) h626q rfl rfl (by kernel_rfl) rfl (fun a627q h628q => ?_)
          clear h626q a625q
          refine WL.skipped (m := 22) h628q rfl rfl (by kernel_rfl) rfl (fun a629q h630q => ?_)
          clear h628q a627q
          refine WL.block (c := 2) (m' := 25) h630q rfl [(4, .bool false), (74, .bool false)] (by kernel_rfl) (fun a631q h632q => ?_)
          clear h630q a629q
          refine WL.done (by kernel_rfl) ?_
          refine wp_ret ?_
          have hS633q : St b w0 W464q R ([(g369q, .cells ([.string (mkS r356q.f0), .string (mkS r356q.f1), .bool r356q.f2] : List Value).toArray 23 (0, 0))] :: Fs) := hS469q.drop_
          have hS634q : St b w0 W464q R (Fs) := hS633q.drop_
          obtain rfl := Option.some.inj H
          repeat (first | refine then_ret ?_ | refine inBlock_ret ?_ | refine inBlock_go ?_)
          refine body_ret (v := .bool false) h632q (by kernel_rfl) (by kernel_rfl) ?_
          exact ⟨rfl, hS634q⟩
      · rw [if_neg c425q] at H
        have hb_ : (decide (r356q.f0 = r380q.f0)) = false := decide_eq_false c425q
        try rw [hb_] at h424q
        clear hb_
        refine wp_then h424q rfl ?_
        refine wp_seq ?_
        refine WL.start ?_
        obtain ⟨r636q, A635q, H⟩ := bind1 H
        refine WL.op' (m := 0) h424q rfl rfl ?_
        refine owp_call [] h424q rfl (by kernel_rfl) rfl Tryd.func9 (by kernel_rfl) rfl (by kernel_rfl) (louverlaw04qfixed.calls k hg0 A635q hS418q) (fun e638q W637q hp639q => ?_)
        obtain ⟨rfl, hS642q⟩ := hp639q
        refine ⟨_, rfl, fun a640q h641q => ?_⟩
        clear h424q a423q
        refine WL.block (c := 1) (m' := 2) h641q rfl [(4, .bool r636q)] (by kernel_rfl) (fun a643q h644q => ?_)
        clear h641q a640q
        refine WL.done (by kernel_rfl) ?_
        refine wp_ret ?_
        have hS645q : St b w0 W637q R ([(g369q, .cells ([.string (mkS r356q.f0), .string (mkS r356q.f1), .bool r356q.f2] : List Value).toArray 23 (0, 0))] :: Fs) := hS642q.drop_
        have hS646q : St b w0 W637q R (Fs) := hS645q.drop_
        obtain rfl := Option.some.inj H
        repeat (first | refine then_ret ?_ | refine inBlock_ret ?_ | refine inBlock_go ?_)
        refine body_ret (v := .bool r636q) h644q (by kernel_rfl) (by kernel_rfl) ?_
        exact ⟨rfl, hS646q⟩
    · rw [if_neg c410q] at H
      have hb_ : r381q = false := (Bool.eq_false_iff.2 c410q)
      try rw [hb_] at h409q
      clear hb_
      refine WL.skipped (m := 7) h409q rfl rfl (by kernel_rfl) rfl (fun a647q h648q => ?_)
      clear h409q a408q
      refine WL.skipped (m := 8) h648q rfl rfl (by kernel_rfl) rfl (fun a649q h650q => ?_)
      clear h648q a647q
      refine WL.skipped (m := 9) h650q rfl rfl (by kernel_rfl) rfl (fun a651q h652q => ?_)
      clear h650q a649q
      refine WL.skipped (m := 10) h652q rfl rfl (by kernel_rfl) rfl (fun a653q h654q => ?_)
      clear h652q a651q
      refine WL.skipped (m := 11) h654q rfl rfl (by kernel_rfl) rfl (fun a655q h656q => ?_)
      clear h654q a653q
      refine WL.block (c := 1) (m' := 13) h656q rfl [(35, .bool true)] (by kernel_rfl) (fun a657q h658q => ?_)
      clear h656q a655q
      refine WL.done (by kernel_rfl) ?_
      refine wp_then h658q rfl ?_
      refine wp_seq ?_
      refine WL.start ?_
      obtain ⟨r660q, A659q, H⟩ := bind1 H
      refine WL.op' (m := 0) h658q rfl rfl ?_
      refine owp_call [] h658q rfl (by kernel_rfl) rfl Tryd.func9 (by kernel_rfl) rfl (by kernel_rfl) (louverlaw04qfixed.calls k hg0 A659q hS398q) (fun e662q W661q hp663q => ?_)
      obtain ⟨rfl, hS666q⟩ := hp663q
      refine ⟨_, rfl, fun a664q h665q => ?_⟩
      clear h658q a657q
      refine WL.block (c := 1) (m' := 2) h665q rfl [(4, .bool r660q)] (by kernel_rfl) (fun a667q h668q => ?_)
      clear h665q a664q
      refine WL.done (by kernel_rfl) ?_
      refine wp_ret ?_
      have hS669q : St b w0 W661q R ([(g369q, .cells ([.string (mkS r356q.f0), .string (mkS r356q.f1), .bool r356q.f2] : List Value).toArray 23 (0, 0))] :: Fs) := hS666q.drop_
      have hS670q : St b w0 W661q R (Fs) := hS669q.drop_
      obtain rfl := Option.some.inj H
      repeat (first | refine then_ret ?_ | refine inBlock_ret ?_ | refine inBlock_go ?_)
      refine body_ret (v := .bool r660q) h668q (by kernel_rfl) (by kernel_rfl) ?_
      exact ⟨rfl, hS670q⟩
  · rw [if_neg c403q] at H
    have hb_ : r357q = false := (Bool.eq_false_iff.2 c403q)
    try rw [hb_] at h402q
    clear hb_
    refine WL.skipped (m := 3) h402q rfl rfl (by kernel_rfl) rfl (fun a671q h672q => ?_)
    clear h402q a401q
    refine WL.skipped (m := 4) h672q rfl rfl (by kernel_rfl) rfl (fun a673q h674q => ?_)
    clear h672q a671q
    refine WL.block (c := 2) (m' := 7) h674q rfl [(29, .bool true), (28, .bool true)] (by kernel_rfl) (fun a675q h676q => ?_)
    clear h674q a673q
    refine WL.skipped (m := 7) h676q rfl rfl (by kernel_rfl) rfl (fun a677q h678q => ?_)
    clear h676q a675q
    refine WL.skipped (m := 8) h678q rfl rfl (by kernel_rfl) rfl (fun a679q h680q => ?_)
    clear h678q a677q
    refine WL.skipped (m := 9) h680q rfl rfl (by kernel_rfl) rfl (fun a681q h682q => ?_)
    clear h680q a679q
    refine WL.skipped (m := 10) h682q rfl rfl (by kernel_rfl) rfl (fun a683q h684q => ?_)
    clear h682q a681q
    refine WL.skipped (m := 11) h684q rfl rfl (by kernel_rfl) rfl (fun a685q h686q => ?_)
    clear h684q a683q
    refine WL.block (c := 1) (m' := 13) h686q rfl [(35, .bool true)] (by kernel_rfl) (fun a687q h688q => ?_)
    clear h686q a685q
    refine WL.done (by kernel_rfl) ?_
    refine wp_then h688q rfl ?_
    refine wp_seq ?_
    refine WL.start ?_
    obtain ⟨r690q, A689q, H⟩ := bind1 H
    refine WL.op' (m := 0) h688q rfl rfl ?_
    refine owp_call [] h688q rfl (by kernel_rfl) rfl Tryd.func9 (by kernel_rfl) rfl (by kernel_rfl) (louverlaw04qfixed.calls k hg0 A689q hS398q) (fun e692q W691q hp693q => ?_)
    obtain ⟨rfl, hS696q⟩ := hp693q
    refine ⟨_, rfl, fun a694q h695q => ?_⟩
    clear h688q a687q
    refine WL.block (c := 1) (m' := 2) h695q rfl [(4, .bool r690q)] (by kernel_rfl) (fun a697q h698q => ?_)
    clear h695q a694q
    refine WL.done (by kernel_rfl) ?_
    refine wp_ret ?_
    have hS699q : St b w0 W691q R ([(g369q, .cells ([.string (mkS r356q.f0), .string (mkS r356q.f1), .bool r356q.f2] : List Value).toArray 23 (0, 0))] :: Fs) := hS696q.drop_
    have hS700q : St b w0 W691q R (Fs) := hS699q.drop_
    obtain rfl := Option.some.inj H
    repeat (first | refine then_ret ?_ | refine inBlock_ret ?_ | refine inBlock_go ?_)
    refine body_ret (v := .bool r690q) h698q (by kernel_rfl) (by kernel_rfl) ?_
    exact ⟨rfl, hS700q⟩
end Go.Proofs.YthomllmapjpjoaaDoor.Sl
