/- What the functions of this program compute, told as plain functions, and that the calls come to just that. Printed by this session's program; part 1. -/
import Derived.Test.YtgbognkigcedbaaProg
import Derived.Test.YtgbognkigcedbaaSlL
set_option linter.unusedVariables false
set_option linter.unusedSimpArgs false
set_option linter.unnecessarySimpa false
namespace Go.Proofs.Ytgbognkigcedbaa.Sl
open Go Go.RowKit Go.Proofs.Sl
structure S63 where
  f0 : Int
  f1 : Int
  f2 : Int
  f3 : Int
  f4 : Bool
  deriving DecidableEq
def z63 : S63 := ⟨(0 : Int), (0 : Int), (0 : Int), (0 : Int), false⟩
def k63 : Kd S63 := kIso (kPair (kInt .i64) (kPair (kInt .i64) (kPair (kInt .i64) (kPair (kInt .i64) kBool)))) (fun x : S63 => (x.f0, (x.f1, (x.f2, (x.f3, x.f4)))))
theorem k63qflat : k63.Flat := kIso_flat (kPair_flat (kInt_flat _) (kPair_flat (kInt_flat _) (kPair_flat (kInt_flat _) (kPair_flat (kInt_flat _) kBool_flat))))
theorem k63qrd {b : Nat} {w0 : World} {R : Frag} {x : S63} {cs : List Value} (h : k63.rd b w0 R x cs) : cs = [.int .i64 x.f0, .int .i64 x.f1, .int .i64 x.f2, .int .i64 x.f3, .bool x.f4] := by
  obtain ⟨c1q, c2q, rfl, h3q, h4q⟩ := h
  obtain ⟨c5q, c6q, rfl, h7q, h8q⟩ := h4q
  obtain ⟨c9q, c10q, rfl, h11q, h12q⟩ := h8q
  obtain ⟨c13q, c14q, rfl, h15q, h16q⟩ := h12q
  obtain rfl := h3q
  obtain rfl := h7q
  obtain rfl := h11q
  obtain rfl := h15q
  obtain rfl := h16q
  exact rfl
theorem k63qrep {b : Nat} {w0 : World} {R : Frag} {x : S63} {cs : List Value} {M : Frag} (h : k63.rep b w0 R x cs M) : cs = [.int .i64 x.f0, .int .i64 x.f1, .int .i64 x.f2, .int .i64 x.f3, .bool x.f4] ∧ M = [] := by
  obtain ⟨c17q, c18q, M21q, M22q, rfl, rfl, h19q, h20q⟩ := h
  obtain ⟨c23q, c24q, M27q, M28q, rfl, rfl, h25q, h26q⟩ := h20q
  obtain ⟨c29q, c30q, M33q, M34q, rfl, rfl, h31q, h32q⟩ := h26q
  obtain ⟨c35q, c36q, M39q, M40q, rfl, rfl, h37q, h38q⟩ := h32q
  obtain ⟨rfl, rfl⟩ := h19q
  obtain ⟨rfl, rfl⟩ := h25q
  obtain ⟨rfl, rfl⟩ := h31q
  obtain ⟨rfl, rfl⟩ := h37q
  obtain ⟨rfl, rfl⟩ := h38q
  exact ⟨rfl, by simp⟩
theorem k63qmk {b : Nat} {w0 : World} {R : Frag} {x : S63}  : ∃ M, k63.rep b w0 R x [.int .i64 x.f0, .int .i64 x.f1, .int .i64 x.f2, .int .i64 x.f3, .bool x.f4] M ∧ M = [] := ⟨_, ⟨_, _, _, _, rfl, rfl, ⟨rfl, rfl⟩, ⟨_, _, _, _, rfl, rfl, ⟨rfl, rfl⟩, ⟨_, _, _, _, rfl, rfl, ⟨rfl, rfl⟩, ⟨_, _, _, _, rfl, rfl, ⟨rfl, rfl⟩, ⟨rfl, rfl⟩⟩⟩⟩⟩, by simp⟩
/-! ### louver/window.Of -/
def window_Of.f (p0 : Int) (p1 : Bool) : Option (S63) := some (⟨mnI (IntKind.i64.wrap p0) 2147483647, mnI (IntKind.i64.wrap p0) 2147483647, 0, 0, p1⟩ : S63)
set_option maxHeartbeats 2000000 in
set_option maxRecDepth 100000 in
theorem window_Of.calls {b : Nat} {w0 W : World} {R : Frag} {Fs : List Frag} {p0 : Int} {p1 : Bool}  {r0q : S63}  (H : window_Of.f p0 p1 = some r0q) (hS : St b w0 W R (Fs)) :
    Calls Try.prog 10 ([.int .u32 p0, .bool p1] : List Value).toArray W (fun e W' => ∃ (u0q : Value) (N0q : Frag), e = .returned (u0q) ∧ Ptr k63 63 b w0 R u0q r0q N0q ∧ St b w0 W' R (N0q :: Fs)) := by
  unfold window_Of.f at H
  refine calls_enter Try.func10 rfl 14 rfl (by kernel_rfl) (fun a h => ?_)
  refine wp_seq ?_
  refine WL.start ?_
  refine WL.block (c := 1) (m' := 1) h rfl [(4, .pointer none)] (by kernel_rfl) (fun a60q h61q => ?_)
  refine WL.done (by kernel_rfl) ?_
  refine wp_seq ?_
  refine WL.start ?_
  refine WL.block (c := 4) (m' := 4) h61q rfl [(5, .int .i64 (mnI (IntKind.i64.wrap p0) 2147483647)), (8, .int .i64 (mnI (IntKind.i64.wrap p0) 2147483647)), (7, .int .i64 (IntKind.i64.wrap p0)), (6, .int .u32 p0)] (by kernel_rfl) (fun a62q h63q => ?_)
  clear h61q a60q
  refine WL.done (by kernel_rfl) ?_
  refine wp_seq ?_
  refine WL.start ?_
  refine WL.block (c := 4) (m' := 4) h63q rfl [(12, .agg #[.int .i64 (mnI (IntKind.i64.wrap p0) 2147483647), .int .i64 (mnI (IntKind.i64.wrap p0) 2147483647), .int .i64 0, .int .i64 0, .bool p1]), (11, .bool p1), (10, .int .i64 (mnI (IntKind.i64.wrap p0) 2147483647)), (9, .int .i64 (mnI (IntKind.i64.wrap p0) 2147483647))] (by kernel_rfl) (fun a64q h65q => ?_)
  clear h63q a62q
  refine WL.op' (m := 4) h65q rfl rfl ?_
  refine owp_new (fun g_ => .pointer (some ⟨g_, 0, none⟩)) (.cells ([.int .i64 (mnI (IntKind.i64.wrap p0) 2147483647), .int .i64 (mnI (IntKind.i64.wrap p0) 2147483647), .int .i64 0, .int .i64 0, .bool p1] : List Value).toArray 63 (0, 0)) h65q rfl (by kernel_rfl) (by kernel_rfl) hS (fun a66q W68q g69q h67q hS70q => ?_)
  clear h65q a64q
  refine WL.block (c := 1) (m' := 6) h67q rfl [(4, .pointer (some ⟨g69q, 0, none⟩))] (by kernel_rfl) (fun a71q h72q => ?_)
  clear h67q a66q
  refine WL.done (by kernel_rfl) ?_
  refine wp_ret ?_
  obtain ⟨M74q, hr73q, hM_⟩ := k63qmk (b := b) (w0 := w0) (R := R) (x := (⟨mnI (IntKind.i64.wrap p0) 2147483647, mnI (IntKind.i64.wrap p0) 2147483647, 0, 0, p1⟩ : S63)) 
  have hp75q : Ptr k63 63 b w0 R (.pointer (some ⟨g69q, 0, none⟩)) (⟨mnI (IntKind.i64.wrap p0) 2147483647, mnI (IntKind.i64.wrap p0) 2147483647, 0, 0, p1⟩ : S63) ((g69q, .cells ([.int .i64 (mnI (IntKind.i64.wrap p0) 2147483647), .int .i64 (mnI (IntKind.i64.wrap p0) 2147483647), .int .i64 0, .int .i64 0, .bool p1] : List Value).toArray 63 (0, 0)) :: M74q) := ⟨_, _, _, rfl, rfl, hr73q⟩
  rw [hM_] at hp75q
  have hS77q : St b w0 W68q R (((g69q, .cells ([.int .i64 (mnI (IntKind.i64.wrap p0) 2147483647), .int .i64 (mnI (IntKind.i64.wrap p0) 2147483647), .int .i64 0, .int .i64 0, .bool p1] : List Value).toArray 63 (0, 0)) :: ([])) :: Fs) := hS70q.assoc (by simp only [List.flatten_cons, List.append_assoc, List.cons_append, List.nil_append, List.append_nil])
  obtain ⟨M78q, hM_⟩ : ∃ y : Frag, y = ((g69q, .cells ([.int .i64 (mnI (IntKind.i64.wrap p0) 2147483647), .int .i64 (mnI (IntKind.i64.wrap p0) 2147483647), .int .i64 0, .int .i64 0, .bool p1] : List Value).toArray 63 (0, 0)) :: ([])) := ⟨_, rfl⟩
  rw [← hM_] at hp75q hS77q
  clear hM_
  obtain rfl := Option.some.inj H
  repeat (first | refine then_ret ?_ | refine inBlock_ret ?_ | refine inBlock_go ?_)
  refine body_ret (v := .pointer (some ⟨g69q, 0, none⟩)) h72q (by kernel_rfl) (by kernel_rfl) ?_
  exact ⟨.pointer (some ⟨g69q, 0, none⟩), M78q, rfl, hp75q, hS77q⟩

structure S31 where
  f0 : Int
  f1 : Int
  deriving DecidableEq
def z31 : S31 := ⟨(0 : Int), (0 : Int)⟩
def k31 : Kd S31 := kIso (kPair (kInt .u8) (kInt .u32)) (fun x : S31 => (x.f0, x.f1))
theorem k31qflat : k31.Flat := kIso_flat (kPair_flat (kInt_flat _) (kInt_flat _))
theorem k31qrd {b : Nat} {w0 : World} {R : Frag} {x : S31} {cs : List Value} (h : k31.rd b w0 R x cs) : cs = [.int .u8 x.f0, .int .u32 x.f1] := by
  obtain ⟨c79q, c80q, rfl, h81q, h82q⟩ := h
  obtain rfl := h81q
  obtain rfl := h82q
  exact rfl
theorem k31qrep {b : Nat} {w0 : World} {R : Frag} {x : S31} {cs : List Value} {M : Frag} (h : k31.rep b w0 R x cs M) : cs = [.int .u8 x.f0, .int .u32 x.f1] ∧ M = [] := by
  obtain ⟨c83q, c84q, M87q, M88q, rfl, rfl, h85q, h86q⟩ := h
  obtain ⟨rfl, rfl⟩ := h85q
  obtain ⟨rfl, rfl⟩ := h86q
  exact ⟨rfl, by simp⟩
theorem k31qmk {b : Nat} {w0 : World} {R : Frag} {x : S31}  : ∃ M, k31.rep b w0 R x [.int .u8 x.f0, .int .u32 x.f1] M ∧ M = [] := ⟨_, ⟨_, _, _, _, rfl, rfl, ⟨rfl, rfl⟩, ⟨rfl, rfl⟩⟩, by simp⟩
/-! ### louver/window.internal -/
def window_internal.f  : Option (S31) := some (⟨1, 2⟩ : S31)
set_option maxHeartbeats 2000000 in
set_option maxRecDepth 100000 in
theorem window_internal.calls {b : Nat} {w0 W : World} {R : Frag} {Fs : List Frag}   {r0q : S31}  (H : window_internal.f = some r0q) (hS : St b w0 W R (Fs)) :
    Calls Try.prog 27 ([] : List Value).toArray W (fun e W' => e = .returned (.agg #[.int .u8 r0q.f0, .int .u32 r0q.f1]) ∧ St b w0 W' R (Fs)) := by
  unfold window_internal.f at H
  refine calls_enter Try.func27 rfl 2 rfl (by kernel_rfl) (fun a h => ?_)
  refine wp_seq ?_
  refine WL.start ?_
  refine WL.op' (m := 0) h rfl rfl ?_
  refine owp_new (fun g_ => .pointer (some ⟨g_, 0, none⟩)) (.cells ([.int .u8 0, .int .u32 0] : List Value).toArray 31 (0, 0)) h rfl (by kernel_rfl) (by kernel_rfl) hS (fun a101q W103q g104q h102q hS105q => ?_)
  refine WL.done (by kernel_rfl) ?_
  refine wp_seq ?_
  refine WL.start ?_
  refine WL.block (c := 1) (m' := 1) h102q rfl [(1, .agg #[.int .u8 1, .int .u32 2])] (by kernel_rfl) (fun a106q h107q => ?_)
  clear h102q a101q
  refine WL.op' (m := 1) h107q rfl rfl ?_
  refine owp_store (i := 0) (vs := ([.int .u8 1, .int .u32 2] : List Value)) h107q rfl (by kernel_rfl) rfl rfl rfl rfl (by simp [Value.oneCell']) (by kernel_rfl) hS105q (by simp) (cs' := ([.int .u8 1, .int .u32 2] : List Value)) rfl (fun a108q W110q h109q hS111q => ?_)
  clear h107q a106q
  refine WL.done (by kernel_rfl) ?_
  refine wp_ret ?_
  have hS112q : St b w0 W110q R (Fs) := hS111q.drop_
  obtain rfl := Option.some.inj H
  repeat (first | refine then_ret ?_ | refine inBlock_ret ?_ | refine inBlock_go ?_)
  refine body_ret (v := .agg #[.int .u8 1, .int .u32 2]) h109q (by kernel_rfl) (res_one rfl ⟨_, rfl, loadVarN Try.underlying31 rfl (cs := ([.int .u8 1, .int .u32 2] : List Value)) (by kernel_rfl) (hS111q.cells (vs := ([.int .u8 1, .int .u32 2] : List Value)) rfl)⟩) ?_
  exact ⟨rfl, hS112q⟩

/-! ### louver/window.scope -/
def window_scope.f (p0 : Bool) : Option (Int) := if p0 = true then (some 2) else (some 1)
set_option maxHeartbeats 2000000 in
set_option maxRecDepth 100000 in
theorem window_scope.calls {b : Nat} {w0 W : World} {R : Frag} {Fs : List Frag} {p0 : Bool}  {r0q : Int}  (H : window_scope.f p0 = some r0q) (hS : St b w0 W R (Fs)) :
    Calls Try.prog 28 ([.bool p0] : List Value).toArray W (fun e W' => e = .returned (.int .u8 r0q) ∧ St b w0 W' R (Fs)) := by
  unfold window_scope.f at H
  refine calls_enter Try.func28 rfl 4 rfl (by kernel_rfl) (fun a h => ?_)
  refine wp_seq ?_
  refine WL.start ?_
  refine WL.block (c := 1) (m' := 1) h rfl [(2, .int .u8 0)] (by kernel_rfl) (fun a122q h123q => ?_)
  refine WL.done (by kernel_rfl) ?_
  refine wp_seq ?_
  refine wp_seq ?_
  refine WL.start ?_
  refine WL.block (c := 1) (m' := 1) h123q rfl [(3, .bool p0)] (by kernel_rfl) (fun a124q h125q => ?_)
  clear h123q a122q
  refine WL.done (by kernel_rfl) ?_
  by_cases c126q : p0 = true
  · rw [if_pos c126q] at H
    have hb_ : p0 = true := c126q
    try rw [hb_] at h125q
    clear hb_
    refine wp_then h125q rfl ?_
    refine wp_seq ?_
    refine WL.start ?_
    refine WL.block (c := 1) (m' := 1) h125q rfl [(2, .int .u8 2)] (by kernel_rfl) (fun a127q h128q => ?_)
    clear h125q a124q
    refine WL.done (by kernel_rfl) ?_
    refine wp_ret ?_
    obtain rfl := Option.some.inj H
    repeat (first | refine then_ret ?_ | refine inBlock_ret ?_ | refine inBlock_go ?_)
    refine body_ret (v := .int .u8 2) h128q (by kernel_rfl) (by kernel_rfl) ?_
    exact ⟨rfl, hS⟩
  · rw [if_neg c126q] at H
    have hb_ : p0 = false := (Bool.eq_false_iff.2 c126q)
    try rw [hb_] at h125q
    clear hb_
    refine wp_else h125q rfl ?_
    refine wp_skip ?_
    refine wp_seq ?_
    refine WL.start ?_
    refine WL.block (c := 1) (m' := 1) h125q rfl [(2, .int .u8 1)] (by kernel_rfl) (fun a129q h130q => ?_)
    clear h125q a124q
    refine WL.done (by kernel_rfl) ?_
    refine wp_ret ?_
    obtain rfl := Option.some.inj H
    repeat (first | refine then_ret ?_ | refine inBlock_ret ?_ | refine inBlock_go ?_)
    refine body_ret (v := .int .u8 1) h130q (by kernel_rfl) (by kernel_rfl) ?_
    exact ⟨rfl, hS⟩

/-! ### (*louver/window.Meter).Come -/
def window_Meter_Come.f (p0 : S63) (p1 : Int) : Option (S31 × S63) := if (mxI p1 0) > p0.f1 then (bnd1 (window_scope.f p0.f4) fun r306q => (some ((⟨r306q, 3⟩ : S31), (⟨p0.f0, p0.f1, p0.f2, p0.f3, p0.f4⟩ : S63)))) else (some ((⟨0, 0⟩ : S31), (⟨p0.f0, IntKind.i64.wrap (p0.f1 - (mxI p1 0)), IntKind.i64.wrap (p0.f2 + (mxI p1 0)), p0.f3, p0.f4⟩ : S63)))
set_option maxHeartbeats 2000000 in
set_option maxRecDepth 100000 in
theorem window_Meter_Come.calls {b : Nat} {w0 W : World} {R : Frag} {Fs : List Frag} {p0 : S63} {p1 : Int}  {v0 : Value} {M0 : Frag} {r0q : S31} {r1q : S63} (hp0 : Ptr k63 63 b w0 R v0 p0 M0) (H : window_Meter_Come.f p0 p1 = some (r0q, r1q)) (hS : St b w0 W R (M0 :: Fs)) :
    Calls Try.prog 13 ([v0, .int .i64 p1] : List Value).toArray W (fun e W' => ∃ (O0q : Frag), e = .returned (.agg #[.int .u8 r0q.f0, .int .u32 r0q.f1]) ∧ Ptr k63 63 b w0 R v0 r1q O0q ∧ St b w0 W' R (O0q :: Fs)) := by
  unfold window_Meter_Come.f at H
  refine calls_enter Try.func13 rfl 40 rfl (by kernel_rfl) (fun a h => ?_)
  refine wp_seq ?_
  refine WL.start ?_
  refine WL.op' (m := 0) h rfl rfl ?_
  refine owp_new (fun g_ => .pointer (some ⟨g_, 0, none⟩)) (.cells ([.int .u8 0, .int .u32 0] : List Value).toArray 31 (0, 0)) h rfl (by kernel_rfl) (by kernel_rfl) hS (fun a277q W279q g280q h278q hS281q => ?_)
  refine WL.done (by kernel_rfl) ?_
  refine wp_seq ?_
  refine wp_seq ?_
  refine WL.start ?_
  refine WL.block (c := 1) (m' := 1) h278q rfl [(6, v0)] (by kernel_rfl) (fun a282q h283q => ?_)
  clear h278q a277q
  have hS284q : St b w0 W279q R (M0 :: [(g280q, .cells ([.int .u8 0, .int .u32 0] : List Value).toArray 31 (0, 0))] :: Fs) := hS281q.bring 1 rfl rfl
  obtain ⟨g285q, cs286q, M287q, hv_, hM_, hr288q⟩ := hp0
  obtain ⟨rfl, hM2q⟩ := k63qrep hr288q
  subst hM2q
  subst hM_
  subst hv_
  have hS289q : St b w0 W279q R ([(g285q, .cells ([.int .i64 p0.f0, .int .i64 p0.f1, .int .i64 p0.f2, .int .i64 p0.f3, .bool p0.f4] : List Value).toArray 63 (0, 0))] :: [(g280q, .cells ([.int .u8 0, .int .u32 0] : List Value).toArray 31 (0, 0))] :: Fs) := hS284q.assoc (by simp only [List.flatten_cons, List.append_assoc, List.cons_append, List.nil_append, List.append_nil])
  refine WL.block (c := 1) (m' := 2) h283q rfl [(7, .bool false)] (by kernel_rfl) (fun a290q h291q => ?_)
  clear h283q a282q
  refine WL.done (by kernel_rfl) ?_
  refine wp_else h291q rfl ?_
  refine wp_skip ?_
  refine wp_seq ?_
  refine WL.start ?_
  refine WL.block (c := 3) (m' := 3) h291q rfl [(5, .int .i64 (mxI p1 0)), (10, .int .i64 (mxI p1 0)), (9, .int .i64 p1)] (by kernel_rfl) (fun a292q h293q => ?_)
  clear h291q a290q
  refine WL.done (by kernel_rfl) ?_
  refine wp_seq ?_
  refine wp_seq ?_
  refine WL.start ?_
  refine WL.block (c := 4) (m' := 4) h293q rfl [(14, .pointer (some ⟨g285q, 1, none⟩)), (13, .pointer (some ⟨g285q, 0, none⟩)), (12, .pointer (some ⟨g285q, 0, none⟩)), (11, .int .i64 (mxI p1 0))] (by kernel_rfl) (fun a294q h295q => ?_)
  clear h293q a292q
  refine WL.op' (m := 4) h295q rfl rfl ?_
  refine owp_run (v := .int .i64 p0.f1) h295q rfl (by kernel_rfl) (run_load1 rfl rfl Try.underlying2 rfl (hS289q.cell (i := 1) rfl)) (fun a296q h297q => ?_)
  clear h295q a294q
  refine WL.block (c := 1) (m' := 6) h297q rfl [(16, .bool (decide ((mxI p1 0) > p0.f1)))] (by kernel_rfl) (fun a298q h299q => ?_)
  clear h297q a296q
  refine WL.done (by kernel_rfl) ?_
  by_cases c300q : (mxI p1 0) > p0.f1
  · rw [if_pos c300q] at H
    have hb_ : (decide ((mxI p1 0) > p0.f1)) = true := decide_eq_true c300q
    try rw [hb_] at h299q
    clear hb_
    refine wp_then h299q rfl ?_
    refine wp_seq ?_
    refine WL.start ?_
    refine WL.block (c := 3) (m' := 3) h299q rfl [(19, .pointer (some ⟨g285q, 4, none⟩)), (18, .pointer (some ⟨g285q, 0, none⟩)), (17, .pointer (some ⟨g285q, 0, none⟩))] (by kernel_rfl) (fun a301q h302q => ?_)
    clear h299q a298q
    refine WL.op' (m := 3) h302q rfl rfl ?_
    refine owp_run (v := .bool p0.f4) h302q rfl (by kernel_rfl) (run_load1 rfl rfl Try.underlying4 rfl (hS289q.cell (i := 4) rfl)) (fun a303q h304q => ?_)
    clear h302q a301q
    obtain ⟨r306q, A305q, H⟩ := bind1 H
    refine WL.op' (m := 4) h304q rfl rfl ?_
    refine owp_call [.bool p0.f4] h304q rfl (by kernel_rfl) rfl Try.func28 (by kernel_rfl) rfl (by kernel_rfl) (window_scope.calls  A305q hS289q) (fun e308q W307q hp309q => ?_)
    obtain ⟨rfl, hS312q⟩ := hp309q
    refine ⟨_, rfl, fun a310q h311q => ?_⟩
    clear h304q a303q
    refine WL.block (c := 1) (m' := 6) h311q rfl [(22, .agg #[.int .u8 r306q, .int .u32 3])] (by kernel_rfl) (fun a313q h314q => ?_)
    clear h311q a310q
    have hS315q : St b w0 W307q R ([(g280q, .cells ([.int .u8 0, .int .u32 0] : List Value).toArray 31 (0, 0))] :: [(g285q, .cells ([.int .i64 p0.f0, .int .i64 p0.f1, .int .i64 p0.f2, .int .i64 p0.f3, .bool p0.f4] : List Value).toArray 63 (0, 0))] :: Fs) := hS312q.bring 1 rfl rfl
    refine WL.op' (m := 6) h314q rfl rfl ?_
    refine owp_store (i := 0) (vs := ([.int .u8 r306q, .int .u32 3] : List Value)) h314q rfl (by kernel_rfl) rfl rfl rfl rfl (by simp [Value.oneCell']) (by kernel_rfl) hS315q (by simp) (cs' := ([.int .u8 r306q, .int .u32 3] : List Value)) rfl (fun a316q W318q h317q hS319q => ?_)
    clear h314q a313q
    refine WL.done (by kernel_rfl) ?_
    refine wp_ret ?_
    have hS320q : St b w0 W318q R ([(g285q, .cells ([.int .i64 p0.f0, .int .i64 p0.f1, .int .i64 p0.f2, .int .i64 p0.f3, .bool p0.f4] : List Value).toArray 63 (0, 0))] :: [(g280q, .cells ([.int .u8 r306q, .int .u32 3] : List Value).toArray 31 (0, 0))] :: Fs) := hS319q.bring 1 rfl rfl
    obtain ⟨M322q, hr321q, hM_⟩ := k63qmk (b := b) (w0 := w0) (R := R) (x := (⟨p0.f0, p0.f1, p0.f2, p0.f3, p0.f4⟩ : S63)) 
    have hp323q : Ptr k63 63 b w0 R (.pointer (some ⟨g285q, 0, none⟩)) (⟨p0.f0, p0.f1, p0.f2, p0.f3, p0.f4⟩ : S63) ((g285q, .cells ([.int .i64 p0.f0, .int .i64 p0.f1, .int .i64 p0.f2, .int .i64 p0.f3, .bool p0.f4] : List Value).toArray 63 (0, 0)) :: M322q) := ⟨_, _, _, rfl, rfl, hr321q⟩
    rw [hM_] at hp323q
    have hS325q : St b w0 W318q R (((g285q, .cells ([.int .i64 p0.f0, .int .i64 p0.f1, .int .i64 p0.f2, .int .i64 p0.f3, .bool p0.f4] : List Value).toArray 63 (0, 0)) :: ([])) :: [(g280q, .cells ([.int .u8 r306q, .int .u32 3] : List Value).toArray 31 (0, 0))] :: Fs) := hS320q.assoc (by simp only [List.flatten_cons, List.append_assoc, List.cons_append, List.nil_append, List.append_nil])
    obtain ⟨M326q, hM_⟩ : ∃ y : Frag, y = ((g285q, .cells ([.int .i64 p0.f0, .int .i64 p0.f1, .int .i64 p0.f2, .int .i64 p0.f3, .bool p0.f4] : List Value).toArray 63 (0, 0)) :: ([])) := ⟨_, rfl⟩
    rw [← hM_] at hp323q hS325q
    clear hM_
    have hS327q : St b w0 W318q R ([(g280q, .cells ([.int .u8 r306q, .int .u32 3] : List Value).toArray 31 (0, 0))] :: M326q :: Fs) := hS325q.bring 1 rfl rfl
    have hS328q : St b w0 W318q R (M326q :: Fs) := hS327q.drop_
    obtain ⟨rfl, rfl⟩ := ret2 H
    repeat (first | refine then_ret ?_ | refine inBlock_ret ?_ | refine inBlock_go ?_)
    refine body_ret (v := .agg #[.int .u8 r306q, .int .u32 3]) h317q (by kernel_rfl) (res_one rfl ⟨_, rfl, loadVarN Try.underlying31 rfl (cs := ([.int .u8 r306q, .int .u32 3] : List Value)) (by kernel_rfl) (hS319q.cells (vs := ([.int .u8 r306q, .int .u32 3] : List Value)) rfl)⟩) ?_
    exact ⟨M326q, rfl, hp323q, hS328q⟩
  · rw [if_neg c300q] at H
    have hb_ : (decide ((mxI p1 0) > p0.f1)) = false := decide_eq_false c300q
    try rw [hb_] at h299q
    clear hb_
    refine wp_else h299q rfl ?_
    refine wp_skip ?_
    refine wp_seq ?_
    refine WL.start ?_
    refine WL.block (c := 3) (m' := 3) h299q rfl [(25, .pointer (some ⟨g285q, 1, none⟩)), (24, .pointer (some ⟨g285q, 0, none⟩)), (23, .pointer (some ⟨g285q, 0, none⟩))] (by kernel_rfl) (fun a329q h330q => ?_)
    clear h299q a298q
    refine WL.op' (m := 3) h330q rfl rfl ?_
    refine owp_run (v := .int .i64 p0.f1) h330q rfl (by kernel_rfl) (run_load1 rfl rfl Try.underlying2 rfl (hS289q.cell (i := 1) rfl)) (fun a331q h332q => ?_)
    clear h330q a329q
    refine WL.block (c := 4) (m' := 8) h332q rfl [(30, .pointer (some ⟨g285q, 1, none⟩)), (29, .pointer (some ⟨g285q, 0, none⟩)), (28, .int .i64 (IntKind.i64.wrap (p0.f1 - (mxI p1 0)))), (27, .int .i64 (mxI p1 0))] (by kernel_rfl) (fun a333q h334q => ?_)
    clear h332q a331q
    refine WL.op' (m := 8) h334q rfl rfl ?_
    refine owp_store (i := 1) (vs := ([.int .i64 (IntKind.i64.wrap (p0.f1 - (mxI p1 0)))] : List Value)) h334q rfl (by kernel_rfl) rfl rfl rfl rfl (by simp [Value.oneCell']) (by kernel_rfl) hS289q (by simp) (cs' := ([.int .i64 p0.f0, .int .i64 (IntKind.i64.wrap (p0.f1 - (mxI p1 0))), .int .i64 p0.f2, .int .i64 p0.f3, .bool p0.f4] : List Value)) rfl (fun a335q W337q h336q hS338q => ?_)
    clear h334q a333q
    refine WL.done (by kernel_rfl) ?_
    refine wp_seq ?_
    refine WL.start ?_
    refine WL.block (c := 3) (m' := 3) h336q rfl [(33, .pointer (some ⟨g285q, 2, none⟩)), (32, .pointer (some ⟨g285q, 0, none⟩)), (31, .pointer (some ⟨g285q, 0, none⟩))] (by kernel_rfl) (fun a339q h340q => ?_)
    clear h336q a335q
    refine WL.op' (m := 3) h340q rfl rfl ?_
    refine owp_run (v := .int .i64 p0.f2) h340q rfl (by kernel_rfl) (run_load1 rfl rfl Try.underlying2 rfl (hS338q.cell (i := 2) rfl)) (fun a341q h342q => ?_)
    clear h340q a339q
    refine WL.block (c := 4) (m' := 8) h342q rfl [(38, .pointer (some ⟨g285q, 2, none⟩)), (37, .pointer (some ⟨g285q, 0, none⟩)), (36, .int .i64 (IntKind.i64.wrap (p0.f2 + (mxI p1 0)))), (35, .int .i64 (mxI p1 0))] (by kernel_rfl) (fun a343q h344q => ?_)
    clear h342q a341q
    refine WL.op' (m := 8) h344q rfl rfl ?_
    refine owp_store (i := 2) (vs := ([.int .i64 (IntKind.i64.wrap (p0.f2 + (mxI p1 0)))] : List Value)) h344q rfl (by kernel_rfl) rfl rfl rfl rfl (by simp [Value.oneCell']) (by kernel_rfl) hS338q (by simp) (cs' := ([.int .i64 p0.f0, .int .i64 (IntKind.i64.wrap (p0.f1 - (mxI p1 0))), .int .i64 (IntKind.i64.wrap (p0.f2 + (mxI p1 0))), .int .i64 p0.f3, .bool p0.f4] : List Value)) rfl (fun a345q W347q h346q hS348q => ?_)
    clear h344q a343q
    refine WL.done (by kernel_rfl) ?_
    refine wp_seq ?_
    refine WL.start ?_
    refine WL.block (c := 1) (m' := 1) h346q rfl [(39, .agg #[.int .u8 0, .int .u32 0])] (by kernel_rfl) (fun a349q h350q => ?_)
    clear h346q a345q
    have hS351q : St b w0 W347q R ([(g280q, .cells ([.int .u8 0, .int .u32 0] : List Value).toArray 31 (0, 0))] :: [(g285q, .cells ([.int .i64 p0.f0, .int .i64 (IntKind.i64.wrap (p0.f1 - (mxI p1 0))), .int .i64 (IntKind.i64.wrap (p0.f2 + (mxI p1 0))), .int .i64 p0.f3, .bool p0.f4] : List Value).toArray 63 (0, 0))] :: Fs) := hS348q.bring 1 rfl rfl
    refine WL.op' (m := 1) h350q rfl rfl ?_
    refine owp_store (i := 0) (vs := ([.int .u8 0, .int .u32 0] : List Value)) h350q rfl (by kernel_rfl) rfl rfl rfl rfl (by simp [Value.oneCell']) (by kernel_rfl) hS351q (by simp) (cs' := ([.int .u8 0, .int .u32 0] : List Value)) rfl (fun a352q W354q h353q hS355q => ?_)
    clear h350q a349q
    refine WL.done (by kernel_rfl) ?_
    refine wp_ret ?_
    have hS356q : St b w0 W354q R ([(g285q, .cells ([.int .i64 p0.f0, .int .i64 (IntKind.i64.wrap (p0.f1 - (mxI p1 0))), .int .i64 (IntKind.i64.wrap (p0.f2 + (mxI p1 0))), .int .i64 p0.f3, .bool p0.f4] : List Value).toArray 63 (0, 0))] :: [(g280q, .cells ([.int .u8 0, .int .u32 0] : List Value).toArray 31 (0, 0))] :: Fs) := hS355q.bring 1 rfl rfl
    obtain ⟨M358q, hr357q, hM_⟩ := k63qmk (b := b) (w0 := w0) (R := R) (x := (⟨p0.f0, IntKind.i64.wrap (p0.f1 - (mxI p1 0)), IntKind.i64.wrap (p0.f2 + (mxI p1 0)), p0.f3, p0.f4⟩ : S63)) 
    have hp359q : Ptr k63 63 b w0 R (.pointer (some ⟨g285q, 0, none⟩)) (⟨p0.f0, IntKind.i64.wrap (p0.f1 - (mxI p1 0)), IntKind.i64.wrap (p0.f2 + (mxI p1 0)), p0.f3, p0.f4⟩ : S63) ((g285q, .cells ([.int .i64 p0.f0, .int .i64 (IntKind.i64.wrap (p0.f1 - (mxI p1 0))), .int .i64 (IntKind.i64.wrap (p0.f2 + (mxI p1 0))), .int .i64 p0.f3, .bool p0.f4] : List Value).toArray 63 (0, 0)) :: M358q) := ⟨_, _, _, rfl, rfl, hr357q⟩
    rw [hM_] at hp359q
    have hS361q : St b w0 W354q R (((g285q, .cells ([.int .i64 p0.f0, .int .i64 (IntKind.i64.wrap (p0.f1 - (mxI p1 0))), .int .i64 (IntKind.i64.wrap (p0.f2 + (mxI p1 0))), .int .i64 p0.f3, .bool p0.f4] : List Value).toArray 63 (0, 0)) :: ([])) :: [(g280q, .cells ([.int .u8 0, .int .u32 0] : List Value).toArray 31 (0, 0))] :: Fs) := hS356q.assoc (by simp only [List.flatten_cons, List.append_assoc, List.cons_append, List.nil_append, List.append_nil])
    obtain ⟨M362q, hM_⟩ : ∃ y : Frag, y = ((g285q, .cells ([.int .i64 p0.f0, .int .i64 (IntKind.i64.wrap (p0.f1 - (mxI p1 0))), .int .i64 (IntKind.i64.wrap (p0.f2 + (mxI p1 0))), .int .i64 p0.f3, .bool p0.f4] : List Value).toArray 63 (0, 0)) :: ([])) := ⟨_, rfl⟩
    rw [← hM_] at hp359q hS361q
    clear hM_
    have hS363q : St b w0 W354q R ([(g280q, .cells ([.int .u8 0, .int .u32 0] : List Value).toArray 31 (0, 0))] :: M362q :: Fs) := hS361q.bring 1 rfl rfl
    have hS364q : St b w0 W354q R (M362q :: Fs) := hS363q.drop_
    obtain ⟨rfl, rfl⟩ := ret2 H
    repeat (first | refine then_ret ?_ | refine inBlock_ret ?_ | refine inBlock_go ?_)
    refine body_ret (v := .agg #[.int .u8 0, .int .u32 0]) h353q (by kernel_rfl) (res_one rfl ⟨_, rfl, loadVarN Try.underlying31 rfl (cs := ([.int .u8 0, .int .u32 0] : List Value)) (by kernel_rfl) (hS355q.cells (vs := ([.int .u8 0, .int .u32 0] : List Value)) rfl)⟩) ?_
    exact ⟨M362q, rfl, hp359q, hS364q⟩

/-! ### (*louver/window.Meter).Come -/
def window_Meter_Come_nil.f (p1 : Int) : Option (S31) := bnd1 (window_internal.f) fun r393q => (some (⟨r393q.f0, r393q.f1⟩ : S31))
set_option maxHeartbeats 2000000 in
set_option maxRecDepth 100000 in
theorem window_Meter_Come_nil.calls {b : Nat} {w0 W : World} {R : Frag} {Fs : List Frag} {p1 : Int}  {r0q : S31}  (H : window_Meter_Come_nil.f p1 = some r0q) (hS : St b w0 W R (Fs)) :
    Calls Try.prog 13 ([.pointer none, .int .i64 p1] : List Value).toArray W (fun e W' => e = .returned (.agg #[.int .u8 r0q.f0, .int .u32 r0q.f1]) ∧ St b w0 W' R (Fs)) := by
  unfold window_Meter_Come_nil.f at H
  refine calls_enter Try.func13 rfl 40 rfl (by kernel_rfl) (fun a h => ?_)
  refine wp_seq ?_
  refine WL.start ?_
  refine WL.op' (m := 0) h rfl rfl ?_
  refine owp_new (fun g_ => .pointer (some ⟨g_, 0, none⟩)) (.cells ([.int .u8 0, .int .u32 0] : List Value).toArray 31 (0, 0)) h rfl (by kernel_rfl) (by kernel_rfl) hS (fun a385q W387q g388q h386q hS389q => ?_)
  refine WL.done (by kernel_rfl) ?_
  refine wp_seq ?_
  refine wp_seq ?_
  refine WL.start ?_
  refine WL.block (c := 2) (m' := 2) h386q rfl [(7, .bool true), (6, .pointer none)] (by kernel_rfl) (fun a390q h391q => ?_)
  clear h386q a385q
  refine WL.done (by kernel_rfl) ?_
  refine wp_then h391q rfl ?_
  refine wp_seq ?_
  refine WL.start ?_
  obtain ⟨r393q, A392q, H⟩ := bind1 H
  refine WL.op' (m := 0) h391q rfl rfl ?_
  refine owp_call [] h391q rfl (by kernel_rfl) rfl Try.func27 (by kernel_rfl) rfl (by kernel_rfl) (window_internal.calls  A392q hS389q) (fun e395q W394q hp396q => ?_)
  obtain ⟨rfl, hS399q⟩ := hp396q
  refine ⟨_, rfl, fun a397q h398q => ?_⟩
  clear h391q a390q
  refine WL.op' (m := 1) h398q rfl rfl ?_
  refine owp_store (i := 0) (vs := ([.int .u8 r393q.f0, .int .u32 r393q.f1] : List Value)) h398q rfl (by kernel_rfl) rfl rfl rfl rfl (by simp [Value.oneCell']) (by kernel_rfl) hS399q (by simp) (cs' := ([.int .u8 r393q.f0, .int .u32 r393q.f1] : List Value)) rfl (fun a400q W402q h401q hS403q => ?_)
  clear h398q a397q
  refine WL.done (by kernel_rfl) ?_
  refine wp_ret ?_
  have hS404q : St b w0 W402q R (Fs) := hS403q.drop_
  obtain rfl := Option.some.inj H
  repeat (first | refine then_ret ?_ | refine inBlock_ret ?_ | refine inBlock_go ?_)
  refine body_ret (v := .agg #[.int .u8 r393q.f0, .int .u32 r393q.f1]) h401q (by kernel_rfl) (res_one rfl ⟨_, rfl, loadVarN Try.underlying31 rfl (cs := ([.int .u8 r393q.f0, .int .u32 r393q.f1] : List Value)) (by kernel_rfl) (hS403q.cells (vs := ([.int .u8 r393q.f0, .int .u32 r393q.f1] : List Value)) rfl)⟩) ?_
  exact ⟨rfl, hS404q⟩

/-! ### (*louver/window.Meter).Use -/
def window_Meter_Use.f (p0 : S63) (p1 : Int) : Option (Int × S63) := if (IntKind.i64.wrap (p0.f3 + (mnI (mxI p1 0) p0.f2))) = 0 then (some (0, (⟨p0.f0, p0.f1, IntKind.i64.wrap (p0.f2 - (mnI (mxI p1 0) p0.f2)), IntKind.i64.wrap (p0.f3 + (mnI (mxI p1 0) p0.f2)), p0.f4⟩ : S63))) else (if (IntKind.i64.wrap (p0.f3 + (mnI (mxI p1 0) p0.f2))) < (IntKind.i64.wrap (Int.tdiv (IntKind.i64.wrap (p0.f0 + 1)) 2)) then (some (0, (⟨p0.f0, p0.f1, IntKind.i64.wrap (p0.f2 - (mnI (mxI p1 0) p0.f2)), IntKind.i64.wrap (p0.f3 + (mnI (mxI p1 0) p0.f2)), p0.f4⟩ : S63))) else (some (IntKind.u32.wrap (IntKind.i64.wrap (p0.f3 + (mnI (mxI p1 0) p0.f2))), (⟨p0.f0, IntKind.i64.wrap (p0.f1 + (IntKind.i64.wrap (p0.f3 + (mnI (mxI p1 0) p0.f2)))), IntKind.i64.wrap (p0.f2 - (mnI (mxI p1 0) p0.f2)), 0, p0.f4⟩ : S63))))
set_option maxHeartbeats 2000000 in
set_option maxRecDepth 100000 in
theorem window_Meter_Use.calls {b : Nat} {w0 W : World} {R : Frag} {Fs : List Frag} {p0 : S63} {p1 : Int}  {v0 : Value} {M0 : Frag} {r0q : Int} {r1q : S63} (hp0 : Ptr k63 63 b w0 R v0 p0 M0) (H : window_Meter_Use.f p0 p1 = some (r0q, r1q)) (hS : St b w0 W R (M0 :: Fs)) :
    Calls Try.prog 15 ([v0, .int .i64 p1] : List Value).toArray W (fun e W' => ∃ (O0q : Frag), e = .returned (.int .u32 r0q) ∧ Ptr k63 63 b w0 R v0 r1q O0q ∧ St b w0 W' R (O0q :: Fs)) := by
  unfold window_Meter_Use.f at H
  refine calls_enter Try.func15 rfl 67 rfl (by kernel_rfl) (fun a h => ?_)
  refine wp_seq ?_
  refine WL.start ?_
  refine WL.block (c := 1) (m' := 1) h rfl [(4, .int .u32 0)] (by kernel_rfl) (fun a696q h697q => ?_)
  refine WL.done (by kernel_rfl) ?_
  refine wp_seq ?_
  refine wp_seq ?_
  refine WL.start ?_
  refine WL.block (c := 1) (m' := 1) h697q rfl [(7, v0)] (by kernel_rfl) (fun a698q h699q => ?_)
  clear h697q a696q
  obtain ⟨g700q, cs701q, M702q, hv_, hM_, hr703q⟩ := hp0
  obtain ⟨rfl, hM2q⟩ := k63qrep hr703q
  subst hM2q
  subst hM_
  subst hv_
  have hS704q : St b w0 W R ([(g700q, .cells ([.int .i64 p0.f0, .int .i64 p0.f1, .int .i64 p0.f2, .int .i64 p0.f3, .bool p0.f4] : List Value).toArray 63 (0, 0))] :: Fs) := hS.assoc (by simp only [List.flatten_cons, List.append_assoc, List.cons_append, List.nil_append, List.append_nil])
  refine WL.block (c := 1) (m' := 2) h699q rfl [(8, .bool false)] (by kernel_rfl) (fun a705q h706q => ?_)
  clear h699q a698q
  refine WL.done (by kernel_rfl) ?_
  refine wp_else h706q rfl ?_
  refine wp_skip ?_
  refine wp_seq ?_
  refine WL.start ?_
  refine WL.block (c := 5) (m' := 5) h706q rfl [(13, .pointer (some ⟨g700q, 2, none⟩)), (12, .pointer (some ⟨g700q, 0, none⟩)), (11, .pointer (some ⟨g700q, 0, none⟩)), (10, .int .i64 (mxI p1 0)), (9, .int .i64 p1)] (by kernel_rfl) (fun a707q h708q => ?_)
  clear h706q a705q
  refine WL.op' (m := 5) h708q rfl rfl ?_
  refine owp_run (v := .int .i64 p0.f2) h708q rfl (by kernel_rfl) (run_load1 rfl rfl Try.underlying2 rfl (hS704q.cell (i := 2) rfl)) (fun a709q h710q => ?_)
  clear h708q a707q
  refine WL.block (c := 2) (m' := 8) h710q rfl [(5, .int .i64 (mnI (mxI p1 0) p0.f2)), (15, .int .i64 (mnI (mxI p1 0) p0.f2))] (by kernel_rfl) (fun a711q h712q => ?_)
  clear h710q a709q
  refine WL.done (by kernel_rfl) ?_
  refine wp_seq ?_
  refine WL.start ?_
  refine WL.block (c := 3) (m' := 3) h712q rfl [(18, .pointer (some ⟨g700q, 2, none⟩)), (17, .pointer (some ⟨g700q, 0, none⟩)), (16, .pointer (some ⟨g700q, 0, none⟩))] (by kernel_rfl) (fun a713q h714q => ?_)
  clear h712q a711q
  refine WL.op' (m := 3) h714q rfl rfl ?_
  refine owp_run (v := .int .i64 p0.f2) h714q rfl (by kernel_rfl) (run_load1 rfl rfl Try.underlying2 rfl (hS704q.cell (i := 2) rfl)) (fun a715q h716q => ?_)
  clear h714q a713q
  refine WL.block (c := 4) (m' := 8) h716q rfl [(23, .pointer (some ⟨g700q, 2, none⟩)), (22, .pointer (some ⟨g700q, 0, none⟩)), (21, .int .i64 (IntKind.i64.wrap (p0.f2 - (mnI (mxI p1 0) p0.f2)))), (20, .int .i64 (mnI (mxI p1 0) p0.f2))] (by kernel_rfl) (fun a717q h718q => ?_)
  clear h716q a715q
  refine WL.op' (m := 8) h718q rfl rfl ?_
  refine owp_store (i := 2) (vs := ([.int .i64 (IntKind.i64.wrap (p0.f2 - (mnI (mxI p1 0) p0.f2)))] : List Value)) h718q rfl (by kernel_rfl) rfl rfl rfl rfl (by simp [Value.oneCell']) (by kernel_rfl) hS704q (by simp) (cs' := ([.int .i64 p0.f0, .int .i64 p0.f1, .int .i64 (IntKind.i64.wrap (p0.f2 - (mnI (mxI p1 0) p0.f2))), .int .i64 p0.f3, .bool p0.f4] : List Value)) rfl (fun a719q W721q h720q hS722q => ?_)
  clear h718q a717q
  refine WL.done (by kernel_rfl) ?_
  refine wp_seq ?_
  refine WL.start ?_
  refine WL.block (c := 3) (m' := 3) h720q rfl [(26, .pointer (some ⟨g700q, 3, none⟩)), (25, .pointer (some ⟨g700q, 0, none⟩)), (24, .pointer (some ⟨g700q, 0, none⟩))] (by kernel_rfl) (fun a723q h724q => ?_)
  clear h720q a719q
  refine WL.op' (m := 3) h724q rfl rfl ?_
  refine owp_run (v := .int .i64 p0.f3) h724q rfl (by kernel_rfl) (run_load1 rfl rfl Try.underlying2 rfl (hS722q.cell (i := 3) rfl)) (fun a725q h726q => ?_)
  clear h724q a723q
  refine WL.block (c := 4) (m' := 8) h726q rfl [(31, .pointer (some ⟨g700q, 3, none⟩)), (30, .pointer (some ⟨g700q, 0, none⟩)), (29, .int .i64 (IntKind.i64.wrap (p0.f3 + (mnI (mxI p1 0) p0.f2)))), (28, .int .i64 (mnI (mxI p1 0) p0.f2))] (by kernel_rfl) (fun a727q h728q => ?_)
  clear h726q a725q
  refine WL.op' (m := 8) h728q rfl rfl ?_
  refine owp_store (i := 3) (vs := ([.int .i64 (IntKind.i64.wrap (p0.f3 + (mnI (mxI p1 0) p0.f2)))] : List Value)) h728q rfl (by kernel_rfl) rfl rfl rfl rfl (by simp [Value.oneCell']) (by kernel_rfl) hS722q (by simp) (cs' := ([.int .i64 p0.f0, .int .i64 p0.f1, .int .i64 (IntKind.i64.wrap (p0.f2 - (mnI (mxI p1 0) p0.f2))), .int .i64 (IntKind.i64.wrap (p0.f3 + (mnI (mxI p1 0) p0.f2))), .bool p0.f4] : List Value)) rfl (fun a729q W731q h730q hS732q => ?_)
  clear h728q a727q
  refine WL.done (by kernel_rfl) ?_
  refine wp_seq ?_
  refine wp_seq ?_
  refine WH.start (fun w_ => (w_.cell? ⟨g700q, 3, none⟩ = some (.int .i64 (IntKind.i64.wrap (p0.f3 + (mnI (mxI p1 0) p0.f2))))) ∧ (w_.cell? ⟨g700q, 0, none⟩ = some (.int .i64 p0.f0)) ∧ True) (by kernel_rfl) #[false, false, false, false, false, false, false, false, false, false, false, false, false, false, false, false, false, false] 18 rfl rfl ?_
  have hS855q := hS732q.drew
  refine WH.take 0 (listed' := #[true, false, false, false, false, false, false, false, false, false, false, false, false, false, false, false, false, false]) h730q rfl rfl (by kernel_rfl) rfl rfl (.pointer (some ⟨g700q, 0, none⟩)) (fun _ _ => by kernel_rfl) ⟨(hS855q.cell (i := 3) rfl), (hS855q.cell (i := 0) rfl), trivial⟩ (fun _ _ _ h_ => h_) (fun a856q h857q => ?_)
  clear h730q a729q
  refine WH.take 1 (listed' := #[true, true, false, false, false, false, false, false, false, false, false, false, false, false, false, false, false, false]) h857q rfl rfl (by kernel_rfl) rfl rfl (.pointer (some ⟨g700q, 0, none⟩)) (fun _ _ => by kernel_rfl) ⟨(hS855q.cell (i := 3) rfl), (hS855q.cell (i := 0) rfl), trivial⟩ (fun _ _ _ h_ => h_) (fun a858q h859q => ?_)
  clear h857q a856q
  refine WH.take 2 (listed' := #[true, true, true, false, false, false, false, false, false, false, false, false, false, false, false, false, false, false]) h859q rfl rfl (by kernel_rfl) rfl rfl (.pointer (some ⟨g700q, 3, none⟩)) (fun _ _ => by kernel_rfl) ⟨(hS855q.cell (i := 3) rfl), (hS855q.cell (i := 0) rfl), trivial⟩ (fun _ _ _ h_ => h_) (fun a860q h861q => ?_)
  clear h859q a858q
  refine WH.take 3 (listed' := #[true, true, true, true, false, false, false, false, false, false, false, false, false, false, false, false, false, false]) h861q rfl rfl (by kernel_rfl) rfl rfl (.int .i64 (IntKind.i64.wrap (p0.f3 + (mnI (mxI p1 0) p0.f2)))) (fun w_ hs_ => (run_load1 rfl rfl Try.underlying2 rfl hs_.1)) ⟨(hS855q.cell (i := 3) rfl), (hS855q.cell (i := 0) rfl), trivial⟩ (fun _ _ _ h_ => h_) (fun a862q h863q => ?_)
  clear h861q a860q
  refine WH.take 4 (listed' := #[true, true, true, true, true, false, false, false, false, false, false, false, false, false, false, false, false, false]) h863q rfl rfl (by kernel_rfl) rfl rfl (.bool (decide ((IntKind.i64.wrap (p0.f3 + (mnI (mxI p1 0) p0.f2))) = 0))) (fun _ _ => by kernel_rfl) ⟨(hS855q.cell (i := 3) rfl), (hS855q.cell (i := 0) rfl), trivial⟩ (fun _ _ _ h_ => h_) (fun a864q h865q => ?_)
  clear h863q a862q
  refine WH.take 5 (listed' := #[true, true, true, true, true, true, false, false, false, false, false, false, false, false, false, false, false, false]) h865q rfl rfl (by kernel_rfl) rfl rfl (.bool (decide ((IntKind.i64.wrap (p0.f3 + (mnI (mxI p1 0) p0.f2))) = 0))) (fun _ _ => by kernel_rfl) ⟨(hS855q.cell (i := 3) rfl), (hS855q.cell (i := 0) rfl), trivial⟩ (fun _ _ _ h_ => h_) (fun a866q h867q => ?_)
  clear h865q a864q
  by_cases c868q : (IntKind.i64.wrap (p0.f3 + (mnI (mxI p1 0) p0.f2))) = 0
  · rw [if_pos c868q] at H
    have hb_ : (decide ((IntKind.i64.wrap (p0.f3 + (mnI (mxI p1 0) p0.f2))) = 0)) = true := decide_eq_true c868q
    try rw [hb_] at h867q
    clear hb_
    refine WH.skip 6 (listed' := #[true, true, true, true, true, true, true, false, false, false, false, false, false, false, false, false, false, false]) h867q rfl rfl (by kernel_rfl) rfl rfl ⟨(hS855q.cell (i := 3) rfl), (hS855q.cell (i := 0) rfl), trivial⟩ (fun _ _ _ h_ => h_) (fun a869q h870q => ?_)
    clear h867q a866q
    refine WH.skip 7 (listed' := #[true, true, true, true, true, true, true, true, false, false, false, false, false, false, false, false, false, false]) h870q rfl rfl (by kernel_rfl) rfl rfl ⟨(hS855q.cell (i := 3) rfl), (hS855q.cell (i := 0) rfl), trivial⟩ (fun _ _ _ h_ => h_) (fun a871q h872q => ?_)
    clear h870q a869q
    refine WH.skip 8 (listed' := #[true, true, true, true, true, true, true, true, true, false, false, false, false, false, false, false, false, false]) h872q rfl rfl (by kernel_rfl) rfl rfl ⟨(hS855q.cell (i := 3) rfl), (hS855q.cell (i := 0) rfl), trivial⟩ (fun _ _ _ h_ => h_) (fun a873q h874q => ?_)
    clear h872q a871q
    refine WH.skip 9 (listed' := #[true, true, true, true, true, true, true, true, true, true, false, false, false, false, false, false, false, false]) h874q rfl rfl (by kernel_rfl) rfl rfl ⟨(hS855q.cell (i := 3) rfl), (hS855q.cell (i := 0) rfl), trivial⟩ (fun _ _ _ h_ => h_) (fun a875q h876q => ?_)
    clear h874q a873q
    refine WH.skip 10 (listed' := #[true, true, true, true, true, true, true, true, true, true, true, false, false, false, false, false, false, false]) h876q rfl rfl (by kernel_rfl) rfl rfl ⟨(hS855q.cell (i := 3) rfl), (hS855q.cell (i := 0) rfl), trivial⟩ (fun _ _ _ h_ => h_) (fun a877q h878q => ?_)
    clear h876q a875q
    refine WH.skip 11 (listed' := #[true, true, true, true, true, true, true, true, true, true, true, true, false, false, false, false, false, false]) h878q rfl rfl (by kernel_rfl) rfl rfl ⟨(hS855q.cell (i := 3) rfl), (hS855q.cell (i := 0) rfl), trivial⟩ (fun _ _ _ h_ => h_) (fun a879q h880q => ?_)
    clear h878q a877q
    refine WH.skip 12 (listed' := #[true, true, true, true, true, true, true, true, true, true, true, true, true, false, false, false, false, false]) h880q rfl rfl (by kernel_rfl) rfl rfl ⟨(hS855q.cell (i := 3) rfl), (hS855q.cell (i := 0) rfl), trivial⟩ (fun _ _ _ h_ => h_) (fun a881q h882q => ?_)
    clear h880q a879q
    refine WH.skip 13 (listed' := #[true, true, true, true, true, true, true, true, true, true, true, true, true, true, false, false, false, false]) h882q rfl rfl (by kernel_rfl) rfl rfl ⟨(hS855q.cell (i := 3) rfl), (hS855q.cell (i := 0) rfl), trivial⟩ (fun _ _ _ h_ => h_) (fun a883q h884q => ?_)
    clear h882q a881q
    refine WH.skip 14 (listed' := #[true, true, true, true, true, true, true, true, true, true, true, true, true, true, true, false, false, false]) h884q rfl rfl (by kernel_rfl) rfl rfl ⟨(hS855q.cell (i := 3) rfl), (hS855q.cell (i := 0) rfl), trivial⟩ (fun _ _ _ h_ => h_) (fun a885q h886q => ?_)
    clear h884q a883q
    refine WH.skip 15 (listed' := #[true, true, true, true, true, true, true, true, true, true, true, true, true, true, true, true, false, false]) h886q rfl rfl (by kernel_rfl) rfl rfl ⟨(hS855q.cell (i := 3) rfl), (hS855q.cell (i := 0) rfl), trivial⟩ (fun _ _ _ h_ => h_) (fun a887q h888q => ?_)
    clear h886q a885q
    refine WH.skip 16 (listed' := #[true, true, true, true, true, true, true, true, true, true, true, true, true, true, true, true, true, false]) h888q rfl rfl (by kernel_rfl) rfl rfl ⟨(hS855q.cell (i := 3) rfl), (hS855q.cell (i := 0) rfl), trivial⟩ (fun _ _ _ h_ => h_) (fun a889q h890q => ?_)
    clear h888q a887q
    refine WH.take 17 (listed' := #[true, true, true, true, true, true, true, true, true, true, true, true, true, true, true, true, true, true]) h890q rfl rfl (by kernel_rfl) rfl rfl (.bool true) (fun _ _ => by kernel_rfl) ⟨(hS855q.cell (i := 3) rfl), (hS855q.cell (i := 0) rfl), trivial⟩ (fun _ _ _ h_ => h_) (fun a891q h892q => ?_)
    clear h890q a889q
    refine WH.done (by kernel_rfl) ?_
    refine wp_then h892q rfl ?_
    refine wp_seq ?_
    refine WL.start ?_
    refine WL.block (c := 1) (m' := 1) h892q rfl [(4, .int .u32 0)] (by kernel_rfl) (fun a893q h894q => ?_)
    clear h892q a891q
    refine WL.done (by kernel_rfl) ?_
    refine wp_ret ?_
    obtain ⟨M896q, hr895q, hM_⟩ := k63qmk (b := b) (w0 := w0) (R := R) (x := (⟨p0.f0, p0.f1, IntKind.i64.wrap (p0.f2 - (mnI (mxI p1 0) p0.f2)), IntKind.i64.wrap (p0.f3 + (mnI (mxI p1 0) p0.f2)), p0.f4⟩ : S63)) 
    have hp897q : Ptr k63 63 b w0 R (.pointer (some ⟨g700q, 0, none⟩)) (⟨p0.f0, p0.f1, IntKind.i64.wrap (p0.f2 - (mnI (mxI p1 0) p0.f2)), IntKind.i64.wrap (p0.f3 + (mnI (mxI p1 0) p0.f2)), p0.f4⟩ : S63) ((g700q, .cells ([.int .i64 p0.f0, .int .i64 p0.f1, .int .i64 (IntKind.i64.wrap (p0.f2 - (mnI (mxI p1 0) p0.f2))), .int .i64 (IntKind.i64.wrap (p0.f3 + (mnI (mxI p1 0) p0.f2))), .bool p0.f4] : List Value).toArray 63 (0, 0)) :: M896q) := ⟨_, _, _, rfl, rfl, hr895q⟩
    rw [hM_] at hp897q
    have hS899q : St b w0 W731q.drew R (((g700q, .cells ([.int .i64 p0.f0, .int .i64 p0.f1, .int .i64 (IntKind.i64.wrap (p0.f2 - (mnI (mxI p1 0) p0.f2))), .int .i64 (IntKind.i64.wrap (p0.f3 + (mnI (mxI p1 0) p0.f2))), .bool p0.f4] : List Value).toArray 63 (0, 0)) :: ([])) :: Fs) := hS855q.assoc (by simp only [List.flatten_cons, List.append_assoc, List.cons_append, List.nil_append, List.append_nil])
    obtain ⟨M900q, hM_⟩ : ∃ y : Frag, y = ((g700q, .cells ([.int .i64 p0.f0, .int .i64 p0.f1, .int .i64 (IntKind.i64.wrap (p0.f2 - (mnI (mxI p1 0) p0.f2))), .int .i64 (IntKind.i64.wrap (p0.f3 + (mnI (mxI p1 0) p0.f2))), .bool p0.f4] : List Value).toArray 63 (0, 0)) :: ([])) := ⟨_, rfl⟩
    rw [← hM_] at hp897q hS899q
    clear hM_
    obtain ⟨rfl, rfl⟩ := ret2 H
    repeat (first | refine then_ret ?_ | refine inBlock_ret ?_ | refine inBlock_go ?_)
    refine body_ret (v := .int .u32 0) h894q (by kernel_rfl) (by kernel_rfl) ?_
    exact ⟨M900q, rfl, hp897q, hS899q⟩
  · rw [if_neg c868q] at H
    have hb_ : (decide ((IntKind.i64.wrap (p0.f3 + (mnI (mxI p1 0) p0.f2))) = 0)) = false := decide_eq_false c868q
    try rw [hb_] at h867q
    clear hb_
    refine WH.take 6 (listed' := #[true, true, true, true, true, true, true, false, false, false, false, false, false, false, false, false, false, false]) h867q rfl rfl (by kernel_rfl) rfl rfl (.pointer (some ⟨g700q, 0, none⟩)) (fun _ _ => by kernel_rfl) ⟨(hS855q.cell (i := 3) rfl), (hS855q.cell (i := 0) rfl), trivial⟩ (fun _ _ _ h_ => h_) (fun a901q h902q => ?_)
    clear h867q a866q
    refine WH.take 7 (listed' := #[true, true, true, true, true, true, true, true, false, false, false, false, false, false, false, false, false, false]) h902q rfl rfl (by kernel_rfl) rfl rfl (.pointer (some ⟨g700q, 0, none⟩)) (fun _ _ => by kernel_rfl) ⟨(hS855q.cell (i := 3) rfl), (hS855q.cell (i := 0) rfl), trivial⟩ (fun _ _ _ h_ => h_) (fun a903q h904q => ?_)
    clear h902q a901q
    refine WH.take 8 (listed' := #[true, true, true, true, true, true, true, true, true, false, false, false, false, false, false, false, false, false]) h904q rfl rfl (by kernel_rfl) rfl rfl (.pointer (some ⟨g700q, 3, none⟩)) (fun _ _ => by kernel_rfl) ⟨(hS855q.cell (i := 3) rfl), (hS855q.cell (i := 0) rfl), trivial⟩ (fun _ _ _ h_ => h_) (fun a905q h906q => ?_)
    clear h904q a903q
    refine WH.take 10 (listed' := #[true, true, true, true, true, true, true, true, true, false, true, false, false, false, false, false, false, false]) h906q rfl rfl (by kernel_rfl) rfl rfl (.pointer (some ⟨g700q, 0, none⟩)) (fun _ _ => by kernel_rfl) ⟨(hS855q.cell (i := 3) rfl), (hS855q.cell (i := 0) rfl), trivial⟩ (fun _ _ _ h_ => h_) (fun a907q h908q => ?_)
    clear h906q a905q
    refine WH.take 11 (listed' := #[true, true, true, true, true, true, true, true, true, false, true, true, false, false, false, false, false, false]) h908q rfl rfl (by kernel_rfl) rfl rfl (.pointer (some ⟨g700q, 0, none⟩)) (fun _ _ => by kernel_rfl) ⟨(hS855q.cell (i := 3) rfl), (hS855q.cell (i := 0) rfl), trivial⟩ (fun _ _ _ h_ => h_) (fun a909q h910q => ?_)
    clear h908q a907q
    refine WH.take 12 (listed' := #[true, true, true, true, true, true, true, true, true, false, true, true, true, false, false, false, false, false]) h910q rfl rfl (by kernel_rfl) rfl rfl (.pointer (some ⟨g700q, 0, none⟩)) (fun _ _ => by kernel_rfl) ⟨(hS855q.cell (i := 3) rfl), (hS855q.cell (i := 0) rfl), trivial⟩ (fun _ _ _ h_ => h_) (fun a911q h912q => ?_)
    clear h910q a909q
    refine WH.take 9 (listed' := #[true, true, true, true, true, true, true, true, true, true, true, true, true, false, false, false, false, false]) h912q rfl rfl (by kernel_rfl) rfl rfl (.int .i64 (IntKind.i64.wrap (p0.f3 + (mnI (mxI p1 0) p0.f2)))) (fun w_ hs_ => (run_load1 rfl rfl Try.underlying2 rfl hs_.1)) ⟨(hS855q.cell (i := 3) rfl), (hS855q.cell (i := 0) rfl), trivial⟩ (fun _ _ _ h_ => h_) (fun a913q h914q => ?_)
    clear h912q a911q
    refine WH.take 13 (listed' := #[true, true, true, true, true, true, true, true, true, true, true, true, true, true, false, false, false, false]) h914q rfl rfl (by kernel_rfl) rfl rfl (.int .i64 p0.f0) (fun w_ hs_ => (run_load1 rfl rfl Try.underlying2 rfl hs_.2.1)) ⟨(hS855q.cell (i := 3) rfl), (hS855q.cell (i := 0) rfl), trivial⟩ (fun _ _ _ h_ => h_) (fun a915q h916q => ?_)
    clear h914q a913q
    refine WH.take 14 (listed' := #[true, true, true, true, true, true, true, true, true, true, true, true, true, true, true, false, false, false]) h916q rfl rfl (by kernel_rfl) rfl rfl (.int .i64 (IntKind.i64.wrap (p0.f0 + 1))) (fun _ _ => by kernel_rfl) ⟨(hS855q.cell (i := 3) rfl), (hS855q.cell (i := 0) rfl), trivial⟩ (fun _ _ _ h_ => h_) (fun a917q h918q => ?_)
    clear h916q a915q
    refine WH.take 15 (listed' := #[true, true, true, true, true, true, true, true, true, true, true, true, true, true, true, true, false, false]) h918q rfl rfl (by kernel_rfl) rfl rfl (.int .i64 (IntKind.i64.wrap (Int.tdiv (IntKind.i64.wrap (p0.f0 + 1)) 2))) (fun _ _ => by kernel_rfl) ⟨(hS855q.cell (i := 3) rfl), (hS855q.cell (i := 0) rfl), trivial⟩ (fun _ _ _ h_ => h_) (fun a919q h920q => ?_)
    clear h918q a917q
    refine WH.take 16 (listed' := #[true, true, true, true, true, true, true, true, true, true, true, true, true, true, true, true, true, false]) h920q rfl rfl (by kernel_rfl) rfl rfl (.bool (decide ((IntKind.i64.wrap (p0.f3 + (mnI (mxI p1 0) p0.f2))) < (IntKind.i64.wrap (Int.tdiv (IntKind.i64.wrap (p0.f0 + 1)) 2))))) (fun _ _ => by kernel_rfl) ⟨(hS855q.cell (i := 3) rfl), (hS855q.cell (i := 0) rfl), trivial⟩ (fun _ _ _ h_ => h_) (fun a921q h922q => ?_)
    clear h920q a919q
    refine WH.take 17 (listed' := #[true, true, true, true, true, true, true, true, true, true, true, true, true, true, true, true, true, true]) h922q rfl rfl (by kernel_rfl) rfl rfl (.bool (decide ((IntKind.i64.wrap (p0.f3 + (mnI (mxI p1 0) p0.f2))) < (IntKind.i64.wrap (Int.tdiv (IntKind.i64.wrap (p0.f0 + 1)) 2))))) (fun _ _ => by kernel_rfl) ⟨(hS855q.cell (i := 3) rfl), (hS855q.cell (i := 0) rfl), trivial⟩ (fun _ _ _ h_ => h_) (fun a923q h924q => ?_)
    clear h922q a921q
    refine WH.done (by kernel_rfl) ?_
    by_cases c925q : (IntKind.i64.wrap (p0.f3 + (mnI (mxI p1 0) p0.f2))) < (IntKind.i64.wrap (Int.tdiv (IntKind.i64.wrap (p0.f0 + 1)) 2))
    · rw [if_pos c925q] at H
      have hb_ : (decide ((IntKind.i64.wrap (p0.f3 + (mnI (mxI p1 0) p0.f2))) < (IntKind.i64.wrap (Int.tdiv (IntKind.i64.wrap (p0.f0 + 1)) 2)))) = true := decide_eq_true c925q
      try rw [hb_] at h924q
      clear hb_
      refine wp_then h924q rfl ?_
      refine wp_seq ?_
      refine WL.start ?_
      refine WL.block (c := 1) (m' := 1) h924q rfl [(4, .int .u32 0)] (by kernel_rfl) (fun a926q h927q => ?_)
      clear h924q a923q
      refine WL.done (by kernel_rfl) ?_
      refine wp_ret ?_
      obtain ⟨M929q, hr928q, hM_⟩ := k63qmk (b := b) (w0 := w0) (R := R) (x := (⟨p0.f0, p0.f1, IntKind.i64.wrap (p0.f2 - (mnI (mxI p1 0) p0.f2)), IntKind.i64.wrap (p0.f3 + (mnI (mxI p1 0) p0.f2)), p0.f4⟩ : S63)) 
      have hp930q : Ptr k63 63 b w0 R (.pointer (some ⟨g700q, 0, none⟩)) (⟨p0.f0, p0.f1, IntKind.i64.wrap (p0.f2 - (mnI (mxI p1 0) p0.f2)), IntKind.i64.wrap (p0.f3 + (mnI (mxI p1 0) p0.f2)), p0.f4⟩ : S63) ((g700q, .cells ([.int .i64 p0.f0, .int .i64 p0.f1, .int .i64 (IntKind.i64.wrap (p0.f2 - (mnI (mxI p1 0) p0.f2))), .int .i64 (IntKind.i64.wrap (p0.f3 + (mnI (mxI p1 0) p0.f2))), .bool p0.f4] : List Value).toArray 63 (0, 0)) :: M929q) := ⟨_, _, _, rfl, rfl, hr928q⟩
      rw [hM_] at hp930q
      have hS932q : St b w0 W731q.drew R (((g700q, .cells ([.int .i64 p0.f0, .int .i64 p0.f1, .int .i64 (IntKind.i64.wrap (p0.f2 - (mnI (mxI p1 0) p0.f2))), .int .i64 (IntKind.i64.wrap (p0.f3 + (mnI (mxI p1 0) p0.f2))), .bool p0.f4] : List Value).toArray 63 (0, 0)) :: ([])) :: Fs) := hS855q.assoc (by simp only [List.flatten_cons, List.append_assoc, List.cons_append, List.nil_append, List.append_nil])
      obtain ⟨M933q, hM_⟩ : ∃ y : Frag, y = ((g700q, .cells ([.int .i64 p0.f0, .int .i64 p0.f1, .int .i64 (IntKind.i64.wrap (p0.f2 - (mnI (mxI p1 0) p0.f2))), .int .i64 (IntKind.i64.wrap (p0.f3 + (mnI (mxI p1 0) p0.f2))), .bool p0.f4] : List Value).toArray 63 (0, 0)) :: ([])) := ⟨_, rfl⟩
      rw [← hM_] at hp930q hS932q
      clear hM_
      obtain ⟨rfl, rfl⟩ := ret2 H
      repeat (first | refine then_ret ?_ | refine inBlock_ret ?_ | refine inBlock_go ?_)
      refine body_ret (v := .int .u32 0) h927q (by kernel_rfl) (by kernel_rfl) ?_
      exact ⟨M933q, rfl, hp930q, hS932q⟩
    · rw [if_neg c925q] at H
      have hb_ : (decide ((IntKind.i64.wrap (p0.f3 + (mnI (mxI p1 0) p0.f2))) < (IntKind.i64.wrap (Int.tdiv (IntKind.i64.wrap (p0.f0 + 1)) 2)))) = false := decide_eq_false c925q
      try rw [hb_] at h924q
      clear hb_
      refine wp_else h924q rfl ?_
      refine wp_skip ?_
      refine wp_seq ?_
      refine WL.start ?_
      refine WL.block (c := 3) (m' := 3) h924q rfl [(52, .pointer (some ⟨g700q, 3, none⟩)), (51, .pointer (some ⟨g700q, 0, none⟩)), (50, .pointer (some ⟨g700q, 0, none⟩))] (by kernel_rfl) (fun a934q h935q => ?_)
      clear h924q a923q
      refine WL.op' (m := 3) h935q rfl rfl ?_
      refine owp_run (v := .int .i64 (IntKind.i64.wrap (p0.f3 + (mnI (mxI p1 0) p0.f2)))) h935q rfl (by kernel_rfl) (run_load1 rfl rfl Try.underlying2 rfl (hS855q.cell (i := 3) rfl)) (fun a936q h937q => ?_)
      clear h935q a934q
      refine WL.block (c := 1) (m' := 5) h937q rfl [(6, .int .i64 (IntKind.i64.wrap (p0.f3 + (mnI (mxI p1 0) p0.f2))))] (by kernel_rfl) (fun a938q h939q => ?_)
      clear h937q a936q
      refine WL.done (by kernel_rfl) ?_
      refine wp_seq ?_
      refine WL.start ?_
      refine WL.block (c := 3) (m' := 3) h939q rfl [(56, .pointer (some ⟨g700q, 3, none⟩)), (55, .pointer (some ⟨g700q, 0, none⟩)), (54, .pointer (some ⟨g700q, 0, none⟩))] (by kernel_rfl) (fun a940q h941q => ?_)
      clear h939q a938q
      refine WL.op' (m := 3) h941q rfl rfl ?_
      refine owp_store (i := 3) (vs := ([.int .i64 0] : List Value)) h941q rfl (by kernel_rfl) rfl rfl rfl rfl (by simp [Value.oneCell']) (by kernel_rfl) hS855q (by simp) (cs' := ([.int .i64 p0.f0, .int .i64 p0.f1, .int .i64 (IntKind.i64.wrap (p0.f2 - (mnI (mxI p1 0) p0.f2))), .int .i64 0, .bool p0.f4] : List Value)) rfl (fun a942q W944q h943q hS945q => ?_)
      clear h941q a940q
      refine WL.done (by kernel_rfl) ?_
      refine wp_seq ?_
      refine WL.start ?_
      refine WL.block (c := 3) (m' := 3) h943q rfl [(59, .pointer (some ⟨g700q, 1, none⟩)), (58, .pointer (some ⟨g700q, 0, none⟩)), (57, .pointer (some ⟨g700q, 0, none⟩))] (by kernel_rfl) (fun a946q h947q => ?_)
      clear h943q a942q
      refine WL.op' (m := 3) h947q rfl rfl ?_
      refine owp_run (v := .int .i64 p0.f1) h947q rfl (by kernel_rfl) (run_load1 rfl rfl Try.underlying2 rfl (hS945q.cell (i := 1) rfl)) (fun a948q h949q => ?_)
      clear h947q a946q
      refine WL.block (c := 4) (m' := 8) h949q rfl [(64, .pointer (some ⟨g700q, 1, none⟩)), (63, .pointer (some ⟨g700q, 0, none⟩)), (62, .int .i64 (IntKind.i64.wrap (p0.f1 + (IntKind.i64.wrap (p0.f3 + (mnI (mxI p1 0) p0.f2)))))), (61, .int .i64 (IntKind.i64.wrap (p0.f3 + (mnI (mxI p1 0) p0.f2))))] (by kernel_rfl) (fun a950q h951q => ?_)
      clear h949q a948q
      refine WL.op' (m := 8) h951q rfl rfl ?_
      refine owp_store (i := 1) (vs := ([.int .i64 (IntKind.i64.wrap (p0.f1 + (IntKind.i64.wrap (p0.f3 + (mnI (mxI p1 0) p0.f2)))))] : List Value)) h951q rfl (by kernel_rfl) rfl rfl rfl rfl (by simp [Value.oneCell']) (by kernel_rfl) hS945q (by simp) (cs' := ([.int .i64 p0.f0, .int .i64 (IntKind.i64.wrap (p0.f1 + (IntKind.i64.wrap (p0.f3 + (mnI (mxI p1 0) p0.f2))))), .int .i64 (IntKind.i64.wrap (p0.f2 - (mnI (mxI p1 0) p0.f2))), .int .i64 0, .bool p0.f4] : List Value)) rfl (fun a952q W954q h953q hS955q => ?_)
      clear h951q a950q
      refine WL.done (by kernel_rfl) ?_
      refine wp_seq ?_
      refine WL.start ?_
      refine WL.block (c := 3) (m' := 3) h953q rfl [(4, .int .u32 (IntKind.u32.wrap (IntKind.i64.wrap (p0.f3 + (mnI (mxI p1 0) p0.f2))))), (66, .int .u32 (IntKind.u32.wrap (IntKind.i64.wrap (p0.f3 + (mnI (mxI p1 0) p0.f2))))), (65, .int .i64 (IntKind.i64.wrap (p0.f3 + (mnI (mxI p1 0) p0.f2))))] (by kernel_rfl) (fun a956q h957q => ?_)
      clear h953q a952q
      refine WL.done (by kernel_rfl) ?_
      refine wp_ret ?_
      obtain ⟨M959q, hr958q, hM_⟩ := k63qmk (b := b) (w0 := w0) (R := R) (x := (⟨p0.f0, IntKind.i64.wrap (p0.f1 + (IntKind.i64.wrap (p0.f3 + (mnI (mxI p1 0) p0.f2)))), IntKind.i64.wrap (p0.f2 - (mnI (mxI p1 0) p0.f2)), 0, p0.f4⟩ : S63)) 
      have hp960q : Ptr k63 63 b w0 R (.pointer (some ⟨g700q, 0, none⟩)) (⟨p0.f0, IntKind.i64.wrap (p0.f1 + (IntKind.i64.wrap (p0.f3 + (mnI (mxI p1 0) p0.f2)))), IntKind.i64.wrap (p0.f2 - (mnI (mxI p1 0) p0.f2)), 0, p0.f4⟩ : S63) ((g700q, .cells ([.int .i64 p0.f0, .int .i64 (IntKind.i64.wrap (p0.f1 + (IntKind.i64.wrap (p0.f3 + (mnI (mxI p1 0) p0.f2))))), .int .i64 (IntKind.i64.wrap (p0.f2 - (mnI (mxI p1 0) p0.f2))), .int .i64 0, .bool p0.f4] : List Value).toArray 63 (0, 0)) :: M959q) := ⟨_, _, _, rfl, rfl, hr958q⟩
      rw [hM_] at hp960q
      have hS962q : St b w0 W954q R (((g700q, .cells ([.int .i64 p0.f0, .int .i64 (IntKind.i64.wrap (p0.f1 + (IntKind.i64.wrap (p0.f3 + (mnI (mxI p1 0) p0.f2))))), .int .i64 (IntKind.i64.wrap (p0.f2 - (mnI (mxI p1 0) p0.f2))), .int .i64 0, .bool p0.f4] : List Value).toArray 63 (0, 0)) :: ([])) :: Fs) := hS955q.assoc (by simp only [List.flatten_cons, List.append_assoc, List.cons_append, List.nil_append, List.append_nil])
      obtain ⟨M963q, hM_⟩ : ∃ y : Frag, y = ((g700q, .cells ([.int .i64 p0.f0, .int .i64 (IntKind.i64.wrap (p0.f1 + (IntKind.i64.wrap (p0.f3 + (mnI (mxI p1 0) p0.f2))))), .int .i64 (IntKind.i64.wrap (p0.f2 - (mnI (mxI p1 0) p0.f2))), .int .i64 0, .bool p0.f4] : List Value).toArray 63 (0, 0)) :: ([])) := ⟨_, rfl⟩
      rw [← hM_] at hp960q hS962q
      clear hM_
      obtain ⟨rfl, rfl⟩ := ret2 H
      repeat (first | refine then_ret ?_ | refine inBlock_ret ?_ | refine inBlock_go ?_)
      refine body_ret (v := .int .u32 (IntKind.u32.wrap (IntKind.i64.wrap (p0.f3 + (mnI (mxI p1 0) p0.f2))))) h957q (by kernel_rfl) (by kernel_rfl) ?_
      exact ⟨M963q, rfl, hp960q, hS962q⟩

/-! ### (*louver/window.Meter).Use -/
def window_Meter_Use_nil.f (p1 : Int) : Option (Int) := some 0
set_option maxHeartbeats 2000000 in
set_option maxRecDepth 100000 in
theorem window_Meter_Use_nil.calls {b : Nat} {w0 W : World} {R : Frag} {Fs : List Frag} {p1 : Int}  {r0q : Int}  (H : window_Meter_Use_nil.f p1 = some r0q) (hS : St b w0 W R (Fs)) :
    Calls Try.prog 15 ([.pointer none, .int .i64 p1] : List Value).toArray W (fun e W' => e = .returned (.int .u32 r0q) ∧ St b w0 W' R (Fs)) := by
  unfold window_Meter_Use_nil.f at H
  refine calls_enter Try.func15 rfl 67 rfl (by kernel_rfl) (fun a h => ?_)
  refine wp_seq ?_
  refine WL.start ?_
  refine WL.block (c := 1) (m' := 1) h rfl [(4, .int .u32 0)] (by kernel_rfl) (fun a970q h971q => ?_)
  refine WL.done (by kernel_rfl) ?_
  refine wp_seq ?_
  refine wp_seq ?_
  refine WL.start ?_
  refine WL.block (c := 2) (m' := 2) h971q rfl [(8, .bool true), (7, .pointer none)] (by kernel_rfl) (fun a972q h973q => ?_)
  clear h971q a970q
  refine WL.done (by kernel_rfl) ?_
  refine wp_then h973q rfl ?_
  refine wp_seq ?_
  refine WL.start ?_
  refine WL.block (c := 1) (m' := 1) h973q rfl [(4, .int .u32 0)] (by kernel_rfl) (fun a974q h975q => ?_)
  clear h973q a972q
  refine WL.done (by kernel_rfl) ?_
  refine wp_ret ?_
  obtain rfl := Option.some.inj H
  repeat (first | refine then_ret ?_ | refine inBlock_ret ?_ | refine inBlock_go ?_)
  refine body_ret (v := .int .u32 0) h975q (by kernel_rfl) (by kernel_rfl) ?_
  exact ⟨rfl, hS⟩

/-! ### (*louver/window.Meter).Left -/
def window_Meter_Left.f (p0 : S63) : Option (Int) := some p0.f1
set_option maxHeartbeats 2000000 in
set_option maxRecDepth 100000 in
theorem window_Meter_Left.calls {b : Nat} {w0 W : World} {R : Frag} {Fs : List Frag} {p0 : S63}  {v0 : Value} {M0 : Frag} {r0q : Int} (hp0 : Ptr k63 63 b w0 R v0 p0 M0) (H : window_Meter_Left.f p0 = some r0q) (hS : St b w0 W R (M0 :: Fs)) :
    Calls Try.prog 16 ([v0] : List Value).toArray W (fun e W' => ∃ (O0q : Frag), e = .returned (.int .i64 r0q) ∧ Ptr k63 63 b w0 R v0 p0 O0q ∧ St b w0 W' R (O0q :: Fs)) := by
  unfold window_Meter_Left.f at H
  refine calls_enter Try.func16 rfl 9 rfl (by kernel_rfl) (fun a h => ?_)
  refine wp_seq ?_
  refine WL.start ?_
  refine WL.block (c := 1) (m' := 1) h rfl [(2, .int .i64 0)] (by kernel_rfl) (fun a999q h1000q => ?_)
  refine WL.done (by kernel_rfl) ?_
  refine wp_seq ?_
  refine wp_seq ?_
  refine WL.start ?_
  refine WL.block (c := 1) (m' := 1) h1000q rfl [(3, v0)] (by kernel_rfl) (fun a1001q h1002q => ?_)
  clear h1000q a999q
  obtain ⟨g1003q, cs1004q, M1005q, hv_, hM_, hr1006q⟩ := hp0
  obtain ⟨rfl, hM2q⟩ := k63qrep hr1006q
  subst hM2q
  subst hM_
  subst hv_
  have hS1007q : St b w0 W R ([(g1003q, .cells ([.int .i64 p0.f0, .int .i64 p0.f1, .int .i64 p0.f2, .int .i64 p0.f3, .bool p0.f4] : List Value).toArray 63 (0, 0))] :: Fs) := hS.assoc (by simp only [List.flatten_cons, List.append_assoc, List.cons_append, List.nil_append, List.append_nil])
  refine WL.block (c := 1) (m' := 2) h1002q rfl [(4, .bool false)] (by kernel_rfl) (fun a1008q h1009q => ?_)
  clear h1002q a1001q
  refine WL.done (by kernel_rfl) ?_
  refine wp_else h1009q rfl ?_
  refine wp_skip ?_
  refine wp_seq ?_
  refine WL.start ?_
  refine WL.block (c := 3) (m' := 3) h1009q rfl [(7, .pointer (some ⟨g1003q, 1, none⟩)), (6, .pointer (some ⟨g1003q, 0, none⟩)), (5, .pointer (some ⟨g1003q, 0, none⟩))] (by kernel_rfl) (fun a1010q h1011q => ?_)
  clear h1009q a1008q
  refine WL.op' (m := 3) h1011q rfl rfl ?_
  refine owp_run (v := .int .i64 p0.f1) h1011q rfl (by kernel_rfl) (run_load1 rfl rfl Try.underlying2 rfl (hS1007q.cell (i := 1) rfl)) (fun a1012q h1013q => ?_)
  clear h1011q a1010q
  refine WL.block (c := 1) (m' := 5) h1013q rfl [(2, .int .i64 p0.f1)] (by kernel_rfl) (fun a1014q h1015q => ?_)
  clear h1013q a1012q
  refine WL.done (by kernel_rfl) ?_
  refine wp_ret ?_
  obtain ⟨M1017q, hr1016q, hM_⟩ := k63qmk (b := b) (w0 := w0) (R := R) (x := (⟨p0.f0, p0.f1, p0.f2, p0.f3, p0.f4⟩ : S63)) 
  have hp1018q : Ptr k63 63 b w0 R (.pointer (some ⟨g1003q, 0, none⟩)) (⟨p0.f0, p0.f1, p0.f2, p0.f3, p0.f4⟩ : S63) ((g1003q, .cells ([.int .i64 p0.f0, .int .i64 p0.f1, .int .i64 p0.f2, .int .i64 p0.f3, .bool p0.f4] : List Value).toArray 63 (0, 0)) :: M1017q) := ⟨_, _, _, rfl, rfl, hr1016q⟩
  rw [hM_] at hp1018q
  have hS1020q : St b w0 W R (((g1003q, .cells ([.int .i64 p0.f0, .int .i64 p0.f1, .int .i64 p0.f2, .int .i64 p0.f3, .bool p0.f4] : List Value).toArray 63 (0, 0)) :: ([])) :: Fs) := hS1007q.assoc (by simp only [List.flatten_cons, List.append_assoc, List.cons_append, List.nil_append, List.append_nil])
  obtain ⟨M1021q, hM_⟩ : ∃ y : Frag, y = ((g1003q, .cells ([.int .i64 p0.f0, .int .i64 p0.f1, .int .i64 p0.f2, .int .i64 p0.f3, .bool p0.f4] : List Value).toArray 63 (0, 0)) :: ([])) := ⟨_, rfl⟩
  rw [← hM_] at hp1018q hS1020q
  clear hM_
  obtain rfl := Option.some.inj H
  repeat (first | refine then_ret ?_ | refine inBlock_ret ?_ | refine inBlock_go ?_)
  refine body_ret (v := .int .i64 p0.f1) h1015q (by kernel_rfl) (by kernel_rfl) ?_
  exact ⟨M1021q, rfl, hp1018q, hS1020q⟩

/-! ### (*louver/window.Meter).Left -/
def window_Meter_Left_nil.f  : Option (Int) := some 0
set_option maxHeartbeats 2000000 in
set_option maxRecDepth 100000 in
theorem window_Meter_Left_nil.calls {b : Nat} {w0 W : World} {R : Frag} {Fs : List Frag}   {r0q : Int}  (H : window_Meter_Left_nil.f = some r0q) (hS : St b w0 W R (Fs)) :
    Calls Try.prog 16 ([.pointer none] : List Value).toArray W (fun e W' => e = .returned (.int .i64 r0q) ∧ St b w0 W' R (Fs)) := by
  unfold window_Meter_Left_nil.f at H
  refine calls_enter Try.func16 rfl 9 rfl (by kernel_rfl) (fun a h => ?_)
  refine wp_seq ?_
  refine WL.start ?_
  refine WL.block (c := 1) (m' := 1) h rfl [(2, .int .i64 0)] (by kernel_rfl) (fun a1028q h1029q => ?_)
  refine WL.done (by kernel_rfl) ?_
  refine wp_seq ?_
  refine wp_seq ?_
  refine WL.start ?_
  refine WL.block (c := 2) (m' := 2) h1029q rfl [(4, .bool true), (3, .pointer none)] (by kernel_rfl) (fun a1030q h1031q => ?_)
  clear h1029q a1028q
  refine WL.done (by kernel_rfl) ?_
  refine wp_then h1031q rfl ?_
  refine wp_seq ?_
  refine WL.start ?_
  refine WL.block (c := 1) (m' := 1) h1031q rfl [(2, .int .i64 0)] (by kernel_rfl) (fun a1032q h1033q => ?_)
  clear h1031q a1030q
  refine WL.done (by kernel_rfl) ?_
  refine wp_ret ?_
  obtain rfl := Option.some.inj H
  repeat (first | refine then_ret ?_ | refine inBlock_ret ?_ | refine inBlock_go ?_)
  refine body_ret (v := .int .i64 0) h1033q (by kernel_rfl) (by kernel_rfl) ?_
  exact ⟨rfl, hS⟩

/-! ### (*louver/window.Meter).Owed -/
def window_Meter_Owed.f (p0 : S63) : Option (Int) := some p0.f2
set_option maxHeartbeats 2000000 in
set_option maxRecDepth 100000 in
theorem window_Meter_Owed.calls {b : Nat} {w0 W : World} {R : Frag} {Fs : List Frag} {p0 : S63}  {v0 : Value} {M0 : Frag} {r0q : Int} (hp0 : Ptr k63 63 b w0 R v0 p0 M0) (H : window_Meter_Owed.f p0 = some r0q) (hS : St b w0 W R (M0 :: Fs)) :
    Calls Try.prog 17 ([v0] : List Value).toArray W (fun e W' => ∃ (O0q : Frag), e = .returned (.int .i64 r0q) ∧ Ptr k63 63 b w0 R v0 p0 O0q ∧ St b w0 W' R (O0q :: Fs)) := by
  unfold window_Meter_Owed.f at H
  refine calls_enter Try.func17 rfl 9 rfl (by kernel_rfl) (fun a h => ?_)
  refine wp_seq ?_
  refine WL.start ?_
  refine WL.block (c := 1) (m' := 1) h rfl [(2, .int .i64 0)] (by kernel_rfl) (fun a1057q h1058q => ?_)
  refine WL.done (by kernel_rfl) ?_
  refine wp_seq ?_
  refine wp_seq ?_
  refine WL.start ?_
  refine WL.block (c := 1) (m' := 1) h1058q rfl [(3, v0)] (by kernel_rfl) (fun a1059q h1060q => ?_)
  clear h1058q a1057q
  obtain ⟨g1061q, cs1062q, M1063q, hv_, hM_, hr1064q⟩ := hp0
  obtain ⟨rfl, hM2q⟩ := k63qrep hr1064q
  subst hM2q
  subst hM_
  subst hv_
  have hS1065q : St b w0 W R ([(g1061q, .cells ([.int .i64 p0.f0, .int .i64 p0.f1, .int .i64 p0.f2, .int .i64 p0.f3, .bool p0.f4] : List Value).toArray 63 (0, 0))] :: Fs) := hS.assoc (by simp only [List.flatten_cons, List.append_assoc, List.cons_append, List.nil_append, List.append_nil])
  refine WL.block (c := 1) (m' := 2) h1060q rfl [(4, .bool false)] (by kernel_rfl) (fun a1066q h1067q => ?_)
  clear h1060q a1059q
  refine WL.done (by kernel_rfl) ?_
  refine wp_else h1067q rfl ?_
  refine wp_skip ?_
  refine wp_seq ?_
  refine WL.start ?_
  refine WL.block (c := 3) (m' := 3) h1067q rfl [(7, .pointer (some ⟨g1061q, 2, none⟩)), (6, .pointer (some ⟨g1061q, 0, none⟩)), (5, .pointer (some ⟨g1061q, 0, none⟩))] (by kernel_rfl) (fun a1068q h1069q => ?_)
  clear h1067q a1066q
  refine WL.op' (m := 3) h1069q rfl rfl ?_
  refine owp_run (v := .int .i64 p0.f2) h1069q rfl (by kernel_rfl) (run_load1 rfl rfl Try.underlying2 rfl (hS1065q.cell (i := 2) rfl)) (fun a1070q h1071q => ?_)
  clear h1069q a1068q
  refine WL.block (c := 1) (m' := 5) h1071q rfl [(2, .int .i64 p0.f2)] (by kernel_rfl) (fun a1072q h1073q => ?_)
  clear h1071q a1070q
  refine WL.done (by kernel_rfl) ?_
  refine wp_ret ?_
  obtain ⟨M1075q, hr1074q, hM_⟩ := k63qmk (b := b) (w0 := w0) (R := R) (x := (⟨p0.f0, p0.f1, p0.f2, p0.f3, p0.f4⟩ : S63)) 
  have hp1076q : Ptr k63 63 b w0 R (.pointer (some ⟨g1061q, 0, none⟩)) (⟨p0.f0, p0.f1, p0.f2, p0.f3, p0.f4⟩ : S63) ((g1061q, .cells ([.int .i64 p0.f0, .int .i64 p0.f1, .int .i64 p0.f2, .int .i64 p0.f3, .bool p0.f4] : List Value).toArray 63 (0, 0)) :: M1075q) := ⟨_, _, _, rfl, rfl, hr1074q⟩
  rw [hM_] at hp1076q
  have hS1078q : St b w0 W R (((g1061q, .cells ([.int .i64 p0.f0, .int .i64 p0.f1, .int .i64 p0.f2, .int .i64 p0.f3, .bool p0.f4] : List Value).toArray 63 (0, 0)) :: ([])) :: Fs) := hS1065q.assoc (by simp only [List.flatten_cons, List.append_assoc, List.cons_append, List.nil_append, List.append_nil])
  obtain ⟨M1079q, hM_⟩ : ∃ y : Frag, y = ((g1061q, .cells ([.int .i64 p0.f0, .int .i64 p0.f1, .int .i64 p0.f2, .int .i64 p0.f3, .bool p0.f4] : List Value).toArray 63 (0, 0)) :: ([])) := ⟨_, rfl⟩
  rw [← hM_] at hp1076q hS1078q
  clear hM_
  obtain rfl := Option.some.inj H
  repeat (first | refine then_ret ?_ | refine inBlock_ret ?_ | refine inBlock_go ?_)
  refine body_ret (v := .int .i64 p0.f2) h1073q (by kernel_rfl) (by kernel_rfl) ?_
  exact ⟨M1079q, rfl, hp1076q, hS1078q⟩

/-! ### (*louver/window.Meter).Owed -/
def window_Meter_Owed_nil.f  : Option (Int) := some 0
set_option maxHeartbeats 2000000 in
set_option maxRecDepth 100000 in
theorem window_Meter_Owed_nil.calls {b : Nat} {w0 W : World} {R : Frag} {Fs : List Frag}   {r0q : Int}  (H : window_Meter_Owed_nil.f = some r0q) (hS : St b w0 W R (Fs)) :
    Calls Try.prog 17 ([.pointer none] : List Value).toArray W (fun e W' => e = .returned (.int .i64 r0q) ∧ St b w0 W' R (Fs)) := by
  unfold window_Meter_Owed_nil.f at H
  refine calls_enter Try.func17 rfl 9 rfl (by kernel_rfl) (fun a h => ?_)
  refine wp_seq ?_
  refine WL.start ?_
  refine WL.block (c := 1) (m' := 1) h rfl [(2, .int .i64 0)] (by kernel_rfl) (fun a1086q h1087q => ?_)
  refine WL.done (by kernel_rfl) ?_
  refine wp_seq ?_
  refine wp_seq ?_
  refine WL.start ?_
  refine WL.block (c := 2) (m' := 2) h1087q rfl [(4, .bool true), (3, .pointer none)] (by kernel_rfl) (fun a1088q h1089q => ?_)
  clear h1087q a1086q
  refine WL.done (by kernel_rfl) ?_
  refine wp_then h1089q rfl ?_
  refine wp_seq ?_
  refine WL.start ?_
  refine WL.block (c := 1) (m' := 1) h1089q rfl [(2, .int .i64 0)] (by kernel_rfl) (fun a1090q h1091q => ?_)
  clear h1089q a1088q
  refine WL.done (by kernel_rfl) ?_
  refine wp_ret ?_
  obtain rfl := Option.some.inj H
  repeat (first | refine then_ret ?_ | refine inBlock_ret ?_ | refine inBlock_go ?_)
  refine body_ret (v := .int .i64 0) h1091q (by kernel_rfl) (by kernel_rfl) ?_
  exact ⟨rfl, hS⟩

/-! ### louver/louverlaw10.fixed -/
def louverlaw10qfixed.f  : Option (Bool) := bnd1 (window_Of.f 10 true) fun r1301q => (bnd2 (window_Meter_Come.f r1301q 6) fun r1316q r1317q => (if (decide (r1316q.f0 = 0) && decide (r1316q.f1 = 0)) = true then (bnd2 (window_Meter_Use.f r1317q 4) fun r1348q r1349q => (if r1348q = 0 then (bnd2 (window_Meter_Use.f r1349q 1) fun r1366q r1367q => (if r1366q = 5 then (bnd1 (window_Meter_Left.f r1367q) fun r1384q => (if r1384q = 9 then (bnd1 (window_Meter_Owed.f r1367q) fun r1401q => (some (decide (r1401q = 1)))) else (some false))) else (some false))) else (some false))) else (some false)))
set_option maxHeartbeats 2000000 in
set_option maxRecDepth 100000 in
theorem louverlaw10qfixed.calls {b : Nat} {w0 W : World} {R : Frag} {Fs : List Frag}   {r0q : Bool}  (H : louverlaw10qfixed.f = some r0q) (hS : St b w0 W R (Fs)) :
    Calls Try.prog 9 ([] : List Value).toArray W (fun e W' => e = .returned (.bool r0q) ∧ St b w0 W' R (Fs)) := by
  unfold louverlaw10qfixed.f at H
  refine calls_enter Try.func9 rfl 29 rfl (by kernel_rfl) (fun a h => ?_)
  refine wp_seq ?_
  refine WL.start ?_
  refine WL.block (c := 1) (m' := 1) h rfl [(0, .bool false)] (by kernel_rfl) (fun a1298q h1299q => ?_)
  refine WL.done (by kernel_rfl) ?_
  refine wp_seq ?_
  refine WL.start ?_
  obtain ⟨r1301q, A1300q, H⟩ := bind1 H
  refine WL.op' (m := 0) h1299q rfl rfl ?_
  refine owp_call [.int .u32 10, .bool true] h1299q rfl (by kernel_rfl) rfl Try.func10 (by kernel_rfl) rfl (by kernel_rfl) (window_Of.calls  A1300q hS) (fun e1303q W1302q hp1304q => ?_)
  obtain ⟨v1307q, M1308q, rfl, hr1309q, hS1310q⟩ := hp1304q
  refine ⟨_, rfl, fun a1305q h1306q => ?_⟩
  clear h1299q a1298q
  refine WL.block (c := 1) (m' := 2) h1306q rfl [(1, v1307q)] (by kernel_rfl) (fun a1311q h1312q => ?_)
  clear h1306q a1305q
  refine WL.done (by kernel_rfl) ?_
  refine wp_seq ?_
  refine WL.start ?_
  refine WL.block (c := 1) (m' := 1) h1312q rfl [(4, v1307q)] (by kernel_rfl) (fun a1313q h1314q => ?_)
  clear h1312q a1311q
  obtain ⟨r1316q, r1317q, A1315q, H⟩ := bind2 H
  refine WL.op' (m := 1) h1314q rfl rfl ?_
  refine owp_call [v1307q, .int .i64 6] h1314q rfl (by kernel_rfl) rfl Try.func13 (by kernel_rfl) rfl (by kernel_rfl) (window_Meter_Come.calls hr1309q A1315q hS1310q) (fun e1319q W1318q hp1320q => ?_)
  obtain ⟨M1323q, rfl, hr1324q, hS1325q⟩ := hp1320q
  refine ⟨_, rfl, fun a1321q h1322q => ?_⟩
  clear h1314q a1313q
  refine WL.op' (m := 2) h1322q rfl rfl ?_
  refine owp_new (fun g_ => .pointer (some ⟨g_, 0, none⟩)) (.cells ([.int .u8 0, .int .u32 0] : List Value).toArray 31 (0, 0)) h1322q rfl (by kernel_rfl) (by kernel_rfl) hS1325q (fun a1326q W1328q g1329q h1327q hS1330q => ?_)
  clear h1322q a1321q
  refine WL.op' (m := 3) h1327q rfl rfl ?_
  refine owp_store (i := 0) (vs := ([.int .u8 r1316q.f0, .int .u32 r1316q.f1] : List Value)) h1327q rfl (by kernel_rfl) rfl rfl rfl rfl (by simp [Value.oneCell']) (by kernel_rfl) hS1330q (by simp) (cs' := ([.int .u8 r1316q.f0, .int .u32 r1316q.f1] : List Value)) rfl (fun a1331q W1333q h1332q hS1334q => ?_)
  clear h1327q a1326q
  refine WL.done (by kernel_rfl) ?_
  refine wp_seq ?_
  refine WL.start ?_
  refine WL.op' (m := 0) h1332q rfl rfl ?_
  refine owp_run (v := .agg #[.int .u8 r1316q.f0, .int .u32 r1316q.f1]) h1332q rfl (by kernel_rfl) (run_loadN rfl rfl Try.underlying31 rfl (cs := ([.int .u8 r1316q.f0, .int .u32 r1316q.f1] : List Value)) (by kernel_rfl) (hS1334q.cells (vs := ([.int .u8 r1316q.f0, .int .u32 r1316q.f1] : List Value)) rfl)) (fun a1335q h1336q => ?_)
  clear h1332q a1331q
  refine WL.block (c := 1) (m' := 2) h1336q rfl [(7, .agg #[.int .u8 0, .int .u32 0])] (by kernel_rfl) (fun a1337q h1338q => ?_)
  clear h1336q a1335q
  refine WL.op' (m := 2) h1338q rfl rfl ?_
  refine owp_run (v := .bool (decide (r1316q.f0 = 0) && decide (r1316q.f1 = 0))) h1338q rfl (by kernel_rfl) (run_steq (xs := [.int .u8 r1316q.f0, .int .u32 r1316q.f1]) (ys := [.int .u8 0, .int .u32 0]) rfl rfl rfl (by kernel_rfl) (eqs_of Try.underlying31 (by kernel_rfl) (eqf_cons rfl (by kernel_rfl) rfl rfl (eqi_int Try.underlying5) (eqf_last rfl (by kernel_rfl) rfl rfl (eqi_int Try.underlying22))))) (fun a1339q h1340q => ?_)
  clear h1338q a1337q
  refine WL.block (c := 1) (m' := 4) h1340q rfl [(9, .bool (decide (r1316q.f0 = 0) && decide (r1316q.f1 = 0)))] (by kernel_rfl) (fun a1341q h1342q => ?_)
  clear h1340q a1339q
  by_cases c1343q : (decide (r1316q.f0 = 0) && decide (r1316q.f1 = 0)) = true
  · rw [if_pos c1343q] at H
    have hb_ : (decide (r1316q.f0 = 0) && decide (r1316q.f1 = 0)) = true := c1343q
    try rw [hb_] at h1342q
    clear hb_
    refine WL.op' (m := 4) h1342q rfl rfl (owp_run h1342q rfl (by kernel_rfl) (v := v1307q) (by kernel_rfl) (fun a1344q h1345q => ?_))
    clear h1342q a1341q
    have hS1346q : St b w0 W1333q R (M1323q :: [(g1329q, .cells ([.int .u8 r1316q.f0, .int .u32 r1316q.f1] : List Value).toArray 31 (0, 0))] :: Fs) := hS1334q.bring 1 rfl rfl
    obtain ⟨r1348q, r1349q, A1347q, H⟩ := bind2 H
    refine WL.op' (m := 5) h1345q rfl rfl ?_
    refine owp_call [v1307q, .int .i64 4] h1345q rfl (by kernel_rfl) rfl Try.func15 (by kernel_rfl) rfl (by kernel_rfl) (window_Meter_Use.calls hr1324q A1347q hS1346q) (fun e1351q W1350q hp1352q => ?_)
    obtain ⟨M1355q, rfl, hr1356q, hS1357q⟩ := hp1352q
    refine ⟨_, rfl, fun a1353q h1354q => ?_⟩
    clear h1345q a1344q
    refine WL.op' (m := 6) h1354q rfl rfl (owp_run h1354q rfl (by kernel_rfl) (v := .bool (decide (r1348q = 0))) (by kernel_rfl) (fun a1358q h1359q => ?_))
    clear h1354q a1353q
    refine WL.block (c := 2) (m' := 9) h1359q rfl [(14, .bool (decide (r1348q = 0))), (13, .bool (decide (r1348q = 0)))] (by kernel_rfl) (fun a1360q h1361q => ?_)
    clear h1359q a1358q
    by_cases c1362q : r1348q = 0
    · rw [if_pos c1362q] at H
      have hb_ : (decide (r1348q = 0)) = true := decide_eq_true c1362q
      try rw [hb_] at h1361q
      clear hb_
      refine WL.op' (m := 9) h1361q rfl rfl (owp_run h1361q rfl (by kernel_rfl) (v := v1307q) (by kernel_rfl) (fun a1363q h1364q => ?_))
      clear h1361q a1360q
      obtain ⟨r1366q, r1367q, A1365q, H⟩ := bind2 H
      refine WL.op' (m := 10) h1364q rfl rfl ?_
      refine owp_call [v1307q, .int .i64 1] h1364q rfl (by kernel_rfl) rfl Try.func15 (by kernel_rfl) rfl (by kernel_rfl) (window_Meter_Use.calls hr1356q A1365q hS1357q) (fun e1369q W1368q hp1370q => ?_)
      obtain ⟨M1373q, rfl, hr1374q, hS1375q⟩ := hp1370q
      refine ⟨_, rfl, fun a1371q h1372q => ?_⟩
      clear h1364q a1363q
      refine WL.op' (m := 11) h1372q rfl rfl (owp_run h1372q rfl (by kernel_rfl) (v := .bool (decide (r1366q = 5))) (by kernel_rfl) (fun a1376q h1377q => ?_))
      clear h1372q a1371q
      refine WL.block (c := 2) (m' := 14) h1377q rfl [(19, .bool (decide (r1366q = 5))), (18, .bool (decide (r1366q = 5)))] (by kernel_rfl) (fun a1378q h1379q => ?_)
      clear h1377q a1376q
      by_cases c1380q : r1366q = 5
      · rw [if_pos c1380q] at H
        have hb_ : (decide (r1366q = 5)) = true := decide_eq_true c1380q
        try rw [hb_] at h1379q
        clear hb_
        refine WL.op' (m := 14) h1379q rfl rfl (owp_run h1379q rfl (by kernel_rfl) (v := v1307q) (by kernel_rfl) (fun a1381q h1382q => ?_))
        clear h1379q a1378q
        obtain ⟨r1384q, A1383q, H⟩ := bind1 H
        refine WL.op' (m := 15) h1382q rfl rfl ?_
        refine owp_call [v1307q] h1382q rfl (by kernel_rfl) rfl Try.func16 (by kernel_rfl) rfl (by kernel_rfl) (window_Meter_Left.calls hr1374q A1383q hS1375q) (fun e1386q W1385q hp1387q => ?_)
        obtain ⟨M1390q, rfl, hr1391q, hS1392q⟩ := hp1387q
        refine ⟨_, rfl, fun a1388q h1389q => ?_⟩
        clear h1382q a1381q
        refine WL.op' (m := 16) h1389q rfl rfl (owp_run h1389q rfl (by kernel_rfl) (v := .bool (decide (r1384q = 9))) (by kernel_rfl) (fun a1393q h1394q => ?_))
        clear h1389q a1388q
        refine WL.block (c := 2) (m' := 19) h1394q rfl [(24, .bool (decide (r1384q = 9))), (23, .bool (decide (r1384q = 9)))] (by kernel_rfl) (fun a1395q h1396q => ?_)
        clear h1394q a1393q
        by_cases c1397q : r1384q = 9
        · rw [if_pos c1397q] at H
          have hb_ : (decide (r1384q = 9)) = true := decide_eq_true c1397q
          try rw [hb_] at h1396q
          clear hb_
          refine WL.op' (m := 19) h1396q rfl rfl (owp_run h1396q rfl (by kernel_rfl) (v := v1307q) (by kernel_rfl) (fun a1398q h1399q => ?_))
          clear h1396q a1395q
          obtain ⟨r1401q, A1400q, H⟩ := bind1 H
          refine WL.op' (m := 20) h1399q rfl rfl ?_
          refine owp_call [v1307q] h1399q rfl (by kernel_rfl) rfl Try.func17 (by kernel_rfl) rfl (by kernel_rfl) (window_Meter_Owed.calls hr1391q A1400q hS1392q) (fun e1403q W1402q hp1404q => ?_)
          obtain ⟨M1407q, rfl, hr1408q, hS1409q⟩ := hp1404q
          refine ⟨_, rfl, fun a1405q h1406q => ?_⟩
          clear h1399q a1398q
          refine WL.op' (m := 21) h1406q rfl rfl (owp_run h1406q rfl (by kernel_rfl) (v := .bool (decide (r1401q = 1))) (by kernel_rfl) (fun a1410q h1411q => ?_))
          clear h1406q a1405q
          refine WL.block (c := 2) (m' := 24) h1411q rfl [(0, .bool (decide (r1401q = 1))), (28, .bool (decide (r1401q = 1)))] (by kernel_rfl) (fun a1412q h1413q => ?_)
          clear h1411q a1410q
          refine WL.done (by kernel_rfl) ?_
          refine wp_ret ?_
          have hS1414q : St b w0 W1402q R ([(g1329q, .cells ([.int .u8 r1316q.f0, .int .u32 r1316q.f1] : List Value).toArray 31 (0, 0))] :: Fs) := hS1409q.drop_
          have hS1415q : St b w0 W1402q R (Fs) := hS1414q.drop_
          obtain rfl := Option.some.inj H
          repeat (first | refine then_ret ?_ | refine inBlock_ret ?_ | refine inBlock_go ?_)
          refine body_ret (v := .bool (decide (r1401q = 1))) h1413q (by kernel_rfl) (by kernel_rfl) ?_
          exact ⟨rfl, hS1415q⟩
        · rw [if_neg c1397q] at H
          have hb_ : (decide (r1384q = 9)) = false := decide_eq_false c1397q
          try rw [hb_] at h1396q
          clear hb_
          refine WL.skipped (m := 19) h1396q rfl rfl (by kernel_rfl) rfl (fun a1416q h1417q => ?_)
          clear h1396q a1395q
          refine WL.skipped (m := 20) h1417q rfl rfl (by kernel_rfl) rfl (fun a1418q h1419q => ?_)
          clear h1417q a1416q
          refine WL.skipped (m := 21) h1419q rfl rfl (by kernel_rfl) rfl (fun a1420q h1421q => ?_)
          clear h1419q a1418q
          refine WL.block (c := 2) (m' := 24) h1421q rfl [(0, .bool false), (28, .bool false)] (by kernel_rfl) (fun a1422q h1423q => ?_)
          clear h1421q a1420q
          refine WL.done (by kernel_rfl) ?_
          refine wp_ret ?_
          have hS1424q : St b w0 W1385q R ([(g1329q, .cells ([.int .u8 r1316q.f0, .int .u32 r1316q.f1] : List Value).toArray 31 (0, 0))] :: Fs) := hS1392q.drop_
          have hS1425q : St b w0 W1385q R (Fs) := hS1424q.drop_
          obtain rfl := Option.some.inj H
          repeat (first | refine then_ret ?_ | refine inBlock_ret ?_ | refine inBlock_go ?_)
          refine body_ret (v := .bool false) h1423q (by kernel_rfl) (by kernel_rfl) ?_
          exact ⟨rfl, hS1425q⟩
      · rw [if_neg c1380q] at H
        have hb_ : (decide (r1366q = 5)) = false := decide_eq_false c1380q
        try rw [hb_] at h1379q
        clear hb_
        refine WL.skipped (m := 14) h1379q rfl rfl (by kernel_rfl) rfl (fun a1426q h1427q => ?_)
        clear h1379q a1378q
        refine WL.skipped (m := 15) h1427q rfl rfl (by kernel_rfl) rfl (fun a1428q h1429q => ?_)
        clear h1427q a1426q
        refine WL.skipped (m := 16) h1429q rfl rfl (by kernel_rfl) rfl (fun a1430q h1431q => ?_)
        clear h1429q a1428q
        refine WL.block (c := 2) (m' := 19) h1431q rfl [(24, .bool false), (23, .bool false)] (by kernel_rfl) (fun a1432q h1433q => ?_)
        clear h1431q a1430q
        refine WL.skipped (m := 19) h1433q rfl rfl (by kernel_rfl) rfl (fun a1434q h1435q => ?_)
        clear h1433q a1432q
        refine WL.skipped (m := 20) h1435q rfl rfl (by kernel_rfl) rfl (fun a1436q h1437q => ?_)
        clear h1435q a1434q
        refine WL.skipped (m := 21) h1437q rfl rfl (by kernel_rfl) rfl (fun a1438q h1439q => ?_)
        clear h1437q a1436q
        refine WL.block (c := 2) (m' := 24) h1439q rfl [(0, .bool false), (28, .bool false)] (by kernel_rfl) (fun a1440q h1441q => ?_)
        clear h1439q a1438q
        refine WL.done (by kernel_rfl) ?_
        refine wp_ret ?_
        have hS1442q : St b w0 W1368q R ([(g1329q, .cells ([.int .u8 r1316q.f0, .int .u32 r1316q.f1] : List Value).toArray 31 (0, 0))] :: Fs) := hS1375q.drop_
        have hS1443q : St b w0 W1368q R (Fs) := hS1442q.drop_
        obtain rfl := Option.some.inj H
        repeat (first | refine then_ret ?_ | refine inBlock_ret ?_ | refine inBlock_go ?_)
        refine body_ret (v := .bool false) h1441q (by kernel_rfl) (by kernel_rfl) ?_
        exact ⟨rfl, hS1443q⟩
    · rw [if_neg c1362q] at H
      have hb_ : (decide (r1348q = 0)) = false := decide_eq_false c1362q
      try rw [hb_] at h1361q
      clear hb_
      refine WL.skipped (m := 9) h1361q rfl rfl (by kernel_rfl) rfl (fun a1444q h1445q => ?_)
      clear h1361q a1360q
      refine WL.skipped (m := 10) h1445q rfl rfl (by kernel_rfl) rfl (fun a1446q h1447q => ?_)
      clear h1445q a1444q
      refine WL.skipped (m := 11) h1447q rfl rfl (by kernel_rfl) rfl (fun a1448q h1449q => ?_)
      clear h1447q a1446q
      refine WL.block (c := 2) (m' := 14) h1449q rfl [(19, .bool false), (18, .bool false)] (by kernel_rfl) (fun a1450q h1451q => ?_)
      clear h1449q a1448q
      refine WL.skipped (m := 14) h1451q rfl rfl (by kernel_rfl) rfl (fun a1452q h1453q => ?_)
      clear h1451q a1450q
      refine WL.skipped (m := 15) h1453q rfl rfl (by kernel_rfl) rfl (fun a1454q h1455q => ?_)
      clear h1453q a1452q
      refine WL.skipped (m := 16) h1455q rfl rfl (by kernel_rfl) rfl (fun a1456q h1457q => ?_)
      clear h1455q a1454q
      refine WL.block (c := 2) (m' := 19) h1457q rfl [(24, .bool false), (23, .bool false)] (by kernel_rfl) (fun a1458q h1459q => ?_)
      clear h1457q a1456q
      refine WL.skipped (m := 19) h1459q rfl rfl (by kernel_rfl) rfl (fun a1460q h1461q => ?_)
      clear h1459q a1458q
      refine WL.skipped (m := 20) h1461q rfl rfl (by kernel_rfl) rfl (fun a1462q h1463q => ?_)
      clear h1461q a1460q
      refine WL.skipped (m := 21) h1463q rfl rfl (by kernel_rfl) rfl (fun a1464q h1465q => ?_)
      clear h1463q a1462q
      refine WL.block (c := 2) (m' := 24) h1465q rfl [(0, .bool false), (28, .bool false)] (by kernel_rfl) (fun a1466q h1467q => ?_)
      clear h1465q a1464q
      refine WL.done (by kernel_rfl) ?_
      refine wp_ret ?_
      have hS1468q : St b w0 W1350q R ([(g1329q, .cells ([.int .u8 r1316q.f0, .int .u32 r1316q.f1] : List Value).toArray 31 (0, 0))] :: Fs) := hS1357q.drop_
      have hS1469q : St b w0 W1350q R (Fs) := hS1468q.drop_
      obtain rfl := Option.some.inj H
      repeat (first | refine then_ret ?_ | refine inBlock_ret ?_ | refine inBlock_go ?_)
      refine body_ret (v := .bool false) h1467q (by kernel_rfl) (by kernel_rfl) ?_
      exact ⟨rfl, hS1469q⟩
  · rw [if_neg c1343q] at H
    have hb_ : (decide (r1316q.f0 = 0) && decide (r1316q.f1 = 0)) = false := (Bool.eq_false_iff.2 c1343q)
    try rw [hb_] at h1342q
    clear hb_
    refine WL.skipped (m := 4) h1342q rfl rfl (by kernel_rfl) rfl (fun a1470q h1471q => ?_)
    clear h1342q a1341q
    refine WL.skipped (m := 5) h1471q rfl rfl (by kernel_rfl) rfl (fun a1472q h1473q => ?_)
    clear h1471q a1470q
    refine WL.skipped (m := 6) h1473q rfl rfl (by kernel_rfl) rfl (fun a1474q h1475q => ?_)
    clear h1473q a1472q
    refine WL.block (c := 2) (m' := 9) h1475q rfl [(14, .bool false), (13, .bool false)] (by kernel_rfl) (fun a1476q h1477q => ?_)
    clear h1475q a1474q
    refine WL.skipped (m := 9) h1477q rfl rfl (by kernel_rfl) rfl (fun a1478q h1479q => ?_)
    clear h1477q a1476q
    refine WL.skipped (m := 10) h1479q rfl rfl (by kernel_rfl) rfl (fun a1480q h1481q => ?_)
    clear h1479q a1478q
    refine WL.skipped (m := 11) h1481q rfl rfl (by kernel_rfl) rfl (fun a1482q h1483q => ?_)
    clear h1481q a1480q
    refine WL.block (c := 2) (m' := 14) h1483q rfl [(19, .bool false), (18, .bool false)] (by kernel_rfl) (fun a1484q h1485q => ?_)
    clear h1483q a1482q
    refine WL.skipped (m := 14) h1485q rfl rfl (by kernel_rfl) rfl (fun a1486q h1487q => ?_)
    clear h1485q a1484q
    refine WL.skipped (m := 15) h1487q rfl rfl (by kernel_rfl) rfl (fun a1488q h1489q => ?_)
    clear h1487q a1486q
    refine WL.skipped (m := 16) h1489q rfl rfl (by kernel_rfl) rfl (fun a1490q h1491q => ?_)
    clear h1489q a1488q
    refine WL.block (c := 2) (m' := 19) h1491q rfl [(24, .bool false), (23, .bool false)] (by kernel_rfl) (fun a1492q h1493q => ?_)
    clear h1491q a1490q
    refine WL.skipped (m := 19) h1493q rfl rfl (by kernel_rfl) rfl (fun a1494q h1495q => ?_)
    clear h1493q a1492q
    refine WL.skipped (m := 20) h1495q rfl rfl (by kernel_rfl) rfl (fun a1496q h1497q => ?_)
    clear h1495q a1494q
    refine WL.skipped (m := 21) h1497q rfl rfl (by kernel_rfl) rfl (fun a1498q h1499q => ?_)
    clear h1497q a1496q
    refine WL.block (c := 2) (m' := 24) h1499q rfl [(0, .bool false), (28, .bool false)] (by kernel_rfl) (fun a1500q h1501q => ?_)
    clear h1499q a1498q
    refine WL.done (by kernel_rfl) ?_
    refine wp_ret ?_
    have hS1502q : St b w0 W1333q R (M1323q :: Fs) := hS1334q.drop_
    have hS1503q : St b w0 W1333q R (Fs) := hS1502q.drop_
    obtain rfl := Option.some.inj H
    repeat (first | refine then_ret ?_ | refine inBlock_ret ?_ | refine inBlock_go ?_)
    refine body_ret (v := .bool false) h1501q (by kernel_rfl) (by kernel_rfl) ?_
    exact ⟨rfl, hS1503q⟩

/-! ### louver/louverref10.between -/
def louverref10qbetween.f (p0 : Int) : Option (Int) := if p0 > 2147483647 then (some 2147483647) else (if p0 < (-2147483648) then (some (-2147483648)) else (some p0))
set_option maxHeartbeats 2000000 in
set_option maxRecDepth 100000 in
theorem louverref10qbetween.calls {b : Nat} {w0 W : World} {R : Frag} {Fs : List Frag} {p0 : Int}  {r0q : Int}  (H : louverref10qbetween.f p0 = some r0q) (hS : St b w0 W R (Fs)) :
    Calls Try.prog 26 ([.int .i64 p0] : List Value).toArray W (fun e W' => e = .returned (.int .i64 r0q) ∧ St b w0 W' R (Fs)) := by
  unfold louverref10qbetween.f at H
  refine calls_enter Try.func26 rfl 8 rfl (by kernel_rfl) (fun a h => ?_)
  refine wp_seq ?_
  refine WL.start ?_
  refine WL.block (c := 1) (m' := 1) h rfl [(2, .int .i64 0)] (by kernel_rfl) (fun a1518q h1519q => ?_)
  refine WL.done (by kernel_rfl) ?_
  refine wp_seq ?_
  refine wp_seq ?_
  refine WL.start ?_
  refine WL.block (c := 2) (m' := 2) h1519q rfl [(4, .bool (decide (p0 > 2147483647))), (3, .int .i64 p0)] (by kernel_rfl) (fun a1520q h1521q => ?_)
  clear h1519q a1518q
  refine WL.done (by kernel_rfl) ?_
  by_cases c1522q : p0 > 2147483647
  · rw [if_pos c1522q] at H
    have hb_ : (decide (p0 > 2147483647)) = true := decide_eq_true c1522q
    try rw [hb_] at h1521q
    clear hb_
    refine wp_then h1521q rfl ?_
    refine wp_seq ?_
    refine WL.start ?_
    refine WL.block (c := 1) (m' := 1) h1521q rfl [(2, .int .i64 2147483647)] (by kernel_rfl) (fun a1523q h1524q => ?_)
    clear h1521q a1520q
    refine WL.done (by kernel_rfl) ?_
    refine wp_ret ?_
    obtain rfl := Option.some.inj H
    repeat (first | refine then_ret ?_ | refine inBlock_ret ?_ | refine inBlock_go ?_)
    refine body_ret (v := .int .i64 2147483647) h1524q (by kernel_rfl) (by kernel_rfl) ?_
    exact ⟨rfl, hS⟩
  · rw [if_neg c1522q] at H
    have hb_ : (decide (p0 > 2147483647)) = false := decide_eq_false c1522q
    try rw [hb_] at h1521q
    clear hb_
    refine wp_else h1521q rfl ?_
    refine wp_skip ?_
    refine wp_seq ?_
    refine wp_seq ?_
    refine WL.start ?_
    refine WL.block (c := 2) (m' := 2) h1521q rfl [(6, .bool (decide (p0 < (-2147483648)))), (5, .int .i64 p0)] (by kernel_rfl) (fun a1525q h1526q => ?_)
    clear h1521q a1520q
    refine WL.done (by kernel_rfl) ?_
    by_cases c1527q : p0 < (-2147483648)
    · rw [if_pos c1527q] at H
      have hb_ : (decide (p0 < (-2147483648))) = true := decide_eq_true c1527q
      try rw [hb_] at h1526q
      clear hb_
      refine wp_then h1526q rfl ?_
      refine wp_seq ?_
      refine WL.start ?_
      refine WL.block (c := 1) (m' := 1) h1526q rfl [(2, .int .i64 (-2147483648))] (by kernel_rfl) (fun a1528q h1529q => ?_)
      clear h1526q a1525q
      refine WL.done (by kernel_rfl) ?_
      refine wp_ret ?_
      obtain rfl := Option.some.inj H
      repeat (first | refine then_ret ?_ | refine inBlock_ret ?_ | refine inBlock_go ?_)
      refine body_ret (v := .int .i64 (-2147483648)) h1529q (by kernel_rfl) (by kernel_rfl) ?_
      exact ⟨rfl, hS⟩
    · rw [if_neg c1527q] at H
      have hb_ : (decide (p0 < (-2147483648))) = false := decide_eq_false c1527q
      try rw [hb_] at h1526q
      clear hb_
      refine wp_else h1526q rfl ?_
      refine wp_skip ?_
      refine wp_seq ?_
      refine WL.start ?_
      refine WL.block (c := 2) (m' := 2) h1526q rfl [(2, .int .i64 p0), (7, .int .i64 p0)] (by kernel_rfl) (fun a1530q h1531q => ?_)
      clear h1526q a1525q
      refine WL.done (by kernel_rfl) ?_
      refine wp_ret ?_
      obtain rfl := Option.some.inj H
      repeat (first | refine then_ret ?_ | refine inBlock_ret ?_ | refine inBlock_go ?_)
      refine body_ret (v := .int .i64 p0) h1531q (by kernel_rfl) (by kernel_rfl) ?_
      exact ⟨rfl, hS⟩

structure S28 where
  f0 : Int
  f1 : Int
  f2 : Int
  f3 : Int
  deriving DecidableEq
def z28 : S28 := ⟨(0 : Int), (0 : Int), (0 : Int), (0 : Int)⟩
def k28 : Kd S28 := kIso (kPair (kInt .i64) (kPair (kInt .i64) (kPair (kInt .i64) (kInt .i64)))) (fun x : S28 => (x.f0, (x.f1, (x.f2, x.f3))))
theorem k28qflat : k28.Flat := kIso_flat (kPair_flat (kInt_flat _) (kPair_flat (kInt_flat _) (kPair_flat (kInt_flat _) (kInt_flat _))))
theorem k28qrd {b : Nat} {w0 : World} {R : Frag} {x : S28} {cs : List Value} (h : k28.rd b w0 R x cs) : cs = [.int .i64 x.f0, .int .i64 x.f1, .int .i64 x.f2, .int .i64 x.f3] := by
  obtain ⟨c1532q, c1533q, rfl, h1534q, h1535q⟩ := h
  obtain ⟨c1536q, c1537q, rfl, h1538q, h1539q⟩ := h1535q
  obtain ⟨c1540q, c1541q, rfl, h1542q, h1543q⟩ := h1539q
  obtain rfl := h1534q
  obtain rfl := h1538q
  obtain rfl := h1542q
  obtain rfl := h1543q
  exact rfl
theorem k28qrep {b : Nat} {w0 : World} {R : Frag} {x : S28} {cs : List Value} {M : Frag} (h : k28.rep b w0 R x cs M) : cs = [.int .i64 x.f0, .int .i64 x.f1, .int .i64 x.f2, .int .i64 x.f3] ∧ M = [] := by
  obtain ⟨c1544q, c1545q, M1548q, M1549q, rfl, rfl, h1546q, h1547q⟩ := h
  obtain ⟨c1550q, c1551q, M1554q, M1555q, rfl, rfl, h1552q, h1553q⟩ := h1547q
  obtain ⟨c1556q, c1557q, M1560q, M1561q, rfl, rfl, h1558q, h1559q⟩ := h1553q
  obtain ⟨rfl, rfl⟩ := h1546q
  obtain ⟨rfl, rfl⟩ := h1552q
  obtain ⟨rfl, rfl⟩ := h1558q
  obtain ⟨rfl, rfl⟩ := h1559q
  exact ⟨rfl, by simp⟩
theorem k28qmk {b : Nat} {w0 : World} {R : Frag} {x : S28}  : ∃ M, k28.rep b w0 R x [.int .i64 x.f0, .int .i64 x.f1, .int .i64 x.f2, .int .i64 x.f3] M ∧ M = [] := ⟨_, ⟨_, _, _, _, rfl, rfl, ⟨rfl, rfl⟩, ⟨_, _, _, _, rfl, rfl, ⟨rfl, rfl⟩, ⟨_, _, _, _, rfl, rfl, ⟨rfl, rfl⟩, ⟨rfl, rfl⟩⟩⟩⟩, by simp⟩
/-! ### louver/louverref10.Of -/
def louverref10qOf.f (p0 : Int) : Option (S28) := bnd1 (louverref10qbetween.f (IntKind.i64.wrap p0)) fun r1594q => (some (⟨r1594q, r1594q, 0, 0⟩ : S28))
set_option maxHeartbeats 2000000 in
set_option maxRecDepth 100000 in
theorem louverref10qOf.calls {b : Nat} {w0 W : World} {R : Frag} {Fs : List Frag} {p0 : Int}  {r0q : S28}  (H : louverref10qOf.f p0 = some r0q) (hS : St b w0 W R (Fs)) :
    Calls Try.prog 11 ([.int .u32 p0] : List Value).toArray W (fun e W' => e = .returned (.agg #[.int .i64 r0q.f0, .int .i64 r0q.f1, .int .i64 r0q.f2, .int .i64 r0q.f3]) ∧ St b w0 W' R (Fs)) := by
  unfold louverref10qOf.f at H
  refine calls_enter Try.func11 rfl 10 rfl (by kernel_rfl) (fun a h => ?_)
  refine wp_seq ?_
  refine WL.start ?_
  refine WL.op' (m := 0) h rfl rfl ?_
  refine owp_new (fun g_ => .pointer (some ⟨g_, 0, none⟩)) (.cells ([.int .i64 0, .int .i64 0, .int .i64 0, .int .i64 0] : List Value).toArray 28 (0, 0)) h rfl (by kernel_rfl) (by kernel_rfl) hS (fun a1586q W1588q g1589q h1587q hS1590q => ?_)
  refine WL.done (by kernel_rfl) ?_
  refine wp_seq ?_
  refine WL.start ?_
  refine WL.block (c := 2) (m' := 2) h1587q rfl [(5, .int .i64 (IntKind.i64.wrap p0)), (4, .int .u32 p0)] (by kernel_rfl) (fun a1591q h1592q => ?_)
  clear h1587q a1586q
  obtain ⟨r1594q, A1593q, H⟩ := bind1 H
  refine WL.op' (m := 2) h1592q rfl rfl ?_
  refine owp_call [.int .i64 (IntKind.i64.wrap p0)] h1592q rfl (by kernel_rfl) rfl Try.func26 (by kernel_rfl) rfl (by kernel_rfl) (louverref10qbetween.calls  A1593q hS1590q) (fun e1596q W1595q hp1597q => ?_)
  obtain ⟨rfl, hS1600q⟩ := hp1597q
  refine ⟨_, rfl, fun a1598q h1599q => ?_⟩
  clear h1592q a1591q
  refine WL.block (c := 1) (m' := 4) h1599q rfl [(3, .int .i64 r1594q)] (by kernel_rfl) (fun a1601q h1602q => ?_)
  clear h1599q a1598q
  refine WL.done (by kernel_rfl) ?_
  refine wp_seq ?_
  refine WL.start ?_
  refine WL.block (c := 3) (m' := 3) h1602q rfl [(9, .agg #[.int .i64 r1594q, .int .i64 r1594q, .int .i64 0, .int .i64 0]), (8, .int .i64 r1594q), (7, .int .i64 r1594q)] (by kernel_rfl) (fun a1603q h1604q => ?_)
  clear h1602q a1601q
  refine WL.op' (m := 3) h1604q rfl rfl ?_
  refine owp_store (i := 0) (vs := ([.int .i64 r1594q, .int .i64 r1594q, .int .i64 0, .int .i64 0] : List Value)) h1604q rfl (by kernel_rfl) rfl rfl rfl rfl (by simp [Value.oneCell']) (by kernel_rfl) hS1600q (by simp) (cs' := ([.int .i64 r1594q, .int .i64 r1594q, .int .i64 0, .int .i64 0] : List Value)) rfl (fun a1605q W1607q h1606q hS1608q => ?_)
  clear h1604q a1603q
  refine WL.done (by kernel_rfl) ?_
  refine wp_ret ?_
  have hS1609q : St b w0 W1607q R (Fs) := hS1608q.drop_
  obtain rfl := Option.some.inj H
  repeat (first | refine then_ret ?_ | refine inBlock_ret ?_ | refine inBlock_go ?_)
  refine body_ret (v := .agg #[.int .i64 r1594q, .int .i64 r1594q, .int .i64 0, .int .i64 0]) h1606q (by kernel_rfl) (res_one rfl ⟨_, rfl, loadVarN Try.underlying28 rfl (cs := ([.int .i64 r1594q, .int .i64 r1594q, .int .i64 0, .int .i64 0] : List Value)) (by kernel_rfl) (hS1608q.cells (vs := ([.int .i64 r1594q, .int .i64 r1594q, .int .i64 0, .int .i64 0] : List Value)) rfl)⟩) ?_
  exact ⟨rfl, hS1609q⟩

/-! ### (louver/louverref10.M).Come -/
def louverref10qM_Come.f (p0 : S28) (p1 : Int) : Option (S28 × Bool) := if (mxI 0 p1) > p0.f1 then (some ((⟨p0.f0, p0.f1, p0.f2, p0.f3⟩ : S28), false)) else (some ((⟨p0.f0, IntKind.i64.wrap (p0.f1 - (mxI 0 p1)), IntKind.i64.wrap (p0.f2 + (mxI 0 p1)), p0.f3⟩ : S28), true))
set_option maxHeartbeats 2000000 in
set_option maxRecDepth 100000 in
theorem louverref10qM_Come.calls {b : Nat} {w0 W : World} {R : Frag} {Fs : List Frag} {p0 : S28} {p1 : Int}  {r0q : S28} {r1q : Bool}  (H : louverref10qM_Come.f p0 p1 = some (r0q, r1q)) (hS : St b w0 W R (Fs)) :
    Calls Try.prog 12 ([.agg #[.int .i64 p0.f0, .int .i64 p0.f1, .int .i64 p0.f2, .int .i64 p0.f3], .int .i64 p1] : List Value).toArray W (fun e W' => e = .returned (.tuple #[.agg #[.int .i64 r0q.f0, .int .i64 r0q.f1, .int .i64 r0q.f2, .int .i64 r0q.f3], .bool r1q]) ∧ St b w0 W' R (Fs)) := by
  unfold louverref10qM_Come.f at H
  refine calls_enter Try.func12 rfl 25 rfl (by kernel_rfl) (fun a h => ?_)
  refine wp_seq ?_
  refine WL.start ?_
  refine WL.op' (m := 0) h rfl rfl ?_
  refine owp_new (fun g_ => .pointer (some ⟨g_, 0, none⟩)) (.cells ([.int .i64 p0.f0, .int .i64 p0.f1, .int .i64 p0.f2, .int .i64 p0.f3] : List Value).toArray 28 (0, 0)) h rfl (by kernel_rfl) (by kernel_rfl) hS (fun a1674q W1676q g1677q h1675q hS1678q => ?_)
  refine WL.op' (m := 1) h1675q rfl rfl ?_
  refine owp_new (fun g_ => .pointer (some ⟨g_, 0, none⟩)) (.cells ([.int .i64 0, .int .i64 0, .int .i64 0, .int .i64 0] : List Value).toArray 28 (0, 0)) h1675q rfl (by kernel_rfl) (by kernel_rfl) hS1678q (fun a1679q W1681q g1682q h1680q hS1683q => ?_)
  clear h1675q a1674q
  refine WL.block (c := 1) (m' := 3) h1680q rfl [(5, .bool false)] (by kernel_rfl) (fun a1684q h1685q => ?_)
  clear h1680q a1679q
  refine WL.done (by kernel_rfl) ?_
  refine wp_seq ?_
  refine WL.start ?_
  refine WL.block (c := 3) (m' := 3) h1685q rfl [(6, .int .i64 (mxI 0 p1)), (8, .int .i64 (mxI 0 p1)), (7, .int .i64 p1)] (by kernel_rfl) (fun a1686q h1687q => ?_)
  clear h1685q a1684q
  refine WL.done (by kernel_rfl) ?_
  refine wp_seq ?_
  refine wp_seq ?_
  refine WL.start ?_
  refine WL.block (c := 2) (m' := 2) h1687q rfl [(10, .pointer (some ⟨g1677q, 1, none⟩)), (9, .int .i64 (mxI 0 p1))] (by kernel_rfl) (fun a1688q h1689q => ?_)
  clear h1687q a1686q
  have hS1690q : St b w0 W1681q R ([(g1677q, .cells ([.int .i64 p0.f0, .int .i64 p0.f1, .int .i64 p0.f2, .int .i64 p0.f3] : List Value).toArray 28 (0, 0))] :: [(g1682q, .cells ([.int .i64 0, .int .i64 0, .int .i64 0, .int .i64 0] : List Value).toArray 28 (0, 0))] :: Fs) := hS1683q.bring 1 rfl rfl
  refine WL.op' (m := 2) h1689q rfl rfl ?_
  refine owp_run (v := .int .i64 p0.f1) h1689q rfl (by kernel_rfl) (run_load1 rfl rfl Try.underlying2 rfl (hS1690q.cell (i := 1) rfl)) (fun a1691q h1692q => ?_)
  clear h1689q a1688q
  refine WL.block (c := 1) (m' := 4) h1692q rfl [(12, .bool (decide ((mxI 0 p1) > p0.f1)))] (by kernel_rfl) (fun a1693q h1694q => ?_)
  clear h1692q a1691q
  refine WL.done (by kernel_rfl) ?_
  by_cases c1695q : (mxI 0 p1) > p0.f1
  · rw [if_pos c1695q] at H
    have hb_ : (decide ((mxI 0 p1) > p0.f1)) = true := decide_eq_true c1695q
    try rw [hb_] at h1694q
    clear hb_
    refine wp_then h1694q rfl ?_
    refine wp_seq ?_
    refine WL.start ?_
    refine WL.op' (m := 0) h1694q rfl rfl ?_
    refine owp_run (v := .agg #[.int .i64 p0.f0, .int .i64 p0.f1, .int .i64 p0.f2, .int .i64 p0.f3]) h1694q rfl (by kernel_rfl) (run_loadN rfl rfl Try.underlying28 rfl (cs := ([.int .i64 p0.f0, .int .i64 p0.f1, .int .i64 p0.f2, .int .i64 p0.f3] : List Value)) (by kernel_rfl) (hS1690q.cells (vs := ([.int .i64 p0.f0, .int .i64 p0.f1, .int .i64 p0.f2, .int .i64 p0.f3] : List Value)) rfl)) (fun a1696q h1697q => ?_)
    clear h1694q a1693q
    have hS1698q : St b w0 W1681q R ([(g1682q, .cells ([.int .i64 0, .int .i64 0, .int .i64 0, .int .i64 0] : List Value).toArray 28 (0, 0))] :: [(g1677q, .cells ([.int .i64 p0.f0, .int .i64 p0.f1, .int .i64 p0.f2, .int .i64 p0.f3] : List Value).toArray 28 (0, 0))] :: Fs) := hS1690q.bring 1 rfl rfl
    refine WL.op' (m := 1) h1697q rfl rfl ?_
    refine owp_store (i := 0) (vs := ([.int .i64 p0.f0, .int .i64 p0.f1, .int .i64 p0.f2, .int .i64 p0.f3] : List Value)) h1697q rfl (by kernel_rfl) rfl rfl rfl rfl (by simp [Value.oneCell']) (by kernel_rfl) hS1698q (by simp) (cs' := ([.int .i64 p0.f0, .int .i64 p0.f1, .int .i64 p0.f2, .int .i64 p0.f3] : List Value)) rfl (fun a1699q W1701q h1700q hS1702q => ?_)
    clear h1697q a1696q
    refine WL.block (c := 1) (m' := 3) h1700q rfl [(5, .bool false)] (by kernel_rfl) (fun a1703q h1704q => ?_)
    clear h1700q a1699q
    refine WL.done (by kernel_rfl) ?_
    refine wp_ret ?_
    have hS1705q : St b w0 W1701q R ([(g1677q, .cells ([.int .i64 p0.f0, .int .i64 p0.f1, .int .i64 p0.f2, .int .i64 p0.f3] : List Value).toArray 28 (0, 0))] :: Fs) := hS1702q.drop_
    have hS1706q : St b w0 W1701q R (Fs) := hS1705q.drop_
    obtain ⟨rfl, rfl⟩ := ret2 H
    repeat (first | refine then_ret ?_ | refine inBlock_ret ?_ | refine inBlock_go ?_)
    refine body_ret (v := .tuple #[.agg #[.int .i64 p0.f0, .int .i64 p0.f1, .int .i64 p0.f2, .int .i64 p0.f3], .bool false]) h1704q (by kernel_rfl) (res_many (xs := [ResultVar.cell 4 28, ResultVar.tmp 5]) rfl ⟨⟨_, rfl, loadVarN Try.underlying28 rfl (cs := ([.int .i64 p0.f0, .int .i64 p0.f1, .int .i64 p0.f2, .int .i64 p0.f3] : List Value)) (by kernel_rfl) (hS1702q.cells (vs := ([.int .i64 p0.f0, .int .i64 p0.f1, .int .i64 p0.f2, .int .i64 p0.f3] : List Value)) rfl)⟩, rfl, trivial⟩ rfl) ?_
    exact ⟨rfl, hS1706q⟩
  · rw [if_neg c1695q] at H
    have hb_ : (decide ((mxI 0 p1) > p0.f1)) = false := decide_eq_false c1695q
    try rw [hb_] at h1694q
    clear hb_
    refine wp_else h1694q rfl ?_
    refine wp_skip ?_
    refine wp_seq ?_
    refine WL.start ?_
    refine WL.block (c := 1) (m' := 1) h1694q rfl [(14, .pointer (some ⟨g1677q, 1, none⟩))] (by kernel_rfl) (fun a1707q h1708q => ?_)
    clear h1694q a1693q
    refine WL.op' (m := 1) h1708q rfl rfl ?_
    refine owp_run (v := .int .i64 p0.f1) h1708q rfl (by kernel_rfl) (run_load1 rfl rfl Try.underlying2 rfl (hS1690q.cell (i := 1) rfl)) (fun a1709q h1710q => ?_)
    clear h1708q a1707q
    refine WL.block (c := 3) (m' := 5) h1710q rfl [(18, .pointer (some ⟨g1677q, 1, none⟩)), (17, .int .i64 (IntKind.i64.wrap (p0.f1 - (mxI 0 p1)))), (16, .int .i64 (mxI 0 p1))] (by kernel_rfl) (fun a1711q h1712q => ?_)
    clear h1710q a1709q
    refine WL.op' (m := 5) h1712q rfl rfl ?_
    refine owp_store (i := 1) (vs := ([.int .i64 (IntKind.i64.wrap (p0.f1 - (mxI 0 p1)))] : List Value)) h1712q rfl (by kernel_rfl) rfl rfl rfl rfl (by simp [Value.oneCell']) (by kernel_rfl) hS1690q (by simp) (cs' := ([.int .i64 p0.f0, .int .i64 (IntKind.i64.wrap (p0.f1 - (mxI 0 p1))), .int .i64 p0.f2, .int .i64 p0.f3] : List Value)) rfl (fun a1713q W1715q h1714q hS1716q => ?_)
    clear h1712q a1711q
    refine WL.done (by kernel_rfl) ?_
    refine wp_seq ?_
    refine WL.start ?_
    refine WL.block (c := 1) (m' := 1) h1714q rfl [(19, .pointer (some ⟨g1677q, 2, none⟩))] (by kernel_rfl) (fun a1717q h1718q => ?_)
    clear h1714q a1713q
    refine WL.op' (m := 1) h1718q rfl rfl ?_
    refine owp_run (v := .int .i64 p0.f2) h1718q rfl (by kernel_rfl) (run_load1 rfl rfl Try.underlying2 rfl (hS1716q.cell (i := 2) rfl)) (fun a1719q h1720q => ?_)
    clear h1718q a1717q
    refine WL.block (c := 3) (m' := 5) h1720q rfl [(23, .pointer (some ⟨g1677q, 2, none⟩)), (22, .int .i64 (IntKind.i64.wrap (p0.f2 + (mxI 0 p1)))), (21, .int .i64 (mxI 0 p1))] (by kernel_rfl) (fun a1721q h1722q => ?_)
    clear h1720q a1719q
    refine WL.op' (m := 5) h1722q rfl rfl ?_
    refine owp_store (i := 2) (vs := ([.int .i64 (IntKind.i64.wrap (p0.f2 + (mxI 0 p1)))] : List Value)) h1722q rfl (by kernel_rfl) rfl rfl rfl rfl (by simp [Value.oneCell']) (by kernel_rfl) hS1716q (by simp) (cs' := ([.int .i64 p0.f0, .int .i64 (IntKind.i64.wrap (p0.f1 - (mxI 0 p1))), .int .i64 (IntKind.i64.wrap (p0.f2 + (mxI 0 p1))), .int .i64 p0.f3] : List Value)) rfl (fun a1723q W1725q h1724q hS1726q => ?_)
    clear h1722q a1721q
    refine WL.done (by kernel_rfl) ?_
    refine wp_seq ?_
    refine WL.start ?_
    refine WL.op' (m := 0) h1724q rfl rfl ?_
    refine owp_run (v := .agg #[.int .i64 p0.f0, .int .i64 (IntKind.i64.wrap (p0.f1 - (mxI 0 p1))), .int .i64 (IntKind.i64.wrap (p0.f2 + (mxI 0 p1))), .int .i64 p0.f3]) h1724q rfl (by kernel_rfl) (run_loadN rfl rfl Try.underlying28 rfl (cs := ([.int .i64 p0.f0, .int .i64 (IntKind.i64.wrap (p0.f1 - (mxI 0 p1))), .int .i64 (IntKind.i64.wrap (p0.f2 + (mxI 0 p1))), .int .i64 p0.f3] : List Value)) (by kernel_rfl) (hS1726q.cells (vs := ([.int .i64 p0.f0, .int .i64 (IntKind.i64.wrap (p0.f1 - (mxI 0 p1))), .int .i64 (IntKind.i64.wrap (p0.f2 + (mxI 0 p1))), .int .i64 p0.f3] : List Value)) rfl)) (fun a1727q h1728q => ?_)
    clear h1724q a1723q
    have hS1729q : St b w0 W1725q R ([(g1682q, .cells ([.int .i64 0, .int .i64 0, .int .i64 0, .int .i64 0] : List Value).toArray 28 (0, 0))] :: [(g1677q, .cells ([.int .i64 p0.f0, .int .i64 (IntKind.i64.wrap (p0.f1 - (mxI 0 p1))), .int .i64 (IntKind.i64.wrap (p0.f2 + (mxI 0 p1))), .int .i64 p0.f3] : List Value).toArray 28 (0, 0))] :: Fs) := hS1726q.bring 1 rfl rfl
    refine WL.op' (m := 1) h1728q rfl rfl ?_
    refine owp_store (i := 0) (vs := ([.int .i64 p0.f0, .int .i64 (IntKind.i64.wrap (p0.f1 - (mxI 0 p1))), .int .i64 (IntKind.i64.wrap (p0.f2 + (mxI 0 p1))), .int .i64 p0.f3] : List Value)) h1728q rfl (by kernel_rfl) rfl rfl rfl rfl (by simp [Value.oneCell']) (by kernel_rfl) hS1729q (by simp) (cs' := ([.int .i64 p0.f0, .int .i64 (IntKind.i64.wrap (p0.f1 - (mxI 0 p1))), .int .i64 (IntKind.i64.wrap (p0.f2 + (mxI 0 p1))), .int .i64 p0.f3] : List Value)) rfl (fun a1730q W1732q h1731q hS1733q => ?_)
    clear h1728q a1727q
    refine WL.block (c := 1) (m' := 3) h1731q rfl [(5, .bool true)] (by kernel_rfl) (fun a1734q h1735q => ?_)
    clear h1731q a1730q
    refine WL.done (by kernel_rfl) ?_
    refine wp_ret ?_
    have hS1736q : St b w0 W1732q R ([(g1677q, .cells ([.int .i64 p0.f0, .int .i64 (IntKind.i64.wrap (p0.f1 - (mxI 0 p1))), .int .i64 (IntKind.i64.wrap (p0.f2 + (mxI 0 p1))), .int .i64 p0.f3] : List Value).toArray 28 (0, 0))] :: Fs) := hS1733q.drop_
    have hS1737q : St b w0 W1732q R (Fs) := hS1736q.drop_
    obtain ⟨rfl, rfl⟩ := ret2 H
    repeat (first | refine then_ret ?_ | refine inBlock_ret ?_ | refine inBlock_go ?_)
    refine body_ret (v := .tuple #[.agg #[.int .i64 p0.f0, .int .i64 (IntKind.i64.wrap (p0.f1 - (mxI 0 p1))), .int .i64 (IntKind.i64.wrap (p0.f2 + (mxI 0 p1))), .int .i64 p0.f3], .bool true]) h1735q (by kernel_rfl) (res_many (xs := [ResultVar.cell 4 28, ResultVar.tmp 5]) rfl ⟨⟨_, rfl, loadVarN Try.underlying28 rfl (cs := ([.int .i64 p0.f0, .int .i64 (IntKind.i64.wrap (p0.f1 - (mxI 0 p1))), .int .i64 (IntKind.i64.wrap (p0.f2 + (mxI 0 p1))), .int .i64 p0.f3] : List Value)) (by kernel_rfl) (hS1733q.cells (vs := ([.int .i64 p0.f0, .int .i64 (IntKind.i64.wrap (p0.f1 - (mxI 0 p1))), .int .i64 (IntKind.i64.wrap (p0.f2 + (mxI 0 p1))), .int .i64 p0.f3] : List Value)) rfl)⟩, rfl, trivial⟩ rfl) ?_
    exact ⟨rfl, hS1737q⟩

/-! ### (louver/louverref10.M).Use -/
def louverref10qM_Use.j0 : Nat → Int → S28 → Option (S28 × Int)
  | 0, _, _ => none
  | k + 1, x2095q, p0 => if (IntKind.i64.wrap (p0.f3 + x2095q)) > 0 then (if (IntKind.i64.wrap (2 * (IntKind.i64.wrap (p0.f3 + x2095q)))) ≥ p0.f0 then (some ((⟨p0.f0, IntKind.i64.wrap (p0.f1 + (IntKind.i64.wrap (p0.f3 + x2095q))), IntKind.i64.wrap (p0.f2 - x2095q), 0⟩ : S28), IntKind.i64.wrap (p0.f3 + x2095q))) else (some ((⟨p0.f0, p0.f1, IntKind.i64.wrap (p0.f2 - x2095q), IntKind.i64.wrap (p0.f3 + x2095q)⟩ : S28), 0))) else (some ((⟨p0.f0, p0.f1, IntKind.i64.wrap (p0.f2 - x2095q), IntKind.i64.wrap (p0.f3 + x2095q)⟩ : S28), 0))
def louverref10qM_Use.f (k : Nat) (p0 : S28) (p1 : Int) : Option (S28 × Int) := if (mxI 0 p1) > p0.f2 then (louverref10qM_Use.j0 k p0.f2 p0) else (louverref10qM_Use.j0 k (mxI 0 p1) p0)
set_option maxHeartbeats 2000000 in
set_option maxRecDepth 100000 in
theorem louverref10qM_Use.calls (k : Nat) {b : Nat} {w0 W : World} {R : Frag} {Fs : List Frag} {p0 : S28} {p1 : Int}  {r0q : S28} {r1q : Int}  (H : louverref10qM_Use.f k p0 p1 = some (r0q, r1q)) (hS : St b w0 W R (Fs)) :
    Calls Try.prog 14 ([.agg #[.int .i64 p0.f0, .int .i64 p0.f1, .int .i64 p0.f2, .int .i64 p0.f3], .int .i64 p1] : List Value).toArray W (fun e W' => e = .returned (.tuple #[.agg #[.int .i64 r0q.f0, .int .i64 r0q.f1, .int .i64 r0q.f2, .int .i64 r0q.f3], .int .i64 r1q]) ∧ St b w0 W' R (Fs)) := by
  unfold louverref10qM_Use.f at H
  refine calls_enter Try.func14 rfl 47 rfl (by kernel_rfl) (fun a h => ?_)
  refine wp_seq ?_
  refine WL.start ?_
  refine WL.op' (m := 0) h rfl rfl ?_
  refine owp_new (fun g_ => .pointer (some ⟨g_, 0, none⟩)) (.cells ([.int .i64 p0.f0, .int .i64 p0.f1, .int .i64 p0.f2, .int .i64 p0.f3] : List Value).toArray 28 (0, 0)) h rfl (by kernel_rfl) (by kernel_rfl) hS (fun a2062q W2064q g2065q h2063q hS2066q => ?_)
  refine WL.op' (m := 1) h2063q rfl rfl ?_
  refine owp_new (fun g_ => .pointer (some ⟨g_, 0, none⟩)) (.cells ([.int .i64 0, .int .i64 0, .int .i64 0, .int .i64 0] : List Value).toArray 28 (0, 0)) h2063q rfl (by kernel_rfl) (by kernel_rfl) hS2066q (fun a2067q W2069q g2070q h2068q hS2071q => ?_)
  clear h2063q a2062q
  refine WL.block (c := 1) (m' := 3) h2068q rfl [(5, .int .i64 0)] (by kernel_rfl) (fun a2072q h2073q => ?_)
  clear h2068q a2067q
  refine WL.done (by kernel_rfl) ?_
  refine wp_seq ?_
  refine WL.start ?_
  refine WL.block (c := 3) (m' := 3) h2073q rfl [(6, .int .i64 (mxI 0 p1)), (9, .int .i64 (mxI 0 p1)), (8, .int .i64 p1)] (by kernel_rfl) (fun a2074q h2075q => ?_)
  clear h2073q a2072q
  refine WL.done (by kernel_rfl) ?_
  refine wp_seq ?_
  refine wp_seq ?_
  refine WL.start ?_
  refine WL.block (c := 2) (m' := 2) h2075q rfl [(11, .pointer (some ⟨g2065q, 2, none⟩)), (10, .int .i64 (mxI 0 p1))] (by kernel_rfl) (fun a2076q h2077q => ?_)
  clear h2075q a2074q
  have hS2078q : St b w0 W2069q R ([(g2065q, .cells ([.int .i64 p0.f0, .int .i64 p0.f1, .int .i64 p0.f2, .int .i64 p0.f3] : List Value).toArray 28 (0, 0))] :: [(g2070q, .cells ([.int .i64 0, .int .i64 0, .int .i64 0, .int .i64 0] : List Value).toArray 28 (0, 0))] :: Fs) := hS2071q.bring 1 rfl rfl
  refine WL.op' (m := 2) h2077q rfl rfl ?_
  refine owp_run (v := .int .i64 p0.f2) h2077q rfl (by kernel_rfl) (run_load1 rfl rfl Try.underlying2 rfl (hS2078q.cell (i := 2) rfl)) (fun a2079q h2080q => ?_)
  clear h2077q a2076q
  refine WL.block (c := 1) (m' := 4) h2080q rfl [(13, .bool (decide ((mxI 0 p1) > p0.f2)))] (by kernel_rfl) (fun a2081q h2082q => ?_)
  clear h2080q a2079q
  refine WL.done (by kernel_rfl) ?_
  refine wp_meet (I := fun a_ W_ => ∃ kq_, ∃ (x2095q : Int), Hd a_ 47 [(2, .pointer (some ⟨g2065q, 0, none⟩)), (4, .pointer (some ⟨g2070q, 0, none⟩)), (6, .int .i64 x2095q)] ∧ Asd (louverref10qM_Use.j0 kq_ x2095q p0 = some (r0q, r1q)) ∧ Asd (kq_ ≤ k) ∧ Asd (St b w0 W_ R ([(g2065q, .cells ([.int .i64 p0.f0, .int .i64 p0.f1, .int .i64 p0.f2, .int .i64 p0.f3] : List Value).toArray 28 (0, 0))] :: [(g2070q, .cells ([.int .i64 0, .int .i64 0, .int .i64 0, .int .i64 0] : List Value).toArray 28 (0, 0))] :: Fs))) ?_ ?_
  · by_cases c2096q : (mxI 0 p1) > p0.f2
    · rw [if_pos c2096q] at H
      have hb_ : (decide ((mxI 0 p1) > p0.f2)) = true := decide_eq_true c2096q
      try rw [hb_] at h2082q
      clear hb_
      refine wp_then h2082q rfl ?_
      refine WL.start ?_
      refine WL.block (c := 1) (m' := 1) h2082q rfl [(14, .pointer (some ⟨g2065q, 2, none⟩))] (by kernel_rfl) (fun a2097q h2098q => ?_)
      clear h2082q a2081q
      refine WL.op' (m := 1) h2098q rfl rfl ?_
      refine owp_run (v := .int .i64 p0.f2) h2098q rfl (by kernel_rfl) (run_load1 rfl rfl Try.underlying2 rfl (hS2078q.cell (i := 2) rfl)) (fun a2099q h2100q => ?_)
      clear h2098q a2097q
      refine WL.block (c := 1) (m' := 3) h2100q rfl [(6, .int .i64 p0.f2)] (by kernel_rfl) (fun a2101q h2102q => ?_)
      clear h2100q a2099q
      refine WL.done (by kernel_rfl) ?_
      exact ⟨k, p0.f2, h2102q.keep ⟨rfl, rfl, rfl, trivial⟩, ⟨H⟩, ⟨Nat.le_refl _⟩, ⟨hS2078q⟩⟩
    · rw [if_neg c2096q] at H
      have hb_ : (decide ((mxI 0 p1) > p0.f2)) = false := decide_eq_false c2096q
      try rw [hb_] at h2082q
      clear hb_
      refine wp_else h2082q rfl ?_
      refine wp_skip ?_
      exact ⟨k, mxI 0 p1, h2082q.keep ⟨rfl, rfl, rfl, trivial⟩, ⟨H⟩, ⟨Nat.le_refl _⟩, ⟨hS2078q⟩⟩
  · clear H hS2078q
    rintro a2091q W2092q ⟨k2094q, x2095q, h2090q, ⟨H⟩, ⟨hkk2094q⟩, ⟨hS2093q⟩⟩
    obtain _ | k2103q := k2094q
    · exact absurd H (by simp [louverref10qM_Use.j0])
    simp only [louverref10qM_Use.j0] at H
    refine wp_seq ?_
    refine WL.start ?_
    refine WL.block (c := 1) (m' := 1) h2090q rfl [(16, .pointer (some ⟨g2065q, 2, none⟩))] (by kernel_rfl) (fun a2104q h2105q => ?_)
    clear h2090q a2091q
    refine WL.op' (m := 1) h2105q rfl rfl ?_
    refine owp_run (v := .int .i64 p0.f2) h2105q rfl (by kernel_rfl) (run_load1 rfl rfl Try.underlying2 rfl (hS2093q.cell (i := 2) rfl)) (fun a2106q h2107q => ?_)
    clear h2105q a2104q
    refine WL.block (c := 3) (m' := 5) h2107q rfl [(20, .pointer (some ⟨g2065q, 2, none⟩)), (19, .int .i64 (IntKind.i64.wrap (p0.f2 - x2095q))), (18, .int .i64 x2095q)] (by kernel_rfl) (fun a2108q h2109q => ?_)
    clear h2107q a2106q
    refine WL.op' (m := 5) h2109q rfl rfl ?_
    refine owp_store (i := 2) (vs := ([.int .i64 (IntKind.i64.wrap (p0.f2 - x2095q))] : List Value)) h2109q rfl (by kernel_rfl) rfl rfl rfl rfl (by simp [Value.oneCell']) (by kernel_rfl) hS2093q (by simp) (cs' := ([.int .i64 p0.f0, .int .i64 p0.f1, .int .i64 (IntKind.i64.wrap (p0.f2 - x2095q)), .int .i64 p0.f3] : List Value)) rfl (fun a2110q W2112q h2111q hS2113q => ?_)
    clear h2109q a2108q
    refine WL.done (by kernel_rfl) ?_
    refine wp_seq ?_
    refine WL.start ?_
    refine WL.block (c := 1) (m' := 1) h2111q rfl [(21, .pointer (some ⟨g2065q, 3, none⟩))] (by kernel_rfl) (fun a2114q h2115q => ?_)
    clear h2111q a2110q
    refine WL.op' (m := 1) h2115q rfl rfl ?_
    refine owp_run (v := .int .i64 p0.f3) h2115q rfl (by kernel_rfl) (run_load1 rfl rfl Try.underlying2 rfl (hS2113q.cell (i := 3) rfl)) (fun a2116q h2117q => ?_)
    clear h2115q a2114q
    refine WL.block (c := 3) (m' := 5) h2117q rfl [(25, .pointer (some ⟨g2065q, 3, none⟩)), (24, .int .i64 (IntKind.i64.wrap (p0.f3 + x2095q))), (23, .int .i64 x2095q)] (by kernel_rfl) (fun a2118q h2119q => ?_)
    clear h2117q a2116q
    refine WL.op' (m := 5) h2119q rfl rfl ?_
    refine owp_store (i := 3) (vs := ([.int .i64 (IntKind.i64.wrap (p0.f3 + x2095q))] : List Value)) h2119q rfl (by kernel_rfl) rfl rfl rfl rfl (by simp [Value.oneCell']) (by kernel_rfl) hS2113q (by simp) (cs' := ([.int .i64 p0.f0, .int .i64 p0.f1, .int .i64 (IntKind.i64.wrap (p0.f2 - x2095q)), .int .i64 (IntKind.i64.wrap (p0.f3 + x2095q))] : List Value)) rfl (fun a2120q W2122q h2121q hS2123q => ?_)
    clear h2119q a2118q
    refine WL.done (by kernel_rfl) ?_
    refine wp_seq ?_
    refine WL.start ?_
    refine WL.block (c := 1) (m' := 1) h2121q rfl [(7, .int .i64 0)] (by kernel_rfl) (fun a2124q h2125q => ?_)
    clear h2121q a2120q
    refine WL.done (by kernel_rfl) ?_
    refine wp_seq ?_
    refine wp_seq ?_
    refine WL.start ?_
    refine WL.block (c := 1) (m' := 1) h2125q rfl [(26, .pointer (some ⟨g2065q, 3, none⟩))] (by kernel_rfl) (fun a2126q h2127q => ?_)
    clear h2125q a2124q
    refine WL.op' (m := 1) h2127q rfl rfl ?_
    refine owp_run (v := .int .i64 (IntKind.i64.wrap (p0.f3 + x2095q))) h2127q rfl (by kernel_rfl) (run_load1 rfl rfl Try.underlying2 rfl (hS2123q.cell (i := 3) rfl)) (fun a2128q h2129q => ?_)
    clear h2127q a2126q
    refine WL.block (c := 2) (m' := 4) h2129q rfl [(29, .bool (decide ((IntKind.i64.wrap (p0.f3 + x2095q)) > 0))), (28, .bool (decide ((IntKind.i64.wrap (p0.f3 + x2095q)) > 0)))] (by kernel_rfl) (fun a2130q h2131q => ?_)
    clear h2129q a2128q
    by_cases c2132q : (IntKind.i64.wrap (p0.f3 + x2095q)) > 0
    · rw [if_pos c2132q] at H
      have hb_ : (decide ((IntKind.i64.wrap (p0.f3 + x2095q)) > 0)) = true := decide_eq_true c2132q
      try rw [hb_] at h2131q
      clear hb_
      refine WL.op' (m := 4) h2131q rfl rfl (owp_run h2131q rfl (by kernel_rfl) (v := .pointer (some ⟨g2065q, 3, none⟩)) (by kernel_rfl) (fun a2133q h2134q => ?_))
      clear h2131q a2130q
      refine WL.op' (m := 5) h2134q rfl rfl ?_
      refine owp_run (v := .int .i64 (IntKind.i64.wrap (p0.f3 + x2095q))) h2134q rfl (by kernel_rfl) (run_load1 rfl rfl Try.underlying2 rfl (hS2123q.cell (i := 3) rfl)) (fun a2135q h2136q => ?_)
      clear h2134q a2133q
      refine WL.op' (m := 6) h2136q rfl rfl (owp_run h2136q rfl (by kernel_rfl) (v := .int .i64 (IntKind.i64.wrap (2 * (IntKind.i64.wrap (p0.f3 + x2095q))))) (by kernel_rfl) (fun a2137q h2138q => ?_))
      clear h2136q a2135q
      refine WL.op' (m := 7) h2138q rfl rfl (owp_run h2138q rfl (by kernel_rfl) (v := .pointer (some ⟨g2065q, 0, none⟩)) (by kernel_rfl) (fun a2139q h2140q => ?_))
      clear h2138q a2137q
      refine WL.op' (m := 8) h2140q rfl rfl ?_
      refine owp_run (v := .int .i64 p0.f0) h2140q rfl (by kernel_rfl) (run_load1 rfl rfl Try.underlying2 rfl (hS2123q.cell (i := 0) rfl)) (fun a2141q h2142q => ?_)
      clear h2140q a2139q
      refine WL.op' (m := 9) h2142q rfl rfl (owp_run h2142q rfl (by kernel_rfl) (v := .bool (decide ((IntKind.i64.wrap (2 * (IntKind.i64.wrap (p0.f3 + x2095q)))) ≥ p0.f0))) (by kernel_rfl) (fun a2143q h2144q => ?_))
      clear h2142q a2141q
      refine WL.block (c := 1) (m' := 11) h2144q rfl [(36, .bool (decide ((IntKind.i64.wrap (2 * (IntKind.i64.wrap (p0.f3 + x2095q)))) ≥ p0.f0)))] (by kernel_rfl) (fun a2145q h2146q => ?_)
      clear h2144q a2143q
      refine WL.done (by kernel_rfl) ?_
      by_cases c2147q : (IntKind.i64.wrap (2 * (IntKind.i64.wrap (p0.f3 + x2095q)))) ≥ p0.f0
      · rw [if_pos c2147q] at H
        have hb_ : (decide ((IntKind.i64.wrap (2 * (IntKind.i64.wrap (p0.f3 + x2095q)))) ≥ p0.f0)) = true := decide_eq_true c2147q
        try rw [hb_] at h2146q
        clear hb_
        refine wp_then h2146q rfl ?_
        refine wp_seq ?_
        refine WL.start ?_
        refine WL.block (c := 1) (m' := 1) h2146q rfl [(37, .pointer (some ⟨g2065q, 3, none⟩))] (by kernel_rfl) (fun a2148q h2149q => ?_)
        clear h2146q a2145q
        refine WL.op' (m := 1) h2149q rfl rfl ?_
        refine owp_run (v := .int .i64 (IntKind.i64.wrap (p0.f3 + x2095q))) h2149q rfl (by kernel_rfl) (run_load1 rfl rfl Try.underlying2 rfl (hS2123q.cell (i := 3) rfl)) (fun a2150q h2151q => ?_)
        clear h2149q a2148q
        refine WL.block (c := 1) (m' := 3) h2151q rfl [(7, .int .i64 (IntKind.i64.wrap (p0.f3 + x2095q)))] (by kernel_rfl) (fun a2152q h2153q => ?_)
        clear h2151q a2150q
        refine WL.done (by kernel_rfl) ?_
        refine wp_seq ?_
        refine WL.start ?_
        refine WL.block (c := 1) (m' := 1) h2153q rfl [(39, .pointer (some ⟨g2065q, 1, none⟩))] (by kernel_rfl) (fun a2154q h2155q => ?_)
        clear h2153q a2152q
        refine WL.op' (m := 1) h2155q rfl rfl ?_
        refine owp_run (v := .int .i64 p0.f1) h2155q rfl (by kernel_rfl) (run_load1 rfl rfl Try.underlying2 rfl (hS2123q.cell (i := 1) rfl)) (fun a2156q h2157q => ?_)
        clear h2155q a2154q
        refine WL.block (c := 3) (m' := 5) h2157q rfl [(43, .pointer (some ⟨g2065q, 1, none⟩)), (42, .int .i64 (IntKind.i64.wrap (p0.f1 + (IntKind.i64.wrap (p0.f3 + x2095q))))), (41, .int .i64 (IntKind.i64.wrap (p0.f3 + x2095q)))] (by kernel_rfl) (fun a2158q h2159q => ?_)
        clear h2157q a2156q
        refine WL.op' (m := 5) h2159q rfl rfl ?_
        refine owp_store (i := 1) (vs := ([.int .i64 (IntKind.i64.wrap (p0.f1 + (IntKind.i64.wrap (p0.f3 + x2095q))))] : List Value)) h2159q rfl (by kernel_rfl) rfl rfl rfl rfl (by simp [Value.oneCell']) (by kernel_rfl) hS2123q (by simp) (cs' := ([.int .i64 p0.f0, .int .i64 (IntKind.i64.wrap (p0.f1 + (IntKind.i64.wrap (p0.f3 + x2095q)))), .int .i64 (IntKind.i64.wrap (p0.f2 - x2095q)), .int .i64 (IntKind.i64.wrap (p0.f3 + x2095q))] : List Value)) rfl (fun a2160q W2162q h2161q hS2163q => ?_)
        clear h2159q a2158q
        refine WL.done (by kernel_rfl) ?_
        refine WL.start ?_
        refine WL.block (c := 1) (m' := 1) h2161q rfl [(44, .pointer (some ⟨g2065q, 3, none⟩))] (by kernel_rfl) (fun a2164q h2165q => ?_)
        clear h2161q a2160q
        refine WL.op' (m := 1) h2165q rfl rfl ?_
        refine owp_store (i := 3) (vs := ([.int .i64 0] : List Value)) h2165q rfl (by kernel_rfl) rfl rfl rfl rfl (by simp [Value.oneCell']) (by kernel_rfl) hS2163q (by simp) (cs' := ([.int .i64 p0.f0, .int .i64 (IntKind.i64.wrap (p0.f1 + (IntKind.i64.wrap (p0.f3 + x2095q)))), .int .i64 (IntKind.i64.wrap (p0.f2 - x2095q)), .int .i64 0] : List Value)) rfl (fun a2166q W2168q h2167q hS2169q => ?_)
        clear h2165q a2164q
        refine WL.done (by kernel_rfl) ?_
        refine wp_seq ?_
        refine WL.start ?_
        refine WL.op' (m := 0) h2167q rfl rfl ?_
        refine owp_run (v := .agg #[.int .i64 p0.f0, .int .i64 (IntKind.i64.wrap (p0.f1 + (IntKind.i64.wrap (p0.f3 + x2095q)))), .int .i64 (IntKind.i64.wrap (p0.f2 - x2095q)), .int .i64 0]) h2167q rfl (by kernel_rfl) (run_loadN rfl rfl Try.underlying28 rfl (cs := ([.int .i64 p0.f0, .int .i64 (IntKind.i64.wrap (p0.f1 + (IntKind.i64.wrap (p0.f3 + x2095q)))), .int .i64 (IntKind.i64.wrap (p0.f2 - x2095q)), .int .i64 0] : List Value)) (by kernel_rfl) (hS2169q.cells (vs := ([.int .i64 p0.f0, .int .i64 (IntKind.i64.wrap (p0.f1 + (IntKind.i64.wrap (p0.f3 + x2095q)))), .int .i64 (IntKind.i64.wrap (p0.f2 - x2095q)), .int .i64 0] : List Value)) rfl)) (fun a2170q h2171q => ?_)
        clear h2167q a2166q
        refine WL.block (c := 1) (m' := 2) h2171q rfl [(46, .int .i64 (IntKind.i64.wrap (p0.f3 + x2095q)))] (by kernel_rfl) (fun a2172q h2173q => ?_)
        clear h2171q a2170q
        have hS2174q : St b w0 W2168q R ([(g2070q, .cells ([.int .i64 0, .int .i64 0, .int .i64 0, .int .i64 0] : List Value).toArray 28 (0, 0))] :: [(g2065q, .cells ([.int .i64 p0.f0, .int .i64 (IntKind.i64.wrap (p0.f1 + (IntKind.i64.wrap (p0.f3 + x2095q)))), .int .i64 (IntKind.i64.wrap (p0.f2 - x2095q)), .int .i64 0] : List Value).toArray 28 (0, 0))] :: Fs) := hS2169q.bring 1 rfl rfl
        refine WL.op' (m := 2) h2173q rfl rfl ?_
        refine owp_store (i := 0) (vs := ([.int .i64 p0.f0, .int .i64 (IntKind.i64.wrap (p0.f1 + (IntKind.i64.wrap (p0.f3 + x2095q)))), .int .i64 (IntKind.i64.wrap (p0.f2 - x2095q)), .int .i64 0] : List Value)) h2173q rfl (by kernel_rfl) rfl rfl rfl rfl (by simp [Value.oneCell']) (by kernel_rfl) hS2174q (by simp) (cs' := ([.int .i64 p0.f0, .int .i64 (IntKind.i64.wrap (p0.f1 + (IntKind.i64.wrap (p0.f3 + x2095q)))), .int .i64 (IntKind.i64.wrap (p0.f2 - x2095q)), .int .i64 0] : List Value)) rfl (fun a2175q W2177q h2176q hS2178q => ?_)
        clear h2173q a2172q
        refine WL.block (c := 1) (m' := 4) h2176q rfl [(5, .int .i64 (IntKind.i64.wrap (p0.f3 + x2095q)))] (by kernel_rfl) (fun a2179q h2180q => ?_)
        clear h2176q a2175q
        refine WL.done (by kernel_rfl) ?_
        refine wp_ret ?_
        have hS2181q : St b w0 W2177q R ([(g2065q, .cells ([.int .i64 p0.f0, .int .i64 (IntKind.i64.wrap (p0.f1 + (IntKind.i64.wrap (p0.f3 + x2095q)))), .int .i64 (IntKind.i64.wrap (p0.f2 - x2095q)), .int .i64 0] : List Value).toArray 28 (0, 0))] :: Fs) := hS2178q.drop_
        have hS2182q : St b w0 W2177q R (Fs) := hS2181q.drop_
        obtain ⟨rfl, rfl⟩ := ret2 H
        repeat (first | refine then_ret ?_ | refine inBlock_ret ?_ | refine inBlock_go ?_)
        refine body_ret (v := .tuple #[.agg #[.int .i64 p0.f0, .int .i64 (IntKind.i64.wrap (p0.f1 + (IntKind.i64.wrap (p0.f3 + x2095q)))), .int .i64 (IntKind.i64.wrap (p0.f2 - x2095q)), .int .i64 0], .int .i64 (IntKind.i64.wrap (p0.f3 + x2095q))]) h2180q (by kernel_rfl) (res_many (xs := [ResultVar.cell 4 28, ResultVar.tmp 5]) rfl ⟨⟨_, rfl, loadVarN Try.underlying28 rfl (cs := ([.int .i64 p0.f0, .int .i64 (IntKind.i64.wrap (p0.f1 + (IntKind.i64.wrap (p0.f3 + x2095q)))), .int .i64 (IntKind.i64.wrap (p0.f2 - x2095q)), .int .i64 0] : List Value)) (by kernel_rfl) (hS2178q.cells (vs := ([.int .i64 p0.f0, .int .i64 (IntKind.i64.wrap (p0.f1 + (IntKind.i64.wrap (p0.f3 + x2095q)))), .int .i64 (IntKind.i64.wrap (p0.f2 - x2095q)), .int .i64 0] : List Value)) rfl)⟩, rfl, trivial⟩ rfl) ?_
        exact ⟨rfl, hS2182q⟩
      · rw [if_neg c2147q] at H
        have hb_ : (decide ((IntKind.i64.wrap (2 * (IntKind.i64.wrap (p0.f3 + x2095q)))) ≥ p0.f0)) = false := decide_eq_false c2147q
        try rw [hb_] at h2146q
        clear hb_
        refine wp_else h2146q rfl ?_
        refine wp_skip ?_
        refine wp_seq ?_
        refine WL.start ?_
        refine WL.op' (m := 0) h2146q rfl rfl ?_
        refine owp_run (v := .agg #[.int .i64 p0.f0, .int .i64 p0.f1, .int .i64 (IntKind.i64.wrap (p0.f2 - x2095q)), .int .i64 (IntKind.i64.wrap (p0.f3 + x2095q))]) h2146q rfl (by kernel_rfl) (run_loadN rfl rfl Try.underlying28 rfl (cs := ([.int .i64 p0.f0, .int .i64 p0.f1, .int .i64 (IntKind.i64.wrap (p0.f2 - x2095q)), .int .i64 (IntKind.i64.wrap (p0.f3 + x2095q))] : List Value)) (by kernel_rfl) (hS2123q.cells (vs := ([.int .i64 p0.f0, .int .i64 p0.f1, .int .i64 (IntKind.i64.wrap (p0.f2 - x2095q)), .int .i64 (IntKind.i64.wrap (p0.f3 + x2095q))] : List Value)) rfl)) (fun a2183q h2184q => ?_)
        clear h2146q a2145q
        refine WL.block (c := 1) (m' := 2) h2184q rfl [(46, .int .i64 0)] (by kernel_rfl) (fun a2185q h2186q => ?_)
        clear h2184q a2183q
        have hS2187q : St b w0 W2122q R ([(g2070q, .cells ([.int .i64 0, .int .i64 0, .int .i64 0, .int .i64 0] : List Value).toArray 28 (0, 0))] :: [(g2065q, .cells ([.int .i64 p0.f0, .int .i64 p0.f1, .int .i64 (IntKind.i64.wrap (p0.f2 - x2095q)), .int .i64 (IntKind.i64.wrap (p0.f3 + x2095q))] : List Value).toArray 28 (0, 0))] :: Fs) := hS2123q.bring 1 rfl rfl
        refine WL.op' (m := 2) h2186q rfl rfl ?_
        refine owp_store (i := 0) (vs := ([.int .i64 p0.f0, .int .i64 p0.f1, .int .i64 (IntKind.i64.wrap (p0.f2 - x2095q)), .int .i64 (IntKind.i64.wrap (p0.f3 + x2095q))] : List Value)) h2186q rfl (by kernel_rfl) rfl rfl rfl rfl (by simp [Value.oneCell']) (by kernel_rfl) hS2187q (by simp) (cs' := ([.int .i64 p0.f0, .int .i64 p0.f1, .int .i64 (IntKind.i64.wrap (p0.f2 - x2095q)), .int .i64 (IntKind.i64.wrap (p0.f3 + x2095q))] : List Value)) rfl (fun a2188q W2190q h2189q hS2191q => ?_)
        clear h2186q a2185q
        refine WL.block (c := 1) (m' := 4) h2189q rfl [(5, .int .i64 0)] (by kernel_rfl) (fun a2192q h2193q => ?_)
        clear h2189q a2188q
        refine WL.done (by kernel_rfl) ?_
        refine wp_ret ?_
        have hS2194q : St b w0 W2190q R ([(g2065q, .cells ([.int .i64 p0.f0, .int .i64 p0.f1, .int .i64 (IntKind.i64.wrap (p0.f2 - x2095q)), .int .i64 (IntKind.i64.wrap (p0.f3 + x2095q))] : List Value).toArray 28 (0, 0))] :: Fs) := hS2191q.drop_
        have hS2195q : St b w0 W2190q R (Fs) := hS2194q.drop_
        obtain ⟨rfl, rfl⟩ := ret2 H
        repeat (first | refine then_ret ?_ | refine inBlock_ret ?_ | refine inBlock_go ?_)
        refine body_ret (v := .tuple #[.agg #[.int .i64 p0.f0, .int .i64 p0.f1, .int .i64 (IntKind.i64.wrap (p0.f2 - x2095q)), .int .i64 (IntKind.i64.wrap (p0.f3 + x2095q))], .int .i64 0]) h2193q (by kernel_rfl) (res_many (xs := [ResultVar.cell 4 28, ResultVar.tmp 5]) rfl ⟨⟨_, rfl, loadVarN Try.underlying28 rfl (cs := ([.int .i64 p0.f0, .int .i64 p0.f1, .int .i64 (IntKind.i64.wrap (p0.f2 - x2095q)), .int .i64 (IntKind.i64.wrap (p0.f3 + x2095q))] : List Value)) (by kernel_rfl) (hS2191q.cells (vs := ([.int .i64 p0.f0, .int .i64 p0.f1, .int .i64 (IntKind.i64.wrap (p0.f2 - x2095q)), .int .i64 (IntKind.i64.wrap (p0.f3 + x2095q))] : List Value)) rfl)⟩, rfl, trivial⟩ rfl) ?_
        exact ⟨rfl, hS2195q⟩
    · rw [if_neg c2132q] at H
      have hb_ : (decide ((IntKind.i64.wrap (p0.f3 + x2095q)) > 0)) = false := decide_eq_false c2132q
      try rw [hb_] at h2131q
      clear hb_
      refine WL.skipped (m := 4) h2131q rfl rfl (by kernel_rfl) rfl (fun a2196q h2197q => ?_)
      clear h2131q a2130q
      refine WL.skipped (m := 5) h2197q rfl rfl (by kernel_rfl) rfl (fun a2198q h2199q => ?_)
      clear h2197q a2196q
      refine WL.skipped (m := 6) h2199q rfl rfl (by kernel_rfl) rfl (fun a2200q h2201q => ?_)
      clear h2199q a2198q
      refine WL.skipped (m := 7) h2201q rfl rfl (by kernel_rfl) rfl (fun a2202q h2203q => ?_)
      clear h2201q a2200q
      refine WL.skipped (m := 8) h2203q rfl rfl (by kernel_rfl) rfl (fun a2204q h2205q => ?_)
      clear h2203q a2202q
      refine WL.skipped (m := 9) h2205q rfl rfl (by kernel_rfl) rfl (fun a2206q h2207q => ?_)
      clear h2205q a2204q
      refine WL.block (c := 1) (m' := 11) h2207q rfl [(36, .bool false)] (by kernel_rfl) (fun a2208q h2209q => ?_)
      clear h2207q a2206q
      refine WL.done (by kernel_rfl) ?_
      refine wp_else h2209q rfl ?_
      refine wp_skip ?_
      refine wp_seq ?_
      refine WL.start ?_
      refine WL.op' (m := 0) h2209q rfl rfl ?_
      refine owp_run (v := .agg #[.int .i64 p0.f0, .int .i64 p0.f1, .int .i64 (IntKind.i64.wrap (p0.f2 - x2095q)), .int .i64 (IntKind.i64.wrap (p0.f3 + x2095q))]) h2209q rfl (by kernel_rfl) (run_loadN rfl rfl Try.underlying28 rfl (cs := ([.int .i64 p0.f0, .int .i64 p0.f1, .int .i64 (IntKind.i64.wrap (p0.f2 - x2095q)), .int .i64 (IntKind.i64.wrap (p0.f3 + x2095q))] : List Value)) (by kernel_rfl) (hS2123q.cells (vs := ([.int .i64 p0.f0, .int .i64 p0.f1, .int .i64 (IntKind.i64.wrap (p0.f2 - x2095q)), .int .i64 (IntKind.i64.wrap (p0.f3 + x2095q))] : List Value)) rfl)) (fun a2210q h2211q => ?_)
      clear h2209q a2208q
      refine WL.block (c := 1) (m' := 2) h2211q rfl [(46, .int .i64 0)] (by kernel_rfl) (fun a2212q h2213q => ?_)
      clear h2211q a2210q
      have hS2214q : St b w0 W2122q R ([(g2070q, .cells ([.int .i64 0, .int .i64 0, .int .i64 0, .int .i64 0] : List Value).toArray 28 (0, 0))] :: [(g2065q, .cells ([.int .i64 p0.f0, .int .i64 p0.f1, .int .i64 (IntKind.i64.wrap (p0.f2 - x2095q)), .int .i64 (IntKind.i64.wrap (p0.f3 + x2095q))] : List Value).toArray 28 (0, 0))] :: Fs) := hS2123q.bring 1 rfl rfl
      refine WL.op' (m := 2) h2213q rfl rfl ?_
      refine owp_store (i := 0) (vs := ([.int .i64 p0.f0, .int .i64 p0.f1, .int .i64 (IntKind.i64.wrap (p0.f2 - x2095q)), .int .i64 (IntKind.i64.wrap (p0.f3 + x2095q))] : List Value)) h2213q rfl (by kernel_rfl) rfl rfl rfl rfl (by simp [Value.oneCell']) (by kernel_rfl) hS2214q (by simp) (cs' := ([.int .i64 p0.f0, .int .i64 p0.f1, .int .i64 (IntKind.i64.wrap (p0.f2 - x2095q)), .int .i64 (IntKind.i64.wrap (p0.f3 + x2095q))] : List Value)) rfl (fun a2215q W2217q h2216q hS2218q => ?_)
      clear h2213q a2212q
      refine WL.block (c := 1) (m' := 4) h2216q rfl [(5, .int .i64 0)] (by kernel_rfl) (fun a2219q h2220q => ?_)
      clear h2216q a2215q
      refine WL.done (by kernel_rfl) ?_
      refine wp_ret ?_
      have hS2221q : St b w0 W2217q R ([(g2065q, .cells ([.int .i64 p0.f0, .int .i64 p0.f1, .int .i64 (IntKind.i64.wrap (p0.f2 - x2095q)), .int .i64 (IntKind.i64.wrap (p0.f3 + x2095q))] : List Value).toArray 28 (0, 0))] :: Fs) := hS2218q.drop_
      have hS2222q : St b w0 W2217q R (Fs) := hS2221q.drop_
      obtain ⟨rfl, rfl⟩ := ret2 H
      repeat (first | refine then_ret ?_ | refine inBlock_ret ?_ | refine inBlock_go ?_)
      refine body_ret (v := .tuple #[.agg #[.int .i64 p0.f0, .int .i64 p0.f1, .int .i64 (IntKind.i64.wrap (p0.f2 - x2095q)), .int .i64 (IntKind.i64.wrap (p0.f3 + x2095q))], .int .i64 0]) h2220q (by kernel_rfl) (res_many (xs := [ResultVar.cell 4 28, ResultVar.tmp 5]) rfl ⟨⟨_, rfl, loadVarN Try.underlying28 rfl (cs := ([.int .i64 p0.f0, .int .i64 p0.f1, .int .i64 (IntKind.i64.wrap (p0.f2 - x2095q)), .int .i64 (IntKind.i64.wrap (p0.f3 + x2095q))] : List Value)) (by kernel_rfl) (hS2218q.cells (vs := ([.int .i64 p0.f0, .int .i64 p0.f1, .int .i64 (IntKind.i64.wrap (p0.f2 - x2095q)), .int .i64 (IntKind.i64.wrap (p0.f3 + x2095q))] : List Value)) rfl)⟩, rfl, trivial⟩ rfl) ?_
      exact ⟨rfl, hS2222q⟩
end Go.Proofs.Ytgbognkigcedbaa.Sl
