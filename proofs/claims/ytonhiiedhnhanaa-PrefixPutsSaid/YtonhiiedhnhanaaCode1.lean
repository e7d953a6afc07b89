/- What the functions of this program compute, told as plain functions, and that the calls come to just that. Printed by this session's program; part 1. -/
import Derived.Test.YtonhiiedhnhanaaProg
import Derived.Test.YtonhiiedhnhanaaSlI
set_option linter.unusedVariables false
set_option linter.unusedSimpArgs false
set_option linter.unnecessarySimpa false
namespace Go.Proofs.Ytonhiiedhnhanaa.Sl
open Go Go.RowKit Go.Proofs.Sl
/-! ### slices.Clone[[]byte,byte] -/
def slices_Clone_byte_byte.f (p0 : (List Int)) : Option ((List Int)) := if ([] : List Int).length + p0.length ≤ 140737488355328 then (lt1 (([] : List Int) ++ p0 : List Int) fun y52q => (some y52q)) else (none)
set_option maxHeartbeats 2000000 in
set_option maxRecDepth 100000 in
theorem slices_Clone_byte_byte.calls {b : Nat} {w0 W : World} {R : Frag} {Fs : List Frag} {p0 : (List Int)} {v0 : Value} {r0q : (List Int)} (hp0 : Rds (kInt .u8) b w0 R v0 p0) (H : slices_Clone_byte_byte.f p0 = some r0q) (hS : St b w0 W R (Fs)) :
    Calls Try.prog 14 ([v0] : List Value).toArray W (fun e W' => ∃ (u0q : Value) (N0q : Frag), e = .returned (u0q) ∧ Row (kInt .u8) 5 b w0 R u0q r0q N0q ∧ St b w0 W' R (N0q :: Fs)) := by
  obtain ⟨A0, c0, rfl⟩ := hp0.form
  obtain _ | A0 := A0
  · have hn_ : p0 = [] := hp0.nil_of
    subst hn_
    obtain rfl : ([] : (List Int)) = r0q := by simpa [slices_Clone_byte_byte.f, lt1] using H
    clear H
    have H : some ([] : (List Int)) = some [] := rfl
    refine calls_enter Try.func14 rfl 8 rfl (by kernel_rfl) (fun a h => ?_)
    refine wp_seq ?_
    refine WL.start ?_
    refine WL.block (c := 1) (m' := 1) h rfl [(2, .slice none 0 0)] (by kernel_rfl) (fun a59q h60q => ?_)
    refine WL.done (by kernel_rfl) ?_
    refine wp_seq ?_
    refine wp_seq ?_
    refine WL.start ?_
    refine WL.block (c := 2) (m' := 2) h60q rfl [(4, .bool true), (3, .slice none 0 c0)] (by kernel_rfl) (fun a61q h62q => ?_)
    clear h60q a59q
    refine WL.done (by kernel_rfl) ?_
    refine wp_then h62q rfl ?_
    refine wp_seq ?_
    refine WL.start ?_
    refine WL.block (c := 1) (m' := 1) h62q rfl [(2, .slice none 0 0)] (by kernel_rfl) (fun a63q h64q => ?_)
    clear h62q a61q
    refine WL.done (by kernel_rfl) ?_
    refine wp_ret ?_
    skip
    repeat (first | refine then_ret ?_ | refine inBlock_ret ?_ | refine inBlock_go ?_)
    refine body_ret (v := .slice none 0 0) h64q (by kernel_rfl) (by kernel_rfl) ?_
    exact ⟨.slice none 0 0, [], rfl, Row.nil, hS.nil_⟩
  · unfold slices_Clone_byte_byte.f at H
    refine calls_enter Try.func14 rfl 8 rfl (by kernel_rfl) (fun a h => ?_)
    refine wp_seq ?_
    refine WL.start ?_
    refine WL.block (c := 1) (m' := 1) h rfl [(2, .slice none 0 0)] (by kernel_rfl) (fun a30q h31q => ?_)
    refine WL.done (by kernel_rfl) ?_
    refine wp_seq ?_
    refine wp_seq ?_
    refine WL.start ?_
    refine WL.block (c := 2) (m' := 2) h31q rfl [(4, .bool false), (3, .slice (some A0) p0.length c0)] (by kernel_rfl) (fun a32q h33q => ?_)
    clear h31q a30q
    refine WL.done (by kernel_rfl) ?_
    refine wp_else h33q rfl ?_
    refine wp_skip ?_
    refine wp_seq ?_
    refine WL.start ?_
    refine WL.op' (m := 0) h33q rfl rfl ?_
    refine owp_new (fun g_ => .slice (some ⟨g_, 0, none⟩) 0 0) (.cells ([] : List Value).toArray 5 (0, 0)) h33q rfl (by kernel_rfl) (by kernel_rfl) hS (fun a34q W36q g37q h35q hS38q => ?_)
    clear h33q a32q
    have hr40q : Row (kInt .u8) 5 b w0 R (.slice (some ⟨g37q, 0, none⟩) 0 0) ([] : List Int) [(g37q, .cells ([] : List Value).toArray 5 (0, 0))] := Row.lit (xs := ([] : List Int)) (Mi := []) ⟨rfl, rfl⟩ (by simp [maxLen])
    refine WL.block (c := 1) (m' := 2) h35q rfl [(6, .slice (some A0) p0.length c0)] (by kernel_rfl) (fun a41q h42q => ?_)
    clear h35q a34q
    by_cases c43q : ([] : List Int).length + p0.length ≤ 140737488355328
    · rw [if_pos c43q] at H
      refine WL.op' (m := 2) h42q rfl rfl ?_
      refine owp_app_rds (z := .int .u8 0) (bytes := 1) (dk := (kInt .u8)) h42q rfl (by kernel_rfl) rfl rfl rfl (kInt_flat _) hr40q hp0 hS38q Try.underlying26 (by kernel_rfl) rfl (by decide) (by decide) (by first | omega | (simp only [List.length_cons, List.length_nil] at *; omega)) (fun a44q W46q v47q M48q h45q hr49q hS50q => ?_)
      clear h42q a41q
      obtain ⟨y52q, hy53q, H⟩ := lete H
      have hr54q : Row (kInt .u8) 5 b w0 R v47q y52q M48q := by rw [hy53q]; exact hr49q
      clear hr49q
      obtain ⟨A55q, c56q, rfl⟩ := hr54q.form
      refine WL.block (c := 1) (m' := 4) h45q rfl [(2, .slice A55q y52q.length c56q)] (by kernel_rfl) (fun a57q h58q => ?_)
      clear h45q a44q
      refine WL.done (by kernel_rfl) ?_
      refine wp_ret ?_
      obtain rfl := Option.some.inj H
      repeat (first | refine then_ret ?_ | refine inBlock_ret ?_ | refine inBlock_go ?_)
      refine body_ret (v := .slice A55q y52q.length c56q) h58q (by kernel_rfl) (by kernel_rfl) ?_
      exact ⟨.slice A55q y52q.length c56q, M48q, rfl, hr54q, hS50q⟩
    · rw [if_neg c43q] at H
      cases H

/-! ### louver/prefix.right -/
def prefix_right.f (p0 : Int) : Option (Bool) := if p0 ≥ 1 then (some (decide (p0 ≤ 8))) else (some false)
set_option maxHeartbeats 2000000 in
set_option maxRecDepth 100000 in
theorem prefix_right.calls {b : Nat} {w0 W : World} {R : Frag} {Fs : List Frag} {p0 : Int}  {r0q : Bool}  (H : prefix_right.f p0 = some r0q) (hS : St b w0 W R (Fs)) :
    Calls Try.prog 15 ([.int .i64 p0] : List Value).toArray W (fun e W' => e = .returned (.bool r0q) ∧ St b w0 W' R (Fs)) := by
  unfold prefix_right.f at H
  refine calls_enter Try.func15 rfl 9 rfl (by kernel_rfl) (fun a h => ?_)
  refine wp_seq ?_
  refine WL.start ?_
  refine WL.block (c := 1) (m' := 1) h rfl [(2, .bool false)] (by kernel_rfl) (fun a82q h83q => ?_)
  refine WL.done (by kernel_rfl) ?_
  refine wp_seq ?_
  refine WL.start ?_
  refine WL.block (c := 3) (m' := 3) h83q rfl [(5, .bool (decide (p0 ≥ 1))), (4, .bool (decide (p0 ≥ 1))), (3, .int .i64 p0)] (by kernel_rfl) (fun a84q h85q => ?_)
  clear h83q a82q
  by_cases c86q : p0 ≥ 1
  · rw [if_pos c86q] at H
    have hb_ : (decide (p0 ≥ 1)) = true := decide_eq_true c86q
    try rw [hb_] at h85q
    clear hb_
    refine WL.op' (m := 3) h85q rfl rfl (owp_run h85q rfl (by kernel_rfl) (v := .int .i64 p0) (by kernel_rfl) (fun a87q h88q => ?_))
    clear h85q a84q
    refine WL.op' (m := 4) h88q rfl rfl (owp_run h88q rfl (by kernel_rfl) (v := .bool (decide (p0 ≤ 8))) (by kernel_rfl) (fun a89q h90q => ?_))
    clear h88q a87q
    refine WL.block (c := 2) (m' := 7) h90q rfl [(2, .bool (decide (p0 ≤ 8))), (8, .bool (decide (p0 ≤ 8)))] (by kernel_rfl) (fun a91q h92q => ?_)
    clear h90q a89q
    refine WL.done (by kernel_rfl) ?_
    refine wp_ret ?_
    obtain rfl := Option.some.inj H
    repeat (first | refine then_ret ?_ | refine inBlock_ret ?_ | refine inBlock_go ?_)
    refine body_ret (v := .bool (decide (p0 ≤ 8))) h92q (by kernel_rfl) (by kernel_rfl) ?_
    exact ⟨rfl, hS⟩
  · rw [if_neg c86q] at H
    have hb_ : (decide (p0 ≥ 1)) = false := decide_eq_false c86q
    try rw [hb_] at h85q
    clear hb_
    refine WL.skipped (m := 3) h85q rfl rfl (by kernel_rfl) rfl (fun a93q h94q => ?_)
    clear h85q a84q
    refine WL.skipped (m := 4) h94q rfl rfl (by kernel_rfl) rfl (fun a95q h96q => ?_)
    clear h94q a93q
    refine WL.block (c := 2) (m' := 7) h96q rfl [(2, .bool false), (8, .bool false)] (by kernel_rfl) (fun a97q h98q => ?_)
    clear h96q a95q
    refine WL.done (by kernel_rfl) ?_
    refine wp_ret ?_
    obtain rfl := Option.some.inj H
    repeat (first | refine then_ret ?_ | refine inBlock_ret ?_ | refine inBlock_go ?_)
    refine body_ret (v := .bool false) h98q (by kernel_rfl) (by kernel_rfl) ?_
    exact ⟨rfl, hS⟩

/-! ### louver/prefix.Put -/
def prefix_Put.l0 : Nat → Int → (List Int) → Option ((List Int))
  | 0, _, _ => none
  | k + 1, x702q, x704q => if x702q > 127 then (if x704q.length + 1 ≤ 140737488355328 then (lt1 (x704q ++ ([bOr .u8 (IntKind.u8.wrap (bAnd .u32 x702q 127)) 128] : List Int) : List Int) fun y732q => (prefix_Put.l0 k (shrI .u32 x702q 7) y732q)) else (none)) else (if x704q.length + 1 ≤ 140737488355328 then (lt1 (x704q ++ ([IntKind.u8.wrap x702q] : List Int) : List Int) fun y760q => (some y760q)) else (none))
def prefix_Put.f (k : Nat) (p0 : (List Int)) (p1 : Int) (p2 : Int) (p3 : Int) : Option ((List Int)) := bnd1 (slices_Clone_byte_byte.f p0) fun r594q => (bnd1 (prefix_right.f p1) fun r612q => (if r612q = true then (if p3 > 268435456 then (some r594q) else (if 0 ≤ p1 then (if p3 < (IntKind.u32.wrap ((shlI .u32 1 p1) - 1)) then (if r594q.length + 1 ≤ 140737488355328 then (lt1 (r594q ++ ([bOr .u8 (bAndNot .u8 p2 (IntKind.u8.wrap (IntKind.u32.wrap ((shlI .u32 1 p1) - 1)))) (IntKind.u8.wrap p3)] : List Int) : List Int) fun y662q => (some y662q)) else (none)) else (if r594q.length + 1 ≤ 140737488355328 then (lt1 (r594q ++ ([bOr .u8 (bAndNot .u8 p2 (IntKind.u8.wrap (IntKind.u32.wrap ((shlI .u32 1 p1) - 1)))) (IntKind.u8.wrap (IntKind.u32.wrap ((shlI .u32 1 p1) - 1)))] : List Int) : List Int) fun y688q => (prefix_Put.l0 k (IntKind.u32.wrap (p3 - (IntKind.u32.wrap ((shlI .u32 1 p1) - 1)))) y688q)) else (none))) else (none))) else (some r594q)))
set_option maxHeartbeats 2000000 in
set_option maxRecDepth 100000 in
theorem prefix_Put.calls (k : Nat) {b : Nat} {w0 W : World} {R : Frag} {Fs : List Frag} {p0 : (List Int)} {p1 : Int} {p2 : Int} {p3 : Int} {v0 : Value} {r0q : (List Int)} (hp0 : Rds (kInt .u8) b w0 R v0 p0) (H : prefix_Put.f k p0 p1 p2 p3 = some r0q) (hS : St b w0 W R (Fs)) :
    Calls Try.prog 10 ([v0, .int .i64 p1, .int .u8 p2, .int .u32 p3] : List Value).toArray W (fun e W' => ∃ (u0q : Value) (N0q : Frag), e = .returned (u0q) ∧ Row (kInt .u8) 5 b w0 R u0q r0q N0q ∧ St b w0 W' R (N0q :: Fs)) := by
  obtain ⟨A0, c0, rfl⟩ := hp0.form
  unfold prefix_Put.f at H
  refine calls_enter Try.func10 rfl 65 rfl (by kernel_rfl) (fun a h => ?_)
  refine wp_seq ?_
  refine WL.start ?_
  refine WL.block (c := 1) (m' := 1) h rfl [(8, .slice none 0 0)] (by kernel_rfl) (fun a589q h590q => ?_)
  refine WL.done (by kernel_rfl) ?_
  refine wp_seq ?_
  refine WL.start ?_
  refine WL.block (c := 1) (m' := 1) h590q rfl [(12, .slice A0 p0.length c0)] (by kernel_rfl) (fun a591q h592q => ?_)
  clear h590q a589q
  obtain ⟨r594q, A593q, H⟩ := bind1 H
  refine WL.op' (m := 1) h592q rfl rfl ?_
  refine owp_call [.slice A0 p0.length c0] h592q rfl (by kernel_rfl) rfl Try.func14 (by kernel_rfl) rfl (by kernel_rfl) (slices_Clone_byte_byte.calls hp0 A593q hS) (fun e596q W595q hp597q => ?_)
  obtain ⟨v600q, M601q, rfl, hr602q, hS604q⟩ := hp597q
  refine ⟨_, rfl, fun a598q h599q => ?_⟩
  clear h592q a591q
  obtain ⟨A605q, c606q, rfl⟩ := hr602q.form
  refine WL.block (c := 1) (m' := 3) h599q rfl [(9, .slice A605q r594q.length c606q)] (by kernel_rfl) (fun a607q h608q => ?_)
  clear h599q a598q
  refine WL.done (by kernel_rfl) ?_
  refine wp_seq ?_
  refine wp_seq ?_
  refine WL.start ?_
  refine WL.block (c := 1) (m' := 1) h608q rfl [(14, .int .i64 p1)] (by kernel_rfl) (fun a609q h610q => ?_)
  clear h608q a607q
  obtain ⟨r612q, A611q, H⟩ := bind1 H
  refine WL.op' (m := 1) h610q rfl rfl ?_
  refine owp_call [.int .i64 p1] h610q rfl (by kernel_rfl) rfl Try.func15 (by kernel_rfl) rfl (by kernel_rfl) (prefix_right.calls  A611q hS604q) (fun e614q W613q hp615q => ?_)
  obtain ⟨rfl, hS618q⟩ := hp615q
  refine ⟨_, rfl, fun a616q h617q => ?_⟩
  clear h610q a609q
  refine WL.block (c := 2) (m' := 4) h617q rfl [(17, .bool (!r612q)), (16, .bool (!r612q))] (by kernel_rfl) (fun a619q h620q => ?_)
  clear h617q a616q
  by_cases c621q : r612q = true
  · rw [if_pos c621q] at H
    have hb_ : r612q = true := c621q
    try rw [hb_] at h620q
    clear hb_
    refine WL.op' (m := 4) h620q rfl rfl (owp_run h620q rfl (by kernel_rfl) (v := .int .u32 p3) (by kernel_rfl) (fun a622q h623q => ?_))
    clear h620q a619q
    refine WL.op' (m := 5) h623q rfl rfl (owp_run h623q rfl (by kernel_rfl) (v := .bool (decide (p3 > 268435456))) (by kernel_rfl) (fun a624q h625q => ?_))
    clear h623q a622q
    refine WL.block (c := 1) (m' := 7) h625q rfl [(20, .bool (decide (p3 > 268435456)))] (by kernel_rfl) (fun a626q h627q => ?_)
    clear h625q a624q
    refine WL.done (by kernel_rfl) ?_
    by_cases c628q : p3 > 268435456
    · rw [if_pos c628q] at H
      have hb_ : (decide (p3 > 268435456)) = true := decide_eq_true c628q
      try rw [hb_] at h627q
      clear hb_
      refine wp_then h627q rfl ?_
      refine wp_seq ?_
      refine WL.start ?_
      refine WL.block (c := 2) (m' := 2) h627q rfl [(8, .slice A605q r594q.length c606q), (21, .slice A605q r594q.length c606q)] (by kernel_rfl) (fun a629q h630q => ?_)
      clear h627q a626q
      refine WL.done (by kernel_rfl) ?_
      refine wp_ret ?_
      obtain rfl := Option.some.inj H
      repeat (first | refine then_ret ?_ | refine inBlock_ret ?_ | refine inBlock_go ?_)
      refine body_ret (v := .slice A605q r594q.length c606q) h630q (by kernel_rfl) (by kernel_rfl) ?_
      exact ⟨.slice A605q r594q.length c606q, M601q, rfl, hr602q, hS618q⟩
    · rw [if_neg c628q] at H
      have hb_ : (decide (p3 > 268435456)) = false := decide_eq_false c628q
      try rw [hb_] at h627q
      clear hb_
      refine wp_else h627q rfl ?_
      refine wp_skip ?_
      refine wp_seq ?_
      refine WL.start ?_
      refine WL.block (c := 1) (m' := 1) h627q rfl [(22, .int .i64 p1)] (by kernel_rfl) (fun a631q h632q => ?_)
      clear h627q a626q
      by_cases c633q : 0 ≤ p1
      · rw [if_pos c633q] at H
        refine WL.op' (m := 1) h632q rfl rfl ?_
        refine owp_run (v := .int .u32 (shlI .u32 1 p1)) h632q rfl (by kernel_rfl) (run_shl rfl rfl rfl (by assumption)) (fun a634q h635q => ?_)
        clear h632q a631q
        refine WL.block (c := 2) (m' := 4) h635q rfl [(10, .int .u32 (IntKind.u32.wrap ((shlI .u32 1 p1) - 1))), (24, .int .u32 (IntKind.u32.wrap ((shlI .u32 1 p1) - 1)))] (by kernel_rfl) (fun a636q h637q => ?_)
        clear h635q a634q
        refine WL.done (by kernel_rfl) ?_
        refine wp_seq ?_
        refine WL.start ?_
        refine WL.block (c := 5) (m' := 5) h637q rfl [(11, .int .u8 (bAndNot .u8 p2 (IntKind.u8.wrap (IntKind.u32.wrap ((shlI .u32 1 p1) - 1))))), (28, .int .u8 (bAndNot .u8 p2 (IntKind.u8.wrap (IntKind.u32.wrap ((shlI .u32 1 p1) - 1))))), (27, .int .u8 (IntKind.u8.wrap (IntKind.u32.wrap ((shlI .u32 1 p1) - 1)))), (26, .int .u32 (IntKind.u32.wrap ((shlI .u32 1 p1) - 1))), (25, .int .u8 p2)] (by kernel_rfl) (fun a638q h639q => ?_)
        clear h637q a636q
        refine WL.done (by kernel_rfl) ?_
        refine wp_seq ?_
        refine wp_seq ?_
        refine WL.start ?_
        refine WL.block (c := 3) (m' := 3) h639q rfl [(31, .bool (decide (p3 < (IntKind.u32.wrap ((shlI .u32 1 p1) - 1))))), (30, .int .u32 (IntKind.u32.wrap ((shlI .u32 1 p1) - 1))), (29, .int .u32 p3)] (by kernel_rfl) (fun a640q h641q => ?_)
        clear h639q a638q
        refine WL.done (by kernel_rfl) ?_
        by_cases c642q : p3 < (IntKind.u32.wrap ((shlI .u32 1 p1) - 1))
        · rw [if_pos c642q] at H
          have hb_ : (decide (p3 < (IntKind.u32.wrap ((shlI .u32 1 p1) - 1)))) = true := decide_eq_true c642q
          try rw [hb_] at h641q
          clear hb_
          refine wp_then h641q rfl ?_
          refine wp_seq ?_
          refine WL.start ?_
          refine WL.block (c := 5) (m' := 5) h641q rfl [(36, .int .u8 (bOr .u8 (bAndNot .u8 p2 (IntKind.u8.wrap (IntKind.u32.wrap ((shlI .u32 1 p1) - 1)))) (IntKind.u8.wrap p3))), (35, .int .u8 (IntKind.u8.wrap p3)), (34, .int .u32 p3), (33, .int .u8 (bAndNot .u8 p2 (IntKind.u8.wrap (IntKind.u32.wrap ((shlI .u32 1 p1) - 1))))), (32, .slice A605q r594q.length c606q)] (by kernel_rfl) (fun a643q h644q => ?_)
          clear h641q a640q
          refine WL.op' (m := 5) h644q rfl rfl ?_
          refine owp_new (fun g_ => .slice (some ⟨g_, 0, none⟩) 1 1) (.cells ([.int .u8 (bOr .u8 (bAndNot .u8 p2 (IntKind.u8.wrap (IntKind.u32.wrap ((shlI .u32 1 p1) - 1)))) (IntKind.u8.wrap p3))] : List Value).toArray 5 (0, 0)) h644q rfl (by kernel_rfl) (by kernel_rfl) hS618q (fun a645q W647q g648q h646q hS649q => ?_)
          clear h644q a643q
          have hr651q : Row (kInt .u8) 5 b w0 R (.slice (some ⟨g648q, 0, none⟩) 1 1) ([bOr .u8 (bAndNot .u8 p2 (IntKind.u8.wrap (IntKind.u32.wrap ((shlI .u32 1 p1) - 1)))) (IntKind.u8.wrap p3)] : List Int) [(g648q, .cells ([.int .u8 (bOr .u8 (bAndNot .u8 p2 (IntKind.u8.wrap (IntKind.u32.wrap ((shlI .u32 1 p1) - 1)))) (IntKind.u8.wrap p3))] : List Value).toArray 5 (0, 0))] := Row.lit (xs := ([bOr .u8 (bAndNot .u8 p2 (IntKind.u8.wrap (IntKind.u32.wrap ((shlI .u32 1 p1) - 1)))) (IntKind.u8.wrap p3)] : List Int)) (Mi := []) ⟨_, _, [], _, rfl, rfl, ⟨rfl, rfl⟩, ⟨rfl, rfl⟩⟩ (by simp [maxLen])
          by_cases c652q : r594q.length + 1 ≤ 140737488355328
          · rw [if_pos c652q] at H
            have hS653q : St b w0 W647q R (M601q :: [(g648q, .cells ([.int .u8 (bOr .u8 (bAndNot .u8 p2 (IntKind.u8.wrap (IntKind.u32.wrap ((shlI .u32 1 p1) - 1)))) (IntKind.u8.wrap p3))] : List Value).toArray 5 (0, 0))] :: Fs) := hS649q.bring 1 rfl rfl
            refine WL.op' (m := 6) h646q rfl rfl ?_
            refine owp_app_take (z := .int .u8 0) (bytes := 1) (dk := (kInt .u8)) h646q rfl (by kernel_rfl) rfl rfl rfl hr602q hr651q hS653q Try.underlying26 (by kernel_rfl) rfl (by decide) (by decide) (by first | omega | (simp only [List.length_cons, List.length_nil] at *; omega)) (fun a654q W656q v657q M658q h655q hr659q hS660q => ?_)
            clear h646q a645q
            obtain ⟨y662q, hy663q, H⟩ := lete H
            have hr664q : Row (kInt .u8) 5 b w0 R v657q y662q M658q := by rw [hy663q]; exact hr659q
            clear hr659q
            obtain ⟨A665q, c666q, rfl⟩ := hr664q.form
            refine WL.block (c := 1) (m' := 8) h655q rfl [(8, .slice A665q y662q.length c666q)] (by kernel_rfl) (fun a667q h668q => ?_)
            clear h655q a654q
            refine WL.done (by kernel_rfl) ?_
            refine wp_ret ?_
            obtain rfl := Option.some.inj H
            repeat (first | refine then_ret ?_ | refine inBlock_ret ?_ | refine inBlock_go ?_)
            refine body_ret (v := .slice A665q y662q.length c666q) h668q (by kernel_rfl) (by kernel_rfl) ?_
            exact ⟨.slice A665q y662q.length c666q, M658q, rfl, hr664q, hS660q⟩
          · rw [if_neg c652q] at H
            cases H
        · rw [if_neg c642q] at H
          have hb_ : (decide (p3 < (IntKind.u32.wrap ((shlI .u32 1 p1) - 1)))) = false := decide_eq_false c642q
          try rw [hb_] at h641q
          clear hb_
          refine wp_else h641q rfl ?_
          refine wp_skip ?_
          refine wp_seq ?_
          refine WL.start ?_
          refine WL.block (c := 5) (m' := 5) h641q rfl [(43, .int .u8 (bOr .u8 (bAndNot .u8 p2 (IntKind.u8.wrap (IntKind.u32.wrap ((shlI .u32 1 p1) - 1)))) (IntKind.u8.wrap (IntKind.u32.wrap ((shlI .u32 1 p1) - 1))))), (42, .int .u8 (IntKind.u8.wrap (IntKind.u32.wrap ((shlI .u32 1 p1) - 1)))), (41, .int .u32 (IntKind.u32.wrap ((shlI .u32 1 p1) - 1))), (40, .int .u8 (bAndNot .u8 p2 (IntKind.u8.wrap (IntKind.u32.wrap ((shlI .u32 1 p1) - 1))))), (39, .slice A605q r594q.length c606q)] (by kernel_rfl) (fun a669q h670q => ?_)
          clear h641q a640q
          refine WL.op' (m := 5) h670q rfl rfl ?_
          refine owp_new (fun g_ => .slice (some ⟨g_, 0, none⟩) 1 1) (.cells ([.int .u8 (bOr .u8 (bAndNot .u8 p2 (IntKind.u8.wrap (IntKind.u32.wrap ((shlI .u32 1 p1) - 1)))) (IntKind.u8.wrap (IntKind.u32.wrap ((shlI .u32 1 p1) - 1))))] : List Value).toArray 5 (0, 0)) h670q rfl (by kernel_rfl) (by kernel_rfl) hS618q (fun a671q W673q g674q h672q hS675q => ?_)
          clear h670q a669q
          have hr677q : Row (kInt .u8) 5 b w0 R (.slice (some ⟨g674q, 0, none⟩) 1 1) ([bOr .u8 (bAndNot .u8 p2 (IntKind.u8.wrap (IntKind.u32.wrap ((shlI .u32 1 p1) - 1)))) (IntKind.u8.wrap (IntKind.u32.wrap ((shlI .u32 1 p1) - 1)))] : List Int) [(g674q, .cells ([.int .u8 (bOr .u8 (bAndNot .u8 p2 (IntKind.u8.wrap (IntKind.u32.wrap ((shlI .u32 1 p1) - 1)))) (IntKind.u8.wrap (IntKind.u32.wrap ((shlI .u32 1 p1) - 1))))] : List Value).toArray 5 (0, 0))] := Row.lit (xs := ([bOr .u8 (bAndNot .u8 p2 (IntKind.u8.wrap (IntKind.u32.wrap ((shlI .u32 1 p1) - 1)))) (IntKind.u8.wrap (IntKind.u32.wrap ((shlI .u32 1 p1) - 1)))] : List Int)) (Mi := []) ⟨_, _, [], _, rfl, rfl, ⟨rfl, rfl⟩, ⟨rfl, rfl⟩⟩ (by simp [maxLen])
          by_cases c678q : r594q.length + 1 ≤ 140737488355328
          · rw [if_pos c678q] at H
            have hS679q : St b w0 W673q R (M601q :: [(g674q, .cells ([.int .u8 (bOr .u8 (bAndNot .u8 p2 (IntKind.u8.wrap (IntKind.u32.wrap ((shlI .u32 1 p1) - 1)))) (IntKind.u8.wrap (IntKind.u32.wrap ((shlI .u32 1 p1) - 1))))] : List Value).toArray 5 (0, 0))] :: Fs) := hS675q.bring 1 rfl rfl
            refine WL.op' (m := 6) h672q rfl rfl ?_
            refine owp_app_take (z := .int .u8 0) (bytes := 1) (dk := (kInt .u8)) h672q rfl (by kernel_rfl) rfl rfl rfl hr602q hr677q hS679q Try.underlying26 (by kernel_rfl) rfl (by decide) (by decide) (by first | omega | (simp only [List.length_cons, List.length_nil] at *; omega)) (fun a680q W682q v683q M684q h681q hr685q hS686q => ?_)
            clear h672q a671q
            obtain ⟨y688q, hy689q, H⟩ := lete H
            have hr690q : Row (kInt .u8) 5 b w0 R v683q y688q M684q := by rw [hy689q]; exact hr685q
            clear hr685q
            obtain ⟨A691q, c692q, rfl⟩ := hr690q.form
            refine WL.block (c := 1) (m' := 8) h681q rfl [(9, .slice A691q y688q.length c692q)] (by kernel_rfl) (fun a693q h694q => ?_)
            clear h681q a680q
            refine WL.done (by kernel_rfl) ?_
            refine wp_seq ?_
            refine WL.start ?_
            refine WL.block (c := 4) (m' := 4) h694q rfl [(3, .int .u32 (IntKind.u32.wrap (p3 - (IntKind.u32.wrap ((shlI .u32 1 p1) - 1))))), (48, .int .u32 (IntKind.u32.wrap (p3 - (IntKind.u32.wrap ((shlI .u32 1 p1) - 1))))), (47, .int .u32 (IntKind.u32.wrap ((shlI .u32 1 p1) - 1))), (46, .int .u32 p3)] (by kernel_rfl) (fun a695q h696q => ?_)
            clear h694q a693q
            refine WL.done (by kernel_rfl) ?_
            refine wp_seq ?_
            refine wp_block ?_
            refine wp_loop_ghost (fun kq_ a_ W_ => ∃ (x702q : Int), ∃ (x704q : (List Int)), ∃ (A705q : Option Addr), ∃ (c706q : Nat), ∃ (M707q : Frag), Hd a_ 65 [(3, .int .u32 x702q), (9, .slice A705q x704q.length c706q)] ∧ Asd (prefix_Put.l0 kq_ x702q x704q = some r0q) ∧ Asd (kq_ ≤ k) ∧ Asd (St b w0 W_ R (M707q :: Fs)) ∧ Asd (Row (kInt .u8) 5 b w0 R (.slice A705q x704q.length c706q) x704q M707q)) k ⟨IntKind.u32.wrap (p3 - (IntKind.u32.wrap ((shlI .u32 1 p1) - 1))), y688q, A691q, c692q, M684q, h696q.keep ⟨rfl, rfl, trivial⟩, ⟨H⟩, ⟨Nat.le_refl _⟩, ⟨hS686q⟩, ⟨hr690q⟩⟩ ?_
            clear H hS686q
            rintro k701q a698q W699q ⟨x702q, x704q, A705q, c706q, M707q, h697q, ⟨H⟩, ⟨hkk701q⟩, ⟨hS700q⟩, ⟨hr708q⟩⟩
            obtain _ | k709q := k701q
            · exact absurd H (by simp [prefix_Put.l0])
            simp only [prefix_Put.l0] at H
            refine wp_seq ?_
            refine wp_seq ?_
            refine WL.start ?_
            refine WL.block (c := 2) (m' := 2) h697q rfl [(50, .bool (decide (x702q > 127))), (49, .int .u32 x702q)] (by kernel_rfl) (fun a710q h711q => ?_)
            clear h697q a698q
            refine WL.done (by kernel_rfl) ?_
            by_cases c712q : x702q > 127
            · rw [if_pos c712q] at H
              have hb_ : (decide (x702q > 127)) = true := decide_eq_true c712q
              try rw [hb_] at h711q
              clear hb_
              refine wp_then h711q rfl ?_
              refine wp_skip ?_
              refine wp_block ?_
              refine wp_seq ?_
              refine WL.start ?_
              refine WL.block (c := 5) (m' := 5) h711q rfl [(55, .int .u8 (bOr .u8 (IntKind.u8.wrap (bAnd .u32 x702q 127)) 128)), (54, .int .u8 (IntKind.u8.wrap (bAnd .u32 x702q 127))), (53, .int .u32 (bAnd .u32 x702q 127)), (52, .int .u32 x702q), (51, .slice A705q x704q.length c706q)] (by kernel_rfl) (fun a713q h714q => ?_)
              clear h711q a710q
              refine WL.op' (m := 5) h714q rfl rfl ?_
              refine owp_new (fun g_ => .slice (some ⟨g_, 0, none⟩) 1 1) (.cells ([.int .u8 (bOr .u8 (IntKind.u8.wrap (bAnd .u32 x702q 127)) 128)] : List Value).toArray 5 (0, 0)) h714q rfl (by kernel_rfl) (by kernel_rfl) hS700q (fun a715q W717q g718q h716q hS719q => ?_)
              clear h714q a713q
              have hr721q : Row (kInt .u8) 5 b w0 R (.slice (some ⟨g718q, 0, none⟩) 1 1) ([bOr .u8 (IntKind.u8.wrap (bAnd .u32 x702q 127)) 128] : List Int) [(g718q, .cells ([.int .u8 (bOr .u8 (IntKind.u8.wrap (bAnd .u32 x702q 127)) 128)] : List Value).toArray 5 (0, 0))] := Row.lit (xs := ([bOr .u8 (IntKind.u8.wrap (bAnd .u32 x702q 127)) 128] : List Int)) (Mi := []) ⟨_, _, [], _, rfl, rfl, ⟨rfl, rfl⟩, ⟨rfl, rfl⟩⟩ (by simp [maxLen])
              by_cases c722q : x704q.length + 1 ≤ 140737488355328
              · rw [if_pos c722q] at H
                have hS723q : St b w0 W717q R (M707q :: [(g718q, .cells ([.int .u8 (bOr .u8 (IntKind.u8.wrap (bAnd .u32 x702q 127)) 128)] : List Value).toArray 5 (0, 0))] :: Fs) := hS719q.bring 1 rfl rfl
                refine WL.op' (m := 6) h716q rfl rfl ?_
                refine owp_app_take (z := .int .u8 0) (bytes := 1) (dk := (kInt .u8)) h716q rfl (by kernel_rfl) rfl rfl rfl hr708q hr721q hS723q Try.underlying26 (by kernel_rfl) rfl (by decide) (by decide) (by first | omega | (simp only [List.length_cons, List.length_nil] at *; omega)) (fun a724q W726q v727q M728q h725q hr729q hS730q => ?_)
                clear h716q a715q
                obtain ⟨y732q, hy733q, H⟩ := lete H
                have hr734q : Row (kInt .u8) 5 b w0 R v727q y732q M728q := by rw [hy733q]; exact hr729q
                clear hr729q
                obtain ⟨A735q, c736q, rfl⟩ := hr734q.form
                refine WL.block (c := 1) (m' := 8) h725q rfl [(9, .slice A735q y732q.length c736q)] (by kernel_rfl) (fun a737q h738q => ?_)
                clear h725q a724q
                refine WL.done (by kernel_rfl) ?_
                refine WL.start ?_
                refine WL.block (c := 3) (m' := 3) h738q rfl [(3, .int .u32 (shrI .u32 x702q 7)), (59, .int .u32 (shrI .u32 x702q 7)), (58, .int .u32 x702q)] (by kernel_rfl) (fun a739q h740q => ?_)
                clear h738q a737q
                refine WL.done (by kernel_rfl) ?_
                exact ⟨k709q, by omega, shrI .u32 x702q 7, y732q, A735q, c736q, M728q, h740q.keep ⟨rfl, rfl, trivial⟩, ⟨H⟩, ⟨by omega⟩, ⟨hS730q⟩, ⟨hr734q⟩⟩
              · rw [if_neg c722q] at H
                cases H
            · rw [if_neg c712q] at H
              have hb_ : (decide (x702q > 127)) = false := decide_eq_false c712q
              try rw [hb_] at h711q
              clear hb_
              refine wp_else h711q rfl ?_
              refine wp_exit ?_
              refine wp_seq ?_
              refine WL.start ?_
              refine WL.block (c := 3) (m' := 3) h711q rfl [(62, .int .u8 (IntKind.u8.wrap x702q)), (61, .int .u32 x702q), (60, .slice A705q x704q.length c706q)] (by kernel_rfl) (fun a741q h742q => ?_)
              clear h711q a710q
              refine WL.op' (m := 3) h742q rfl rfl ?_
              refine owp_new (fun g_ => .slice (some ⟨g_, 0, none⟩) 1 1) (.cells ([.int .u8 (IntKind.u8.wrap x702q)] : List Value).toArray 5 (0, 0)) h742q rfl (by kernel_rfl) (by kernel_rfl) hS700q (fun a743q W745q g746q h744q hS747q => ?_)
              clear h742q a741q
              have hr749q : Row (kInt .u8) 5 b w0 R (.slice (some ⟨g746q, 0, none⟩) 1 1) ([IntKind.u8.wrap x702q] : List Int) [(g746q, .cells ([.int .u8 (IntKind.u8.wrap x702q)] : List Value).toArray 5 (0, 0))] := Row.lit (xs := ([IntKind.u8.wrap x702q] : List Int)) (Mi := []) ⟨_, _, [], _, rfl, rfl, ⟨rfl, rfl⟩, ⟨rfl, rfl⟩⟩ (by simp [maxLen])
              by_cases c750q : x704q.length + 1 ≤ 140737488355328
              · rw [if_pos c750q] at H
                have hS751q : St b w0 W745q R (M707q :: [(g746q, .cells ([.int .u8 (IntKind.u8.wrap x702q)] : List Value).toArray 5 (0, 0))] :: Fs) := hS747q.bring 1 rfl rfl
                refine WL.op' (m := 4) h744q rfl rfl ?_
                refine owp_app_take (z := .int .u8 0) (bytes := 1) (dk := (kInt .u8)) h744q rfl (by kernel_rfl) rfl rfl rfl hr708q hr749q hS751q Try.underlying26 (by kernel_rfl) rfl (by decide) (by decide) (by first | omega | (simp only [List.length_cons, List.length_nil] at *; omega)) (fun a752q W754q v755q M756q h753q hr757q hS758q => ?_)
                clear h744q a743q
                obtain ⟨y760q, hy761q, H⟩ := lete H
                have hr762q : Row (kInt .u8) 5 b w0 R v755q y760q M756q := by rw [hy761q]; exact hr757q
                clear hr757q
                obtain ⟨A763q, c764q, rfl⟩ := hr762q.form
                refine WL.block (c := 1) (m' := 6) h753q rfl [(8, .slice A763q y760q.length c764q)] (by kernel_rfl) (fun a765q h766q => ?_)
                clear h753q a752q
                refine WL.done (by kernel_rfl) ?_
                refine wp_ret ?_
                obtain rfl := Option.some.inj H
                repeat (first | refine then_ret ?_ | refine inBlock_ret ?_ | refine inBlock_go ?_)
                refine body_ret (v := .slice A763q y760q.length c764q) h766q (by kernel_rfl) (by kernel_rfl) ?_
                exact ⟨.slice A763q y760q.length c764q, M756q, rfl, hr762q, hS758q⟩
              · rw [if_neg c750q] at H
                cases H
          · rw [if_neg c678q] at H
            cases H
      · rw [if_neg c633q] at H
        cases H
  · rw [if_neg c621q] at H
    have hb_ : r612q = false := (Bool.eq_false_iff.2 c621q)
    try rw [hb_] at h620q
    clear hb_
    refine WL.skipped (m := 4) h620q rfl rfl (by kernel_rfl) rfl (fun a767q h768q => ?_)
    clear h620q a619q
    refine WL.skipped (m := 5) h768q rfl rfl (by kernel_rfl) rfl (fun a769q h770q => ?_)
    clear h768q a767q
    refine WL.block (c := 1) (m' := 7) h770q rfl [(20, .bool true)] (by kernel_rfl) (fun a771q h772q => ?_)
    clear h770q a769q
    refine WL.done (by kernel_rfl) ?_
    refine wp_then h772q rfl ?_
    refine wp_seq ?_
    refine WL.start ?_
    refine WL.block (c := 2) (m' := 2) h772q rfl [(8, .slice A605q r594q.length c606q), (21, .slice A605q r594q.length c606q)] (by kernel_rfl) (fun a773q h774q => ?_)
    clear h772q a771q
    refine WL.done (by kernel_rfl) ?_
    refine wp_ret ?_
    obtain rfl := Option.some.inj H
    repeat (first | refine then_ret ?_ | refine inBlock_ret ?_ | refine inBlock_go ?_)
    refine body_ret (v := .slice A605q r594q.length c606q) h774q (by kernel_rfl) (by kernel_rfl) ?_
    exact ⟨.slice A605q r594q.length c606q, M601q, rfl, hr602q, hS618q⟩

/-! ### louver/prefix.Size -/
def prefix_Size.f (k : Nat) (p0 : Int) (p1 : Int) : Option (Int) := bnd1 (prefix_Put.f k ([] : List Int) p0 0 p1) fun r801q => (some (r801q.length : Int))
set_option maxHeartbeats 2000000 in
set_option maxRecDepth 100000 in
theorem prefix_Size.calls (k : Nat) {b : Nat} {w0 W : World} {R : Frag} {Fs : List Frag} {p0 : Int} {p1 : Int}  {r0q : Int}  (H : prefix_Size.f k p0 p1 = some r0q) (hS : St b w0 W R (Fs)) :
    Calls Try.prog 9 ([.int .i64 p0, .int .u32 p1] : List Value).toArray W (fun e W' => e = .returned (.int .i64 r0q) ∧ St b w0 W' R (Fs)) := by
  unfold prefix_Size.f at H
  refine calls_enter Try.func9 rfl 9 rfl (by kernel_rfl) (fun a h => ?_)
  refine wp_seq ?_
  refine WL.start ?_
  refine WL.block (c := 1) (m' := 1) h rfl [(4, .int .i64 0)] (by kernel_rfl) (fun a796q h797q => ?_)
  refine WL.done (by kernel_rfl) ?_
  refine wp_seq ?_
  refine WL.start ?_
  refine WL.block (c := 2) (m' := 2) h797q rfl [(6, .int .u32 p1), (5, .int .i64 p0)] (by kernel_rfl) (fun a798q h799q => ?_)
  clear h797q a796q
  obtain ⟨r801q, A800q, H⟩ := bind1 H
  refine WL.op' (m := 2) h799q rfl rfl ?_
  refine owp_call [.slice none 0 0, .int .i64 p0, .int .u8 0, .int .u32 p1] h799q rfl (by kernel_rfl) rfl Try.func10 (by kernel_rfl) rfl (by kernel_rfl) (prefix_Put.calls k (Rds.nil (dk := (kInt .u8)) (R := R)) A800q hS) (fun e803q W802q hp804q => ?_)
  obtain ⟨v807q, M808q, rfl, hr809q, hS811q⟩ := hp804q
  refine ⟨_, rfl, fun a805q h806q => ?_⟩
  clear h799q a798q
  obtain ⟨A812q, c813q, rfl⟩ := hr809q.form
  refine WL.block (c := 2) (m' := 5) h806q rfl [(4, .int .i64 (r801q.length : Int)), (8, .int .i64 (r801q.length : Int))] (by kernel_rfl) (fun a814q h815q => ?_)
  clear h806q a805q
  refine WL.done (by kernel_rfl) ?_
  refine wp_ret ?_
  have hS816q : St b w0 W802q R (Fs) := hS811q.drop_
  obtain rfl := Option.some.inj H
  repeat (first | refine then_ret ?_ | refine inBlock_ret ?_ | refine inBlock_go ?_)
  refine body_ret (v := .int .i64 (r801q.length : Int)) h815q (by kernel_rfl) (by kernel_rfl) ?_
  exact ⟨rfl, hS816q⟩

/-! ### louver/louverlaw02.fixed -/
def louverlaw02qfixed.f (k : Nat)  : Option (Bool) := bnd1 (prefix_Put.f k ([] : List Int) 5 0 1337) fun r863q => (if (toS r863q) = ([31, 154, 10] : List UInt8) then (bnd1 (prefix_Size.f k 5 10) fun r884q => (some (decide (r884q = 1)))) else (some false))
set_option maxHeartbeats 2000000 in
set_option maxRecDepth 100000 in
theorem louverlaw02qfixed.calls (k : Nat) {b : Nat} {w0 W : World} {R : Frag} {Fs : List Frag}   {r0q : Bool}  (H : louverlaw02qfixed.f k = some r0q) (hS : St b w0 W R (Fs)) :
    Calls Try.prog 8 ([] : List Value).toArray W (fun e W' => e = .returned (.bool r0q) ∧ St b w0 W' R (Fs)) := by
  unfold louverlaw02qfixed.f at H
  refine calls_enter Try.func8 rfl 8 rfl (by kernel_rfl) (fun a h => ?_)
  refine wp_seq ?_
  refine WL.start ?_
  refine WL.block (c := 1) (m' := 1) h rfl [(0, .bool false)] (by kernel_rfl) (fun a860q h861q => ?_)
  refine WL.done (by kernel_rfl) ?_
  refine wp_seq ?_
  refine WL.start ?_
  obtain ⟨r863q, A862q, H⟩ := bind1 H
  refine WL.op' (m := 0) h861q rfl rfl ?_
  refine owp_call [.slice none 0 0, .int .i64 5, .int .u8 0, .int .u32 1337] h861q rfl (by kernel_rfl) rfl Try.func10 (by kernel_rfl) rfl (by kernel_rfl) (prefix_Put.calls k (Rds.nil (dk := (kInt .u8)) (R := R)) A862q hS) (fun e865q W864q hp866q => ?_)
  obtain ⟨v869q, M870q, rfl, hr871q, hS873q⟩ := hp866q
  refine ⟨_, rfl, fun a867q h868q => ?_⟩
  clear h861q a860q
  obtain ⟨A874q, c875q, rfl⟩ := hr871q.form
  refine WL.op' (m := 1) h868q rfl rfl ?_
  refine owp_run (v := .string (mkS (toS r863q))) h868q rfl (by kernel_rfl) (run_tostr rfl rfl hr871q.rds (fun _ _ hk_ => (hS873q).pool.kn hk_) Try.underlying26 Try.underlying5 Try.underlying9) (fun a876q h877q => ?_)
  clear h868q a867q
  refine WL.op' (m := 2) h877q rfl rfl ?_
  refine owp_run (v := .bool (decide ((toS r863q) = ([31, 154, 10] : List UInt8)))) h877q rfl (by kernel_rfl) (run_streq rfl rfl rfl) (fun a878q h879q => ?_)
  clear h877q a876q
  refine WL.block (c := 1) (m' := 4) h879q rfl [(4, .bool (decide ((toS r863q) = ([31, 154, 10] : List UInt8))))] (by kernel_rfl) (fun a880q h881q => ?_)
  clear h879q a878q
  by_cases c882q : (toS r863q) = ([31, 154, 10] : List UInt8)
  · rw [if_pos c882q] at H
    have hb_ : (decide ((toS r863q) = ([31, 154, 10] : List UInt8))) = true := decide_eq_true c882q
    try rw [hb_] at h881q
    clear hb_
    obtain ⟨r884q, A883q, H⟩ := bind1 H
    refine WL.op' (m := 4) h881q rfl rfl ?_
    refine owp_call [.int .i64 5, .int .u32 10] h881q rfl (by kernel_rfl) rfl Try.func9 (by kernel_rfl) rfl (by kernel_rfl) (prefix_Size.calls k  A883q hS873q) (fun e886q W885q hp887q => ?_)
    obtain ⟨rfl, hS890q⟩ := hp887q
    refine ⟨_, rfl, fun a888q h889q => ?_⟩
    clear h881q a880q
    refine WL.op' (m := 5) h889q rfl rfl (owp_run h889q rfl (by kernel_rfl) (v := .bool (decide (r884q = 1))) (by kernel_rfl) (fun a891q h892q => ?_))
    clear h889q a888q
    refine WL.block (c := 2) (m' := 8) h892q rfl [(0, .bool (decide (r884q = 1))), (7, .bool (decide (r884q = 1)))] (by kernel_rfl) (fun a893q h894q => ?_)
    clear h892q a891q
    refine WL.done (by kernel_rfl) ?_
    refine wp_ret ?_
    have hS895q : St b w0 W885q R (Fs) := hS890q.drop_
    obtain rfl := Option.some.inj H
    repeat (first | refine then_ret ?_ | refine inBlock_ret ?_ | refine inBlock_go ?_)
    refine body_ret (v := .bool (decide (r884q = 1))) h894q (by kernel_rfl) (by kernel_rfl) ?_
    exact ⟨rfl, hS895q⟩
  · rw [if_neg c882q] at H
    have hb_ : (decide ((toS r863q) = ([31, 154, 10] : List UInt8))) = false := decide_eq_false c882q
    try rw [hb_] at h881q
    clear hb_
    refine WL.skipped (m := 4) h881q rfl rfl (by kernel_rfl) rfl (fun a896q h897q => ?_)
    clear h881q a880q
    refine WL.skipped (m := 5) h897q rfl rfl (by kernel_rfl) rfl (fun a898q h899q => ?_)
    clear h897q a896q
    refine WL.block (c := 2) (m' := 8) h899q rfl [(0, .bool false), (7, .bool false)] (by kernel_rfl) (fun a900q h901q => ?_)
    clear h899q a898q
    refine WL.done (by kernel_rfl) ?_
    refine wp_ret ?_
    have hS902q : St b w0 W864q R (Fs) := hS873q.drop_
    obtain rfl := Option.some.inj H
    repeat (first | refine then_ret ?_ | refine inBlock_ret ?_ | refine inBlock_go ?_)
    refine body_ret (v := .bool false) h901q (by kernel_rfl) (by kernel_rfl) ?_
    exact ⟨rfl, hS902q⟩

/-! ### louver/louverref02.top -/
def louverref02qtop.l0 : Nat → Int → Int → Int → Option (Int)
  | 0, _, _, _ => none
  | k + 1, x960q, x961q, p0 => if x961q < p0 then (louverref02qtop.l0 k (IntKind.u64.wrap (x960q * 2)) (IntKind.i64.wrap (x961q + 1)) p0) else (some (IntKind.u64.wrap (x960q - 1)))
def louverref02qtop.f (k : Nat) (p0 : Int) : Option (Int) := louverref02qtop.l0 k 1 0 p0
set_option maxHeartbeats 2000000 in
set_option maxRecDepth 100000 in
theorem louverref02qtop.calls (k : Nat) {b : Nat} {w0 W : World} {R : Frag} {Fs : List Frag} {p0 : Int}  {r0q : Int}  (H : louverref02qtop.f k p0 = some r0q) (hS : St b w0 W R (Fs)) :
    Calls Try.prog 16 ([.int .i64 p0] : List Value).toArray W (fun e W' => e = .returned (.int .u64 r0q) ∧ St b w0 W' R (Fs)) := by
  unfold louverref02qtop.f at H
  refine calls_enter Try.func16 rfl 14 rfl (by kernel_rfl) (fun a h => ?_)
  refine wp_seq ?_
  refine WL.start ?_
  refine WL.block (c := 1) (m' := 1) h rfl [(2, .int .u64 0)] (by kernel_rfl) (fun a949q h950q => ?_)
  refine WL.done (by kernel_rfl) ?_
  refine wp_seq ?_
  refine WL.start ?_
  refine WL.block (c := 1) (m' := 1) h950q rfl [(3, .int .u64 1)] (by kernel_rfl) (fun a951q h952q => ?_)
  clear h950q a949q
  refine WL.done (by kernel_rfl) ?_
  refine wp_seq ?_
  refine wp_seq ?_
  refine WL.start ?_
  refine WL.block (c := 1) (m' := 1) h952q rfl [(4, .int .i64 0)] (by kernel_rfl) (fun a953q h954q => ?_)
  clear h952q a951q
  refine WL.done (by kernel_rfl) ?_
  refine wp_block ?_
  refine wp_loop_ghost (fun kq_ a_ W_ => ∃ (x960q : Int), ∃ (x961q : Int), Hd a_ 14 [(0, .int .i64 p0), (3, .int .u64 x960q), (4, .int .i64 x961q)] ∧ Asd (louverref02qtop.l0 kq_ x960q x961q p0 = some r0q) ∧ Asd (kq_ ≤ k) ∧ Asd (St b w0 W_ R (Fs))) k ⟨1, 0, h954q.keep ⟨rfl, rfl, rfl, trivial⟩, ⟨H⟩, ⟨Nat.le_refl _⟩, ⟨hS⟩⟩ ?_
  clear H hS
  rintro k959q a956q W957q ⟨x960q, x961q, h955q, ⟨H⟩, ⟨hkk959q⟩, ⟨hS958q⟩⟩
  obtain _ | k962q := k959q
  · exact absurd H (by simp [louverref02qtop.l0])
  simp only [louverref02qtop.l0] at H
  refine wp_seq ?_
  refine wp_seq ?_
  refine WL.start ?_
  refine WL.block (c := 3) (m' := 3) h955q rfl [(7, .bool (decide (x961q < p0))), (6, .int .i64 p0), (5, .int .i64 x961q)] (by kernel_rfl) (fun a963q h964q => ?_)
  clear h955q a956q
  refine WL.done (by kernel_rfl) ?_
  by_cases c965q : x961q < p0
  · rw [if_pos c965q] at H
    have hb_ : (decide (x961q < p0)) = true := decide_eq_true c965q
    try rw [hb_] at h964q
    clear hb_
    refine wp_then h964q rfl ?_
    refine wp_skip ?_
    refine wp_seq ?_
    refine wp_block ?_
    refine WL.start ?_
    refine WL.block (c := 3) (m' := 3) h964q rfl [(3, .int .u64 (IntKind.u64.wrap (x960q * 2))), (11, .int .u64 (IntKind.u64.wrap (x960q * 2))), (10, .int .u64 x960q)] (by kernel_rfl) (fun a966q h967q => ?_)
    clear h964q a963q
    refine WL.done (by kernel_rfl) ?_
    refine WL.start ?_
    refine WL.block (c := 3) (m' := 3) h967q rfl [(4, .int .i64 (IntKind.i64.wrap (x961q + 1))), (9, .int .i64 (IntKind.i64.wrap (x961q + 1))), (8, .int .i64 x961q)] (by kernel_rfl) (fun a968q h969q => ?_)
    clear h967q a966q
    refine WL.done (by kernel_rfl) ?_
    exact ⟨k962q, by omega, IntKind.u64.wrap (x960q * 2), IntKind.i64.wrap (x961q + 1), h969q.keep ⟨rfl, rfl, rfl, trivial⟩, ⟨H⟩, ⟨by omega⟩, ⟨hS958q⟩⟩
  · rw [if_neg c965q] at H
    have hb_ : (decide (x961q < p0)) = false := decide_eq_false c965q
    try rw [hb_] at h964q
    clear hb_
    refine wp_else h964q rfl ?_
    refine wp_exit ?_
    refine wp_seq ?_
    refine WL.start ?_
    refine WL.block (c := 3) (m' := 3) h964q rfl [(2, .int .u64 (IntKind.u64.wrap (x960q - 1))), (13, .int .u64 (IntKind.u64.wrap (x960q - 1))), (12, .int .u64 x960q)] (by kernel_rfl) (fun a970q h971q => ?_)
    clear h964q a963q
    refine WL.done (by kernel_rfl) ?_
    refine wp_ret ?_
    obtain rfl := Option.some.inj H
    repeat (first | refine then_ret ?_ | refine inBlock_ret ?_ | refine inBlock_go ?_)
    refine body_ret (v := .int .u64 (IntKind.u64.wrap (x960q - 1))) h971q (by kernel_rfl) (by kernel_rfl) ?_
    exact ⟨rfl, hS958q⟩

/-! ### louver/louverref02.Put -/
def louverref02qPut.l0 : Nat → (List Int) → Int → Option ((List Int))
  | 0, _, _ => none
  | k + 1, x1322q, x1327q => if x1327q ≥ 128 then (if x1322q.length + 1 ≤ 140737488355328 then (lt1 (x1322q ++ ([IntKind.u8.wrap (IntKind.u64.wrap ((Int.tmod x1327q 128) + 128))] : List Int) : List Int) fun y1351q => (louverref02qPut.l0 k y1351q (IntKind.u64.wrap (Int.tdiv x1327q 128)))) else (none)) else (if x1322q.length + 1 ≤ 140737488355328 then (lt1 (x1322q ++ ([IntKind.u8.wrap x1327q] : List Int) : List Int) fun y1379q => (some y1379q)) else (none))
def louverref02qPut.f (k : Nat) (p0 : Int) (p1 : Int) (p2 : Int) : Option ((List Int)) := bnd1 (louverref02qtop.f k p0) fun r1273q => (if ¬ ((IntKind.u64.wrap (r1273q + 1)) = 0) then (if (IntKind.u64.wrap p2) < r1273q then (some ([IntKind.u8.wrap (IntKind.u64.wrap ((IntKind.u64.wrap ((IntKind.u64.wrap (Int.tdiv (IntKind.u64.wrap p1) (IntKind.u64.wrap (r1273q + 1)))) * (IntKind.u64.wrap (r1273q + 1)))) + (IntKind.u64.wrap p2)))] : List Int)) else (louverref02qPut.l0 k ([IntKind.u8.wrap (IntKind.u64.wrap ((IntKind.u64.wrap ((IntKind.u64.wrap (Int.tdiv (IntKind.u64.wrap p1) (IntKind.u64.wrap (r1273q + 1)))) * (IntKind.u64.wrap (r1273q + 1)))) + r1273q))] : List Int) (IntKind.u64.wrap ((IntKind.u64.wrap p2) - r1273q)))) else (none))
set_option maxHeartbeats 2000000 in
set_option maxRecDepth 100000 in
theorem louverref02qPut.calls (k : Nat) {b : Nat} {w0 W : World} {R : Frag} {Fs : List Frag} {p0 : Int} {p1 : Int} {p2 : Int}  {r0q : (List Int)}  (H : louverref02qPut.f k p0 p1 p2 = some r0q) (hS : St b w0 W R (Fs)) :
    Calls Try.prog 11 ([.int .i64 p0, .int .u8 p1, .int .u32 p2] : List Value).toArray W (fun e W' => ∃ (u0q : Value) (N0q : Frag), e = .returned (u0q) ∧ Row (kInt .u8) 5 b w0 R u0q r0q N0q ∧ St b w0 W' R (N0q :: Fs)) := by
  unfold louverref02qPut.f at H
  refine calls_enter Try.func11 rfl 56 rfl (by kernel_rfl) (fun a h => ?_)
  refine wp_seq ?_
  refine WL.start ?_
  refine WL.block (c := 1) (m' := 1) h rfl [(6, .slice none 0 0)] (by kernel_rfl) (fun a1268q h1269q => ?_)
  refine WL.done (by kernel_rfl) ?_
  refine wp_seq ?_
  refine WL.start ?_
  refine WL.block (c := 1) (m' := 1) h1269q rfl [(11, .int .i64 p0)] (by kernel_rfl) (fun a1270q h1271q => ?_)
  clear h1269q a1268q
  obtain ⟨r1273q, A1272q, H⟩ := bind1 H
  refine WL.op' (m := 1) h1271q rfl rfl ?_
  refine owp_call [.int .i64 p0] h1271q rfl (by kernel_rfl) rfl Try.func16 (by kernel_rfl) rfl (by kernel_rfl) (louverref02qtop.calls k  A1272q hS) (fun e1275q W1274q hp1276q => ?_)
  obtain ⟨rfl, hS1279q⟩ := hp1276q
  refine ⟨_, rfl, fun a1277q h1278q => ?_⟩
  clear h1271q a1270q
  refine WL.block (c := 1) (m' := 3) h1278q rfl [(7, .int .u64 r1273q)] (by kernel_rfl) (fun a1280q h1281q => ?_)
  clear h1278q a1277q
  refine WL.done (by kernel_rfl) ?_
  refine wp_seq ?_
  refine WL.start ?_
  refine WL.block (c := 4) (m' := 4) h1281q rfl [(16, .int .u64 (IntKind.u64.wrap (r1273q + 1))), (15, .int .u64 r1273q), (14, .int .u64 (IntKind.u64.wrap p1)), (13, .int .u8 p1)] (by kernel_rfl) (fun a1282q h1283q => ?_)
  clear h1281q a1280q
  by_cases c1284q : ¬ ((IntKind.u64.wrap (r1273q + 1)) = 0)
  · rw [if_pos c1284q] at H
    refine WL.op' (m := 4) h1283q rfl rfl ?_
    refine owp_run (v := .int .u64 (IntKind.u64.wrap (Int.tdiv (IntKind.u64.wrap p1) (IntKind.u64.wrap (r1273q + 1))))) h1283q rfl (by kernel_rfl) (run_quo rfl rfl rfl (by assumption)) (fun a1285q h1286q => ?_)
    clear h1283q a1282q
    refine WL.block (c := 4) (m' := 9) h1286q rfl [(8, .int .u64 (IntKind.u64.wrap ((IntKind.u64.wrap (Int.tdiv (IntKind.u64.wrap p1) (IntKind.u64.wrap (r1273q + 1)))) * (IntKind.u64.wrap (r1273q + 1))))), (20, .int .u64 (IntKind.u64.wrap ((IntKind.u64.wrap (Int.tdiv (IntKind.u64.wrap p1) (IntKind.u64.wrap (r1273q + 1)))) * (IntKind.u64.wrap (r1273q + 1))))), (19, .int .u64 (IntKind.u64.wrap (r1273q + 1))), (18, .int .u64 r1273q)] (by kernel_rfl) (fun a1287q h1288q => ?_)
    clear h1286q a1285q
    refine WL.done (by kernel_rfl) ?_
    refine wp_seq ?_
    refine wp_seq ?_
    refine WL.start ?_
    refine WL.block (c := 4) (m' := 4) h1288q rfl [(24, .bool (decide ((IntKind.u64.wrap p2) < r1273q))), (23, .int .u64 r1273q), (22, .int .u64 (IntKind.u64.wrap p2)), (21, .int .u32 p2)] (by kernel_rfl) (fun a1289q h1290q => ?_)
    clear h1288q a1287q
    refine WL.done (by kernel_rfl) ?_
    by_cases c1291q : (IntKind.u64.wrap p2) < r1273q
    · rw [if_pos c1291q] at H
      have hb_ : (decide ((IntKind.u64.wrap p2) < r1273q)) = true := decide_eq_true c1291q
      try rw [hb_] at h1290q
      clear hb_
      refine wp_then h1290q rfl ?_
      refine wp_seq ?_
      refine WL.start ?_
      refine WL.block (c := 5) (m' := 5) h1290q rfl [(29, .int .u8 (IntKind.u8.wrap (IntKind.u64.wrap ((IntKind.u64.wrap ((IntKind.u64.wrap (Int.tdiv (IntKind.u64.wrap p1) (IntKind.u64.wrap (r1273q + 1)))) * (IntKind.u64.wrap (r1273q + 1)))) + (IntKind.u64.wrap p2))))), (28, .int .u64 (IntKind.u64.wrap ((IntKind.u64.wrap ((IntKind.u64.wrap (Int.tdiv (IntKind.u64.wrap p1) (IntKind.u64.wrap (r1273q + 1)))) * (IntKind.u64.wrap (r1273q + 1)))) + (IntKind.u64.wrap p2)))), (27, .int .u64 (IntKind.u64.wrap p2)), (26, .int .u32 p2), (25, .int .u64 (IntKind.u64.wrap ((IntKind.u64.wrap (Int.tdiv (IntKind.u64.wrap p1) (IntKind.u64.wrap (r1273q + 1)))) * (IntKind.u64.wrap (r1273q + 1)))))] (by kernel_rfl) (fun a1292q h1293q => ?_)
      clear h1290q a1289q
      refine WL.op' (m := 5) h1293q rfl rfl ?_
      refine owp_new (fun g_ => .slice (some ⟨g_, 0, none⟩) 1 1) (.cells ([.int .u8 (IntKind.u8.wrap (IntKind.u64.wrap ((IntKind.u64.wrap ((IntKind.u64.wrap (Int.tdiv (IntKind.u64.wrap p1) (IntKind.u64.wrap (r1273q + 1)))) * (IntKind.u64.wrap (r1273q + 1)))) + (IntKind.u64.wrap p2))))] : List Value).toArray 5 (0, 0)) h1293q rfl (by kernel_rfl) (by kernel_rfl) hS1279q (fun a1294q W1296q g1297q h1295q hS1298q => ?_)
      clear h1293q a1292q
      have hr1300q : Row (kInt .u8) 5 b w0 R (.slice (some ⟨g1297q, 0, none⟩) 1 1) ([IntKind.u8.wrap (IntKind.u64.wrap ((IntKind.u64.wrap ((IntKind.u64.wrap (Int.tdiv (IntKind.u64.wrap p1) (IntKind.u64.wrap (r1273q + 1)))) * (IntKind.u64.wrap (r1273q + 1)))) + (IntKind.u64.wrap p2)))] : List Int) [(g1297q, .cells ([.int .u8 (IntKind.u8.wrap (IntKind.u64.wrap ((IntKind.u64.wrap ((IntKind.u64.wrap (Int.tdiv (IntKind.u64.wrap p1) (IntKind.u64.wrap (r1273q + 1)))) * (IntKind.u64.wrap (r1273q + 1)))) + (IntKind.u64.wrap p2))))] : List Value).toArray 5 (0, 0))] := Row.lit (xs := ([IntKind.u8.wrap (IntKind.u64.wrap ((IntKind.u64.wrap ((IntKind.u64.wrap (Int.tdiv (IntKind.u64.wrap p1) (IntKind.u64.wrap (r1273q + 1)))) * (IntKind.u64.wrap (r1273q + 1)))) + (IntKind.u64.wrap p2)))] : List Int)) (Mi := []) ⟨_, _, [], _, rfl, rfl, ⟨rfl, rfl⟩, ⟨rfl, rfl⟩⟩ (by simp [maxLen])
      refine WL.block (c := 1) (m' := 7) h1295q rfl [(6, .slice (some ⟨g1297q, 0, none⟩) 1 1)] (by kernel_rfl) (fun a1301q h1302q => ?_)
      clear h1295q a1294q
      refine WL.done (by kernel_rfl) ?_
      refine wp_ret ?_
      obtain rfl := Option.some.inj H
      repeat (first | refine then_ret ?_ | refine inBlock_ret ?_ | refine inBlock_go ?_)
      refine body_ret (v := .slice (some ⟨g1297q, 0, none⟩) 1 1) h1302q (by kernel_rfl) (by kernel_rfl) ?_
      exact ⟨.slice (some ⟨g1297q, 0, none⟩) 1 1, [(g1297q, .cells ([.int .u8 (IntKind.u8.wrap (IntKind.u64.wrap ((IntKind.u64.wrap ((IntKind.u64.wrap (Int.tdiv (IntKind.u64.wrap p1) (IntKind.u64.wrap (r1273q + 1)))) * (IntKind.u64.wrap (r1273q + 1)))) + (IntKind.u64.wrap p2))))] : List Value).toArray 5 (0, 0))], rfl, hr1300q, hS1298q⟩
    · rw [if_neg c1291q] at H
      have hb_ : (decide ((IntKind.u64.wrap p2) < r1273q)) = false := decide_eq_false c1291q
      try rw [hb_] at h1290q
      clear hb_
      refine wp_else h1290q rfl ?_
      refine wp_skip ?_
      refine wp_seq ?_
      refine WL.start ?_
      refine WL.block (c := 4) (m' := 4) h1290q rfl [(34, .int .u8 (IntKind.u8.wrap (IntKind.u64.wrap ((IntKind.u64.wrap ((IntKind.u64.wrap (Int.tdiv (IntKind.u64.wrap p1) (IntKind.u64.wrap (r1273q + 1)))) * (IntKind.u64.wrap (r1273q + 1)))) + r1273q)))), (33, .int .u64 (IntKind.u64.wrap ((IntKind.u64.wrap ((IntKind.u64.wrap (Int.tdiv (IntKind.u64.wrap p1) (IntKind.u64.wrap (r1273q + 1)))) * (IntKind.u64.wrap (r1273q + 1)))) + r1273q))), (32, .int .u64 r1273q), (31, .int .u64 (IntKind.u64.wrap ((IntKind.u64.wrap (Int.tdiv (IntKind.u64.wrap p1) (IntKind.u64.wrap (r1273q + 1)))) * (IntKind.u64.wrap (r1273q + 1)))))] (by kernel_rfl) (fun a1303q h1304q => ?_)
      clear h1290q a1289q
      refine WL.op' (m := 4) h1304q rfl rfl ?_
      refine owp_new (fun g_ => .slice (some ⟨g_, 0, none⟩) 1 1) (.cells ([.int .u8 (IntKind.u8.wrap (IntKind.u64.wrap ((IntKind.u64.wrap ((IntKind.u64.wrap (Int.tdiv (IntKind.u64.wrap p1) (IntKind.u64.wrap (r1273q + 1)))) * (IntKind.u64.wrap (r1273q + 1)))) + r1273q)))] : List Value).toArray 5 (0, 0)) h1304q rfl (by kernel_rfl) (by kernel_rfl) hS1279q (fun a1305q W1307q g1308q h1306q hS1309q => ?_)
      clear h1304q a1303q
      have hr1311q : Row (kInt .u8) 5 b w0 R (.slice (some ⟨g1308q, 0, none⟩) 1 1) ([IntKind.u8.wrap (IntKind.u64.wrap ((IntKind.u64.wrap ((IntKind.u64.wrap (Int.tdiv (IntKind.u64.wrap p1) (IntKind.u64.wrap (r1273q + 1)))) * (IntKind.u64.wrap (r1273q + 1)))) + r1273q))] : List Int) [(g1308q, .cells ([.int .u8 (IntKind.u8.wrap (IntKind.u64.wrap ((IntKind.u64.wrap ((IntKind.u64.wrap (Int.tdiv (IntKind.u64.wrap p1) (IntKind.u64.wrap (r1273q + 1)))) * (IntKind.u64.wrap (r1273q + 1)))) + r1273q)))] : List Value).toArray 5 (0, 0))] := Row.lit (xs := ([IntKind.u8.wrap (IntKind.u64.wrap ((IntKind.u64.wrap ((IntKind.u64.wrap (Int.tdiv (IntKind.u64.wrap p1) (IntKind.u64.wrap (r1273q + 1)))) * (IntKind.u64.wrap (r1273q + 1)))) + r1273q))] : List Int)) (Mi := []) ⟨_, _, [], _, rfl, rfl, ⟨rfl, rfl⟩, ⟨rfl, rfl⟩⟩ (by simp [maxLen])
      refine WL.block (c := 1) (m' := 6) h1306q rfl [(9, .slice (some ⟨g1308q, 0, none⟩) 1 1)] (by kernel_rfl) (fun a1312q h1313q => ?_)
      clear h1306q a1305q
      refine WL.done (by kernel_rfl) ?_
      refine wp_seq ?_
      refine WL.start ?_
      refine WL.block (c := 5) (m' := 5) h1313q rfl [(10, .int .u64 (IntKind.u64.wrap ((IntKind.u64.wrap p2) - r1273q))), (39, .int .u64 (IntKind.u64.wrap ((IntKind.u64.wrap p2) - r1273q))), (38, .int .u64 r1273q), (37, .int .u64 (IntKind.u64.wrap p2)), (36, .int .u32 p2)] (by kernel_rfl) (fun a1314q h1315q => ?_)
      clear h1313q a1312q
      refine WL.done (by kernel_rfl) ?_
      refine wp_seq ?_
      refine wp_block ?_
      refine wp_loop_ghost (fun kq_ a_ W_ => ∃ (x1322q : (List Int)), ∃ (A1323q : Option Addr), ∃ (c1324q : Nat), ∃ (M1325q : Frag), ∃ (x1327q : Int), Hd a_ 56 [(9, .slice A1323q x1322q.length c1324q), (10, .int .u64 x1327q)] ∧ Asd (louverref02qPut.l0 kq_ x1322q x1327q = some r0q) ∧ Asd (kq_ ≤ k) ∧ Asd (St b w0 W_ R (M1325q :: Fs)) ∧ Asd (Row (kInt .u8) 5 b w0 R (.slice A1323q x1322q.length c1324q) x1322q M1325q)) k ⟨([IntKind.u8.wrap (IntKind.u64.wrap ((IntKind.u64.wrap ((IntKind.u64.wrap (Int.tdiv (IntKind.u64.wrap p1) (IntKind.u64.wrap (r1273q + 1)))) * (IntKind.u64.wrap (r1273q + 1)))) + r1273q))] : List Int), (some ⟨g1308q, 0, none⟩), 1, [(g1308q, .cells ([.int .u8 (IntKind.u8.wrap (IntKind.u64.wrap ((IntKind.u64.wrap ((IntKind.u64.wrap (Int.tdiv (IntKind.u64.wrap p1) (IntKind.u64.wrap (r1273q + 1)))) * (IntKind.u64.wrap (r1273q + 1)))) + r1273q)))] : List Value).toArray 5 (0, 0))], IntKind.u64.wrap ((IntKind.u64.wrap p2) - r1273q), h1315q.keep ⟨rfl, rfl, trivial⟩, ⟨H⟩, ⟨Nat.le_refl _⟩, ⟨hS1309q⟩, ⟨hr1311q⟩⟩ ?_
      clear H hS1309q
      rintro k1320q a1317q W1318q ⟨x1322q, A1323q, c1324q, M1325q, x1327q, h1316q, ⟨H⟩, ⟨hkk1320q⟩, ⟨hS1319q⟩, ⟨hr1326q⟩⟩
      obtain _ | k1328q := k1320q
      · exact absurd H (by simp [louverref02qPut.l0])
      simp only [louverref02qPut.l0] at H
      refine wp_seq ?_
      refine wp_seq ?_
      refine WL.start ?_
      refine WL.block (c := 2) (m' := 2) h1316q rfl [(41, .bool (decide (x1327q ≥ 128))), (40, .int .u64 x1327q)] (by kernel_rfl) (fun a1329q h1330q => ?_)
      clear h1316q a1317q
      refine WL.done (by kernel_rfl) ?_
      by_cases c1331q : x1327q ≥ 128
      · rw [if_pos c1331q] at H
        have hb_ : (decide (x1327q ≥ 128)) = true := decide_eq_true c1331q
        try rw [hb_] at h1330q
        clear hb_
        refine wp_then h1330q rfl ?_
        refine wp_skip ?_
        refine wp_block ?_
        refine wp_seq ?_
        refine WL.start ?_
        refine WL.block (c := 5) (m' := 5) h1330q rfl [(46, .int .u8 (IntKind.u8.wrap (IntKind.u64.wrap ((Int.tmod x1327q 128) + 128)))), (45, .int .u64 (IntKind.u64.wrap ((Int.tmod x1327q 128) + 128))), (44, .int .u64 (Int.tmod x1327q 128)), (43, .int .u64 x1327q), (42, .slice A1323q x1322q.length c1324q)] (by kernel_rfl) (fun a1332q h1333q => ?_)
        clear h1330q a1329q
        refine WL.op' (m := 5) h1333q rfl rfl ?_
        refine owp_new (fun g_ => .slice (some ⟨g_, 0, none⟩) 1 1) (.cells ([.int .u8 (IntKind.u8.wrap (IntKind.u64.wrap ((Int.tmod x1327q 128) + 128)))] : List Value).toArray 5 (0, 0)) h1333q rfl (by kernel_rfl) (by kernel_rfl) hS1319q (fun a1334q W1336q g1337q h1335q hS1338q => ?_)
        clear h1333q a1332q
        have hr1340q : Row (kInt .u8) 5 b w0 R (.slice (some ⟨g1337q, 0, none⟩) 1 1) ([IntKind.u8.wrap (IntKind.u64.wrap ((Int.tmod x1327q 128) + 128))] : List Int) [(g1337q, .cells ([.int .u8 (IntKind.u8.wrap (IntKind.u64.wrap ((Int.tmod x1327q 128) + 128)))] : List Value).toArray 5 (0, 0))] := Row.lit (xs := ([IntKind.u8.wrap (IntKind.u64.wrap ((Int.tmod x1327q 128) + 128))] : List Int)) (Mi := []) ⟨_, _, [], _, rfl, rfl, ⟨rfl, rfl⟩, ⟨rfl, rfl⟩⟩ (by simp [maxLen])
        by_cases c1341q : x1322q.length + 1 ≤ 140737488355328
        · rw [if_pos c1341q] at H
          have hS1342q : St b w0 W1336q R (M1325q :: [(g1337q, .cells ([.int .u8 (IntKind.u8.wrap (IntKind.u64.wrap ((Int.tmod x1327q 128) + 128)))] : List Value).toArray 5 (0, 0))] :: Fs) := hS1338q.bring 1 rfl rfl
          refine WL.op' (m := 6) h1335q rfl rfl ?_
          refine owp_app_take (z := .int .u8 0) (bytes := 1) (dk := (kInt .u8)) h1335q rfl (by kernel_rfl) rfl rfl rfl hr1326q hr1340q hS1342q Try.underlying26 (by kernel_rfl) rfl (by decide) (by decide) (by first | omega | (simp only [List.length_cons, List.length_nil] at *; omega)) (fun a1343q W1345q v1346q M1347q h1344q hr1348q hS1349q => ?_)
          clear h1335q a1334q
          obtain ⟨y1351q, hy1352q, H⟩ := lete H
          have hr1353q : Row (kInt .u8) 5 b w0 R v1346q y1351q M1347q := by rw [hy1352q]; exact hr1348q
          clear hr1348q
          obtain ⟨A1354q, c1355q, rfl⟩ := hr1353q.form
          refine WL.block (c := 1) (m' := 8) h1344q rfl [(9, .slice A1354q y1351q.length c1355q)] (by kernel_rfl) (fun a1356q h1357q => ?_)
          clear h1344q a1343q
          refine WL.done (by kernel_rfl) ?_
          refine WL.start ?_
          refine WL.block (c := 3) (m' := 3) h1357q rfl [(10, .int .u64 (IntKind.u64.wrap (Int.tdiv x1327q 128))), (50, .int .u64 (IntKind.u64.wrap (Int.tdiv x1327q 128))), (49, .int .u64 x1327q)] (by kernel_rfl) (fun a1358q h1359q => ?_)
          clear h1357q a1356q
          refine WL.done (by kernel_rfl) ?_
          exact ⟨k1328q, by omega, y1351q, A1354q, c1355q, M1347q, IntKind.u64.wrap (Int.tdiv x1327q 128), h1359q.keep ⟨rfl, rfl, trivial⟩, ⟨H⟩, ⟨by omega⟩, ⟨hS1349q⟩, ⟨hr1353q⟩⟩
        · rw [if_neg c1341q] at H
          cases H
      · rw [if_neg c1331q] at H
        have hb_ : (decide (x1327q ≥ 128)) = false := decide_eq_false c1331q
        try rw [hb_] at h1330q
        clear hb_
        refine wp_else h1330q rfl ?_
        refine wp_exit ?_
        refine wp_seq ?_
        refine WL.start ?_
        refine WL.block (c := 3) (m' := 3) h1330q rfl [(53, .int .u8 (IntKind.u8.wrap x1327q)), (52, .int .u64 x1327q), (51, .slice A1323q x1322q.length c1324q)] (by kernel_rfl) (fun a1360q h1361q => ?_)
        clear h1330q a1329q
        refine WL.op' (m := 3) h1361q rfl rfl ?_
        refine owp_new (fun g_ => .slice (some ⟨g_, 0, none⟩) 1 1) (.cells ([.int .u8 (IntKind.u8.wrap x1327q)] : List Value).toArray 5 (0, 0)) h1361q rfl (by kernel_rfl) (by kernel_rfl) hS1319q (fun a1362q W1364q g1365q h1363q hS1366q => ?_)
        clear h1361q a1360q
        have hr1368q : Row (kInt .u8) 5 b w0 R (.slice (some ⟨g1365q, 0, none⟩) 1 1) ([IntKind.u8.wrap x1327q] : List Int) [(g1365q, .cells ([.int .u8 (IntKind.u8.wrap x1327q)] : List Value).toArray 5 (0, 0))] := Row.lit (xs := ([IntKind.u8.wrap x1327q] : List Int)) (Mi := []) ⟨_, _, [], _, rfl, rfl, ⟨rfl, rfl⟩, ⟨rfl, rfl⟩⟩ (by simp [maxLen])
        by_cases c1369q : x1322q.length + 1 ≤ 140737488355328
        · rw [if_pos c1369q] at H
          have hS1370q : St b w0 W1364q R (M1325q :: [(g1365q, .cells ([.int .u8 (IntKind.u8.wrap x1327q)] : List Value).toArray 5 (0, 0))] :: Fs) := hS1366q.bring 1 rfl rfl
          refine WL.op' (m := 4) h1363q rfl rfl ?_
          refine owp_app_take (z := .int .u8 0) (bytes := 1) (dk := (kInt .u8)) h1363q rfl (by kernel_rfl) rfl rfl rfl hr1326q hr1368q hS1370q Try.underlying26 (by kernel_rfl) rfl (by decide) (by decide) (by first | omega | (simp only [List.length_cons, List.length_nil] at *; omega)) (fun a1371q W1373q v1374q M1375q h1372q hr1376q hS1377q => ?_)
          clear h1363q a1362q
          obtain ⟨y1379q, hy1380q, H⟩ := lete H
          have hr1381q : Row (kInt .u8) 5 b w0 R v1374q y1379q M1375q := by rw [hy1380q]; exact hr1376q
          clear hr1376q
          obtain ⟨A1382q, c1383q, rfl⟩ := hr1381q.form
          refine WL.block (c := 1) (m' := 6) h1372q rfl [(6, .slice A1382q y1379q.length c1383q)] (by kernel_rfl) (fun a1384q h1385q => ?_)
          clear h1372q a1371q
          refine WL.done (by kernel_rfl) ?_
          refine wp_ret ?_
          obtain rfl := Option.some.inj H
          repeat (first | refine then_ret ?_ | refine inBlock_ret ?_ | refine inBlock_go ?_)
          refine body_ret (v := .slice A1382q y1379q.length c1383q) h1385q (by kernel_rfl) (by kernel_rfl) ?_
          exact ⟨.slice A1382q y1379q.length c1383q, M1375q, rfl, hr1381q, hS1377q⟩
        · rw [if_neg c1369q] at H
          cases H
  · rw [if_neg c1284q] at H
    cases H

/-! ### louver/prefix.Get -/
def prefix_Get.l0 : Nat → Int → Int → (List Int) → Option (Int × Int × Int)
  | 0, _, _, _ => none
  | k + 1, x1697q, x1698q, p0 => if x1698q < ((p0.drop (1 : Int).toNat).length : Int) then (if 0 ≤ x1698q then (if x1698q = 4 then (some (0, 0, 4)) else (if 0 ≤ (IntKind.i64.wrap (7 * x1698q)) then (if (gt (0 : Int) (p0.drop (1 : Int).toNat) x1698q) < 128 then (if (IntKind.u64.wrap (x1697q + (shlI .u64 (IntKind.u64.wrap (bAnd .u8 (gt (0 : Int) (p0.drop (1 : Int).toNat) x1698q) 127)) (IntKind.i64.wrap (7 * x1698q))))) > 268435456 then (some (0, 0, 4)) else (some (IntKind.u32.wrap (IntKind.u64.wrap (x1697q + (shlI .u64 (IntKind.u64.wrap (bAnd .u8 (gt (0 : Int) (p0.drop (1 : Int).toNat) x1698q) 127)) (IntKind.i64.wrap (7 * x1698q))))), IntKind.i64.wrap (x1698q + 2), 0))) else (prefix_Get.l0 k (IntKind.u64.wrap (x1697q + (shlI .u64 (IntKind.u64.wrap (bAnd .u8 (gt (0 : Int) (p0.drop (1 : Int).toNat) x1698q) 127)) (IntKind.i64.wrap (7 * x1698q))))) (IntKind.i64.wrap (x1698q + 1)) p0)) else (none))) else (none)) else (some (0, 0, 2))
def prefix_Get.f (k : Nat) (p0 : (List Int)) (p1 : Int) : Option (Int × Int × Int) := bnd1 (prefix_right.f p1) fun r1635q => (if r1635q = true then (if (p0.length : Int) = 0 then (some (0, 0, 2)) else (if 0 ≤ p1 then (if 0 < (p0.length : Int) then (if (bAnd .u64 (IntKind.u64.wrap (gt (0 : Int) p0 (0 : Int))) (IntKind.u64.wrap (IntKind.u32.wrap ((shlI .u32 1 p1) - 1)))) < (IntKind.u64.wrap (IntKind.u32.wrap ((shlI .u32 1 p1) - 1))) then (some (IntKind.u32.wrap (bAnd .u64 (IntKind.u64.wrap (gt (0 : Int) p0 (0 : Int))) (IntKind.u64.wrap (IntKind.u32.wrap ((shlI .u32 1 p1) - 1)))), 1, 0)) else (if 1 ≤ (p0.length : Int) then (prefix_Get.l0 k (bAnd .u64 (IntKind.u64.wrap (gt (0 : Int) p0 (0 : Int))) (IntKind.u64.wrap (IntKind.u32.wrap ((shlI .u32 1 p1) - 1)))) 0 p0) else (none))) else (none)) else (none))) else (some (0, 0, 1)))
set_option maxHeartbeats 2000000 in
set_option maxRecDepth 100000 in
theorem prefix_Get.calls (k : Nat) {b : Nat} {w0 W : World} {R : Frag} {Fs : List Frag} {p0 : (List Int)} {p1 : Int} {v0 : Value} {r0q : Int} {r1q : Int} {r2q : Int} (hp0 : Rds (kInt .u8) b w0 R v0 p0) (H : prefix_Get.f k p0 p1 = some (r0q, r1q, r2q)) (hS : St b w0 W R (Fs)) :
    Calls Try.prog 12 ([v0, .int .i64 p1] : List Value).toArray W (fun e W' => e = .returned (.tuple #[.int .u32 r0q, .int .i64 r1q, .int .i64 r2q]) ∧ St b w0 W' R (Fs)) := by
  obtain ⟨A0, c0, rfl⟩ := hp0.form
  unfold prefix_Get.f at H
  refine calls_enter Try.func12 rfl 62 rfl (by kernel_rfl) (fun a h => ?_)
  refine wp_seq ?_
  refine WL.start ?_
  refine WL.block (c := 3) (m' := 3) h rfl [(6, .int .i64 0), (5, .int .i64 0), (4, .int .u32 0)] (by kernel_rfl) (fun a1630q h1631q => ?_)
  refine WL.done (by kernel_rfl) ?_
  refine wp_seq ?_
  refine wp_block ?_
  refine wp_seq ?_
  refine WL.start ?_
  refine WL.block (c := 1) (m' := 1) h1631q rfl [(12, .int .i64 p1)] (by kernel_rfl) (fun a1632q h1633q => ?_)
  clear h1631q a1630q
  obtain ⟨r1635q, A1634q, H⟩ := bind1 H
  refine WL.op' (m := 1) h1633q rfl rfl ?_
  refine owp_call [.int .i64 p1] h1633q rfl (by kernel_rfl) rfl Try.func15 (by kernel_rfl) rfl (by kernel_rfl) (prefix_right.calls  A1634q hS) (fun e1637q W1636q hp1638q => ?_)
  obtain ⟨rfl, hS1641q⟩ := hp1638q
  refine ⟨_, rfl, fun a1639q h1640q => ?_⟩
  clear h1633q a1632q
  refine WL.block (c := 2) (m' := 4) h1640q rfl [(11, .bool (!r1635q)), (14, .bool (!r1635q))] (by kernel_rfl) (fun a1642q h1643q => ?_)
  clear h1640q a1639q
  refine WL.done (by kernel_rfl) ?_
  by_cases c1644q : r1635q = true
  · rw [if_pos c1644q] at H
    have hb_ : r1635q = true := c1644q
    try rw [hb_] at h1643q
    clear hb_
    refine wp_else h1643q rfl ?_
    refine wp_seq ?_
    refine WL.start ?_
    refine WL.block (c := 4) (m' := 4) h1643q rfl [(15, .bool (decide ((p0.length : Int) = 0))), (18, .bool (decide ((p0.length : Int) = 0))), (17, .int .i64 (p0.length : Int)), (16, .slice A0 p0.length c0)] (by kernel_rfl) (fun a1645q h1646q => ?_)
    clear h1643q a1642q
    refine WL.done (by kernel_rfl) ?_
    by_cases c1647q : (p0.length : Int) = 0
    · rw [if_pos c1647q] at H
      have hb_ : (decide ((p0.length : Int) = 0)) = true := decide_eq_true c1647q
      try rw [hb_] at h1646q
      clear hb_
      refine wp_then h1646q rfl ?_
      refine wp_seq ?_
      refine WL.start ?_
      refine WL.block (c := 3) (m' := 3) h1646q rfl [(6, .int .i64 2), (5, .int .i64 0), (4, .int .u32 0)] (by kernel_rfl) (fun a1648q h1649q => ?_)
      clear h1646q a1645q
      refine WL.done (by kernel_rfl) ?_
      refine wp_ret ?_
      obtain ⟨rfl, rfl, rfl⟩ := ret3 H
      repeat (first | refine then_ret ?_ | refine inBlock_ret ?_ | refine inBlock_go ?_)
      refine body_ret (v := .tuple #[.int .u32 0, .int .i64 0, .int .i64 2]) h1649q (by kernel_rfl) (by kernel_rfl) ?_
      exact ⟨rfl, hS1641q⟩
    · rw [if_neg c1647q] at H
      have hb_ : (decide ((p0.length : Int) = 0)) = false := decide_eq_false c1647q
      try rw [hb_] at h1646q
      clear hb_
      refine wp_else h1646q rfl ?_
      refine wp_skip ?_
      refine wp_seq ?_
      refine WL.start ?_
      refine WL.block (c := 1) (m' := 1) h1646q rfl [(19, .int .i64 p1)] (by kernel_rfl) (fun a1650q h1651q => ?_)
      clear h1646q a1645q
      by_cases c1652q : 0 ≤ p1
      · rw [if_pos c1652q] at H
        refine WL.op' (m := 1) h1651q rfl rfl ?_
        refine owp_run (v := .int .u32 (shlI .u32 1 p1)) h1651q rfl (by kernel_rfl) (run_shl rfl rfl rfl (by assumption)) (fun a1653q h1654q => ?_)
        clear h1651q a1650q
        refine WL.block (c := 2) (m' := 4) h1654q rfl [(7, .int .u32 (IntKind.u32.wrap ((shlI .u32 1 p1) - 1))), (21, .int .u32 (IntKind.u32.wrap ((shlI .u32 1 p1) - 1)))] (by kernel_rfl) (fun a1655q h1656q => ?_)
        clear h1654q a1653q
        refine WL.done (by kernel_rfl) ?_
        refine wp_seq ?_
        refine WL.start ?_
        refine WL.block (c := 1) (m' := 1) h1656q rfl [(22, .slice A0 p0.length c0)] (by kernel_rfl) (fun a1657q h1658q => ?_)
        clear h1656q a1655q
        by_cases c1659q : 0 < (p0.length : Int)
        · rw [if_pos c1659q] at H
          have hi1662q : 0 ≤ (0 : Int) := by first | assumption | omega
          have hi1663q : 0 < (p0.length : Int) := by first | assumption | omega
          obtain ⟨ad1660q, _, ha1661q, -, -⟩ := Rds.elemAny hp0 hi1662q (gt_get (z := (0 : Int)) hi1662q hi1663q)
          refine WL.op' (m := 1) h1658q rfl rfl ?_
          refine owp_run (v := .pointer (some (ad1660q.add ((0 : Int).toNat * 1)))) h1658q rfl (by kernel_rfl) (run_idx (ad := ad1660q) (sz := 1) rfl (by rw [← ha1661q]; rfl) rfl Try.underlying26 (by kernel_rfl) hi1662q hi1663q) (fun a1664q h1665q => ?_)
          clear h1658q a1657q
          obtain ⟨ad1666q, cs1667q, ha1668q, hr1670q, hc1669q⟩ := Rds.elemAny hp0 hi1662q (gt_get (z := (0 : Int)) hi1662q hi1663q)
          rw [ha1661q] at ha1668q; obtain rfl := Option.some.inj ha1668q
          obtain rfl : cs1667q = [.int .u8 (gt (0 : Int) p0 (0 : Int))] := hr1670q
          refine WL.op' (m := 2) h1665q rfl rfl ?_
          refine owp_run (v := .int .u8 (gt (0 : Int) p0 (0 : Int))) h1665q rfl (by kernel_rfl) (run_load1 rfl rfl Try.underlying5 rfl (cell0 (hc1669q _ (fun _ _ hk_ => hS1641q.kn hk_)))) (fun a1671q h1672q => ?_)
          clear h1665q a1664q
          refine WL.block (c := 5) (m' := 8) h1672q rfl [(8, .int .u64 (bAnd .u64 (IntKind.u64.wrap (gt (0 : Int) p0 (0 : Int))) (IntKind.u64.wrap (IntKind.u32.wrap ((shlI .u32 1 p1) - 1))))), (28, .int .u64 (bAnd .u64 (IntKind.u64.wrap (gt (0 : Int) p0 (0 : Int))) (IntKind.u64.wrap (IntKind.u32.wrap ((shlI .u32 1 p1) - 1))))), (27, .int .u64 (IntKind.u64.wrap (IntKind.u32.wrap ((shlI .u32 1 p1) - 1)))), (26, .int .u32 (IntKind.u32.wrap ((shlI .u32 1 p1) - 1))), (25, .int .u64 (IntKind.u64.wrap (gt (0 : Int) p0 (0 : Int))))] (by kernel_rfl) (fun a1673q h1674q => ?_)
          clear h1672q a1671q
          refine WL.done (by kernel_rfl) ?_
          refine wp_seq ?_
          refine wp_seq ?_
          refine WL.start ?_
          refine WL.block (c := 4) (m' := 4) h1674q rfl [(32, .bool (decide ((bAnd .u64 (IntKind.u64.wrap (gt (0 : Int) p0 (0 : Int))) (IntKind.u64.wrap (IntKind.u32.wrap ((shlI .u32 1 p1) - 1)))) < (IntKind.u64.wrap (IntKind.u32.wrap ((shlI .u32 1 p1) - 1)))))), (31, .int .u64 (IntKind.u64.wrap (IntKind.u32.wrap ((shlI .u32 1 p1) - 1)))), (30, .int .u32 (IntKind.u32.wrap ((shlI .u32 1 p1) - 1))), (29, .int .u64 (bAnd .u64 (IntKind.u64.wrap (gt (0 : Int) p0 (0 : Int))) (IntKind.u64.wrap (IntKind.u32.wrap ((shlI .u32 1 p1) - 1)))))] (by kernel_rfl) (fun a1675q h1676q => ?_)
          clear h1674q a1673q
          refine WL.done (by kernel_rfl) ?_
          by_cases c1677q : (bAnd .u64 (IntKind.u64.wrap (gt (0 : Int) p0 (0 : Int))) (IntKind.u64.wrap (IntKind.u32.wrap ((shlI .u32 1 p1) - 1)))) < (IntKind.u64.wrap (IntKind.u32.wrap ((shlI .u32 1 p1) - 1)))
          · rw [if_pos c1677q] at H
            have hb_ : (decide ((bAnd .u64 (IntKind.u64.wrap (gt (0 : Int) p0 (0 : Int))) (IntKind.u64.wrap (IntKind.u32.wrap ((shlI .u32 1 p1) - 1)))) < (IntKind.u64.wrap (IntKind.u32.wrap ((shlI .u32 1 p1) - 1))))) = true := decide_eq_true c1677q
            try rw [hb_] at h1676q
            clear hb_
            refine wp_then h1676q rfl ?_
            refine wp_seq ?_
            refine WL.start ?_
            refine WL.block (c := 5) (m' := 5) h1676q rfl [(6, .int .i64 0), (5, .int .i64 1), (4, .int .u32 (IntKind.u32.wrap (bAnd .u64 (IntKind.u64.wrap (gt (0 : Int) p0 (0 : Int))) (IntKind.u64.wrap (IntKind.u32.wrap ((shlI .u32 1 p1) - 1)))))), (34, .int .u32 (IntKind.u32.wrap (bAnd .u64 (IntKind.u64.wrap (gt (0 : Int) p0 (0 : Int))) (IntKind.u64.wrap (IntKind.u32.wrap ((shlI .u32 1 p1) - 1)))))), (33, .int .u64 (bAnd .u64 (IntKind.u64.wrap (gt (0 : Int) p0 (0 : Int))) (IntKind.u64.wrap (IntKind.u32.wrap ((shlI .u32 1 p1) - 1)))))] (by kernel_rfl) (fun a1678q h1679q => ?_)
            clear h1676q a1675q
            refine WL.done (by kernel_rfl) ?_
            refine wp_ret ?_
            obtain ⟨rfl, rfl, rfl⟩ := ret3 H
            repeat (first | refine then_ret ?_ | refine inBlock_ret ?_ | refine inBlock_go ?_)
            refine body_ret (v := .tuple #[.int .u32 (IntKind.u32.wrap (bAnd .u64 (IntKind.u64.wrap (gt (0 : Int) p0 (0 : Int))) (IntKind.u64.wrap (IntKind.u32.wrap ((shlI .u32 1 p1) - 1))))), .int .i64 1, .int .i64 0]) h1679q (by kernel_rfl) (by kernel_rfl) ?_
            exact ⟨rfl, hS1641q⟩
          · rw [if_neg c1677q] at H
            have hb_ : (decide ((bAnd .u64 (IntKind.u64.wrap (gt (0 : Int) p0 (0 : Int))) (IntKind.u64.wrap (IntKind.u32.wrap ((shlI .u32 1 p1) - 1)))) < (IntKind.u64.wrap (IntKind.u32.wrap ((shlI .u32 1 p1) - 1))))) = false := decide_eq_false c1677q
            try rw [hb_] at h1676q
            clear hb_
            refine wp_else h1676q rfl ?_
            refine wp_skip ?_
            refine wp_seq ?_
            refine wp_seq ?_
            refine WL.start ?_
            refine WL.block (c := 1) (m' := 1) h1676q rfl [(35, .slice A0 p0.length c0)] (by kernel_rfl) (fun a1680q h1681q => ?_)
            clear h1676q a1675q
            by_cases c1682q : 1 ≤ (p0.length : Int)
            · rw [if_pos c1682q] at H
              refine WL.op' (m := 1) h1681q rfl rfl ?_
              refine owp_run (v := sliced A0 (1 : Int).toNat (p0.length : Int).toNat c0 1) h1681q rfl (by kernel_rfl) (run_cut (l := 1) (h := (p0.length : Int)) rfl rfl Try.underlying26 (by kernel_rfl) ⟨_, rfl⟩ rfl (by first | assumption | omega) (by first | assumption | omega) (by have q_ := Rds.cap hp0; omega) (by have q_ := Rds.cap hp0; omega)) (fun a1684q h1685q => ?_)
              clear h1681q a1680q
              have hx1683q := Rds.cut hp0 (l := (1 : Int).toNat) (h := (p0.length : Int).toNat) (by omega) (by omega)
              obtain ⟨v1686q, ev1687q⟩ : ∃ y_, y_ = sliced A0 (1 : Int).toNat (p0.length : Int).toNat c0 1 := ⟨_, rfl⟩
              have hx_ : Rds (kInt .u8) b w0 R v1686q (p0.drop (1 : Int).toNat) := hx1683q.as_ ev1687q.symm (by simp)
              rw [← ev1687q] at h1685q; clear ev1687q hx1683q
              have hx1683q := hx_; clear hx_
              obtain ⟨A1688q, c1689q, rfl⟩ := hx1683q.form
              refine WL.block (c := 2) (m' := 4) h1685q rfl [(38, .int .i64 0), (37, .int .i64 ((p0.drop (1 : Int).toNat).length : Int))] (by kernel_rfl) (fun a1690q h1691q => ?_)
              clear h1685q a1684q
              refine WL.done (by kernel_rfl) ?_
              refine wp_block ?_
              refine wp_loop_ghost (fun kq_ a_ W_ => ∃ (x1697q : Int), ∃ (x1698q : Int), Hd a_ 62 [(8, .int .u64 x1697q), (36, .slice A1688q (p0.drop (1 : Int).toNat).length c1689q), (37, .int .i64 ((p0.drop (1 : Int).toNat).length : Int)), (38, .int .i64 x1698q)] ∧ Asd (prefix_Get.l0 kq_ x1697q x1698q p0 = some (r0q, r1q, r2q)) ∧ Asd (kq_ ≤ k) ∧ Asd (St b w0 W_ R (Fs))) k ⟨bAnd .u64 (IntKind.u64.wrap (gt (0 : Int) p0 (0 : Int))) (IntKind.u64.wrap (IntKind.u32.wrap ((shlI .u32 1 p1) - 1))), 0, h1691q.keep ⟨rfl, rfl, rfl, rfl, trivial⟩, ⟨H⟩, ⟨Nat.le_refl _⟩, ⟨hS1641q⟩⟩ ?_
              clear H hS1641q
              rintro k1696q a1693q W1694q ⟨x1697q, x1698q, h1692q, ⟨H⟩, ⟨hkk1696q⟩, ⟨hS1695q⟩⟩
              obtain _ | k1699q := k1696q
              · exact absurd H (by simp [prefix_Get.l0])
              simp only [prefix_Get.l0] at H
              refine wp_seq ?_
              refine WL.start ?_
              refine WL.block (c := 1) (m' := 1) h1692q rfl [(39, .bool (decide (x1698q < ((p0.drop (1 : Int).toNat).length : Int))))] (by kernel_rfl) (fun a1700q h1701q => ?_)
              clear h1692q a1693q
              refine WL.done (by kernel_rfl) ?_
              refine wp_seq ?_
              by_cases c1702q : x1698q < ((p0.drop (1 : Int).toNat).length : Int)
              · rw [if_pos c1702q] at H
                have hb_ : (decide (x1698q < ((p0.drop (1 : Int).toNat).length : Int))) = true := decide_eq_true c1702q
                try rw [hb_] at h1701q
                clear hb_
                refine wp_then h1701q rfl ?_
                refine wp_skip ?_
                refine wp_seq ?_
                refine wp_block ?_
                refine wp_seq ?_
                refine WL.start ?_
                refine WL.block (c := 1) (m' := 1) h1701q rfl [(40, .int .i64 x1698q)] (by kernel_rfl) (fun a1703q h1704q => ?_)
                clear h1701q a1700q
                by_cases c1705q : 0 ≤ x1698q
                · rw [if_pos c1705q] at H
                  have hi1708q : 0 ≤ x1698q := by first | assumption | omega
                  have hi1709q : x1698q < ((p0.drop (1 : Int).toNat).length : Int) := by first | assumption | omega
                  obtain ⟨ad1706q, _, ha1707q, -, -⟩ := Rds.elemAny hx1683q hi1708q (gt_get (z := (0 : Int)) hi1708q hi1709q)
                  refine WL.op' (m := 1) h1704q rfl rfl ?_
                  refine owp_run (v := .pointer (some (ad1706q.add (x1698q.toNat * 1)))) h1704q rfl (by kernel_rfl) (run_idx (ad := ad1706q) (sz := 1) rfl (by rw [← ha1707q]; rfl) rfl Try.underlying26 (by kernel_rfl) hi1708q hi1709q) (fun a1710q h1711q => ?_)
                  clear h1704q a1703q
                  obtain ⟨ad1712q, cs1713q, ha1714q, hr1716q, hc1715q⟩ := Rds.elemAny hx1683q hi1708q (gt_get (z := (0 : Int)) hi1708q hi1709q)
                  rw [ha1707q] at ha1714q; obtain rfl := Option.some.inj ha1714q
                  obtain rfl : cs1713q = [.int .u8 (gt (0 : Int) (p0.drop (1 : Int).toNat) x1698q)] := hr1716q
                  refine WL.op' (m := 2) h1711q rfl rfl ?_
                  refine owp_run (v := .int .u8 (gt (0 : Int) (p0.drop (1 : Int).toNat) x1698q)) h1711q rfl (by kernel_rfl) (run_load1 rfl rfl Try.underlying5 rfl (cell0 (hc1715q _ (fun _ _ hk_ => hS1695q.kn hk_)))) (fun a1717q h1718q => ?_)
                  clear h1711q a1710q
                  refine WL.block (c := 2) (m' := 5) h1718q rfl [(10, .int .u8 (gt (0 : Int) (p0.drop (1 : Int).toNat) x1698q)), (9, .int .i64 x1698q)] (by kernel_rfl) (fun a1719q h1720q => ?_)
                  clear h1718q a1717q
                  refine WL.done (by kernel_rfl) ?_
                  refine wp_seq ?_
                  refine wp_seq ?_
                  refine WL.start ?_
                  refine WL.block (c := 2) (m' := 2) h1720q rfl [(44, .bool (decide (x1698q = 4))), (43, .int .i64 x1698q)] (by kernel_rfl) (fun a1721q h1722q => ?_)
                  clear h1720q a1719q
                  refine WL.done (by kernel_rfl) ?_
                  by_cases c1723q : x1698q = 4
                  · rw [if_pos c1723q] at H
                    have hb_ : (decide (x1698q = 4)) = true := decide_eq_true c1723q
                    try rw [hb_] at h1722q
                    clear hb_
                    refine wp_then h1722q rfl ?_
                    refine wp_seq ?_
                    refine WL.start ?_
                    refine WL.block (c := 3) (m' := 3) h1722q rfl [(6, .int .i64 4), (5, .int .i64 0), (4, .int .u32 0)] (by kernel_rfl) (fun a1724q h1725q => ?_)
                    clear h1722q a1721q
                    refine WL.done (by kernel_rfl) ?_
                    refine wp_ret ?_
                    obtain ⟨rfl, rfl, rfl⟩ := ret3 H
                    repeat (first | refine then_ret ?_ | refine inBlock_ret ?_ | refine inBlock_go ?_)
                    refine body_ret (v := .tuple #[.int .u32 0, .int .i64 0, .int .i64 4]) h1725q (by kernel_rfl) (by kernel_rfl) ?_
                    exact ⟨rfl, hS1695q⟩
                  · rw [if_neg c1723q] at H
                    have hb_ : (decide (x1698q = 4)) = false := decide_eq_false c1723q
                    try rw [hb_] at h1722q
                    clear hb_
                    refine wp_else h1722q rfl ?_
                    refine wp_skip ?_
                    refine wp_seq ?_
                    refine WL.start ?_
                    refine WL.block (c := 6) (m' := 6) h1722q rfl [(50, .int .i64 (IntKind.i64.wrap (7 * x1698q))), (49, .int .i64 x1698q), (48, .int .u64 (IntKind.u64.wrap (bAnd .u8 (gt (0 : Int) (p0.drop (1 : Int).toNat) x1698q) 127))), (47, .int .u8 (bAnd .u8 (gt (0 : Int) (p0.drop (1 : Int).toNat) x1698q) 127)), (46, .int .u8 (gt (0 : Int) (p0.drop (1 : Int).toNat) x1698q)), (45, .int .u64 x1697q)] (by kernel_rfl) (fun a1726q h1727q => ?_)
                    clear h1722q a1721q
                    by_cases c1728q : 0 ≤ (IntKind.i64.wrap (7 * x1698q))
                    · rw [if_pos c1728q] at H
                      refine WL.op' (m := 6) h1727q rfl rfl ?_
                      refine owp_run (v := .int .u64 (shlI .u64 (IntKind.u64.wrap (bAnd .u8 (gt (0 : Int) (p0.drop (1 : Int).toNat) x1698q) 127)) (IntKind.i64.wrap (7 * x1698q)))) h1727q rfl (by kernel_rfl) (run_shl rfl rfl rfl (by assumption)) (fun a1729q h1730q => ?_)
                      clear h1727q a1726q
                      refine WL.block (c := 2) (m' := 9) h1730q rfl [(8, .int .u64 (IntKind.u64.wrap (x1697q + (shlI .u64 (IntKind.u64.wrap (bAnd .u8 (gt (0 : Int) (p0.drop (1 : Int).toNat) x1698q) 127)) (IntKind.i64.wrap (7 * x1698q)))))), (52, .int .u64 (IntKind.u64.wrap (x1697q + (shlI .u64 (IntKind.u64.wrap (bAnd .u8 (gt (0 : Int) (p0.drop (1 : Int).toNat) x1698q) 127)) (IntKind.i64.wrap (7 * x1698q))))))] (by kernel_rfl) (fun a1731q h1732q => ?_)
                      clear h1730q a1729q
                      refine WL.done (by kernel_rfl) ?_
                      refine wp_seq ?_
                      refine WL.start ?_
                      refine WL.block (c := 2) (m' := 2) h1732q rfl [(54, .bool (decide ((gt (0 : Int) (p0.drop (1 : Int).toNat) x1698q) < 128))), (53, .int .u8 (gt (0 : Int) (p0.drop (1 : Int).toNat) x1698q))] (by kernel_rfl) (fun a1733q h1734q => ?_)
                      clear h1732q a1731q
                      refine WL.done (by kernel_rfl) ?_
                      by_cases c1735q : (gt (0 : Int) (p0.drop (1 : Int).toNat) x1698q) < 128
                      · rw [if_pos c1735q] at H
                        have hb_ : (decide ((gt (0 : Int) (p0.drop (1 : Int).toNat) x1698q) < 128)) = true := decide_eq_true c1735q
                        try rw [hb_] at h1734q
                        clear hb_
                        refine wp_then h1734q rfl ?_
                        refine wp_seq ?_
                        refine wp_seq ?_
                        refine WL.start ?_
                        refine WL.block (c := 2) (m' := 2) h1734q rfl [(56, .bool (decide ((IntKind.u64.wrap (x1697q + (shlI .u64 (IntKind.u64.wrap (bAnd .u8 (gt (0 : Int) (p0.drop (1 : Int).toNat) x1698q) 127)) (IntKind.i64.wrap (7 * x1698q))))) > 268435456))), (55, .int .u64 (IntKind.u64.wrap (x1697q + (shlI .u64 (IntKind.u64.wrap (bAnd .u8 (gt (0 : Int) (p0.drop (1 : Int).toNat) x1698q) 127)) (IntKind.i64.wrap (7 * x1698q))))))] (by kernel_rfl) (fun a1736q h1737q => ?_)
                        clear h1734q a1733q
                        refine WL.done (by kernel_rfl) ?_
                        by_cases c1738q : (IntKind.u64.wrap (x1697q + (shlI .u64 (IntKind.u64.wrap (bAnd .u8 (gt (0 : Int) (p0.drop (1 : Int).toNat) x1698q) 127)) (IntKind.i64.wrap (7 * x1698q))))) > 268435456
                        · rw [if_pos c1738q] at H
                          have hb_ : (decide ((IntKind.u64.wrap (x1697q + (shlI .u64 (IntKind.u64.wrap (bAnd .u8 (gt (0 : Int) (p0.drop (1 : Int).toNat) x1698q) 127)) (IntKind.i64.wrap (7 * x1698q))))) > 268435456)) = true := decide_eq_true c1738q
                          try rw [hb_] at h1737q
                          clear hb_
                          refine wp_then h1737q rfl ?_
                          refine wp_seq ?_
                          refine WL.start ?_
                          refine WL.block (c := 3) (m' := 3) h1737q rfl [(6, .int .i64 4), (5, .int .i64 0), (4, .int .u32 0)] (by kernel_rfl) (fun a1739q h1740q => ?_)
                          clear h1737q a1736q
                          refine WL.done (by kernel_rfl) ?_
                          refine wp_ret ?_
                          obtain ⟨rfl, rfl, rfl⟩ := ret3 H
                          repeat (first | refine then_ret ?_ | refine inBlock_ret ?_ | refine inBlock_go ?_)
                          refine body_ret (v := .tuple #[.int .u32 0, .int .i64 0, .int .i64 4]) h1740q (by kernel_rfl) (by kernel_rfl) ?_
                          exact ⟨rfl, hS1695q⟩
                        · rw [if_neg c1738q] at H
                          have hb_ : (decide ((IntKind.u64.wrap (x1697q + (shlI .u64 (IntKind.u64.wrap (bAnd .u8 (gt (0 : Int) (p0.drop (1 : Int).toNat) x1698q) 127)) (IntKind.i64.wrap (7 * x1698q))))) > 268435456)) = false := decide_eq_false c1738q
                          try rw [hb_] at h1737q
                          clear hb_
                          refine wp_else h1737q rfl ?_
                          refine wp_skip ?_
                          refine wp_seq ?_
                          refine WL.start ?_
                          refine WL.block (c := 7) (m' := 7) h1737q rfl [(6, .int .i64 0), (5, .int .i64 (IntKind.i64.wrap (x1698q + 2))), (4, .int .u32 (IntKind.u32.wrap (IntKind.u64.wrap (x1697q + (shlI .u64 (IntKind.u64.wrap (bAnd .u8 (gt (0 : Int) (p0.drop (1 : Int).toNat) x1698q) 127)) (IntKind.i64.wrap (7 * x1698q))))))), (60, .int .i64 (IntKind.i64.wrap (x1698q + 2))), (59, .int .i64 x1698q), (58, .int .u32 (IntKind.u32.wrap (IntKind.u64.wrap (x1697q + (shlI .u64 (IntKind.u64.wrap (bAnd .u8 (gt (0 : Int) (p0.drop (1 : Int).toNat) x1698q) 127)) (IntKind.i64.wrap (7 * x1698q))))))), (57, .int .u64 (IntKind.u64.wrap (x1697q + (shlI .u64 (IntKind.u64.wrap (bAnd .u8 (gt (0 : Int) (p0.drop (1 : Int).toNat) x1698q) 127)) (IntKind.i64.wrap (7 * x1698q))))))] (by kernel_rfl) (fun a1741q h1742q => ?_)
                          clear h1737q a1736q
                          refine WL.done (by kernel_rfl) ?_
                          refine wp_ret ?_
                          obtain ⟨rfl, rfl, rfl⟩ := ret3 H
                          repeat (first | refine then_ret ?_ | refine inBlock_ret ?_ | refine inBlock_go ?_)
                          refine body_ret (v := .tuple #[.int .u32 (IntKind.u32.wrap (IntKind.u64.wrap (x1697q + (shlI .u64 (IntKind.u64.wrap (bAnd .u8 (gt (0 : Int) (p0.drop (1 : Int).toNat) x1698q) 127)) (IntKind.i64.wrap (7 * x1698q)))))), .int .i64 (IntKind.i64.wrap (x1698q + 2)), .int .i64 0]) h1742q (by kernel_rfl) (by kernel_rfl) ?_
                          exact ⟨rfl, hS1695q⟩
                      · rw [if_neg c1735q] at H
                        have hb_ : (decide ((gt (0 : Int) (p0.drop (1 : Int).toNat) x1698q) < 128)) = false := decide_eq_false c1735q
                        try rw [hb_] at h1734q
                        clear hb_
                        refine wp_else h1734q rfl ?_
                        refine wp_skip ?_
                        refine WL.start ?_
                        refine WL.block (c := 2) (m' := 2) h1734q rfl [(38, .int .i64 (IntKind.i64.wrap (x1698q + 1))), (61, .int .i64 (IntKind.i64.wrap (x1698q + 1)))] (by kernel_rfl) (fun a1743q h1744q => ?_)
                        clear h1734q a1733q
                        refine WL.done (by kernel_rfl) ?_
                        exact ⟨k1699q, by omega, IntKind.u64.wrap (x1697q + (shlI .u64 (IntKind.u64.wrap (bAnd .u8 (gt (0 : Int) (p0.drop (1 : Int).toNat) x1698q) 127)) (IntKind.i64.wrap (7 * x1698q)))), IntKind.i64.wrap (x1698q + 1), h1744q.keep ⟨rfl, rfl, rfl, rfl, trivial⟩, ⟨H⟩, ⟨by omega⟩, ⟨hS1695q⟩⟩
                    · rw [if_neg c1728q] at H
                      cases H
                · rw [if_neg c1705q] at H
                  cases H
              · rw [if_neg c1702q] at H
                have hb_ : (decide (x1698q < ((p0.drop (1 : Int).toNat).length : Int))) = false := decide_eq_false c1702q
                try rw [hb_] at h1701q
                clear hb_
                refine wp_else h1701q rfl ?_
                refine wp_exit ?_
                refine wp_seq ?_
                refine WL.start ?_
                refine WL.block (c := 3) (m' := 3) h1701q rfl [(6, .int .i64 2), (5, .int .i64 0), (4, .int .u32 0)] (by kernel_rfl) (fun a1745q h1746q => ?_)
                clear h1701q a1700q
                refine WL.done (by kernel_rfl) ?_
                refine wp_ret ?_
                obtain ⟨rfl, rfl, rfl⟩ := ret3 H
                repeat (first | refine then_ret ?_ | refine inBlock_ret ?_ | refine inBlock_go ?_)
                refine body_ret (v := .tuple #[.int .u32 0, .int .i64 0, .int .i64 2]) h1746q (by kernel_rfl) (by kernel_rfl) ?_
                exact ⟨rfl, hS1695q⟩
            · rw [if_neg c1682q] at H
              cases H
        · rw [if_neg c1659q] at H
          cases H
      · rw [if_neg c1652q] at H
        cases H
  · rw [if_neg c1644q] at H
    have hb_ : r1635q = false := (Bool.eq_false_iff.2 c1644q)
    try rw [hb_] at h1643q
    clear hb_
    refine wp_then h1643q rfl ?_
    refine wp_seq ?_
    refine WL.start ?_
    refine WL.block (c := 3) (m' := 3) h1643q rfl [(6, .int .i64 1), (5, .int .i64 0), (4, .int .u32 0)] (by kernel_rfl) (fun a1747q h1748q => ?_)
    clear h1643q a1642q
    refine WL.done (by kernel_rfl) ?_
    refine wp_ret ?_
    obtain ⟨rfl, rfl, rfl⟩ := ret3 H
    repeat (first | refine then_ret ?_ | refine inBlock_ret ?_ | refine inBlock_go ?_)
    refine body_ret (v := .tuple #[.int .u32 0, .int .i64 0, .int .i64 1]) h1748q (by kernel_rfl) (by kernel_rfl) ?_
    exact ⟨rfl, hS1641q⟩

/-! ### louver/louverlaw02.PrefixPuts -/
def louverlaw02qPrefixPuts.l0 : Nat → Int → Int → (List Int) → Option (Bool)
  | 0, _, _, _ => none
  | k + 1, x3394q, p1, r3250q => if x3394q < (r3250q.length : Int) then (if 0 ≤ x3394q then (if x3394q ≤ (r3250q.length : Int) then (bnd3 (prefix_Get.f k (r3250q.take x3394q.toNat) p1) fun r3418q r3419q r3420q => (if r3420q = 2 then (louverlaw02qPrefixPuts.l0 k (IntKind.i64.wrap (x3394q + 1)) p1 r3250q) else (some false))) else (none)) else (none)) else (bnd1 (louverlaw02qfixed.f k) fun r3439q => (some r3439q))
def louverlaw02qPrefixPuts.f (k : Nat) (p0 : (List Int)) (p1 : Int) (p2 : Int) (p3 : Int) (p4 : (List Int)) : Option (Bool) := if (p0.length : Int) > 3000 then (bnd1 (louverlaw02qfixed.f k) fun r2941q => (some r2941q)) else (if (p4.length : Int) > 3000 then (bnd1 (louverlaw02qfixed.f k) fun r2960q => (some r2960q)) else (bnd1 (prefix_Put.f k p0 p1 p2 p3) fun r2972q => (if p1 < 1 then (bnd1 (louverlaw02qfixed.f k) fun r3003q => (if r3003q = true then (if (toS r2972q) = (toS p0) then (bnd1 (prefix_Size.f k p1 p3) fun r3031q => (some (decide (r3031q = 0)))) else (some false)) else (some false))) else (if p1 > 8 then (bnd1 (louverlaw02qfixed.f k) fun r3091q => (if r3091q = true then (if (toS r2972q) = (toS p0) then (bnd1 (prefix_Size.f k p1 p3) fun r3119q => (some (decide (r3119q = 0)))) else (some false)) else (some false))) else (if p3 > 268435456 then (bnd1 (louverlaw02qfixed.f k) fun r3173q => (if r3173q = true then (if (toS r2972q) = (toS p0) then (bnd1 (prefix_Size.f k p1 p3) fun r3201q => (some (decide (r3201q = 0)))) else (some false)) else (some false))) else (bnd1 (louverref02qPut.f k p1 p2 p3) fun r3250q => (if (toS p0).length + (toS r3250q).length ≤ 9223372036854775807 then (if (toS r2972q) = ((toS p0) ++ (toS r3250q)) then (bnd1 (prefix_Size.f k p1 p3) fun r3292q => (if r3292q = (r3250q.length : Int) then (if ([] : List Int).length + r3250q.length ≤ 140737488355328 then (lt1 (([] : List Int) ++ r3250q : List Int) fun y3328q => (if y3328q.length + p4.length ≤ 140737488355328 then (lt1 (y3328q ++ p4 : List Int) fun y3344q => (bnd3 (prefix_Get.f k y3344q p1) fun r3354q r3355q r3356q => (if r3354q = p3 then (if r3355q = (r3250q.length : Int) then (if r3356q = 0 then (louverlaw02qPrefixPuts.l0 k 0 p1 r3250q) else (some false)) else (some false)) else (some false)))) else (none))) else (none)) else (some false))) else (some false)) else (none))))))))
set_option maxHeartbeats 2000000 in
set_option maxRecDepth 100000 in
theorem louverlaw02qPrefixPuts.calls (k : Nat) {b : Nat} {w0 W : World} {R : Frag} {Fs : List Frag} {p0 : (List Int)} {p1 : Int} {p2 : Int} {p3 : Int} {p4 : (List Int)} {v0 : Value} {v4 : Value} {r0q : Bool} (hp0 : Rds (kInt .u8) b w0 R v0 p0) (hp4 : Rds (kInt .u8) b w0 R v4 p4) (H : louverlaw02qPrefixPuts.f k p0 p1 p2 p3 p4 = some r0q) (hS : St b w0 W R (Fs)) :
    Calls Try.prog 4 ([v0, .int .i64 p1, .int .u8 p2, .int .u32 p3, v4] : List Value).toArray W (fun e W' => e = .returned (.bool r0q) ∧ St b w0 W' R (Fs)) := by
  obtain ⟨A0, c0, rfl⟩ := hp0.form
  obtain ⟨A4, c4, rfl⟩ := hp4.form
  unfold louverlaw02qPrefixPuts.f at H
  refine calls_enter Try.func4 rfl 122 rfl (by kernel_rfl) (fun a h => ?_)
  refine wp_seq ?_
  refine WL.start ?_
  refine WL.block (c := 1) (m' := 1) h rfl [(10, .bool false)] (by kernel_rfl) (fun a2927q h2928q => ?_)
  refine WL.done (by kernel_rfl) ?_
  refine wp_seq ?_
  refine wp_seq ?_
  refine WL.start ?_
  refine WL.block (c := 4) (m' := 4) h2928q rfl [(24, .bool (decide ((p0.length : Int) > 3000))), (23, .bool (decide ((p0.length : Int) > 3000))), (22, .int .i64 (p0.length : Int)), (21, .slice A0 p0.length c0)] (by kernel_rfl) (fun a2929q h2930q => ?_)
  clear h2928q a2927q
  by_cases c2931q : (p0.length : Int) > 3000
  · rw [if_pos c2931q] at H
    have hb_ : (decide ((p0.length : Int) > 3000)) = true := decide_eq_true c2931q
    try rw [hb_] at h2930q
    clear hb_
    refine WL.skipped (m := 4) h2930q rfl rfl (by kernel_rfl) rfl (fun a2932q h2933q => ?_)
    clear h2930q a2929q
    refine WL.skipped (m := 5) h2933q rfl rfl (by kernel_rfl) rfl (fun a2934q h2935q => ?_)
    clear h2933q a2932q
    refine WL.skipped (m := 6) h2935q rfl rfl (by kernel_rfl) rfl (fun a2936q h2937q => ?_)
    clear h2935q a2934q
    refine WL.block (c := 1) (m' := 8) h2937q rfl [(28, .bool true)] (by kernel_rfl) (fun a2938q h2939q => ?_)
    clear h2937q a2936q
    refine WL.done (by kernel_rfl) ?_
    refine wp_then h2939q rfl ?_
    refine wp_seq ?_
    refine WL.start ?_
    obtain ⟨r2941q, A2940q, H⟩ := bind1 H
    refine WL.op' (m := 0) h2939q rfl rfl ?_
    refine owp_call [] h2939q rfl (by kernel_rfl) rfl Try.func8 (by kernel_rfl) rfl (by kernel_rfl) (louverlaw02qfixed.calls k  A2940q hS) (fun e2943q W2942q hp2944q => ?_)
    obtain ⟨rfl, hS2947q⟩ := hp2944q
    refine ⟨_, rfl, fun a2945q h2946q => ?_⟩
    clear h2939q a2938q
    refine WL.block (c := 1) (m' := 2) h2946q rfl [(10, .bool r2941q)] (by kernel_rfl) (fun a2948q h2949q => ?_)
    clear h2946q a2945q
    refine WL.done (by kernel_rfl) ?_
    refine wp_ret ?_
    obtain rfl := Option.some.inj H
    repeat (first | refine then_ret ?_ | refine inBlock_ret ?_ | refine inBlock_go ?_)
    refine body_ret (v := .bool r2941q) h2949q (by kernel_rfl) (by kernel_rfl) ?_
    exact ⟨rfl, hS2947q⟩
  · rw [if_neg c2931q] at H
    have hb_ : (decide ((p0.length : Int) > 3000)) = false := decide_eq_false c2931q
    try rw [hb_] at h2930q
    clear hb_
    refine WL.op' (m := 4) h2930q rfl rfl (owp_run h2930q rfl (by kernel_rfl) (v := .slice A4 p4.length c4) (by kernel_rfl) (fun a2950q h2951q => ?_))
    clear h2930q a2929q
    refine WL.op' (m := 5) h2951q rfl rfl (owp_run h2951q rfl (by kernel_rfl) (v := .int .i64 (p4.length : Int)) (by kernel_rfl) (fun a2952q h2953q => ?_))
    clear h2951q a2950q
    refine WL.op' (m := 6) h2953q rfl rfl (owp_run h2953q rfl (by kernel_rfl) (v := .bool (decide ((p4.length : Int) > 3000))) (by kernel_rfl) (fun a2954q h2955q => ?_))
    clear h2953q a2952q
    refine WL.block (c := 1) (m' := 8) h2955q rfl [(28, .bool (decide ((p4.length : Int) > 3000)))] (by kernel_rfl) (fun a2956q h2957q => ?_)
    clear h2955q a2954q
    refine WL.done (by kernel_rfl) ?_
    by_cases c2958q : (p4.length : Int) > 3000
    · rw [if_pos c2958q] at H
      have hb_ : (decide ((p4.length : Int) > 3000)) = true := decide_eq_true c2958q
      try rw [hb_] at h2957q
      clear hb_
      refine wp_then h2957q rfl ?_
      refine wp_seq ?_
      refine WL.start ?_
      obtain ⟨r2960q, A2959q, H⟩ := bind1 H
      refine WL.op' (m := 0) h2957q rfl rfl ?_
      refine owp_call [] h2957q rfl (by kernel_rfl) rfl Try.func8 (by kernel_rfl) rfl (by kernel_rfl) (louverlaw02qfixed.calls k  A2959q hS) (fun e2962q W2961q hp2963q => ?_)
      obtain ⟨rfl, hS2966q⟩ := hp2963q
      refine ⟨_, rfl, fun a2964q h2965q => ?_⟩
      clear h2957q a2956q
      refine WL.block (c := 1) (m' := 2) h2965q rfl [(10, .bool r2960q)] (by kernel_rfl) (fun a2967q h2968q => ?_)
      clear h2965q a2964q
      refine WL.done (by kernel_rfl) ?_
      refine wp_ret ?_
      obtain rfl := Option.some.inj H
      repeat (first | refine then_ret ?_ | refine inBlock_ret ?_ | refine inBlock_go ?_)
      refine body_ret (v := .bool r2960q) h2968q (by kernel_rfl) (by kernel_rfl) ?_
      exact ⟨rfl, hS2966q⟩
    · rw [if_neg c2958q] at H
      have hb_ : (decide ((p4.length : Int) > 3000)) = false := decide_eq_false c2958q
      try rw [hb_] at h2957q
      clear hb_
      refine wp_else h2957q rfl ?_
      refine wp_skip ?_
      refine wp_seq ?_
      refine WL.start ?_
      refine WL.block (c := 4) (m' := 4) h2957q rfl [(33, .int .u32 p3), (32, .int .u8 p2), (31, .int .i64 p1), (30, .slice A0 p0.length c0)] (by kernel_rfl) (fun a2969q h2970q => ?_)
      clear h2957q a2956q
      obtain ⟨r2972q, A2971q, H⟩ := bind1 H
      refine WL.op' (m := 4) h2970q rfl rfl ?_
      refine owp_call [.slice A0 p0.length c0, .int .i64 p1, .int .u8 p2, .int .u32 p3] h2970q rfl (by kernel_rfl) rfl Try.func10 (by kernel_rfl) rfl (by kernel_rfl) (prefix_Put.calls k hp0 A2971q hS) (fun e2974q W2973q hp2975q => ?_)
      obtain ⟨v2978q, M2979q, rfl, hr2980q, hS2982q⟩ := hp2975q
      refine ⟨_, rfl, fun a2976q h2977q => ?_⟩
      clear h2970q a2969q
      obtain ⟨A2983q, c2984q, rfl⟩ := hr2980q.form
      refine WL.block (c := 1) (m' := 6) h2977q rfl [(11, .slice A2983q r2972q.length c2984q)] (by kernel_rfl) (fun a2985q h2986q => ?_)
      clear h2977q a2976q
      refine WL.done (by kernel_rfl) ?_
      refine wp_seq ?_
      refine wp_seq ?_
      refine WL.start ?_
      refine WL.block (c := 3) (m' := 3) h2986q rfl [(37, .bool (decide (p1 < 1))), (36, .bool (decide (p1 < 1))), (35, .int .i64 p1)] (by kernel_rfl) (fun a2987q h2988q => ?_)
      clear h2986q a2985q
      by_cases c2989q : p1 < 1
      · rw [if_pos c2989q] at H
        have hb_ : (decide (p1 < 1)) = true := decide_eq_true c2989q
        try rw [hb_] at h2988q
        clear hb_
        refine WL.skipped (m := 3) h2988q rfl rfl (by kernel_rfl) rfl (fun a2990q h2991q => ?_)
        clear h2988q a2987q
        refine WL.skipped (m := 4) h2991q rfl rfl (by kernel_rfl) rfl (fun a2992q h2993q => ?_)
        clear h2991q a2990q
        refine WL.block (c := 2) (m' := 7) h2993q rfl [(41, .bool true), (40, .bool true)] (by kernel_rfl) (fun a2994q h2995q => ?_)
        clear h2993q a2992q
        refine WL.skipped (m := 7) h2995q rfl rfl (by kernel_rfl) rfl (fun a2996q h2997q => ?_)
        clear h2995q a2994q
        refine WL.skipped (m := 8) h2997q rfl rfl (by kernel_rfl) rfl (fun a2998q h2999q => ?_)
        clear h2997q a2996q
        refine WL.block (c := 1) (m' := 10) h2999q rfl [(44, .bool true)] (by kernel_rfl) (fun a3000q h3001q => ?_)
        clear h2999q a2998q
        refine WL.done (by kernel_rfl) ?_
        refine wp_then h3001q rfl ?_
        refine wp_seq ?_
        refine WL.start ?_
        obtain ⟨r3003q, A3002q, H⟩ := bind1 H
        refine WL.op' (m := 0) h3001q rfl rfl ?_
        refine owp_call [] h3001q rfl (by kernel_rfl) rfl Try.func8 (by kernel_rfl) rfl (by kernel_rfl) (louverlaw02qfixed.calls k  A3002q hS2982q) (fun e3005q W3004q hp3006q => ?_)
        obtain ⟨rfl, hS3009q⟩ := hp3006q
        refine ⟨_, rfl, fun a3007q h3008q => ?_⟩
        clear h3001q a3000q
        refine WL.block (c := 1) (m' := 2) h3008q rfl [(46, .bool r3003q)] (by kernel_rfl) (fun a3010q h3011q => ?_)
        clear h3008q a3007q
        by_cases c3012q : r3003q = true
        · rw [if_pos c3012q] at H
          have hb_ : r3003q = true := c3012q
          try rw [hb_] at h3011q
          clear hb_
          refine WL.op' (m := 2) h3011q rfl rfl (owp_run h3011q rfl (by kernel_rfl) (v := .slice A2983q r2972q.length c2984q) (by kernel_rfl) (fun a3013q h3014q => ?_))
          clear h3011q a3010q
          refine WL.op' (m := 3) h3014q rfl rfl ?_
          refine owp_run (v := .string (mkS (toS r2972q))) h3014q rfl (by kernel_rfl) (run_tostr rfl rfl hr2980q.rds (fun _ _ hk_ => (hS3009q).pool.kn hk_) Try.underlying26 Try.underlying5 Try.underlying9) (fun a3015q h3016q => ?_)
          clear h3014q a3013q
          refine WL.op' (m := 4) h3016q rfl rfl (owp_run h3016q rfl (by kernel_rfl) (v := .slice A0 p0.length c0) (by kernel_rfl) (fun a3017q h3018q => ?_))
          clear h3016q a3015q
          refine WL.op' (m := 5) h3018q rfl rfl ?_
          refine owp_run (v := .string (mkS (toS p0))) h3018q rfl (by kernel_rfl) (run_tostr rfl rfl hp0 (fun _ _ hk_ => hS3009q.kn hk_) Try.underlying26 Try.underlying5 Try.underlying9) (fun a3019q h3020q => ?_)
          clear h3018q a3017q
          refine WL.op' (m := 6) h3020q rfl rfl ?_
          refine owp_run (v := .bool (decide ((toS r2972q) = (toS p0)))) h3020q rfl (by kernel_rfl) (run_streq rfl rfl rfl) (fun a3021q h3022q => ?_)
          clear h3020q a3019q
          refine WL.block (c := 2) (m' := 9) h3022q rfl [(53, .bool (decide ((toS r2972q) = (toS p0)))), (52, .bool (decide ((toS r2972q) = (toS p0))))] (by kernel_rfl) (fun a3023q h3024q => ?_)
          clear h3022q a3021q
          by_cases c3025q : (toS r2972q) = (toS p0)
          · rw [if_pos c3025q] at H
            have hb_ : (decide ((toS r2972q) = (toS p0))) = true := decide_eq_true c3025q
            try rw [hb_] at h3024q
            clear hb_
            refine WL.op' (m := 9) h3024q rfl rfl (owp_run h3024q rfl (by kernel_rfl) (v := .int .i64 p1) (by kernel_rfl) (fun a3026q h3027q => ?_))
            clear h3024q a3023q
            refine WL.op' (m := 10) h3027q rfl rfl (owp_run h3027q rfl (by kernel_rfl) (v := .int .u32 p3) (by kernel_rfl) (fun a3028q h3029q => ?_))
            clear h3027q a3026q
            obtain ⟨r3031q, A3030q, H⟩ := bind1 H
            refine WL.op' (m := 11) h3029q rfl rfl ?_
            refine owp_call [.int .i64 p1, .int .u32 p3] h3029q rfl (by kernel_rfl) rfl Try.func9 (by kernel_rfl) rfl (by kernel_rfl) (prefix_Size.calls k  A3030q hS3009q) (fun e3033q W3032q hp3034q => ?_)
            obtain ⟨rfl, hS3037q⟩ := hp3034q
            refine ⟨_, rfl, fun a3035q h3036q => ?_⟩
            clear h3029q a3028q
            refine WL.op' (m := 12) h3036q rfl rfl (owp_run h3036q rfl (by kernel_rfl) (v := .bool (decide (r3031q = 0))) (by kernel_rfl) (fun a3038q h3039q => ?_))
            clear h3036q a3035q
            refine WL.block (c := 2) (m' := 15) h3039q rfl [(10, .bool (decide (r3031q = 0))), (58, .bool (decide (r3031q = 0)))] (by kernel_rfl) (fun a3040q h3041q => ?_)
            clear h3039q a3038q
            refine WL.done (by kernel_rfl) ?_
            refine wp_ret ?_
            have hS3042q : St b w0 W3032q R (Fs) := hS3037q.drop_
            obtain rfl := Option.some.inj H
            repeat (first | refine then_ret ?_ | refine inBlock_ret ?_ | refine inBlock_go ?_)
            refine body_ret (v := .bool (decide (r3031q = 0))) h3041q (by kernel_rfl) (by kernel_rfl) ?_
            exact ⟨rfl, hS3042q⟩
          · rw [if_neg c3025q] at H
            have hb_ : (decide ((toS r2972q) = (toS p0))) = false := decide_eq_false c3025q
            try rw [hb_] at h3024q
            clear hb_
            refine WL.skipped (m := 9) h3024q rfl rfl (by kernel_rfl) rfl (fun a3043q h3044q => ?_)
            clear h3024q a3023q
            refine WL.skipped (m := 10) h3044q rfl rfl (by kernel_rfl) rfl (fun a3045q h3046q => ?_)
            clear h3044q a3043q
            refine WL.skipped (m := 11) h3046q rfl rfl (by kernel_rfl) rfl (fun a3047q h3048q => ?_)
            clear h3046q a3045q
            refine WL.skipped (m := 12) h3048q rfl rfl (by kernel_rfl) rfl (fun a3049q h3050q => ?_)
            clear h3048q a3047q
            refine WL.block (c := 2) (m' := 15) h3050q rfl [(10, .bool false), (58, .bool false)] (by kernel_rfl) (fun a3051q h3052q => ?_)
            clear h3050q a3049q
            refine WL.done (by kernel_rfl) ?_
            refine wp_ret ?_
            have hS3053q : St b w0 W3004q R (Fs) := hS3009q.drop_
            obtain rfl := Option.some.inj H
            repeat (first | refine then_ret ?_ | refine inBlock_ret ?_ | refine inBlock_go ?_)
            refine body_ret (v := .bool false) h3052q (by kernel_rfl) (by kernel_rfl) ?_
            exact ⟨rfl, hS3053q⟩
        · rw [if_neg c3012q] at H
          have hb_ : r3003q = false := (Bool.eq_false_iff.2 c3012q)
          try rw [hb_] at h3011q
          clear hb_
          refine WL.skipped (m := 2) h3011q rfl rfl (by kernel_rfl) rfl (fun a3054q h3055q => ?_)
          clear h3011q a3010q
          refine WL.skipped (m := 3) h3055q rfl rfl (by kernel_rfl) rfl (fun a3056q h3057q => ?_)
          clear h3055q a3054q
          refine WL.skipped (m := 4) h3057q rfl rfl (by kernel_rfl) rfl (fun a3058q h3059q => ?_)
          clear h3057q a3056q
          refine WL.skipped (m := 5) h3059q rfl rfl (by kernel_rfl) rfl (fun a3060q h3061q => ?_)
          clear h3059q a3058q
          refine WL.skipped (m := 6) h3061q rfl rfl (by kernel_rfl) rfl (fun a3062q h3063q => ?_)
          clear h3061q a3060q
          refine WL.block (c := 2) (m' := 9) h3063q rfl [(53, .bool false), (52, .bool false)] (by kernel_rfl) (fun a3064q h3065q => ?_)
          clear h3063q a3062q
          refine WL.skipped (m := 9) h3065q rfl rfl (by kernel_rfl) rfl (fun a3066q h3067q => ?_)
          clear h3065q a3064q
          refine WL.skipped (m := 10) h3067q rfl rfl (by kernel_rfl) rfl (fun a3068q h3069q => ?_)
          clear h3067q a3066q
          refine WL.skipped (m := 11) h3069q rfl rfl (by kernel_rfl) rfl (fun a3070q h3071q => ?_)
          clear h3069q a3068q
          refine WL.skipped (m := 12) h3071q rfl rfl (by kernel_rfl) rfl (fun a3072q h3073q => ?_)
          clear h3071q a3070q
          refine WL.block (c := 2) (m' := 15) h3073q rfl [(10, .bool false), (58, .bool false)] (by kernel_rfl) (fun a3074q h3075q => ?_)
          clear h3073q a3072q
          refine WL.done (by kernel_rfl) ?_
          refine wp_ret ?_
          have hS3076q : St b w0 W3004q R (Fs) := hS3009q.drop_
          obtain rfl := Option.some.inj H
          repeat (first | refine then_ret ?_ | refine inBlock_ret ?_ | refine inBlock_go ?_)
          refine body_ret (v := .bool false) h3075q (by kernel_rfl) (by kernel_rfl) ?_
          exact ⟨rfl, hS3076q⟩
      · rw [if_neg c2989q] at H
        have hb_ : (decide (p1 < 1)) = false := decide_eq_false c2989q
        try rw [hb_] at h2988q
        clear hb_
        refine WL.op' (m := 3) h2988q rfl rfl (owp_run h2988q rfl (by kernel_rfl) (v := .int .i64 p1) (by kernel_rfl) (fun a3077q h3078q => ?_))
        clear h2988q a2987q
        refine WL.op' (m := 4) h3078q rfl rfl (owp_run h3078q rfl (by kernel_rfl) (v := .bool (decide (p1 > 8))) (by kernel_rfl) (fun a3079q h3080q => ?_))
        clear h3078q a3077q
        refine WL.block (c := 2) (m' := 7) h3080q rfl [(41, .bool (decide (p1 > 8))), (40, .bool (decide (p1 > 8)))] (by kernel_rfl) (fun a3081q h3082q => ?_)
        clear h3080q a3079q
        by_cases c3083q : p1 > 8
        · rw [if_pos c3083q] at H
          have hb_ : (decide (p1 > 8)) = true := decide_eq_true c3083q
          try rw [hb_] at h3082q
          clear hb_
          refine WL.skipped (m := 7) h3082q rfl rfl (by kernel_rfl) rfl (fun a3084q h3085q => ?_)
          clear h3082q a3081q
          refine WL.skipped (m := 8) h3085q rfl rfl (by kernel_rfl) rfl (fun a3086q h3087q => ?_)
          clear h3085q a3084q
          refine WL.block (c := 1) (m' := 10) h3087q rfl [(44, .bool true)] (by kernel_rfl) (fun a3088q h3089q => ?_)
          clear h3087q a3086q
          refine WL.done (by kernel_rfl) ?_
          refine wp_then h3089q rfl ?_
          refine wp_seq ?_
          refine WL.start ?_
          obtain ⟨r3091q, A3090q, H⟩ := bind1 H
          refine WL.op' (m := 0) h3089q rfl rfl ?_
          refine owp_call [] h3089q rfl (by kernel_rfl) rfl Try.func8 (by kernel_rfl) rfl (by kernel_rfl) (louverlaw02qfixed.calls k  A3090q hS2982q) (fun e3093q W3092q hp3094q => ?_)
          obtain ⟨rfl, hS3097q⟩ := hp3094q
          refine ⟨_, rfl, fun a3095q h3096q => ?_⟩
          clear h3089q a3088q
          refine WL.block (c := 1) (m' := 2) h3096q rfl [(46, .bool r3091q)] (by kernel_rfl) (fun a3098q h3099q => ?_)
          clear h3096q a3095q
          by_cases c3100q : r3091q = true
          · rw [if_pos c3100q] at H
            have hb_ : r3091q = true := c3100q
            try rw [hb_] at h3099q
            clear hb_
            refine WL.op' (m := 2) h3099q rfl rfl (owp_run h3099q rfl (by kernel_rfl) (v := .slice A2983q r2972q.length c2984q) (by kernel_rfl) (fun a3101q h3102q => ?_))
            clear h3099q a3098q
            refine WL.op' (m := 3) h3102q rfl rfl ?_
            refine owp_run (v := .string (mkS (toS r2972q))) h3102q rfl (by kernel_rfl) (run_tostr rfl rfl hr2980q.rds (fun _ _ hk_ => (hS3097q).pool.kn hk_) Try.underlying26 Try.underlying5 Try.underlying9) (fun a3103q h3104q => ?_)
            clear h3102q a3101q
            refine WL.op' (m := 4) h3104q rfl rfl (owp_run h3104q rfl (by kernel_rfl) (v := .slice A0 p0.length c0) (by kernel_rfl) (fun a3105q h3106q => ?_))
            clear h3104q a3103q
            refine WL.op' (m := 5) h3106q rfl rfl ?_
            refine owp_run (v := .string (mkS (toS p0))) h3106q rfl (by kernel_rfl) (run_tostr rfl rfl hp0 (fun _ _ hk_ => hS3097q.kn hk_) Try.underlying26 Try.underlying5 Try.underlying9) (fun a3107q h3108q => ?_)
            clear h3106q a3105q
            refine WL.op' (m := 6) h3108q rfl rfl ?_
            refine owp_run (v := .bool (decide ((toS r2972q) = (toS p0)))) h3108q rfl (by kernel_rfl) (run_streq rfl rfl rfl) (fun a3109q h3110q => ?_)
            clear h3108q a3107q
            refine WL.block (c := 2) (m' := 9) h3110q rfl [(53, .bool (decide ((toS r2972q) = (toS p0)))), (52, .bool (decide ((toS r2972q) = (toS p0))))] (by kernel_rfl) (fun a3111q h3112q => ?_)
            clear h3110q a3109q
            by_cases c3113q : (toS r2972q) = (toS p0)
            · rw [if_pos c3113q] at H
              have hb_ : (decide ((toS r2972q) = (toS p0))) = true := decide_eq_true c3113q
              try rw [hb_] at h3112q
              clear hb_
              refine WL.op' (m := 9) h3112q rfl rfl (owp_run h3112q rfl (by kernel_rfl) (v := .int .i64 p1) (by kernel_rfl) (fun a3114q h3115q => ?_))
              clear h3112q a3111q
              refine WL.op' (m := 10) h3115q rfl rfl (owp_run h3115q rfl (by kernel_rfl) (v := .int .u32 p3) (by kernel_rfl) (fun a3116q h3117q => ?_))
              clear h3115q a3114q
              obtain ⟨r3119q, A3118q, H⟩ := bind1 H
              refine WL.op' (m := 11) h3117q rfl rfl ?_
              refine owp_call [.int .i64 p1, .int .u32 p3] h3117q rfl (by kernel_rfl) rfl Try.func9 (by kernel_rfl) rfl (by kernel_rfl) (prefix_Size.calls k  A3118q hS3097q) (fun e3121q W3120q hp3122q => ?_)
              obtain ⟨rfl, hS3125q⟩ := hp3122q
              refine ⟨_, rfl, fun a3123q h3124q => ?_⟩
              clear h3117q a3116q
              refine WL.op' (m := 12) h3124q rfl rfl (owp_run h3124q rfl (by kernel_rfl) (v := .bool (decide (r3119q = 0))) (by kernel_rfl) (fun a3126q h3127q => ?_))
              clear h3124q a3123q
              refine WL.block (c := 2) (m' := 15) h3127q rfl [(10, .bool (decide (r3119q = 0))), (58, .bool (decide (r3119q = 0)))] (by kernel_rfl) (fun a3128q h3129q => ?_)
              clear h3127q a3126q
              refine WL.done (by kernel_rfl) ?_
              refine wp_ret ?_
              have hS3130q : St b w0 W3120q R (Fs) := hS3125q.drop_
              obtain rfl := Option.some.inj H
              repeat (first | refine then_ret ?_ | refine inBlock_ret ?_ | refine inBlock_go ?_)
              refine body_ret (v := .bool (decide (r3119q = 0))) h3129q (by kernel_rfl) (by kernel_rfl) ?_
              exact ⟨rfl, hS3130q⟩
            · rw [if_neg c3113q] at H
              have hb_ : (decide ((toS r2972q) = (toS p0))) = false := decide_eq_false c3113q
              try rw [hb_] at h3112q
              clear hb_
              refine WL.skipped (m := 9) h3112q rfl rfl (by kernel_rfl) rfl (fun a3131q h3132q => ?_)
              clear h3112q a3111q
              refine WL.skipped (m := 10) h3132q rfl rfl (by kernel_rfl) rfl (fun a3133q h3134q => ?_)
              clear h3132q a3131q
              refine WL.skipped (m := 11) h3134q rfl rfl (by kernel_rfl) rfl (fun a3135q h3136q => ?_)
              clear h3134q a3133q
              refine WL.skipped (m := 12) h3136q rfl rfl (by kernel_rfl) rfl (fun a3137q h3138q => ?_)
              clear h3136q a3135q
              refine WL.block (c := 2) (m' := 15) h3138q rfl [(10, .bool false), (58, .bool false)] (by kernel_rfl) (fun a3139q h3140q => ?_)
              clear h3138q a3137q
              refine WL.done (by kernel_rfl) ?_
              refine wp_ret ?_
              have hS3141q : St b w0 W3092q R (Fs) := hS3097q.drop_
              obtain rfl := Option.some.inj H
              repeat (first | refine then_ret ?_ | refine inBlock_ret ?_ | refine inBlock_go ?_)
              refine body_ret (v := .bool false) h3140q (by kernel_rfl) (by kernel_rfl) ?_
              exact ⟨rfl, hS3141q⟩
          · rw [if_neg c3100q] at H
            have hb_ : r3091q = false := (Bool.eq_false_iff.2 c3100q)
            try rw [hb_] at h3099q
            clear hb_
            refine WL.skipped (m := 2) h3099q rfl rfl (by kernel_rfl) rfl (fun a3142q h3143q => ?_)
            clear h3099q a3098q
            refine WL.skipped (m := 3) h3143q rfl rfl (by kernel_rfl) rfl (fun a3144q h3145q => ?_)
            clear h3143q a3142q
            refine WL.skipped (m := 4) h3145q rfl rfl (by kernel_rfl) rfl (fun a3146q h3147q => ?_)
            clear h3145q a3144q
            refine WL.skipped (m := 5) h3147q rfl rfl (by kernel_rfl) rfl (fun a3148q h3149q => ?_)
            clear h3147q a3146q
            refine WL.skipped (m := 6) h3149q rfl rfl (by kernel_rfl) rfl (fun a3150q h3151q => ?_)
            clear h3149q a3148q
            refine WL.block (c := 2) (m' := 9) h3151q rfl [(53, .bool false), (52, .bool false)] (by kernel_rfl) (fun a3152q h3153q => ?_)
            clear h3151q a3150q
            refine WL.skipped (m := 9) h3153q rfl rfl (by kernel_rfl) rfl (fun a3154q h3155q => ?_)
            clear h3153q a3152q
            refine WL.skipped (m := 10) h3155q rfl rfl (by kernel_rfl) rfl (fun a3156q h3157q => ?_)
            clear h3155q a3154q
            refine WL.skipped (m := 11) h3157q rfl rfl (by kernel_rfl) rfl (fun a3158q h3159q => ?_)
            clear h3157q a3156q
            refine WL.skipped (m := 12) h3159q rfl rfl (by kernel_rfl) rfl (fun a3160q h3161q => ?_)
            clear h3159q a3158q
            refine WL.block (c := 2) (m' := 15) h3161q rfl [(10, .bool false), (58, .bool false)] (by kernel_rfl) (fun a3162q h3163q => ?_)
            clear h3161q a3160q
            refine WL.done (by kernel_rfl) ?_
            refine wp_ret ?_
            have hS3164q : St b w0 W3092q R (Fs) := hS3097q.drop_
            obtain rfl := Option.some.inj H
            repeat (first | refine then_ret ?_ | refine inBlock_ret ?_ | refine inBlock_go ?_)
            refine body_ret (v := .bool false) h3163q (by kernel_rfl) (by kernel_rfl) ?_
            exact ⟨rfl, hS3164q⟩
        · rw [if_neg c3083q] at H
          have hb_ : (decide (p1 > 8)) = false := decide_eq_false c3083q
          try rw [hb_] at h3082q
          clear hb_
          refine WL.op' (m := 7) h3082q rfl rfl (owp_run h3082q rfl (by kernel_rfl) (v := .int .u32 p3) (by kernel_rfl) (fun a3165q h3166q => ?_))
          clear h3082q a3081q
          refine WL.op' (m := 8) h3166q rfl rfl (owp_run h3166q rfl (by kernel_rfl) (v := .bool (decide (p3 > 268435456))) (by kernel_rfl) (fun a3167q h3168q => ?_))
          clear h3166q a3165q
          refine WL.block (c := 1) (m' := 10) h3168q rfl [(44, .bool (decide (p3 > 268435456)))] (by kernel_rfl) (fun a3169q h3170q => ?_)
          clear h3168q a3167q
          refine WL.done (by kernel_rfl) ?_
          by_cases c3171q : p3 > 268435456
          · rw [if_pos c3171q] at H
            have hb_ : (decide (p3 > 268435456)) = true := decide_eq_true c3171q
            try rw [hb_] at h3170q
            clear hb_
            refine wp_then h3170q rfl ?_
            refine wp_seq ?_
            refine WL.start ?_
            obtain ⟨r3173q, A3172q, H⟩ := bind1 H
            refine WL.op' (m := 0) h3170q rfl rfl ?_
            refine owp_call [] h3170q rfl (by kernel_rfl) rfl Try.func8 (by kernel_rfl) rfl (by kernel_rfl) (louverlaw02qfixed.calls k  A3172q hS2982q) (fun e3175q W3174q hp3176q => ?_)
            obtain ⟨rfl, hS3179q⟩ := hp3176q
            refine ⟨_, rfl, fun a3177q h3178q => ?_⟩
            clear h3170q a3169q
            refine WL.block (c := 1) (m' := 2) h3178q rfl [(46, .bool r3173q)] (by kernel_rfl) (fun a3180q h3181q => ?_)
            clear h3178q a3177q
            by_cases c3182q : r3173q = true
            · rw [if_pos c3182q] at H
              have hb_ : r3173q = true := c3182q
              try rw [hb_] at h3181q
              clear hb_
              refine WL.op' (m := 2) h3181q rfl rfl (owp_run h3181q rfl (by kernel_rfl) (v := .slice A2983q r2972q.length c2984q) (by kernel_rfl) (fun a3183q h3184q => ?_))
              clear h3181q a3180q
              refine WL.op' (m := 3) h3184q rfl rfl ?_
              refine owp_run (v := .string (mkS (toS r2972q))) h3184q rfl (by kernel_rfl) (run_tostr rfl rfl hr2980q.rds (fun _ _ hk_ => (hS3179q).pool.kn hk_) Try.underlying26 Try.underlying5 Try.underlying9) (fun a3185q h3186q => ?_)
              clear h3184q a3183q
              refine WL.op' (m := 4) h3186q rfl rfl (owp_run h3186q rfl (by kernel_rfl) (v := .slice A0 p0.length c0) (by kernel_rfl) (fun a3187q h3188q => ?_))
              clear h3186q a3185q
              refine WL.op' (m := 5) h3188q rfl rfl ?_
              refine owp_run (v := .string (mkS (toS p0))) h3188q rfl (by kernel_rfl) (run_tostr rfl rfl hp0 (fun _ _ hk_ => hS3179q.kn hk_) Try.underlying26 Try.underlying5 Try.underlying9) (fun a3189q h3190q => ?_)
              clear h3188q a3187q
              refine WL.op' (m := 6) h3190q rfl rfl ?_
              refine owp_run (v := .bool (decide ((toS r2972q) = (toS p0)))) h3190q rfl (by kernel_rfl) (run_streq rfl rfl rfl) (fun a3191q h3192q => ?_)
              clear h3190q a3189q
              refine WL.block (c := 2) (m' := 9) h3192q rfl [(53, .bool (decide ((toS r2972q) = (toS p0)))), (52, .bool (decide ((toS r2972q) = (toS p0))))] (by kernel_rfl) (fun a3193q h3194q => ?_)
              clear h3192q a3191q
              by_cases c3195q : (toS r2972q) = (toS p0)
              · rw [if_pos c3195q] at H
                have hb_ : (decide ((toS r2972q) = (toS p0))) = true := decide_eq_true c3195q
                try rw [hb_] at h3194q
                clear hb_
                refine WL.op' (m := 9) h3194q rfl rfl (owp_run h3194q rfl (by kernel_rfl) (v := .int .i64 p1) (by kernel_rfl) (fun a3196q h3197q => ?_))
                clear h3194q a3193q
                refine WL.op' (m := 10) h3197q rfl rfl (owp_run h3197q rfl (by kernel_rfl) (v := .int .u32 p3) (by kernel_rfl) (fun a3198q h3199q => ?_))
                clear h3197q a3196q
                obtain ⟨r3201q, A3200q, H⟩ := bind1 H
                refine WL.op' (m := 11) h3199q rfl rfl ?_
                refine owp_call [.int .i64 p1, .int .u32 p3] h3199q rfl (by kernel_rfl) rfl Try.func9 (by kernel_rfl) rfl (by kernel_rfl) (prefix_Size.calls k  A3200q hS3179q) (fun e3203q W3202q hp3204q => ?_)
                obtain ⟨rfl, hS3207q⟩ := hp3204q
                refine ⟨_, rfl, fun a3205q h3206q => ?_⟩
                clear h3199q a3198q
                refine WL.op' (m := 12) h3206q rfl rfl (owp_run h3206q rfl (by kernel_rfl) (v := .bool (decide (r3201q = 0))) (by kernel_rfl) (fun a3208q h3209q => ?_))
                clear h3206q a3205q
                refine WL.block (c := 2) (m' := 15) h3209q rfl [(10, .bool (decide (r3201q = 0))), (58, .bool (decide (r3201q = 0)))] (by kernel_rfl) (fun a3210q h3211q => ?_)
                clear h3209q a3208q
                refine WL.done (by kernel_rfl) ?_
                refine wp_ret ?_
                have hS3212q : St b w0 W3202q R (Fs) := hS3207q.drop_
                obtain rfl := Option.some.inj H
                repeat (first | refine then_ret ?_ | refine inBlock_ret ?_ | refine inBlock_go ?_)
                refine body_ret (v := .bool (decide (r3201q = 0))) h3211q (by kernel_rfl) (by kernel_rfl) ?_
                exact ⟨rfl, hS3212q⟩
              · rw [if_neg c3195q] at H
                have hb_ : (decide ((toS r2972q) = (toS p0))) = false := decide_eq_false c3195q
                try rw [hb_] at h3194q
                clear hb_
                refine WL.skipped (m := 9) h3194q rfl rfl (by kernel_rfl) rfl (fun a3213q h3214q => ?_)
                clear h3194q a3193q
                refine WL.skipped (m := 10) h3214q rfl rfl (by kernel_rfl) rfl (fun a3215q h3216q => ?_)
                clear h3214q a3213q
                refine WL.skipped (m := 11) h3216q rfl rfl (by kernel_rfl) rfl (fun a3217q h3218q => ?_)
                clear h3216q a3215q
                refine WL.skipped (m := 12) h3218q rfl rfl (by kernel_rfl) rfl (fun a3219q h3220q => ?_)
                clear h3218q a3217q
                refine WL.block (c := 2) (m' := 15) h3220q rfl [(10, .bool false), (58, .bool false)] (by kernel_rfl) (fun a3221q h3222q => ?_)
                clear h3220q a3219q
                refine WL.done (by kernel_rfl) ?_
                refine wp_ret ?_
                have hS3223q : St b w0 W3174q R (Fs) := hS3179q.drop_
                obtain rfl := Option.some.inj H
                repeat (first | refine then_ret ?_ | refine inBlock_ret ?_ | refine inBlock_go ?_)
                refine body_ret (v := .bool false) h3222q (by kernel_rfl) (by kernel_rfl) ?_
                exact ⟨rfl, hS3223q⟩
            · rw [if_neg c3182q] at H
              have hb_ : r3173q = false := (Bool.eq_false_iff.2 c3182q)
              try rw [hb_] at h3181q
              clear hb_
              refine WL.skipped (m := 2) h3181q rfl rfl (by kernel_rfl) rfl (fun a3224q h3225q => ?_)
              clear h3181q a3180q
              refine WL.skipped (m := 3) h3225q rfl rfl (by kernel_rfl) rfl (fun a3226q h3227q => ?_)
              clear h3225q a3224q
              refine WL.skipped (m := 4) h3227q rfl rfl (by kernel_rfl) rfl (fun a3228q h3229q => ?_)
              clear h3227q a3226q
              refine WL.skipped (m := 5) h3229q rfl rfl (by kernel_rfl) rfl (fun a3230q h3231q => ?_)
              clear h3229q a3228q
              refine WL.skipped (m := 6) h3231q rfl rfl (by kernel_rfl) rfl (fun a3232q h3233q => ?_)
              clear h3231q a3230q
              refine WL.block (c := 2) (m' := 9) h3233q rfl [(53, .bool false), (52, .bool false)] (by kernel_rfl) (fun a3234q h3235q => ?_)
              clear h3233q a3232q
              refine WL.skipped (m := 9) h3235q rfl rfl (by kernel_rfl) rfl (fun a3236q h3237q => ?_)
              clear h3235q a3234q
              refine WL.skipped (m := 10) h3237q rfl rfl (by kernel_rfl) rfl (fun a3238q h3239q => ?_)
              clear h3237q a3236q
              refine WL.skipped (m := 11) h3239q rfl rfl (by kernel_rfl) rfl (fun a3240q h3241q => ?_)
              clear h3239q a3238q
              refine WL.skipped (m := 12) h3241q rfl rfl (by kernel_rfl) rfl (fun a3242q h3243q => ?_)
              clear h3241q a3240q
              refine WL.block (c := 2) (m' := 15) h3243q rfl [(10, .bool false), (58, .bool false)] (by kernel_rfl) (fun a3244q h3245q => ?_)
              clear h3243q a3242q
              refine WL.done (by kernel_rfl) ?_
              refine wp_ret ?_
              have hS3246q : St b w0 W3174q R (Fs) := hS3179q.drop_
              obtain rfl := Option.some.inj H
              repeat (first | refine then_ret ?_ | refine inBlock_ret ?_ | refine inBlock_go ?_)
              refine body_ret (v := .bool false) h3245q (by kernel_rfl) (by kernel_rfl) ?_
              exact ⟨rfl, hS3246q⟩
          · rw [if_neg c3171q] at H
            have hb_ : (decide (p3 > 268435456)) = false := decide_eq_false c3171q
            try rw [hb_] at h3170q
            clear hb_
            refine wp_else h3170q rfl ?_
            refine wp_skip ?_
            refine wp_seq ?_
            refine WL.start ?_
            refine WL.block (c := 3) (m' := 3) h3170q rfl [(61, .int .u32 p3), (60, .int .u8 p2), (59, .int .i64 p1)] (by kernel_rfl) (fun a3247q h3248q => ?_)
            clear h3170q a3169q
            obtain ⟨r3250q, A3249q, H⟩ := bind1 H
            refine WL.op' (m := 3) h3248q rfl rfl ?_
            refine owp_call [.int .i64 p1, .int .u8 p2, .int .u32 p3] h3248q rfl (by kernel_rfl) rfl Try.func11 (by kernel_rfl) rfl (by kernel_rfl) (louverref02qPut.calls k  A3249q hS2982q) (fun e3252q W3251q hp3253q => ?_)
            obtain ⟨v3256q, M3257q, rfl, hr3258q, hS3260q⟩ := hp3253q
            refine ⟨_, rfl, fun a3254q h3255q => ?_⟩
            clear h3248q a3247q
            obtain ⟨A3261q, c3262q, rfl⟩ := hr3258q.form
            refine WL.block (c := 1) (m' := 5) h3255q rfl [(12, .slice A3261q r3250q.length c3262q)] (by kernel_rfl) (fun a3263q h3264q => ?_)
            clear h3255q a3254q
            refine WL.done (by kernel_rfl) ?_
            refine wp_seq ?_
            refine wp_seq ?_
            refine WL.start ?_
            refine WL.block (c := 1) (m' := 1) h3264q rfl [(63, .slice A2983q r2972q.length c2984q)] (by kernel_rfl) (fun a3265q h3266q => ?_)
            clear h3264q a3263q
            have hS3267q : St b w0 W3251q R (M2979q :: M3257q :: Fs) := hS3260q.bring 1 rfl rfl
            refine WL.op' (m := 1) h3266q rfl rfl ?_
            refine owp_run (v := .string (mkS (toS r2972q))) h3266q rfl (by kernel_rfl) (run_tostr rfl rfl hr2980q.rds (fun _ _ hk_ => (hS3267q).pool.kn hk_) Try.underlying26 Try.underlying5 Try.underlying9) (fun a3268q h3269q => ?_)
            clear h3266q a3265q
            refine WL.block (c := 1) (m' := 3) h3269q rfl [(65, .slice A0 p0.length c0)] (by kernel_rfl) (fun a3270q h3271q => ?_)
            clear h3269q a3268q
            refine WL.op' (m := 3) h3271q rfl rfl ?_
            refine owp_run (v := .string (mkS (toS p0))) h3271q rfl (by kernel_rfl) (run_tostr rfl rfl hp0 (fun _ _ hk_ => hS3267q.kn hk_) Try.underlying26 Try.underlying5 Try.underlying9) (fun a3272q h3273q => ?_)
            clear h3271q a3270q
            refine WL.block (c := 1) (m' := 5) h3273q rfl [(67, .slice A3261q r3250q.length c3262q)] (by kernel_rfl) (fun a3274q h3275q => ?_)
            clear h3273q a3272q
            have hS3276q : St b w0 W3251q R (M3257q :: M2979q :: Fs) := hS3267q.bring 1 rfl rfl
            refine WL.op' (m := 5) h3275q rfl rfl ?_
            refine owp_run (v := .string (mkS (toS r3250q))) h3275q rfl (by kernel_rfl) (run_tostr rfl rfl hr3258q.rds (fun _ _ hk_ => (hS3276q).pool.kn hk_) Try.underlying26 Try.underlying5 Try.underlying9) (fun a3277q h3278q => ?_)
            clear h3275q a3274q
            by_cases c3279q : (toS p0).length + (toS r3250q).length ≤ 9223372036854775807
            · rw [if_pos c3279q] at H
              refine WL.op' (m := 6) h3278q rfl rfl ?_
              refine owp_run (v := .string (mkS ((toS p0) ++ (toS r3250q)))) h3278q rfl (by kernel_rfl) (run_concat rfl rfl rfl (by assumption)) (fun a3280q h3281q => ?_)
              clear h3278q a3277q
              refine WL.op' (m := 7) h3281q rfl rfl ?_
              refine owp_run (v := .bool (!decide ((toS r2972q) = ((toS p0) ++ (toS r3250q))))) h3281q rfl (by kernel_rfl) (run_strne rfl rfl rfl) (fun a3282q h3283q => ?_)
              clear h3281q a3280q
              refine WL.block (c := 1) (m' := 9) h3283q rfl [(71, .bool (!decide ((toS r2972q) = ((toS p0) ++ (toS r3250q)))))] (by kernel_rfl) (fun a3284q h3285q => ?_)
              clear h3283q a3282q
              by_cases c3286q : (toS r2972q) = ((toS p0) ++ (toS r3250q))
              · rw [if_pos c3286q] at H
                have hb_ : (decide ((toS r2972q) = ((toS p0) ++ (toS r3250q)))) = true := decide_eq_true c3286q
                try rw [hb_] at h3285q
                clear hb_
                refine WL.op' (m := 9) h3285q rfl rfl (owp_run h3285q rfl (by kernel_rfl) (v := .int .i64 p1) (by kernel_rfl) (fun a3287q h3288q => ?_))
                clear h3285q a3284q
                refine WL.op' (m := 10) h3288q rfl rfl (owp_run h3288q rfl (by kernel_rfl) (v := .int .u32 p3) (by kernel_rfl) (fun a3289q h3290q => ?_))
                clear h3288q a3287q
                obtain ⟨r3292q, A3291q, H⟩ := bind1 H
                refine WL.op' (m := 11) h3290q rfl rfl ?_
                refine owp_call [.int .i64 p1, .int .u32 p3] h3290q rfl (by kernel_rfl) rfl Try.func9 (by kernel_rfl) rfl (by kernel_rfl) (prefix_Size.calls k  A3291q hS3276q) (fun e3294q W3293q hp3295q => ?_)
                obtain ⟨rfl, hS3298q⟩ := hp3295q
                refine ⟨_, rfl, fun a3296q h3297q => ?_⟩
                clear h3290q a3289q
                refine WL.op' (m := 12) h3297q rfl rfl (owp_run h3297q rfl (by kernel_rfl) (v := .slice A3261q r3250q.length c3262q) (by kernel_rfl) (fun a3299q h3300q => ?_))
                clear h3297q a3296q
                refine WL.op' (m := 13) h3300q rfl rfl (owp_run h3300q rfl (by kernel_rfl) (v := .int .i64 (r3250q.length : Int)) (by kernel_rfl) (fun a3301q h3302q => ?_))
                clear h3300q a3299q
                refine WL.op' (m := 14) h3302q rfl rfl (owp_run h3302q rfl (by kernel_rfl) (v := .bool (!decide (r3292q = (r3250q.length : Int)))) (by kernel_rfl) (fun a3303q h3304q => ?_))
                clear h3302q a3301q
                refine WL.block (c := 1) (m' := 16) h3304q rfl [(78, .bool (!decide (r3292q = (r3250q.length : Int))))] (by kernel_rfl) (fun a3305q h3306q => ?_)
                clear h3304q a3303q
                refine WL.done (by kernel_rfl) ?_
                by_cases c3307q : r3292q = (r3250q.length : Int)
                · rw [if_pos c3307q] at H
                  have hb_ : (decide (r3292q = (r3250q.length : Int))) = true := decide_eq_true c3307q
                  try rw [hb_] at h3306q
                  clear hb_
                  refine wp_else h3306q rfl ?_
                  refine wp_skip ?_
                  refine wp_seq ?_
                  refine WL.start ?_
                  refine WL.op' (m := 0) h3306q rfl rfl ?_
                  refine owp_new (fun g_ => .slice (some ⟨g_, 0, none⟩) 0 0) (.cells ([] : List Value).toArray 5 (0, 0)) h3306q rfl (by kernel_rfl) (by kernel_rfl) hS3298q (fun a3308q W3310q g3311q h3309q hS3312q => ?_)
                  clear h3306q a3305q
                  have hr3314q : Row (kInt .u8) 5 b w0 R (.slice (some ⟨g3311q, 0, none⟩) 0 0) ([] : List Int) [(g3311q, .cells ([] : List Value).toArray 5 (0, 0))] := Row.lit (xs := ([] : List Int)) (Mi := []) ⟨rfl, rfl⟩ (by simp [maxLen])
                  refine WL.block (c := 1) (m' := 2) h3309q rfl [(80, .slice A3261q r3250q.length c3262q)] (by kernel_rfl) (fun a3315q h3316q => ?_)
                  clear h3309q a3308q
                  by_cases c3317q : ([] : List Int).length + r3250q.length ≤ 140737488355328
                  · rw [if_pos c3317q] at H
                    have hS3318q : St b w0 W3310q R (M3257q :: [(g3311q, .cells ([] : List Value).toArray 5 (0, 0))] :: M2979q :: Fs) := hS3312q.bring 1 rfl rfl
                    have hS3319q : St b w0 W3310q R ([(g3311q, .cells ([] : List Value).toArray 5 (0, 0))] :: M3257q :: M2979q :: Fs) := hS3318q.bring 1 rfl rfl
                    refine WL.op' (m := 2) h3316q rfl rfl ?_
                    refine owp_app_keep (z := .int .u8 0) (bytes := 1) (dk := (kInt .u8)) h3316q rfl (by kernel_rfl) rfl rfl rfl (fun hr_ => hr_.2) hr3314q hr3258q hS3319q Try.underlying26 (by kernel_rfl) rfl (by decide) (by decide) (by first | omega | (simp only [List.length_cons, List.length_nil] at *; omega)) (fun a3320q W3322q v3323q M3324q h3321q hr3325q hS3326q => ?_)
                    clear h3316q a3315q
                    obtain ⟨y3328q, hy3329q, H⟩ := lete H
                    have hr3330q : Row (kInt .u8) 5 b w0 R v3323q y3328q M3324q := by rw [hy3329q]; exact hr3325q
                    clear hr3325q
                    obtain ⟨A3331q, c3332q, rfl⟩ := hr3330q.form
                    refine WL.block (c := 1) (m' := 4) h3321q rfl [(82, .slice A4 p4.length c4)] (by kernel_rfl) (fun a3333q h3334q => ?_)
                    clear h3321q a3320q
                    by_cases c3335q : y3328q.length + p4.length ≤ 140737488355328
                    · rw [if_pos c3335q] at H
                      refine WL.op' (m := 4) h3334q rfl rfl ?_
                      refine owp_app_rds (z := .int .u8 0) (bytes := 1) (dk := (kInt .u8)) h3334q rfl (by kernel_rfl) rfl rfl rfl (kInt_flat _) hr3330q hp4 hS3326q Try.underlying26 (by kernel_rfl) rfl (by decide) (by decide) (by first | omega | (simp only [List.length_cons, List.length_nil] at *; omega)) (fun a3336q W3338q v3339q M3340q h3337q hr3341q hS3342q => ?_)
                      clear h3334q a3333q
                      obtain ⟨y3344q, hy3345q, H⟩ := lete H
                      have hr3346q : Row (kInt .u8) 5 b w0 R v3339q y3344q M3340q := by rw [hy3345q]; exact hr3341q
                      clear hr3341q
                      obtain ⟨A3347q, c3348q, rfl⟩ := hr3346q.form
                      refine WL.block (c := 1) (m' := 6) h3337q rfl [(13, .slice A3347q y3344q.length c3348q)] (by kernel_rfl) (fun a3349q h3350q => ?_)
                      clear h3337q a3336q
                      refine WL.done (by kernel_rfl) ?_
                      refine wp_seq ?_
                      refine WL.start ?_
                      refine WL.block (c := 2) (m' := 2) h3350q rfl [(86, .int .i64 p1), (85, .slice A3347q y3344q.length c3348q)] (by kernel_rfl) (fun a3351q h3352q => ?_)
                      clear h3350q a3349q
                      obtain ⟨r3354q, r3355q, r3356q, A3353q, H⟩ := bind3 H
                      refine WL.op' (m := 2) h3352q rfl rfl ?_
                      refine owp_call [.slice A3347q y3344q.length c3348q, .int .i64 p1] h3352q rfl (by kernel_rfl) rfl Try.func12 (by kernel_rfl) rfl (by kernel_rfl) (prefix_Get.calls k hr3346q.rds A3353q (hS3342q.pool)) (fun e3358q W3357q hp3359q => ?_)
                      obtain ⟨rfl, hS3362q⟩ := hp3359q
                      have hS3363q : St b w0 W3357q R (M3340q :: M3257q :: M2979q :: Fs) := hS3362q.unpool
                      refine ⟨_, rfl, fun a3360q h3361q => ?_⟩
                      clear h3352q a3351q
                      refine WL.block (c := 7) (m' := 10) h3361q rfl [(16, .int .i64 r3356q), (15, .int .i64 r3355q), (14, .int .u32 r3354q), (90, .int .i64 r3356q), (89, .int .i64 r3355q), (88, .int .u32 r3354q), (84, .tuple #[.int .u32 r3354q, .int .i64 r3355q, .int .i64 r3356q])] (by kernel_rfl) (fun a3364q h3365q => ?_)
                      clear h3361q a3360q
                      refine WL.done (by kernel_rfl) ?_
                      refine wp_seq ?_
                      refine wp_seq ?_
                      refine WL.start ?_
                      refine WL.block (c := 4) (m' := 4) h3365q rfl [(94, .bool (!decide (r3354q = p3))), (93, .bool (!decide (r3354q = p3))), (92, .int .u32 p3), (91, .int .u32 r3354q)] (by kernel_rfl) (fun a3366q h3367q => ?_)
                      clear h3365q a3364q
                      by_cases c3368q : r3354q = p3
                      · rw [if_pos c3368q] at H
                        have hb_ : (decide (r3354q = p3)) = true := decide_eq_true c3368q
                        try rw [hb_] at h3367q
                        clear hb_
                        refine WL.op' (m := 4) h3367q rfl rfl (owp_run h3367q rfl (by kernel_rfl) (v := .int .i64 r3355q) (by kernel_rfl) (fun a3369q h3370q => ?_))
                        clear h3367q a3366q
                        refine WL.op' (m := 5) h3370q rfl rfl (owp_run h3370q rfl (by kernel_rfl) (v := .slice A3261q r3250q.length c3262q) (by kernel_rfl) (fun a3371q h3372q => ?_))
                        clear h3370q a3369q
                        refine WL.op' (m := 6) h3372q rfl rfl (owp_run h3372q rfl (by kernel_rfl) (v := .int .i64 (r3250q.length : Int)) (by kernel_rfl) (fun a3373q h3374q => ?_))
                        clear h3372q a3371q
                        refine WL.op' (m := 7) h3374q rfl rfl (owp_run h3374q rfl (by kernel_rfl) (v := .bool (!decide (r3355q = (r3250q.length : Int)))) (by kernel_rfl) (fun a3375q h3376q => ?_))
                        clear h3374q a3373q
                        refine WL.block (c := 2) (m' := 10) h3376q rfl [(100, .bool (!decide (r3355q = (r3250q.length : Int)))), (99, .bool (!decide (r3355q = (r3250q.length : Int))))] (by kernel_rfl) (fun a3377q h3378q => ?_)
                        clear h3376q a3375q
                        by_cases c3379q : r3355q = (r3250q.length : Int)
                        · rw [if_pos c3379q] at H
                          have hb_ : (decide (r3355q = (r3250q.length : Int))) = true := decide_eq_true c3379q
                          try rw [hb_] at h3378q
                          clear hb_
                          refine WL.op' (m := 10) h3378q rfl rfl (owp_run h3378q rfl (by kernel_rfl) (v := .int .i64 r3356q) (by kernel_rfl) (fun a3380q h3381q => ?_))
                          clear h3378q a3377q
                          refine WL.op' (m := 11) h3381q rfl rfl (owp_run h3381q rfl (by kernel_rfl) (v := .bool (!decide (r3356q = 0))) (by kernel_rfl) (fun a3382q h3383q => ?_))
                          clear h3381q a3380q
                          refine WL.block (c := 1) (m' := 13) h3383q rfl [(103, .bool (!decide (r3356q = 0)))] (by kernel_rfl) (fun a3384q h3385q => ?_)
                          clear h3383q a3382q
                          refine WL.done (by kernel_rfl) ?_
                          by_cases c3386q : r3356q = 0
                          · rw [if_pos c3386q] at H
                            have hb_ : (decide (r3356q = 0)) = true := decide_eq_true c3386q
                            try rw [hb_] at h3385q
                            clear hb_
                            refine wp_else h3385q rfl ?_
                            refine wp_skip ?_
                            refine wp_seq ?_
                            refine wp_seq ?_
                            refine WL.start ?_
                            refine WL.block (c := 3) (m' := 3) h3385q rfl [(106, .int .i64 0), (105, .int .i64 (r3250q.length : Int)), (104, .slice A3261q r3250q.length c3262q)] (by kernel_rfl) (fun a3387q h3388q => ?_)
                            clear h3385q a3384q
                            refine WL.done (by kernel_rfl) ?_
                            refine wp_block ?_
                            have hS3395q : St b w0 W3357q R (M3257q :: M2979q :: Fs) := hS3363q.drop_
                            have hS3396q : St b w0 W3357q R (M2979q :: M3257q :: Fs) := hS3395q.bring 1 rfl rfl
                            have hS3397q : St b w0 W3357q R (M3257q :: Fs) := hS3396q.drop_
                            refine wp_loop_ghost (fun kq_ a_ W_ => ∃ (x3394q : Int), Hd a_ 122 [(1, .int .i64 p1), (12, .slice A3261q r3250q.length c3262q), (105, .int .i64 (r3250q.length : Int)), (106, .int .i64 x3394q)] ∧ Asd (louverlaw02qPrefixPuts.l0 kq_ x3394q p1 r3250q = some r0q) ∧ Asd (kq_ ≤ k) ∧ Asd (St b w0 W_ R (M3257q :: Fs))) k ⟨0, h3388q.keep ⟨rfl, rfl, rfl, rfl, trivial⟩, ⟨H⟩, ⟨Nat.le_refl _⟩, ⟨hS3397q⟩⟩ ?_
                            clear H hS3397q
                            rintro k3393q a3390q W3391q ⟨x3394q, h3389q, ⟨H⟩, ⟨hkk3393q⟩, ⟨hS3392q⟩⟩
                            obtain _ | k3398q := k3393q
                            · exact absurd H (by simp [louverlaw02qPrefixPuts.l0])
                            simp only [louverlaw02qPrefixPuts.l0] at H
                            refine wp_seq ?_
                            refine WL.start ?_
                            refine WL.block (c := 1) (m' := 1) h3389q rfl [(107, .bool (decide (x3394q < (r3250q.length : Int))))] (by kernel_rfl) (fun a3399q h3400q => ?_)
                            clear h3389q a3390q
                            refine WL.done (by kernel_rfl) ?_
                            refine wp_seq ?_
                            by_cases c3401q : x3394q < (r3250q.length : Int)
                            · rw [if_pos c3401q] at H
                              have hb_ : (decide (x3394q < (r3250q.length : Int))) = true := decide_eq_true c3401q
                              try rw [hb_] at h3400q
                              clear hb_
                              refine wp_then h3400q rfl ?_
                              refine wp_skip ?_
                              refine wp_seq ?_
                              refine wp_block ?_
                              refine wp_seq ?_
                              refine WL.start ?_
                              refine WL.block (c := 2) (m' := 2) h3400q rfl [(17, .int .i64 x3394q), (108, .int .i64 x3394q)] (by kernel_rfl) (fun a3402q h3403q => ?_)
                              clear h3400q a3399q
                              refine WL.done (by kernel_rfl) ?_
                              refine wp_seq ?_
                              refine WL.start ?_
                              refine WL.block (c := 2) (m' := 2) h3403q rfl [(111, .int .i64 x3394q), (110, .slice A3261q r3250q.length c3262q)] (by kernel_rfl) (fun a3404q h3405q => ?_)
                              clear h3403q a3402q
                              by_cases c3406q : 0 ≤ x3394q
                              · rw [if_pos c3406q] at H
                                by_cases c3407q : x3394q ≤ (r3250q.length : Int)
                                · rw [if_pos c3407q] at H
                                  refine WL.op' (m := 2) h3405q rfl rfl ?_
                                  refine owp_run (v := sliced A3261q (0 : Int).toNat x3394q.toNat c3262q 1) h3405q rfl (by kernel_rfl) (run_cut (l := 0) (h := x3394q) rfl rfl Try.underlying26 (by kernel_rfl) rfl ⟨_, rfl⟩ (by first | assumption | omega) (by first | assumption | omega) (by have q_ := Rds.cap hr3258q.rds; omega) (by have q_ := Rds.cap hr3258q.rds; omega)) (fun a3409q h3410q => ?_)
                                  clear h3405q a3404q
                                  have hx3408q := Rds.cut hr3258q.rds (l := (0 : Int).toNat) (h := x3394q.toNat) (by omega) (by omega)
                                  obtain ⟨v3411q, ev3412q⟩ : ∃ y_, y_ = sliced A3261q (0 : Int).toNat x3394q.toNat c3262q 1 := ⟨_, rfl⟩
                                  have hx_ : Rds (kInt .u8) b w0 (M3257q ++ R) v3411q (r3250q.take x3394q.toNat) := hx3408q.as_ ev3412q.symm (by simp)
                                  rw [← ev3412q] at h3410q; clear hx3408q
                                  have hx3408q := hx_; clear hx_
                                  obtain ⟨A3413q, c3414q, rfl⟩ := hx3408q.form
                                  refine WL.block (c := 1) (m' := 4) h3410q rfl [(113, .int .i64 p1)] (by kernel_rfl) (fun a3415q h3416q => ?_)
                                  clear h3410q a3409q
                                  obtain ⟨r3418q, r3419q, r3420q, A3417q, H⟩ := bind3 H
                                  refine WL.op' (m := 4) h3416q rfl rfl ?_
                                  refine owp_call [.slice A3413q (r3250q.take x3394q.toNat).length c3414q, .int .i64 p1] h3416q rfl (by kernel_rfl) rfl Try.func12 (by kernel_rfl) rfl (by kernel_rfl) (prefix_Get.calls k3398q hx3408q A3417q (hS3392q.pool)) (fun e3422q W3421q hp3423q => ?_)
                                  obtain ⟨rfl, hS3426q⟩ := hp3423q
                                  have hS3427q : St b w0 W3421q R (M3257q :: Fs) := hS3426q.unpool
                                  refine ⟨_, rfl, fun a3424q h3425q => ?_⟩
                                  clear h3416q a3415q
                                  refine WL.block (c := 7) (m' := 12) h3425q rfl [(20, .int .i64 r3420q), (19, .int .i64 r3419q), (18, .int .u32 r3418q), (117, .int .i64 r3420q), (116, .int .i64 r3419q), (115, .int .u32 r3418q), (109, .tuple #[.int .u32 r3418q, .int .i64 r3419q, .int .i64 r3420q])] (by kernel_rfl) (fun a3428q h3429q => ?_)
                                  clear h3425q a3424q
                                  refine WL.done (by kernel_rfl) ?_
                                  refine wp_seq ?_
                                  refine WL.start ?_
                                  refine WL.block (c := 2) (m' := 2) h3429q rfl [(119, .bool (!decide (r3420q = 2))), (118, .int .i64 r3420q)] (by kernel_rfl) (fun a3430q h3431q => ?_)
                                  clear h3429q a3428q
                                  refine WL.done (by kernel_rfl) ?_
                                  by_cases c3432q : r3420q = 2
                                  · rw [if_pos c3432q] at H
                                    have hb_ : (decide (r3420q = 2)) = true := decide_eq_true c3432q
                                    try rw [hb_] at h3431q
                                    clear hb_
                                    refine wp_else h3431q rfl ?_
                                    refine wp_skip ?_
                                    refine WL.start ?_
                                    refine WL.block (c := 2) (m' := 2) h3431q rfl [(106, .int .i64 (IntKind.i64.wrap (x3394q + 1))), (120, .int .i64 (IntKind.i64.wrap (x3394q + 1)))] (by kernel_rfl) (fun a3433q h3434q => ?_)
                                    clear h3431q a3430q
                                    refine WL.done (by kernel_rfl) ?_
                                    exact ⟨k3398q, by omega, IntKind.i64.wrap (x3394q + 1), h3434q.keep ⟨rfl, rfl, rfl, rfl, trivial⟩, ⟨H⟩, ⟨by omega⟩, ⟨hS3427q⟩⟩
                                  · rw [if_neg c3432q] at H
                                    have hb_ : (decide (r3420q = 2)) = false := decide_eq_false c3432q
                                    try rw [hb_] at h3431q
                                    clear hb_
                                    refine wp_then h3431q rfl ?_
                                    refine wp_seq ?_
                                    refine WL.start ?_
                                    refine WL.block (c := 1) (m' := 1) h3431q rfl [(10, .bool false)] (by kernel_rfl) (fun a3435q h3436q => ?_)
                                    clear h3431q a3430q
                                    refine WL.done (by kernel_rfl) ?_
                                    refine wp_ret ?_
                                    have hS3437q : St b w0 W3421q R (Fs) := hS3427q.drop_
                                    obtain rfl := Option.some.inj H
                                    repeat (first | refine then_ret ?_ | refine inBlock_ret ?_ | refine inBlock_go ?_)
                                    refine body_ret (v := .bool false) h3436q (by kernel_rfl) (by kernel_rfl) ?_
                                    exact ⟨rfl, hS3437q⟩
                                · rw [if_neg c3407q] at H
                                  cases H
                              · rw [if_neg c3406q] at H
                                cases H
                            · rw [if_neg c3401q] at H
                              have hb_ : (decide (x3394q < (r3250q.length : Int))) = false := decide_eq_false c3401q
                              try rw [hb_] at h3400q
                              clear hb_
                              refine wp_else h3400q rfl ?_
                              refine wp_exit ?_
                              refine wp_seq ?_
                              refine WL.start ?_
                              obtain ⟨r3439q, A3438q, H⟩ := bind1 H
                              refine WL.op' (m := 0) h3400q rfl rfl ?_
                              refine owp_call [] h3400q rfl (by kernel_rfl) rfl Try.func8 (by kernel_rfl) rfl (by kernel_rfl) (louverlaw02qfixed.calls k3398q  A3438q hS3392q) (fun e3441q W3440q hp3442q => ?_)
                              obtain ⟨rfl, hS3445q⟩ := hp3442q
                              refine ⟨_, rfl, fun a3443q h3444q => ?_⟩
                              clear h3400q a3399q
                              refine WL.block (c := 1) (m' := 2) h3444q rfl [(10, .bool r3439q)] (by kernel_rfl) (fun a3446q h3447q => ?_)
                              clear h3444q a3443q
                              refine WL.done (by kernel_rfl) ?_
                              refine wp_ret ?_
                              have hS3448q : St b w0 W3440q R (Fs) := hS3445q.drop_
                              obtain rfl := Option.some.inj H
                              repeat (first | refine then_ret ?_ | refine inBlock_ret ?_ | refine inBlock_go ?_)
                              refine body_ret (v := .bool r3439q) h3447q (by kernel_rfl) (by kernel_rfl) ?_
                              exact ⟨rfl, hS3448q⟩
                          · rw [if_neg c3386q] at H
                            have hb_ : (decide (r3356q = 0)) = false := decide_eq_false c3386q
                            try rw [hb_] at h3385q
                            clear hb_
                            refine wp_then h3385q rfl ?_
                            refine wp_seq ?_
                            refine WL.start ?_
                            refine WL.block (c := 1) (m' := 1) h3385q rfl [(10, .bool false)] (by kernel_rfl) (fun a3449q h3450q => ?_)
                            clear h3385q a3384q
                            refine WL.done (by kernel_rfl) ?_
                            refine wp_ret ?_
                            have hS3451q : St b w0 W3357q R (M3257q :: M2979q :: Fs) := hS3363q.drop_
                            have hS3452q : St b w0 W3357q R (M2979q :: Fs) := hS3451q.drop_
                            have hS3453q : St b w0 W3357q R (Fs) := hS3452q.drop_
                            obtain rfl := Option.some.inj H
                            repeat (first | refine then_ret ?_ | refine inBlock_ret ?_ | refine inBlock_go ?_)
                            refine body_ret (v := .bool false) h3450q (by kernel_rfl) (by kernel_rfl) ?_
                            exact ⟨rfl, hS3453q⟩
                        · rw [if_neg c3379q] at H
                          have hb_ : (decide (r3355q = (r3250q.length : Int))) = false := decide_eq_false c3379q
                          try rw [hb_] at h3378q
                          clear hb_
                          refine WL.skipped (m := 10) h3378q rfl rfl (by kernel_rfl) rfl (fun a3454q h3455q => ?_)
                          clear h3378q a3377q
                          refine WL.skipped (m := 11) h3455q rfl rfl (by kernel_rfl) rfl (fun a3456q h3457q => ?_)
                          clear h3455q a3454q
                          refine WL.block (c := 1) (m' := 13) h3457q rfl [(103, .bool true)] (by kernel_rfl) (fun a3458q h3459q => ?_)
                          clear h3457q a3456q
                          refine WL.done (by kernel_rfl) ?_
                          refine wp_then h3459q rfl ?_
                          refine wp_seq ?_
                          refine WL.start ?_
                          refine WL.block (c := 1) (m' := 1) h3459q rfl [(10, .bool false)] (by kernel_rfl) (fun a3460q h3461q => ?_)
                          clear h3459q a3458q
                          refine WL.done (by kernel_rfl) ?_
                          refine wp_ret ?_
                          have hS3462q : St b w0 W3357q R (M3257q :: M2979q :: Fs) := hS3363q.drop_
                          have hS3463q : St b w0 W3357q R (M2979q :: Fs) := hS3462q.drop_
                          have hS3464q : St b w0 W3357q R (Fs) := hS3463q.drop_
                          obtain rfl := Option.some.inj H
                          repeat (first | refine then_ret ?_ | refine inBlock_ret ?_ | refine inBlock_go ?_)
                          refine body_ret (v := .bool false) h3461q (by kernel_rfl) (by kernel_rfl) ?_
                          exact ⟨rfl, hS3464q⟩
                      · rw [if_neg c3368q] at H
                        have hb_ : (decide (r3354q = p3)) = false := decide_eq_false c3368q
                        try rw [hb_] at h3367q
                        clear hb_
                        refine WL.skipped (m := 4) h3367q rfl rfl (by kernel_rfl) rfl (fun a3465q h3466q => ?_)
                        clear h3367q a3366q
                        refine WL.skipped (m := 5) h3466q rfl rfl (by kernel_rfl) rfl (fun a3467q h3468q => ?_)
                        clear h3466q a3465q
                        refine WL.skipped (m := 6) h3468q rfl rfl (by kernel_rfl) rfl (fun a3469q h3470q => ?_)
                        clear h3468q a3467q
                        refine WL.skipped (m := 7) h3470q rfl rfl (by kernel_rfl) rfl (fun a3471q h3472q => ?_)
                        clear h3470q a3469q
                        refine WL.block (c := 2) (m' := 10) h3472q rfl [(100, .bool true), (99, .bool true)] (by kernel_rfl) (fun a3473q h3474q => ?_)
                        clear h3472q a3471q
                        refine WL.skipped (m := 10) h3474q rfl rfl (by kernel_rfl) rfl (fun a3475q h3476q => ?_)
                        clear h3474q a3473q
                        refine WL.skipped (m := 11) h3476q rfl rfl (by kernel_rfl) rfl (fun a3477q h3478q => ?_)
                        clear h3476q a3475q
                        refine WL.block (c := 1) (m' := 13) h3478q rfl [(103, .bool true)] (by kernel_rfl) (fun a3479q h3480q => ?_)
                        clear h3478q a3477q
                        refine WL.done (by kernel_rfl) ?_
                        refine wp_then h3480q rfl ?_
                        refine wp_seq ?_
                        refine WL.start ?_
                        refine WL.block (c := 1) (m' := 1) h3480q rfl [(10, .bool false)] (by kernel_rfl) (fun a3481q h3482q => ?_)
                        clear h3480q a3479q
                        refine WL.done (by kernel_rfl) ?_
                        refine wp_ret ?_
                        have hS3483q : St b w0 W3357q R (M3257q :: M2979q :: Fs) := hS3363q.drop_
                        have hS3484q : St b w0 W3357q R (M2979q :: Fs) := hS3483q.drop_
                        have hS3485q : St b w0 W3357q R (Fs) := hS3484q.drop_
                        obtain rfl := Option.some.inj H
                        repeat (first | refine then_ret ?_ | refine inBlock_ret ?_ | refine inBlock_go ?_)
                        refine body_ret (v := .bool false) h3482q (by kernel_rfl) (by kernel_rfl) ?_
                        exact ⟨rfl, hS3485q⟩
                    · rw [if_neg c3335q] at H
                      cases H
                  · rw [if_neg c3317q] at H
                    cases H
                · rw [if_neg c3307q] at H
                  have hb_ : (decide (r3292q = (r3250q.length : Int))) = false := decide_eq_false c3307q
                  try rw [hb_] at h3306q
                  clear hb_
                  refine wp_then h3306q rfl ?_
                  refine wp_seq ?_
                  refine WL.start ?_
                  refine WL.block (c := 1) (m' := 1) h3306q rfl [(10, .bool false)] (by kernel_rfl) (fun a3486q h3487q => ?_)
                  clear h3306q a3305q
                  refine WL.done (by kernel_rfl) ?_
                  refine wp_ret ?_
                  have hS3488q : St b w0 W3293q R (M2979q :: Fs) := hS3298q.drop_
                  have hS3489q : St b w0 W3293q R (Fs) := hS3488q.drop_
                  obtain rfl := Option.some.inj H
                  repeat (first | refine then_ret ?_ | refine inBlock_ret ?_ | refine inBlock_go ?_)
                  refine body_ret (v := .bool false) h3487q (by kernel_rfl) (by kernel_rfl) ?_
                  exact ⟨rfl, hS3489q⟩
              · rw [if_neg c3286q] at H
                have hb_ : (decide ((toS r2972q) = ((toS p0) ++ (toS r3250q)))) = false := decide_eq_false c3286q
                try rw [hb_] at h3285q
                clear hb_
                refine WL.skipped (m := 9) h3285q rfl rfl (by kernel_rfl) rfl (fun a3490q h3491q => ?_)
                clear h3285q a3284q
                refine WL.skipped (m := 10) h3491q rfl rfl (by kernel_rfl) rfl (fun a3492q h3493q => ?_)
                clear h3491q a3490q
                refine WL.skipped (m := 11) h3493q rfl rfl (by kernel_rfl) rfl (fun a3494q h3495q => ?_)
                clear h3493q a3492q
                refine WL.skipped (m := 12) h3495q rfl rfl (by kernel_rfl) rfl (fun a3496q h3497q => ?_)
                clear h3495q a3494q
                refine WL.skipped (m := 13) h3497q rfl rfl (by kernel_rfl) rfl (fun a3498q h3499q => ?_)
                clear h3497q a3496q
                refine WL.skipped (m := 14) h3499q rfl rfl (by kernel_rfl) rfl (fun a3500q h3501q => ?_)
                clear h3499q a3498q
                refine WL.block (c := 1) (m' := 16) h3501q rfl [(78, .bool true)] (by kernel_rfl) (fun a3502q h3503q => ?_)
                clear h3501q a3500q
                refine WL.done (by kernel_rfl) ?_
                refine wp_then h3503q rfl ?_
                refine wp_seq ?_
                refine WL.start ?_
                refine WL.block (c := 1) (m' := 1) h3503q rfl [(10, .bool false)] (by kernel_rfl) (fun a3504q h3505q => ?_)
                clear h3503q a3502q
                refine WL.done (by kernel_rfl) ?_
                refine wp_ret ?_
                have hS3506q : St b w0 W3251q R (M2979q :: Fs) := hS3276q.drop_
                have hS3507q : St b w0 W3251q R (Fs) := hS3506q.drop_
                obtain rfl := Option.some.inj H
                repeat (first | refine then_ret ?_ | refine inBlock_ret ?_ | refine inBlock_go ?_)
                refine body_ret (v := .bool false) h3505q (by kernel_rfl) (by kernel_rfl) ?_
                exact ⟨rfl, hS3507q⟩
            · rw [if_neg c3279q] at H
              cases H

/-! ### louver/louverref02.Get -/
def louverref02qGet.l0 : Nat → Int → Int → Int → (List Int) → Option (Int × Int × Int)
  | 0, _, _, _, _ => none
  | k + 1, x3864q, x3865q, x3866q, p0 => if x3866q < (p0.length : Int) then (if x3866q > 4 then (some (0, 0, 4)) else (if 0 ≤ x3866q then (if (gt (0 : Int) p0 x3866q) < 128 then (if (IntKind.u64.wrap (x3864q + (IntKind.u64.wrap ((Int.tmod (IntKind.u64.wrap (gt (0 : Int) p0 x3866q)) 128) * x3865q)))) > 268435456 then (some (0, 0, 4)) else (some (IntKind.u32.wrap (IntKind.u64.wrap (x3864q + (IntKind.u64.wrap ((Int.tmod (IntKind.u64.wrap (gt (0 : Int) p0 x3866q)) 128) * x3865q)))), IntKind.i64.wrap (x3866q + 1), 0))) else (louverref02qGet.l0 k (IntKind.u64.wrap (x3864q + (IntKind.u64.wrap ((Int.tmod (IntKind.u64.wrap (gt (0 : Int) p0 x3866q)) 128) * x3865q)))) (IntKind.u64.wrap (x3865q * 128)) (IntKind.i64.wrap (x3866q + 1)) p0)) else (none))) else (some (0, 0, 2))
def louverref02qGet.f (k : Nat) (p0 : (List Int)) (p1 : Int) : Option (Int × Int × Int) := if p1 < 1 then (some (0, 0, 1)) else (if p1 > 8 then (some (0, 0, 1)) else (if (p0.length : Int) = 0 then (some (0, 0, 2)) else (bnd1 (louverref02qtop.f k p1) fun r3818q => (if 0 < (p0.length : Int) then (if ¬ ((IntKind.u64.wrap (r3818q + 1)) = 0) then (if (Int.tmod (IntKind.u64.wrap (gt (0 : Int) p0 (0 : Int))) (IntKind.u64.wrap (r3818q + 1))) < r3818q then (some (IntKind.u32.wrap (Int.tmod (IntKind.u64.wrap (gt (0 : Int) p0 (0 : Int))) (IntKind.u64.wrap (r3818q + 1))), 1, 0)) else (louverref02qGet.l0 k (Int.tmod (IntKind.u64.wrap (gt (0 : Int) p0 (0 : Int))) (IntKind.u64.wrap (r3818q + 1))) 1 1 p0)) else (none)) else (none)))))
set_option maxHeartbeats 2000000 in
set_option maxRecDepth 100000 in
theorem louverref02qGet.calls (k : Nat) {b : Nat} {w0 W : World} {R : Frag} {Fs : List Frag} {p0 : (List Int)} {p1 : Int} {v0 : Value} {r0q : Int} {r1q : Int} {r2q : Int} (hp0 : Rds (kInt .u8) b w0 R v0 p0) (H : louverref02qGet.f k p0 p1 = some (r0q, r1q, r2q)) (hS : St b w0 W R (Fs)) :
    Calls Try.prog 13 ([v0, .int .i64 p1] : List Value).toArray W (fun e W' => e = .returned (.tuple #[.int .u32 r0q, .int .i64 r1q, .int .i64 r2q]) ∧ St b w0 W' R (Fs)) := by
  obtain ⟨A0, c0, rfl⟩ := hp0.form
  unfold louverref02qGet.f at H
  refine calls_enter Try.func13 rfl 65 rfl (by kernel_rfl) (fun a h => ?_)
  refine wp_seq ?_
  refine WL.start ?_
  refine WL.block (c := 3) (m' := 3) h rfl [(6, .int .i64 0), (5, .int .i64 0), (4, .int .u32 0)] (by kernel_rfl) (fun a3788q h3789q => ?_)
  refine WL.done (by kernel_rfl) ?_
  refine wp_seq ?_
  refine wp_seq ?_
  refine WL.start ?_
  refine WL.block (c := 3) (m' := 3) h3789q rfl [(13, .bool (decide (p1 < 1))), (12, .bool (decide (p1 < 1))), (11, .int .i64 p1)] (by kernel_rfl) (fun a3790q h3791q => ?_)
  clear h3789q a3788q
  by_cases c3792q : p1 < 1
  · rw [if_pos c3792q] at H
    have hb_ : (decide (p1 < 1)) = true := decide_eq_true c3792q
    try rw [hb_] at h3791q
    clear hb_
    refine WL.skipped (m := 3) h3791q rfl rfl (by kernel_rfl) rfl (fun a3793q h3794q => ?_)
    clear h3791q a3790q
    refine WL.skipped (m := 4) h3794q rfl rfl (by kernel_rfl) rfl (fun a3795q h3796q => ?_)
    clear h3794q a3793q
    refine WL.block (c := 1) (m' := 6) h3796q rfl [(16, .bool true)] (by kernel_rfl) (fun a3797q h3798q => ?_)
    clear h3796q a3795q
    refine WL.done (by kernel_rfl) ?_
    refine wp_then h3798q rfl ?_
    refine wp_seq ?_
    refine WL.start ?_
    refine WL.block (c := 3) (m' := 3) h3798q rfl [(6, .int .i64 1), (5, .int .i64 0), (4, .int .u32 0)] (by kernel_rfl) (fun a3799q h3800q => ?_)
    clear h3798q a3797q
    refine WL.done (by kernel_rfl) ?_
    refine wp_ret ?_
    obtain ⟨rfl, rfl, rfl⟩ := ret3 H
    repeat (first | refine then_ret ?_ | refine inBlock_ret ?_ | refine inBlock_go ?_)
    refine body_ret (v := .tuple #[.int .u32 0, .int .i64 0, .int .i64 1]) h3800q (by kernel_rfl) (by kernel_rfl) ?_
    exact ⟨rfl, hS⟩
  · rw [if_neg c3792q] at H
    have hb_ : (decide (p1 < 1)) = false := decide_eq_false c3792q
    try rw [hb_] at h3791q
    clear hb_
    refine WL.op' (m := 3) h3791q rfl rfl (owp_run h3791q rfl (by kernel_rfl) (v := .int .i64 p1) (by kernel_rfl) (fun a3801q h3802q => ?_))
    clear h3791q a3790q
    refine WL.op' (m := 4) h3802q rfl rfl (owp_run h3802q rfl (by kernel_rfl) (v := .bool (decide (p1 > 8))) (by kernel_rfl) (fun a3803q h3804q => ?_))
    clear h3802q a3801q
    refine WL.block (c := 1) (m' := 6) h3804q rfl [(16, .bool (decide (p1 > 8)))] (by kernel_rfl) (fun a3805q h3806q => ?_)
    clear h3804q a3803q
    refine WL.done (by kernel_rfl) ?_
    by_cases c3807q : p1 > 8
    · rw [if_pos c3807q] at H
      have hb_ : (decide (p1 > 8)) = true := decide_eq_true c3807q
      try rw [hb_] at h3806q
      clear hb_
      refine wp_then h3806q rfl ?_
      refine wp_seq ?_
      refine WL.start ?_
      refine WL.block (c := 3) (m' := 3) h3806q rfl [(6, .int .i64 1), (5, .int .i64 0), (4, .int .u32 0)] (by kernel_rfl) (fun a3808q h3809q => ?_)
      clear h3806q a3805q
      refine WL.done (by kernel_rfl) ?_
      refine wp_ret ?_
      obtain ⟨rfl, rfl, rfl⟩ := ret3 H
      repeat (first | refine then_ret ?_ | refine inBlock_ret ?_ | refine inBlock_go ?_)
      refine body_ret (v := .tuple #[.int .u32 0, .int .i64 0, .int .i64 1]) h3809q (by kernel_rfl) (by kernel_rfl) ?_
      exact ⟨rfl, hS⟩
    · rw [if_neg c3807q] at H
      have hb_ : (decide (p1 > 8)) = false := decide_eq_false c3807q
      try rw [hb_] at h3806q
      clear hb_
      refine wp_else h3806q rfl ?_
      refine wp_skip ?_
      refine wp_seq ?_
      refine wp_seq ?_
      refine WL.start ?_
      refine WL.block (c := 3) (m' := 3) h3806q rfl [(19, .bool (decide ((p0.length : Int) = 0))), (18, .int .i64 (p0.length : Int)), (17, .slice A0 p0.length c0)] (by kernel_rfl) (fun a3810q h3811q => ?_)
      clear h3806q a3805q
      refine WL.done (by kernel_rfl) ?_
      by_cases c3812q : (p0.length : Int) = 0
      · rw [if_pos c3812q] at H
        have hb_ : (decide ((p0.length : Int) = 0)) = true := decide_eq_true c3812q
        try rw [hb_] at h3811q
        clear hb_
        refine wp_then h3811q rfl ?_
        refine wp_seq ?_
        refine WL.start ?_
        refine WL.block (c := 3) (m' := 3) h3811q rfl [(6, .int .i64 2), (5, .int .i64 0), (4, .int .u32 0)] (by kernel_rfl) (fun a3813q h3814q => ?_)
        clear h3811q a3810q
        refine WL.done (by kernel_rfl) ?_
        refine wp_ret ?_
        obtain ⟨rfl, rfl, rfl⟩ := ret3 H
        repeat (first | refine then_ret ?_ | refine inBlock_ret ?_ | refine inBlock_go ?_)
        refine body_ret (v := .tuple #[.int .u32 0, .int .i64 0, .int .i64 2]) h3814q (by kernel_rfl) (by kernel_rfl) ?_
        exact ⟨rfl, hS⟩
      · rw [if_neg c3812q] at H
        have hb_ : (decide ((p0.length : Int) = 0)) = false := decide_eq_false c3812q
        try rw [hb_] at h3811q
        clear hb_
        refine wp_else h3811q rfl ?_
        refine wp_skip ?_
        refine wp_seq ?_
        refine WL.start ?_
        refine WL.block (c := 1) (m' := 1) h3811q rfl [(20, .int .i64 p1)] (by kernel_rfl) (fun a3815q h3816q => ?_)
        clear h3811q a3810q
        obtain ⟨r3818q, A3817q, H⟩ := bind1 H
        refine WL.op' (m := 1) h3816q rfl rfl ?_
        refine owp_call [.int .i64 p1] h3816q rfl (by kernel_rfl) rfl Try.func16 (by kernel_rfl) rfl (by kernel_rfl) (louverref02qtop.calls k  A3817q hS) (fun e3820q W3819q hp3821q => ?_)
        obtain ⟨rfl, hS3824q⟩ := hp3821q
        refine ⟨_, rfl, fun a3822q h3823q => ?_⟩
        clear h3816q a3815q
        refine WL.block (c := 1) (m' := 3) h3823q rfl [(7, .int .u64 r3818q)] (by kernel_rfl) (fun a3825q h3826q => ?_)
        clear h3823q a3822q
        refine WL.done (by kernel_rfl) ?_
        refine wp_seq ?_
        refine WL.start ?_
        refine WL.block (c := 1) (m' := 1) h3826q rfl [(22, .slice A0 p0.length c0)] (by kernel_rfl) (fun a3827q h3828q => ?_)
        clear h3826q a3825q
        by_cases c3829q : 0 < (p0.length : Int)
        · rw [if_pos c3829q] at H
          have hi3832q : 0 ≤ (0 : Int) := by first | assumption | omega
          have hi3833q : 0 < (p0.length : Int) := by first | assumption | omega
          obtain ⟨ad3830q, _, ha3831q, -, -⟩ := Rds.elemAny hp0 hi3832q (gt_get (z := (0 : Int)) hi3832q hi3833q)
          refine WL.op' (m := 1) h3828q rfl rfl ?_
          refine owp_run (v := .pointer (some (ad3830q.add ((0 : Int).toNat * 1)))) h3828q rfl (by kernel_rfl) (run_idx (ad := ad3830q) (sz := 1) rfl (by rw [← ha3831q]; rfl) rfl Try.underlying26 (by kernel_rfl) hi3832q hi3833q) (fun a3834q h3835q => ?_)
          clear h3828q a3827q
          obtain ⟨ad3836q, cs3837q, ha3838q, hr3840q, hc3839q⟩ := Rds.elemAny hp0 hi3832q (gt_get (z := (0 : Int)) hi3832q hi3833q)
          rw [ha3831q] at ha3838q; obtain rfl := Option.some.inj ha3838q
          obtain rfl : cs3837q = [.int .u8 (gt (0 : Int) p0 (0 : Int))] := hr3840q
          refine WL.op' (m := 2) h3835q rfl rfl ?_
          refine owp_run (v := .int .u8 (gt (0 : Int) p0 (0 : Int))) h3835q rfl (by kernel_rfl) (run_load1 rfl rfl Try.underlying5 rfl (cell0 (hc3839q _ (fun _ _ hk_ => hS3824q.kn hk_)))) (fun a3841q h3842q => ?_)
          clear h3835q a3834q
          refine WL.block (c := 3) (m' := 6) h3842q rfl [(27, .int .u64 (IntKind.u64.wrap (r3818q + 1))), (26, .int .u64 r3818q), (25, .int .u64 (IntKind.u64.wrap (gt (0 : Int) p0 (0 : Int))))] (by kernel_rfl) (fun a3843q h3844q => ?_)
          clear h3842q a3841q
          by_cases c3845q : ¬ ((IntKind.u64.wrap (r3818q + 1)) = 0)
          · rw [if_pos c3845q] at H
            refine WL.op' (m := 6) h3844q rfl rfl ?_
            refine owp_run (v := .int .u64 (Int.tmod (IntKind.u64.wrap (gt (0 : Int) p0 (0 : Int))) (IntKind.u64.wrap (r3818q + 1)))) h3844q rfl (by kernel_rfl) (run_rem rfl rfl rfl (by assumption)) (fun a3846q h3847q => ?_)
            clear h3844q a3843q
            refine WL.block (c := 1) (m' := 8) h3847q rfl [(8, .int .u64 (Int.tmod (IntKind.u64.wrap (gt (0 : Int) p0 (0 : Int))) (IntKind.u64.wrap (r3818q + 1))))] (by kernel_rfl) (fun a3848q h3849q => ?_)
            clear h3847q a3846q
            refine WL.done (by kernel_rfl) ?_
            refine wp_seq ?_
            refine wp_seq ?_
            refine WL.start ?_
            refine WL.block (c := 3) (m' := 3) h3849q rfl [(31, .bool (decide ((Int.tmod (IntKind.u64.wrap (gt (0 : Int) p0 (0 : Int))) (IntKind.u64.wrap (r3818q + 1))) < r3818q))), (30, .int .u64 r3818q), (29, .int .u64 (Int.tmod (IntKind.u64.wrap (gt (0 : Int) p0 (0 : Int))) (IntKind.u64.wrap (r3818q + 1))))] (by kernel_rfl) (fun a3850q h3851q => ?_)
            clear h3849q a3848q
            refine WL.done (by kernel_rfl) ?_
            by_cases c3852q : (Int.tmod (IntKind.u64.wrap (gt (0 : Int) p0 (0 : Int))) (IntKind.u64.wrap (r3818q + 1))) < r3818q
            · rw [if_pos c3852q] at H
              have hb_ : (decide ((Int.tmod (IntKind.u64.wrap (gt (0 : Int) p0 (0 : Int))) (IntKind.u64.wrap (r3818q + 1))) < r3818q)) = true := decide_eq_true c3852q
              try rw [hb_] at h3851q
              clear hb_
              refine wp_then h3851q rfl ?_
              refine wp_seq ?_
              refine WL.start ?_
              refine WL.block (c := 5) (m' := 5) h3851q rfl [(6, .int .i64 0), (5, .int .i64 1), (4, .int .u32 (IntKind.u32.wrap (Int.tmod (IntKind.u64.wrap (gt (0 : Int) p0 (0 : Int))) (IntKind.u64.wrap (r3818q + 1))))), (33, .int .u32 (IntKind.u32.wrap (Int.tmod (IntKind.u64.wrap (gt (0 : Int) p0 (0 : Int))) (IntKind.u64.wrap (r3818q + 1))))), (32, .int .u64 (Int.tmod (IntKind.u64.wrap (gt (0 : Int) p0 (0 : Int))) (IntKind.u64.wrap (r3818q + 1))))] (by kernel_rfl) (fun a3853q h3854q => ?_)
              clear h3851q a3850q
              refine WL.done (by kernel_rfl) ?_
              refine wp_ret ?_
              obtain ⟨rfl, rfl, rfl⟩ := ret3 H
              repeat (first | refine then_ret ?_ | refine inBlock_ret ?_ | refine inBlock_go ?_)
              refine body_ret (v := .tuple #[.int .u32 (IntKind.u32.wrap (Int.tmod (IntKind.u64.wrap (gt (0 : Int) p0 (0 : Int))) (IntKind.u64.wrap (r3818q + 1)))), .int .i64 1, .int .i64 0]) h3854q (by kernel_rfl) (by kernel_rfl) ?_
              exact ⟨rfl, hS3824q⟩
            · rw [if_neg c3852q] at H
              have hb_ : (decide ((Int.tmod (IntKind.u64.wrap (gt (0 : Int) p0 (0 : Int))) (IntKind.u64.wrap (r3818q + 1))) < r3818q)) = false := decide_eq_false c3852q
              try rw [hb_] at h3851q
              clear hb_
              refine wp_else h3851q rfl ?_
              refine wp_skip ?_
              refine wp_seq ?_
              refine WL.start ?_
              refine WL.block (c := 1) (m' := 1) h3851q rfl [(9, .int .u64 1)] (by kernel_rfl) (fun a3855q h3856q => ?_)
              clear h3851q a3850q
              refine WL.done (by kernel_rfl) ?_
              refine wp_seq ?_
              refine wp_seq ?_
              refine WL.start ?_
              refine WL.block (c := 1) (m' := 1) h3856q rfl [(10, .int .i64 1)] (by kernel_rfl) (fun a3857q h3858q => ?_)
              clear h3856q a3855q
              refine WL.done (by kernel_rfl) ?_
              refine wp_block ?_
              refine wp_loop_ghost (fun kq_ a_ W_ => ∃ (x3864q : Int), ∃ (x3865q : Int), ∃ (x3866q : Int), Hd a_ 65 [(0, .slice A0 p0.length c0), (8, .int .u64 x3864q), (9, .int .u64 x3865q), (10, .int .i64 x3866q)] ∧ Asd (louverref02qGet.l0 kq_ x3864q x3865q x3866q p0 = some (r0q, r1q, r2q)) ∧ Asd (kq_ ≤ k) ∧ Asd (St b w0 W_ R (Fs))) k ⟨Int.tmod (IntKind.u64.wrap (gt (0 : Int) p0 (0 : Int))) (IntKind.u64.wrap (r3818q + 1)), 1, 1, h3858q.keep ⟨rfl, rfl, rfl, rfl, trivial⟩, ⟨H⟩, ⟨Nat.le_refl _⟩, ⟨hS3824q⟩⟩ ?_
              clear H hS3824q
              rintro k3863q a3860q W3861q ⟨x3864q, x3865q, x3866q, h3859q, ⟨H⟩, ⟨hkk3863q⟩, ⟨hS3862q⟩⟩
              obtain _ | k3867q := k3863q
              · exact absurd H (by simp [louverref02qGet.l0])
              simp only [louverref02qGet.l0] at H
              refine wp_seq ?_
              refine wp_seq ?_
              refine WL.start ?_
              refine WL.block (c := 4) (m' := 4) h3859q rfl [(37, .bool (decide (x3866q < (p0.length : Int)))), (36, .int .i64 (p0.length : Int)), (35, .slice A0 p0.length c0), (34, .int .i64 x3866q)] (by kernel_rfl) (fun a3868q h3869q => ?_)
              clear h3859q a3860q
              refine WL.done (by kernel_rfl) ?_
              by_cases c3870q : x3866q < (p0.length : Int)
              · rw [if_pos c3870q] at H
                have hb_ : (decide (x3866q < (p0.length : Int))) = true := decide_eq_true c3870q
                try rw [hb_] at h3869q
                clear hb_
                refine wp_then h3869q rfl ?_
                refine wp_skip ?_
                refine wp_seq ?_
                refine wp_block ?_
                refine wp_seq ?_
                refine wp_seq ?_
                refine WL.start ?_
                refine WL.block (c := 2) (m' := 2) h3869q rfl [(41, .bool (decide (x3866q > 4))), (40, .int .i64 x3866q)] (by kernel_rfl) (fun a3871q h3872q => ?_)
                clear h3869q a3868q
                refine WL.done (by kernel_rfl) ?_
                by_cases c3873q : x3866q > 4
                · rw [if_pos c3873q] at H
                  have hb_ : (decide (x3866q > 4)) = true := decide_eq_true c3873q
                  try rw [hb_] at h3872q
                  clear hb_
                  refine wp_then h3872q rfl ?_
                  refine wp_seq ?_
                  refine WL.start ?_
                  refine WL.block (c := 3) (m' := 3) h3872q rfl [(6, .int .i64 4), (5, .int .i64 0), (4, .int .u32 0)] (by kernel_rfl) (fun a3874q h3875q => ?_)
                  clear h3872q a3871q
                  refine WL.done (by kernel_rfl) ?_
                  refine wp_ret ?_
                  obtain ⟨rfl, rfl, rfl⟩ := ret3 H
                  repeat (first | refine then_ret ?_ | refine inBlock_ret ?_ | refine inBlock_go ?_)
                  refine body_ret (v := .tuple #[.int .u32 0, .int .i64 0, .int .i64 4]) h3875q (by kernel_rfl) (by kernel_rfl) ?_
                  exact ⟨rfl, hS3862q⟩
                · rw [if_neg c3873q] at H
                  have hb_ : (decide (x3866q > 4)) = false := decide_eq_false c3873q
                  try rw [hb_] at h3872q
                  clear hb_
                  refine wp_else h3872q rfl ?_
                  refine wp_skip ?_
                  refine wp_seq ?_
                  refine WL.start ?_
                  refine WL.block (c := 3) (m' := 3) h3872q rfl [(44, .int .i64 x3866q), (43, .slice A0 p0.length c0), (42, .int .u64 x3864q)] (by kernel_rfl) (fun a3876q h3877q => ?_)
                  clear h3872q a3871q
                  by_cases c3878q : 0 ≤ x3866q
                  · rw [if_pos c3878q] at H
                    have hi3881q : 0 ≤ x3866q := by first | assumption | omega
                    have hi3882q : x3866q < (p0.length : Int) := by first | assumption | omega
                    obtain ⟨ad3879q, _, ha3880q, -, -⟩ := Rds.elemAny hp0 hi3881q (gt_get (z := (0 : Int)) hi3881q hi3882q)
                    refine WL.op' (m := 3) h3877q rfl rfl ?_
                    refine owp_run (v := .pointer (some (ad3879q.add (x3866q.toNat * 1)))) h3877q rfl (by kernel_rfl) (run_idx (ad := ad3879q) (sz := 1) rfl (by rw [← ha3880q]; rfl) rfl Try.underlying26 (by kernel_rfl) hi3881q hi3882q) (fun a3883q h3884q => ?_)
                    clear h3877q a3876q
                    obtain ⟨ad3885q, cs3886q, ha3887q, hr3889q, hc3888q⟩ := Rds.elemAny hp0 hi3881q (gt_get (z := (0 : Int)) hi3881q hi3882q)
                    rw [ha3880q] at ha3887q; obtain rfl := Option.some.inj ha3887q
                    obtain rfl : cs3886q = [.int .u8 (gt (0 : Int) p0 x3866q)] := hr3889q
                    refine WL.op' (m := 4) h3884q rfl rfl ?_
                    refine owp_run (v := .int .u8 (gt (0 : Int) p0 x3866q)) h3884q rfl (by kernel_rfl) (run_load1 rfl rfl Try.underlying5 rfl (cell0 (hc3888q _ (fun _ _ hk_ => hS3862q.kn hk_)))) (fun a3890q h3891q => ?_)
                    clear h3884q a3883q
                    refine WL.block (c := 6) (m' := 11) h3891q rfl [(8, .int .u64 (IntKind.u64.wrap (x3864q + (IntKind.u64.wrap ((Int.tmod (IntKind.u64.wrap (gt (0 : Int) p0 x3866q)) 128) * x3865q))))), (51, .int .u64 (IntKind.u64.wrap (x3864q + (IntKind.u64.wrap ((Int.tmod (IntKind.u64.wrap (gt (0 : Int) p0 x3866q)) 128) * x3865q))))), (50, .int .u64 (IntKind.u64.wrap ((Int.tmod (IntKind.u64.wrap (gt (0 : Int) p0 x3866q)) 128) * x3865q))), (49, .int .u64 x3865q), (48, .int .u64 (Int.tmod (IntKind.u64.wrap (gt (0 : Int) p0 x3866q)) 128)), (47, .int .u64 (IntKind.u64.wrap (gt (0 : Int) p0 x3866q)))] (by kernel_rfl) (fun a3892q h3893q => ?_)
                    clear h3891q a3890q
                    refine WL.done (by kernel_rfl) ?_
                    refine wp_seq ?_
                    refine WL.start ?_
                    refine WL.block (c := 3) (m' := 3) h3893q rfl [(9, .int .u64 (IntKind.u64.wrap (x3865q * 128))), (53, .int .u64 (IntKind.u64.wrap (x3865q * 128))), (52, .int .u64 x3865q)] (by kernel_rfl) (fun a3894q h3895q => ?_)
                    clear h3893q a3892q
                    refine WL.done (by kernel_rfl) ?_
                    refine wp_seq ?_
                    refine WL.start ?_
                    refine WL.block (c := 2) (m' := 2) h3895q rfl [(55, .int .i64 x3866q), (54, .slice A0 p0.length c0)] (by kernel_rfl) (fun a3896q h3897q => ?_)
                    clear h3895q a3894q
                    have hi3900q : 0 ≤ x3866q := by first | assumption | omega
                    have hi3901q : x3866q < (p0.length : Int) := by first | assumption | omega
                    obtain ⟨ad3898q, _, ha3899q, -, -⟩ := Rds.elemAny hp0 hi3900q (gt_get (z := (0 : Int)) hi3900q hi3901q)
                    refine WL.op' (m := 2) h3897q rfl rfl ?_
                    refine owp_run (v := .pointer (some (ad3898q.add (x3866q.toNat * 1)))) h3897q rfl (by kernel_rfl) (run_idx (ad := ad3898q) (sz := 1) rfl (by rw [← ha3899q]; rfl) rfl Try.underlying26 (by kernel_rfl) hi3900q hi3901q) (fun a3902q h3903q => ?_)
                    clear h3897q a3896q
                    obtain ⟨ad3904q, cs3905q, ha3906q, hr3908q, hc3907q⟩ := Rds.elemAny hp0 hi3900q (gt_get (z := (0 : Int)) hi3900q hi3901q)
                    rw [ha3899q] at ha3906q; obtain rfl := Option.some.inj ha3906q
                    obtain rfl : cs3905q = [.int .u8 (gt (0 : Int) p0 x3866q)] := hr3908q
                    refine WL.op' (m := 3) h3903q rfl rfl ?_
                    refine owp_run (v := .int .u8 (gt (0 : Int) p0 x3866q)) h3903q rfl (by kernel_rfl) (run_load1 rfl rfl Try.underlying5 rfl (cell0 (hc3907q _ (fun _ _ hk_ => hS3862q.kn hk_)))) (fun a3909q h3910q => ?_)
                    clear h3903q a3902q
                    refine WL.block (c := 1) (m' := 5) h3910q rfl [(58, .bool (decide ((gt (0 : Int) p0 x3866q) < 128)))] (by kernel_rfl) (fun a3911q h3912q => ?_)
                    clear h3910q a3909q
                    refine WL.done (by kernel_rfl) ?_
                    by_cases c3913q : (gt (0 : Int) p0 x3866q) < 128
                    · rw [if_pos c3913q] at H
                      have hb_ : (decide ((gt (0 : Int) p0 x3866q) < 128)) = true := decide_eq_true c3913q
                      try rw [hb_] at h3912q
                      clear hb_
                      refine wp_then h3912q rfl ?_
                      refine wp_seq ?_
                      refine wp_seq ?_
                      refine WL.start ?_
                      refine WL.block (c := 2) (m' := 2) h3912q rfl [(60, .bool (decide ((IntKind.u64.wrap (x3864q + (IntKind.u64.wrap ((Int.tmod (IntKind.u64.wrap (gt (0 : Int) p0 x3866q)) 128) * x3865q)))) > 268435456))), (59, .int .u64 (IntKind.u64.wrap (x3864q + (IntKind.u64.wrap ((Int.tmod (IntKind.u64.wrap (gt (0 : Int) p0 x3866q)) 128) * x3865q)))))] (by kernel_rfl) (fun a3914q h3915q => ?_)
                      clear h3912q a3911q
                      refine WL.done (by kernel_rfl) ?_
                      by_cases c3916q : (IntKind.u64.wrap (x3864q + (IntKind.u64.wrap ((Int.tmod (IntKind.u64.wrap (gt (0 : Int) p0 x3866q)) 128) * x3865q)))) > 268435456
                      · rw [if_pos c3916q] at H
                        have hb_ : (decide ((IntKind.u64.wrap (x3864q + (IntKind.u64.wrap ((Int.tmod (IntKind.u64.wrap (gt (0 : Int) p0 x3866q)) 128) * x3865q)))) > 268435456)) = true := decide_eq_true c3916q
                        try rw [hb_] at h3915q
                        clear hb_
                        refine wp_then h3915q rfl ?_
                        refine wp_seq ?_
                        refine WL.start ?_
                        refine WL.block (c := 3) (m' := 3) h3915q rfl [(6, .int .i64 4), (5, .int .i64 0), (4, .int .u32 0)] (by kernel_rfl) (fun a3917q h3918q => ?_)
                        clear h3915q a3914q
                        refine WL.done (by kernel_rfl) ?_
                        refine wp_ret ?_
                        obtain ⟨rfl, rfl, rfl⟩ := ret3 H
                        repeat (first | refine then_ret ?_ | refine inBlock_ret ?_ | refine inBlock_go ?_)
                        refine body_ret (v := .tuple #[.int .u32 0, .int .i64 0, .int .i64 4]) h3918q (by kernel_rfl) (by kernel_rfl) ?_
                        exact ⟨rfl, hS3862q⟩
                      · rw [if_neg c3916q] at H
                        have hb_ : (decide ((IntKind.u64.wrap (x3864q + (IntKind.u64.wrap ((Int.tmod (IntKind.u64.wrap (gt (0 : Int) p0 x3866q)) 128) * x3865q)))) > 268435456)) = false := decide_eq_false c3916q
                        try rw [hb_] at h3915q
                        clear hb_
                        refine wp_else h3915q rfl ?_
                        refine wp_skip ?_
                        refine wp_seq ?_
                        refine WL.start ?_
                        refine WL.block (c := 7) (m' := 7) h3915q rfl [(6, .int .i64 0), (5, .int .i64 (IntKind.i64.wrap (x3866q + 1))), (4, .int .u32 (IntKind.u32.wrap (IntKind.u64.wrap (x3864q + (IntKind.u64.wrap ((Int.tmod (IntKind.u64.wrap (gt (0 : Int) p0 x3866q)) 128) * x3865q)))))), (64, .int .i64 (IntKind.i64.wrap (x3866q + 1))), (63, .int .i64 x3866q), (62, .int .u32 (IntKind.u32.wrap (IntKind.u64.wrap (x3864q + (IntKind.u64.wrap ((Int.tmod (IntKind.u64.wrap (gt (0 : Int) p0 x3866q)) 128) * x3865q)))))), (61, .int .u64 (IntKind.u64.wrap (x3864q + (IntKind.u64.wrap ((Int.tmod (IntKind.u64.wrap (gt (0 : Int) p0 x3866q)) 128) * x3865q)))))] (by kernel_rfl) (fun a3919q h3920q => ?_)
                        clear h3915q a3914q
                        refine WL.done (by kernel_rfl) ?_
                        refine wp_ret ?_
                        obtain ⟨rfl, rfl, rfl⟩ := ret3 H
                        repeat (first | refine then_ret ?_ | refine inBlock_ret ?_ | refine inBlock_go ?_)
                        refine body_ret (v := .tuple #[.int .u32 (IntKind.u32.wrap (IntKind.u64.wrap (x3864q + (IntKind.u64.wrap ((Int.tmod (IntKind.u64.wrap (gt (0 : Int) p0 x3866q)) 128) * x3865q))))), .int .i64 (IntKind.i64.wrap (x3866q + 1)), .int .i64 0]) h3920q (by kernel_rfl) (by kernel_rfl) ?_
                        exact ⟨rfl, hS3862q⟩
                    · rw [if_neg c3913q] at H
                      have hb_ : (decide ((gt (0 : Int) p0 x3866q) < 128)) = false := decide_eq_false c3913q
                      try rw [hb_] at h3912q
                      clear hb_
                      refine wp_else h3912q rfl ?_
                      refine wp_skip ?_
                      refine WL.start ?_
                      refine WL.block (c := 3) (m' := 3) h3912q rfl [(10, .int .i64 (IntKind.i64.wrap (x3866q + 1))), (39, .int .i64 (IntKind.i64.wrap (x3866q + 1))), (38, .int .i64 x3866q)] (by kernel_rfl) (fun a3921q h3922q => ?_)
                      clear h3912q a3911q
                      refine WL.done (by kernel_rfl) ?_
                      exact ⟨k3867q, by omega, IntKind.u64.wrap (x3864q + (IntKind.u64.wrap ((Int.tmod (IntKind.u64.wrap (gt (0 : Int) p0 x3866q)) 128) * x3865q))), IntKind.u64.wrap (x3865q * 128), IntKind.i64.wrap (x3866q + 1), h3922q.keep ⟨rfl, rfl, rfl, rfl, trivial⟩, ⟨H⟩, ⟨by omega⟩, ⟨hS3862q⟩⟩
                  · rw [if_neg c3878q] at H
                    cases H
              · rw [if_neg c3870q] at H
                have hb_ : (decide (x3866q < (p0.length : Int))) = false := decide_eq_false c3870q
                try rw [hb_] at h3869q
                clear hb_
                refine wp_else h3869q rfl ?_
                refine wp_exit ?_
                refine wp_seq ?_
                refine WL.start ?_
                refine WL.block (c := 3) (m' := 3) h3869q rfl [(6, .int .i64 2), (5, .int .i64 0), (4, .int .u32 0)] (by kernel_rfl) (fun a3923q h3924q => ?_)
                clear h3869q a3868q
                refine WL.done (by kernel_rfl) ?_
                refine wp_ret ?_
                obtain ⟨rfl, rfl, rfl⟩ := ret3 H
                repeat (first | refine then_ret ?_ | refine inBlock_ret ?_ | refine inBlock_go ?_)
                refine body_ret (v := .tuple #[.int .u32 0, .int .i64 0, .int .i64 2]) h3924q (by kernel_rfl) (by kernel_rfl) ?_
                exact ⟨rfl, hS3862q⟩
          · rw [if_neg c3845q] at H
            cases H
        · rw [if_neg c3829q] at H
          cases H

/-! ### louver/louverlaw02.PrefixGets -/
def louverlaw02qPrefixGets.f (k : Nat) (p0 : (List Int)) (p1 : Int) : Option (Bool) := if (p0.length : Int) > 3000 then (bnd1 (louverlaw02qfixed.f k) fun r4059q => (some r4059q)) else (bnd3 (prefix_Get.f k p0 p1) fun r4071q r4072q r4073q => (bnd3 (louverref02qGet.f k p0 p1) fun r4085q r4086q r4087q => (bnd1 (louverlaw02qfixed.f k) fun r4097q => (if r4097q = true then (if r4071q = r4085q then (if r4072q = r4086q then (some (decide (r4073q = r4087q))) else (some false)) else (some false)) else (some false)))))
set_option maxHeartbeats 2000000 in
set_option maxRecDepth 100000 in
theorem louverlaw02qPrefixGets.calls (k : Nat) {b : Nat} {w0 W : World} {R : Frag} {Fs : List Frag} {p0 : (List Int)} {p1 : Int} {v0 : Value} {r0q : Bool} (hp0 : Rds (kInt .u8) b w0 R v0 p0) (H : louverlaw02qPrefixGets.f k p0 p1 = some r0q) (hS : St b w0 W R (Fs)) :
    Calls Try.prog 5 ([v0, .int .i64 p1] : List Value).toArray W (fun e W' => e = .returned (.bool r0q) ∧ St b w0 W' R (Fs)) := by
  obtain ⟨A0, c0, rfl⟩ := hp0.form
  unfold louverlaw02qPrefixGets.f at H
  refine calls_enter Try.func5 rfl 45 rfl (by kernel_rfl) (fun a h => ?_)
  refine wp_seq ?_
  refine WL.start ?_
  refine WL.block (c := 1) (m' := 1) h rfl [(4, .bool false)] (by kernel_rfl) (fun a4053q h4054q => ?_)
  refine WL.done (by kernel_rfl) ?_
  refine wp_seq ?_
  refine wp_seq ?_
  refine WL.start ?_
  refine WL.block (c := 3) (m' := 3) h4054q rfl [(13, .bool (decide ((p0.length : Int) > 3000))), (12, .int .i64 (p0.length : Int)), (11, .slice A0 p0.length c0)] (by kernel_rfl) (fun a4055q h4056q => ?_)
  clear h4054q a4053q
  refine WL.done (by kernel_rfl) ?_
  by_cases c4057q : (p0.length : Int) > 3000
  · rw [if_pos c4057q] at H
    have hb_ : (decide ((p0.length : Int) > 3000)) = true := decide_eq_true c4057q
    try rw [hb_] at h4056q
    clear hb_
    refine wp_then h4056q rfl ?_
    refine wp_seq ?_
    refine WL.start ?_
    obtain ⟨r4059q, A4058q, H⟩ := bind1 H
    refine WL.op' (m := 0) h4056q rfl rfl ?_
    refine owp_call [] h4056q rfl (by kernel_rfl) rfl Try.func8 (by kernel_rfl) rfl (by kernel_rfl) (louverlaw02qfixed.calls k  A4058q hS) (fun e4061q W4060q hp4062q => ?_)
    obtain ⟨rfl, hS4065q⟩ := hp4062q
    refine ⟨_, rfl, fun a4063q h4064q => ?_⟩
    clear h4056q a4055q
    refine WL.block (c := 1) (m' := 2) h4064q rfl [(4, .bool r4059q)] (by kernel_rfl) (fun a4066q h4067q => ?_)
    clear h4064q a4063q
    refine WL.done (by kernel_rfl) ?_
    refine wp_ret ?_
    obtain rfl := Option.some.inj H
    repeat (first | refine then_ret ?_ | refine inBlock_ret ?_ | refine inBlock_go ?_)
    refine body_ret (v := .bool r4059q) h4067q (by kernel_rfl) (by kernel_rfl) ?_
    exact ⟨rfl, hS4065q⟩
  · rw [if_neg c4057q] at H
    have hb_ : (decide ((p0.length : Int) > 3000)) = false := decide_eq_false c4057q
    try rw [hb_] at h4056q
    clear hb_
    refine wp_else h4056q rfl ?_
    refine wp_skip ?_
    refine wp_seq ?_
    refine WL.start ?_
    refine WL.block (c := 2) (m' := 2) h4056q rfl [(17, .int .i64 p1), (16, .slice A0 p0.length c0)] (by kernel_rfl) (fun a4068q h4069q => ?_)
    clear h4056q a4055q
    obtain ⟨r4071q, r4072q, r4073q, A4070q, H⟩ := bind3 H
    refine WL.op' (m := 2) h4069q rfl rfl ?_
    refine owp_call [.slice A0 p0.length c0, .int .i64 p1] h4069q rfl (by kernel_rfl) rfl Try.func12 (by kernel_rfl) rfl (by kernel_rfl) (prefix_Get.calls k hp0 A4070q hS) (fun e4075q W4074q hp4076q => ?_)
    obtain ⟨rfl, hS4079q⟩ := hp4076q
    refine ⟨_, rfl, fun a4077q h4078q => ?_⟩
    clear h4069q a4068q
    refine WL.block (c := 7) (m' := 10) h4078q rfl [(7, .int .i64 r4073q), (6, .int .i64 r4072q), (5, .int .u32 r4071q), (21, .int .i64 r4073q), (20, .int .i64 r4072q), (19, .int .u32 r4071q), (15, .tuple #[.int .u32 r4071q, .int .i64 r4072q, .int .i64 r4073q])] (by kernel_rfl) (fun a4080q h4081q => ?_)
    clear h4078q a4077q
    refine WL.done (by kernel_rfl) ?_
    refine wp_seq ?_
    refine WL.start ?_
    refine WL.block (c := 2) (m' := 2) h4081q rfl [(24, .int .i64 p1), (23, .slice A0 p0.length c0)] (by kernel_rfl) (fun a4082q h4083q => ?_)
    clear h4081q a4080q
    obtain ⟨r4085q, r4086q, r4087q, A4084q, H⟩ := bind3 H
    refine WL.op' (m := 2) h4083q rfl rfl ?_
    refine owp_call [.slice A0 p0.length c0, .int .i64 p1] h4083q rfl (by kernel_rfl) rfl Try.func13 (by kernel_rfl) rfl (by kernel_rfl) (louverref02qGet.calls k hp0 A4084q hS4079q) (fun e4089q W4088q hp4090q => ?_)
    obtain ⟨rfl, hS4093q⟩ := hp4090q
    refine ⟨_, rfl, fun a4091q h4092q => ?_⟩
    clear h4083q a4082q
    refine WL.block (c := 7) (m' := 10) h4092q rfl [(10, .int .i64 r4087q), (9, .int .i64 r4086q), (8, .int .u32 r4085q), (28, .int .i64 r4087q), (27, .int .i64 r4086q), (26, .int .u32 r4085q), (22, .tuple #[.int .u32 r4085q, .int .i64 r4086q, .int .i64 r4087q])] (by kernel_rfl) (fun a4094q h4095q => ?_)
    clear h4092q a4091q
    refine WL.done (by kernel_rfl) ?_
    refine wp_seq ?_
    refine WL.start ?_
    obtain ⟨r4097q, A4096q, H⟩ := bind1 H
    refine WL.op' (m := 0) h4095q rfl rfl ?_
    refine owp_call [] h4095q rfl (by kernel_rfl) rfl Try.func8 (by kernel_rfl) rfl (by kernel_rfl) (louverlaw02qfixed.calls k  A4096q hS4093q) (fun e4099q W4098q hp4100q => ?_)
    obtain ⟨rfl, hS4103q⟩ := hp4100q
    refine ⟨_, rfl, fun a4101q h4102q => ?_⟩
    clear h4095q a4094q
    refine WL.block (c := 1) (m' := 2) h4102q rfl [(30, .bool r4097q)] (by kernel_rfl) (fun a4104q h4105q => ?_)
    clear h4102q a4101q
    by_cases c4106q : r4097q = true
    · rw [if_pos c4106q] at H
      have hb_ : r4097q = true := c4106q
      try rw [hb_] at h4105q
      clear hb_
      refine WL.op' (m := 2) h4105q rfl rfl (owp_run h4105q rfl (by kernel_rfl) (v := .int .u32 r4071q) (by kernel_rfl) (fun a4107q h4108q => ?_))
      clear h4105q a4104q
      refine WL.op' (m := 3) h4108q rfl rfl (owp_run h4108q rfl (by kernel_rfl) (v := .int .u32 r4085q) (by kernel_rfl) (fun a4109q h4110q => ?_))
      clear h4108q a4107q
      refine WL.op' (m := 4) h4110q rfl rfl (owp_run h4110q rfl (by kernel_rfl) (v := .bool (decide (r4071q = r4085q))) (by kernel_rfl) (fun a4111q h4112q => ?_))
      clear h4110q a4109q
      refine WL.block (c := 2) (m' := 7) h4112q rfl [(35, .bool (decide (r4071q = r4085q))), (34, .bool (decide (r4071q = r4085q)))] (by kernel_rfl) (fun a4113q h4114q => ?_)
      clear h4112q a4111q
      by_cases c4115q : r4071q = r4085q
      · rw [if_pos c4115q] at H
        have hb_ : (decide (r4071q = r4085q)) = true := decide_eq_true c4115q
        try rw [hb_] at h4114q
        clear hb_
        refine WL.op' (m := 7) h4114q rfl rfl (owp_run h4114q rfl (by kernel_rfl) (v := .int .i64 r4072q) (by kernel_rfl) (fun a4116q h4117q => ?_))
        clear h4114q a4113q
        refine WL.op' (m := 8) h4117q rfl rfl (owp_run h4117q rfl (by kernel_rfl) (v := .int .i64 r4086q) (by kernel_rfl) (fun a4118q h4119q => ?_))
        clear h4117q a4116q
        refine WL.op' (m := 9) h4119q rfl rfl (owp_run h4119q rfl (by kernel_rfl) (v := .bool (decide (r4072q = r4086q))) (by kernel_rfl) (fun a4120q h4121q => ?_))
        clear h4119q a4118q
        refine WL.block (c := 2) (m' := 12) h4121q rfl [(40, .bool (decide (r4072q = r4086q))), (39, .bool (decide (r4072q = r4086q)))] (by kernel_rfl) (fun a4122q h4123q => ?_)
        clear h4121q a4120q
        by_cases c4124q : r4072q = r4086q
        · rw [if_pos c4124q] at H
          have hb_ : (decide (r4072q = r4086q)) = true := decide_eq_true c4124q
          try rw [hb_] at h4123q
          clear hb_
          refine WL.op' (m := 12) h4123q rfl rfl (owp_run h4123q rfl (by kernel_rfl) (v := .int .i64 r4073q) (by kernel_rfl) (fun a4125q h4126q => ?_))
          clear h4123q a4122q
          refine WL.op' (m := 13) h4126q rfl rfl (owp_run h4126q rfl (by kernel_rfl) (v := .int .i64 r4087q) (by kernel_rfl) (fun a4127q h4128q => ?_))
          clear h4126q a4125q
          refine WL.op' (m := 14) h4128q rfl rfl (owp_run h4128q rfl (by kernel_rfl) (v := .bool (decide (r4073q = r4087q))) (by kernel_rfl) (fun a4129q h4130q => ?_))
          clear h4128q a4127q
          refine WL.block (c := 2) (m' := 17) h4130q rfl [(4, .bool (decide (r4073q = r4087q))), (44, .bool (decide (r4073q = r4087q)))] (by kernel_rfl) (fun a4131q h4132q => ?_)
          clear h4130q a4129q
          refine WL.done (by kernel_rfl) ?_
          refine wp_ret ?_
          obtain rfl := Option.some.inj H
          repeat (first | refine then_ret ?_ | refine inBlock_ret ?_ | refine inBlock_go ?_)
          refine body_ret (v := .bool (decide (r4073q = r4087q))) h4132q (by kernel_rfl) (by kernel_rfl) ?_
          exact ⟨rfl, hS4103q⟩
        · rw [if_neg c4124q] at H
          have hb_ : (decide (r4072q = r4086q)) = false := decide_eq_false c4124q
          try rw [hb_] at h4123q
          clear hb_
          refine WL.skipped (m := 12) h4123q rfl rfl (by kernel_rfl) rfl (fun a4133q h4134q => ?_)
          clear h4123q a4122q
          refine WL.skipped (m := 13) h4134q rfl rfl (by kernel_rfl) rfl (fun a4135q h4136q => ?_)
          clear h4134q a4133q
          refine WL.skipped (m := 14) h4136q rfl rfl (by kernel_rfl) rfl (fun a4137q h4138q => ?_)
          clear h4136q a4135q
          refine WL.block (c := 2) (m' := 17) h4138q rfl [(4, .bool false), (44, .bool false)] (by kernel_rfl) (fun a4139q h4140q => ?_)
          clear h4138q a4137q
          refine WL.done (by kernel_rfl) ?_
          refine wp_ret ?_
          obtain rfl := Option.some.inj H
          repeat (first | refine then_ret ?_ | refine inBlock_ret ?_ | refine inBlock_go ?_)
          refine body_ret (v := .bool false) h4140q (by kernel_rfl) (by kernel_rfl) ?_
          exact ⟨rfl, hS4103q⟩
      · rw [if_neg c4115q] at H
        have hb_ : (decide (r4071q = r4085q)) = false := decide_eq_false c4115q
        try rw [hb_] at h4114q
        clear hb_
        refine WL.skipped (m := 7) h4114q rfl rfl (by kernel_rfl) rfl (fun a4141q h4142q => ?_)
        clear h4114q a4113q
        refine WL.skipped (m := 8) h4142q rfl rfl (by kernel_rfl) rfl (fun a4143q h4144q => ?_)
        clear h4142q a4141q
        refine WL.skipped (m := 9) h4144q rfl rfl (by kernel_rfl) rfl (fun a4145q h4146q => ?_)
        clear h4144q a4143q
        refine WL.block (c := 2) (m' := 12) h4146q rfl [(40, .bool false), (39, .bool false)] (by kernel_rfl) (fun a4147q h4148q => ?_)
        clear h4146q a4145q
        refine WL.skipped (m := 12) h4148q rfl rfl (by kernel_rfl) rfl (fun a4149q h4150q => ?_)
        clear h4148q a4147q
        refine WL.skipped (m := 13) h4150q rfl rfl (by kernel_rfl) rfl (fun a4151q h4152q => ?_)
        clear h4150q a4149q
        refine WL.skipped (m := 14) h4152q rfl rfl (by kernel_rfl) rfl (fun a4153q h4154q => ?_)
        clear h4152q a4151q
        refine WL.block (c := 2) (m' := 17) h4154q rfl [(4, .bool false), (44, .bool false)] (by kernel_rfl) (fun a4155q h4156q => ?_)
        clear h4154q a4153q
        refine WL.done (by kernel_rfl) ?_
        refine wp_ret ?_
        obtain rfl := Option.some.inj H
        repeat (first | refine then_ret ?_ | refine inBlock_ret ?_ | refine inBlock_go ?_)
        refine body_ret (v := .bool false) h4156q (by kernel_rfl) (by kernel_rfl) ?_
        exact ⟨rfl, hS4103q⟩
    · rw [if_neg c4106q] at H
      have hb_ : r4097q = false := (Bool.eq_false_iff.2 c4106q)
      try rw [hb_] at h4105q
      clear hb_
      refine WL.skipped (m := 2) h4105q rfl rfl (by kernel_rfl) rfl (fun a4157q h4158q => ?_)
      clear h4105q a4104q
      refine WL.skipped (m := 3) h4158q rfl rfl (by kernel_rfl) rfl (fun a4159q h4160q => ?_)
      clear h4158q a4157q
      refine WL.skipped (m := 4) h4160q rfl rfl (by kernel_rfl) rfl (fun a4161q h4162q => ?_)
      clear h4160q a4159q
      refine WL.block (c := 2) (m' := 7) h4162q rfl [(35, .bool false), (34, .bool false)] (by kernel_rfl) (fun a4163q h4164q => ?_)
      clear h4162q a4161q
      refine WL.skipped (m := 7) h4164q rfl rfl (by kernel_rfl) rfl (fun a4165q h4166q => ?_)
      clear h4164q a4163q
      refine WL.skipped (m := 8) h4166q rfl rfl (by kernel_rfl) rfl (fun a4167q h4168q => ?_)
      clear h4166q a4165q
      refine WL.skipped (m := 9) h4168q rfl rfl (by kernel_rfl) rfl (fun a4169q h4170q => ?_)
      clear h4168q a4167q
      refine WL.block (c := 2) (m' := 12) h4170q rfl [(40, .bool false), (39, .bool false)] (by kernel_rfl) (fun a4171q h4172q => ?_)
      clear h4170q a4169q
      refine WL.skipped (m := 12) h4172q rfl rfl (by kernel_rfl) rfl (fun a4173q h4174q => ?_)
      clear h4172q a4171q
      refine WL.skipped (m := 13) h4174q rfl rfl (by kernel_rfl) rfl (fun a4175q h4176q => ?_)
      clear h4174q a4173q
      refine WL.skipped (m := 14) h4176q rfl rfl (by kernel_rfl) rfl (fun a4177q h4178q => ?_)
      clear h4176q a4175q
      refine WL.block (c := 2) (m' := 17) h4178q rfl [(4, .bool false), (44, .bool false)] (by kernel_rfl) (fun a4179q h4180q => ?_)
      clear h4178q a4177q
      refine WL.done (by kernel_rfl) ?_
      refine wp_ret ?_
      obtain rfl := Option.some.inj H
      repeat (first | refine then_ret ?_ | refine inBlock_ret ?_ | refine inBlock_go ?_)
      refine body_ret (v := .bool false) h4180q (by kernel_rfl) (by kernel_rfl) ?_
      exact ⟨rfl, hS4103q⟩

/-! ### louver/louverlaw02.PrefixSizes -/
def louverlaw02qPrefixSizes.f (k : Nat) (p0 : Int) (p1 : Int) (p2 : Int) : Option (Bool) := if p0 < 2 then (bnd1 (louverlaw02qfixed.f k) fun r4461q => (some r4461q)) else (if p0 > 8 then (bnd1 (louverlaw02qfixed.f k) fun r4478q => (some r4478q)) else (bnd1 (louverlaw02qfixed.f k) fun r4492q => (if r4492q = true then (bnd1 (prefix_Size.f k p0 (mnI (Int.tmod p1 268435457) (Int.tmod p2 268435457))) fun r4507q => (bnd1 (prefix_Size.f k p0 (mxI (Int.tmod p1 268435457) (Int.tmod p2 268435457))) fun r4519q => (if r4507q ≤ r4519q then (bnd1 (prefix_Size.f k p0 (Int.tmod p1 268435457)) fun r4536q => (bnd1 (prefix_Size.f k (IntKind.i64.wrap (p0 - 1)) (Int.tmod p1 268435457)) fun r4550q => (if r4536q ≤ r4550q then (bnd1 (prefix_Size.f k p0 (mxI (Int.tmod p1 268435457) (Int.tmod p2 268435457))) fun r4567q => (if r4567q ≤ 6 then (bnd1 (prefix_Size.f k p0 (mnI (Int.tmod p1 268435457) (Int.tmod p2 268435457))) fun r4584q => (some (decide (r4584q ≥ 1)))) else (some false))) else (some false)))) else (some false)))) else (some false))))
set_option maxHeartbeats 2000000 in
set_option maxRecDepth 100000 in
theorem louverlaw02qPrefixSizes.calls (k : Nat) {b : Nat} {w0 W : World} {R : Frag} {Fs : List Frag} {p0 : Int} {p1 : Int} {p2 : Int}  {r0q : Bool}  (H : louverlaw02qPrefixSizes.f k p0 p1 p2 = some r0q) (hS : St b w0 W R (Fs)) :
    Calls Try.prog 3 ([.int .i64 p0, .int .u32 p1, .int .u32 p2] : List Value).toArray W (fun e W' => e = .returned (.bool r0q) ∧ St b w0 W' R (Fs)) := by
  unfold louverlaw02qPrefixSizes.f at H
  refine calls_enter Try.func3 rfl 58 rfl (by kernel_rfl) (fun a h => ?_)
  refine wp_seq ?_
  refine WL.start ?_
  refine WL.block (c := 1) (m' := 1) h rfl [(6, .bool false)] (by kernel_rfl) (fun a4449q h4450q => ?_)
  refine WL.done (by kernel_rfl) ?_
  refine wp_seq ?_
  refine wp_seq ?_
  refine WL.start ?_
  refine WL.block (c := 3) (m' := 3) h4450q rfl [(11, .bool (decide (p0 < 2))), (10, .bool (decide (p0 < 2))), (9, .int .i64 p0)] (by kernel_rfl) (fun a4451q h4452q => ?_)
  clear h4450q a4449q
  by_cases c4453q : p0 < 2
  · rw [if_pos c4453q] at H
    have hb_ : (decide (p0 < 2)) = true := decide_eq_true c4453q
    try rw [hb_] at h4452q
    clear hb_
    refine WL.skipped (m := 3) h4452q rfl rfl (by kernel_rfl) rfl (fun a4454q h4455q => ?_)
    clear h4452q a4451q
    refine WL.skipped (m := 4) h4455q rfl rfl (by kernel_rfl) rfl (fun a4456q h4457q => ?_)
    clear h4455q a4454q
    refine WL.block (c := 1) (m' := 6) h4457q rfl [(14, .bool true)] (by kernel_rfl) (fun a4458q h4459q => ?_)
    clear h4457q a4456q
    refine WL.done (by kernel_rfl) ?_
    refine wp_then h4459q rfl ?_
    refine wp_seq ?_
    refine WL.start ?_
    obtain ⟨r4461q, A4460q, H⟩ := bind1 H
    refine WL.op' (m := 0) h4459q rfl rfl ?_
    refine owp_call [] h4459q rfl (by kernel_rfl) rfl Try.func8 (by kernel_rfl) rfl (by kernel_rfl) (louverlaw02qfixed.calls k  A4460q hS) (fun e4463q W4462q hp4464q => ?_)
    obtain ⟨rfl, hS4467q⟩ := hp4464q
    refine ⟨_, rfl, fun a4465q h4466q => ?_⟩
    clear h4459q a4458q
    refine WL.block (c := 1) (m' := 2) h4466q rfl [(6, .bool r4461q)] (by kernel_rfl) (fun a4468q h4469q => ?_)
    clear h4466q a4465q
    refine WL.done (by kernel_rfl) ?_
    refine wp_ret ?_
    obtain rfl := Option.some.inj H
    repeat (first | refine then_ret ?_ | refine inBlock_ret ?_ | refine inBlock_go ?_)
    refine body_ret (v := .bool r4461q) h4469q (by kernel_rfl) (by kernel_rfl) ?_
    exact ⟨rfl, hS4467q⟩
  · rw [if_neg c4453q] at H
    have hb_ : (decide (p0 < 2)) = false := decide_eq_false c4453q
    try rw [hb_] at h4452q
    clear hb_
    refine WL.op' (m := 3) h4452q rfl rfl (owp_run h4452q rfl (by kernel_rfl) (v := .int .i64 p0) (by kernel_rfl) (fun a4470q h4471q => ?_))
    clear h4452q a4451q
    refine WL.op' (m := 4) h4471q rfl rfl (owp_run h4471q rfl (by kernel_rfl) (v := .bool (decide (p0 > 8))) (by kernel_rfl) (fun a4472q h4473q => ?_))
    clear h4471q a4470q
    refine WL.block (c := 1) (m' := 6) h4473q rfl [(14, .bool (decide (p0 > 8)))] (by kernel_rfl) (fun a4474q h4475q => ?_)
    clear h4473q a4472q
    refine WL.done (by kernel_rfl) ?_
    by_cases c4476q : p0 > 8
    · rw [if_pos c4476q] at H
      have hb_ : (decide (p0 > 8)) = true := decide_eq_true c4476q
      try rw [hb_] at h4475q
      clear hb_
      refine wp_then h4475q rfl ?_
      refine wp_seq ?_
      refine WL.start ?_
      obtain ⟨r4478q, A4477q, H⟩ := bind1 H
      refine WL.op' (m := 0) h4475q rfl rfl ?_
      refine owp_call [] h4475q rfl (by kernel_rfl) rfl Try.func8 (by kernel_rfl) rfl (by kernel_rfl) (louverlaw02qfixed.calls k  A4477q hS) (fun e4480q W4479q hp4481q => ?_)
      obtain ⟨rfl, hS4484q⟩ := hp4481q
      refine ⟨_, rfl, fun a4482q h4483q => ?_⟩
      clear h4475q a4474q
      refine WL.block (c := 1) (m' := 2) h4483q rfl [(6, .bool r4478q)] (by kernel_rfl) (fun a4485q h4486q => ?_)
      clear h4483q a4482q
      refine WL.done (by kernel_rfl) ?_
      refine wp_ret ?_
      obtain rfl := Option.some.inj H
      repeat (first | refine then_ret ?_ | refine inBlock_ret ?_ | refine inBlock_go ?_)
      refine body_ret (v := .bool r4478q) h4486q (by kernel_rfl) (by kernel_rfl) ?_
      exact ⟨rfl, hS4484q⟩
    · rw [if_neg c4476q] at H
      have hb_ : (decide (p0 > 8)) = false := decide_eq_false c4476q
      try rw [hb_] at h4475q
      clear hb_
      refine wp_else h4475q rfl ?_
      refine wp_skip ?_
      refine wp_seq ?_
      refine WL.start ?_
      refine WL.block (c := 6) (m' := 6) h4475q rfl [(2, .int .u32 (Int.tmod p2 268435457)), (1, .int .u32 (Int.tmod p1 268435457)), (19, .int .u32 (Int.tmod p2 268435457)), (18, .int .u32 p2), (17, .int .u32 (Int.tmod p1 268435457)), (16, .int .u32 p1)] (by kernel_rfl) (fun a4487q h4488q => ?_)
      clear h4475q a4474q
      refine WL.done (by kernel_rfl) ?_
      refine wp_seq ?_
      refine WL.start ?_
      refine WL.block (c := 8) (m' := 8) h4488q rfl [(8, .int .u32 (mxI (Int.tmod p1 268435457) (Int.tmod p2 268435457))), (7, .int .u32 (mnI (Int.tmod p1 268435457) (Int.tmod p2 268435457))), (25, .int .u32 (mxI (Int.tmod p1 268435457) (Int.tmod p2 268435457))), (24, .int .u32 (Int.tmod p2 268435457)), (23, .int .u32 (Int.tmod p1 268435457)), (22, .int .u32 (mnI (Int.tmod p1 268435457) (Int.tmod p2 268435457))), (21, .int .u32 (Int.tmod p2 268435457)), (20, .int .u32 (Int.tmod p1 268435457))] (by kernel_rfl) (fun a4489q h4490q => ?_)
      clear h4488q a4487q
      refine WL.done (by kernel_rfl) ?_
      refine wp_seq ?_
      refine WL.start ?_
      obtain ⟨r4492q, A4491q, H⟩ := bind1 H
      refine WL.op' (m := 0) h4490q rfl rfl ?_
      refine owp_call [] h4490q rfl (by kernel_rfl) rfl Try.func8 (by kernel_rfl) rfl (by kernel_rfl) (louverlaw02qfixed.calls k  A4491q hS) (fun e4494q W4493q hp4495q => ?_)
      obtain ⟨rfl, hS4498q⟩ := hp4495q
      refine ⟨_, rfl, fun a4496q h4497q => ?_⟩
      clear h4490q a4489q
      refine WL.block (c := 1) (m' := 2) h4497q rfl [(27, .bool r4492q)] (by kernel_rfl) (fun a4499q h4500q => ?_)
      clear h4497q a4496q
      by_cases c4501q : r4492q = true
      · rw [if_pos c4501q] at H
        have hb_ : r4492q = true := c4501q
        try rw [hb_] at h4500q
        clear hb_
        refine WL.op' (m := 2) h4500q rfl rfl (owp_run h4500q rfl (by kernel_rfl) (v := .int .i64 p0) (by kernel_rfl) (fun a4502q h4503q => ?_))
        clear h4500q a4499q
        refine WL.op' (m := 3) h4503q rfl rfl (owp_run h4503q rfl (by kernel_rfl) (v := .int .u32 (mnI (Int.tmod p1 268435457) (Int.tmod p2 268435457))) (by kernel_rfl) (fun a4504q h4505q => ?_))
        clear h4503q a4502q
        obtain ⟨r4507q, A4506q, H⟩ := bind1 H
        refine WL.op' (m := 4) h4505q rfl rfl ?_
        refine owp_call [.int .i64 p0, .int .u32 (mnI (Int.tmod p1 268435457) (Int.tmod p2 268435457))] h4505q rfl (by kernel_rfl) rfl Try.func9 (by kernel_rfl) rfl (by kernel_rfl) (prefix_Size.calls k  A4506q hS4498q) (fun e4509q W4508q hp4510q => ?_)
        obtain ⟨rfl, hS4513q⟩ := hp4510q
        refine ⟨_, rfl, fun a4511q h4512q => ?_⟩
        clear h4505q a4504q
        refine WL.op' (m := 5) h4512q rfl rfl (owp_run h4512q rfl (by kernel_rfl) (v := .int .i64 p0) (by kernel_rfl) (fun a4514q h4515q => ?_))
        clear h4512q a4511q
        refine WL.op' (m := 6) h4515q rfl rfl (owp_run h4515q rfl (by kernel_rfl) (v := .int .u32 (mxI (Int.tmod p1 268435457) (Int.tmod p2 268435457))) (by kernel_rfl) (fun a4516q h4517q => ?_))
        clear h4515q a4514q
        obtain ⟨r4519q, A4518q, H⟩ := bind1 H
        refine WL.op' (m := 7) h4517q rfl rfl ?_
        refine owp_call [.int .i64 p0, .int .u32 (mxI (Int.tmod p1 268435457) (Int.tmod p2 268435457))] h4517q rfl (by kernel_rfl) rfl Try.func9 (by kernel_rfl) rfl (by kernel_rfl) (prefix_Size.calls k  A4518q hS4513q) (fun e4521q W4520q hp4522q => ?_)
        obtain ⟨rfl, hS4525q⟩ := hp4522q
        refine ⟨_, rfl, fun a4523q h4524q => ?_⟩
        clear h4517q a4516q
        refine WL.op' (m := 8) h4524q rfl rfl (owp_run h4524q rfl (by kernel_rfl) (v := .bool (decide (r4507q ≤ r4519q))) (by kernel_rfl) (fun a4526q h4527q => ?_))
        clear h4524q a4523q
        refine WL.block (c := 2) (m' := 11) h4527q rfl [(36, .bool (decide (r4507q ≤ r4519q))), (35, .bool (decide (r4507q ≤ r4519q)))] (by kernel_rfl) (fun a4528q h4529q => ?_)
        clear h4527q a4526q
        by_cases c4530q : r4507q ≤ r4519q
        · rw [if_pos c4530q] at H
          have hb_ : (decide (r4507q ≤ r4519q)) = true := decide_eq_true c4530q
          try rw [hb_] at h4529q
          clear hb_
          refine WL.op' (m := 11) h4529q rfl rfl (owp_run h4529q rfl (by kernel_rfl) (v := .int .i64 p0) (by kernel_rfl) (fun a4531q h4532q => ?_))
          clear h4529q a4528q
          refine WL.op' (m := 12) h4532q rfl rfl (owp_run h4532q rfl (by kernel_rfl) (v := .int .u32 (Int.tmod p1 268435457)) (by kernel_rfl) (fun a4533q h4534q => ?_))
          clear h4532q a4531q
          obtain ⟨r4536q, A4535q, H⟩ := bind1 H
          refine WL.op' (m := 13) h4534q rfl rfl ?_
          refine owp_call [.int .i64 p0, .int .u32 (Int.tmod p1 268435457)] h4534q rfl (by kernel_rfl) rfl Try.func9 (by kernel_rfl) rfl (by kernel_rfl) (prefix_Size.calls k  A4535q hS4525q) (fun e4538q W4537q hp4539q => ?_)
          obtain ⟨rfl, hS4542q⟩ := hp4539q
          refine ⟨_, rfl, fun a4540q h4541q => ?_⟩
          clear h4534q a4533q
          refine WL.op' (m := 14) h4541q rfl rfl (owp_run h4541q rfl (by kernel_rfl) (v := .int .i64 p0) (by kernel_rfl) (fun a4543q h4544q => ?_))
          clear h4541q a4540q
          refine WL.op' (m := 15) h4544q rfl rfl (owp_run h4544q rfl (by kernel_rfl) (v := .int .i64 (IntKind.i64.wrap (p0 - 1))) (by kernel_rfl) (fun a4545q h4546q => ?_))
          clear h4544q a4543q
          refine WL.op' (m := 16) h4546q rfl rfl (owp_run h4546q rfl (by kernel_rfl) (v := .int .u32 (Int.tmod p1 268435457)) (by kernel_rfl) (fun a4547q h4548q => ?_))
          clear h4546q a4545q
          obtain ⟨r4550q, A4549q, H⟩ := bind1 H
          refine WL.op' (m := 17) h4548q rfl rfl ?_
          refine owp_call [.int .i64 (IntKind.i64.wrap (p0 - 1)), .int .u32 (Int.tmod p1 268435457)] h4548q rfl (by kernel_rfl) rfl Try.func9 (by kernel_rfl) rfl (by kernel_rfl) (prefix_Size.calls k  A4549q hS4542q) (fun e4552q W4551q hp4553q => ?_)
          obtain ⟨rfl, hS4556q⟩ := hp4553q
          refine ⟨_, rfl, fun a4554q h4555q => ?_⟩
          clear h4548q a4547q
          refine WL.op' (m := 18) h4555q rfl rfl (owp_run h4555q rfl (by kernel_rfl) (v := .bool (decide (r4536q ≤ r4550q))) (by kernel_rfl) (fun a4557q h4558q => ?_))
          clear h4555q a4554q
          refine WL.block (c := 2) (m' := 21) h4558q rfl [(46, .bool (decide (r4536q ≤ r4550q))), (45, .bool (decide (r4536q ≤ r4550q)))] (by kernel_rfl) (fun a4559q h4560q => ?_)
          clear h4558q a4557q
          by_cases c4561q : r4536q ≤ r4550q
          · rw [if_pos c4561q] at H
            have hb_ : (decide (r4536q ≤ r4550q)) = true := decide_eq_true c4561q
            try rw [hb_] at h4560q
            clear hb_
            refine WL.op' (m := 21) h4560q rfl rfl (owp_run h4560q rfl (by kernel_rfl) (v := .int .i64 p0) (by kernel_rfl) (fun a4562q h4563q => ?_))
            clear h4560q a4559q
            refine WL.op' (m := 22) h4563q rfl rfl (owp_run h4563q rfl (by kernel_rfl) (v := .int .u32 (mxI (Int.tmod p1 268435457) (Int.tmod p2 268435457))) (by kernel_rfl) (fun a4564q h4565q => ?_))
            clear h4563q a4562q
            obtain ⟨r4567q, A4566q, H⟩ := bind1 H
            refine WL.op' (m := 23) h4565q rfl rfl ?_
            refine owp_call [.int .i64 p0, .int .u32 (mxI (Int.tmod p1 268435457) (Int.tmod p2 268435457))] h4565q rfl (by kernel_rfl) rfl Try.func9 (by kernel_rfl) rfl (by kernel_rfl) (prefix_Size.calls k  A4566q hS4556q) (fun e4569q W4568q hp4570q => ?_)
            obtain ⟨rfl, hS4573q⟩ := hp4570q
            refine ⟨_, rfl, fun a4571q h4572q => ?_⟩
            clear h4565q a4564q
            refine WL.op' (m := 24) h4572q rfl rfl (owp_run h4572q rfl (by kernel_rfl) (v := .bool (decide (r4567q ≤ 6))) (by kernel_rfl) (fun a4574q h4575q => ?_))
            clear h4572q a4571q
            refine WL.block (c := 2) (m' := 27) h4575q rfl [(52, .bool (decide (r4567q ≤ 6))), (51, .bool (decide (r4567q ≤ 6)))] (by kernel_rfl) (fun a4576q h4577q => ?_)
            clear h4575q a4574q
            by_cases c4578q : r4567q ≤ 6
            · rw [if_pos c4578q] at H
              have hb_ : (decide (r4567q ≤ 6)) = true := decide_eq_true c4578q
              try rw [hb_] at h4577q
              clear hb_
              refine WL.op' (m := 27) h4577q rfl rfl (owp_run h4577q rfl (by kernel_rfl) (v := .int .i64 p0) (by kernel_rfl) (fun a4579q h4580q => ?_))
              clear h4577q a4576q
              refine WL.op' (m := 28) h4580q rfl rfl (owp_run h4580q rfl (by kernel_rfl) (v := .int .u32 (mnI (Int.tmod p1 268435457) (Int.tmod p2 268435457))) (by kernel_rfl) (fun a4581q h4582q => ?_))
              clear h4580q a4579q
              obtain ⟨r4584q, A4583q, H⟩ := bind1 H
              refine WL.op' (m := 29) h4582q rfl rfl ?_
              refine owp_call [.int .i64 p0, .int .u32 (mnI (Int.tmod p1 268435457) (Int.tmod p2 268435457))] h4582q rfl (by kernel_rfl) rfl Try.func9 (by kernel_rfl) rfl (by kernel_rfl) (prefix_Size.calls k  A4583q hS4573q) (fun e4586q W4585q hp4587q => ?_)
              obtain ⟨rfl, hS4590q⟩ := hp4587q
              refine ⟨_, rfl, fun a4588q h4589q => ?_⟩
              clear h4582q a4581q
              refine WL.op' (m := 30) h4589q rfl rfl (owp_run h4589q rfl (by kernel_rfl) (v := .bool (decide (r4584q ≥ 1))) (by kernel_rfl) (fun a4591q h4592q => ?_))
              clear h4589q a4588q
              refine WL.block (c := 2) (m' := 33) h4592q rfl [(6, .bool (decide (r4584q ≥ 1))), (57, .bool (decide (r4584q ≥ 1)))] (by kernel_rfl) (fun a4593q h4594q => ?_)
              clear h4592q a4591q
              refine WL.done (by kernel_rfl) ?_
              refine wp_ret ?_
              obtain rfl := Option.some.inj H
              repeat (first | refine then_ret ?_ | refine inBlock_ret ?_ | refine inBlock_go ?_)
              refine body_ret (v := .bool (decide (r4584q ≥ 1))) h4594q (by kernel_rfl) (by kernel_rfl) ?_
              exact ⟨rfl, hS4590q⟩
            · rw [if_neg c4578q] at H
              have hb_ : (decide (r4567q ≤ 6)) = false := decide_eq_false c4578q
              try rw [hb_] at h4577q
              clear hb_
              refine WL.skipped (m := 27) h4577q rfl rfl (by kernel_rfl) rfl (fun a4595q h4596q => ?_)
              clear h4577q a4576q
              refine WL.skipped (m := 28) h4596q rfl rfl (by kernel_rfl) rfl (fun a4597q h4598q => ?_)
              clear h4596q a4595q
              refine WL.skipped (m := 29) h4598q rfl rfl (by kernel_rfl) rfl (fun a4599q h4600q => ?_)
              clear h4598q a4597q
              refine WL.skipped (m := 30) h4600q rfl rfl (by kernel_rfl) rfl (fun a4601q h4602q => ?_)
              clear h4600q a4599q
              refine WL.block (c := 2) (m' := 33) h4602q rfl [(6, .bool false), (57, .bool false)] (by kernel_rfl) (fun a4603q h4604q => ?_)
              clear h4602q a4601q
              refine WL.done (by kernel_rfl) ?_
              refine wp_ret ?_
              obtain rfl := Option.some.inj H
              repeat (first | refine then_ret ?_ | refine inBlock_ret ?_ | refine inBlock_go ?_)
              refine body_ret (v := .bool false) h4604q (by kernel_rfl) (by kernel_rfl) ?_
              exact ⟨rfl, hS4573q⟩
          · rw [if_neg c4561q] at H
            have hb_ : (decide (r4536q ≤ r4550q)) = false := decide_eq_false c4561q
            try rw [hb_] at h4560q
            clear hb_
            refine WL.skipped (m := 21) h4560q rfl rfl (by kernel_rfl) rfl (fun a4605q h4606q => ?_)
            clear h4560q a4559q
            refine WL.skipped (m := 22) h4606q rfl rfl (by kernel_rfl) rfl (fun a4607q h4608q => ?_)
            clear h4606q a4605q
            refine WL.skipped (m := 23) h4608q rfl rfl (by kernel_rfl) rfl (fun a4609q h4610q => ?_)
            clear h4608q a4607q
            refine WL.skipped (m := 24) h4610q rfl rfl (by kernel_rfl) rfl (fun a4611q h4612q => ?_)
            clear h4610q a4609q
            refine WL.block (c := 2) (m' := 27) h4612q rfl [(52, .bool false), (51, .bool false)] (by kernel_rfl) (fun a4613q h4614q => ?_)
            clear h4612q a4611q
            refine WL.skipped (m := 27) h4614q rfl rfl (by kernel_rfl) rfl (fun a4615q h4616q => ?_)
            clear h4614q a4613q
            refine WL.skipped (m := 28) h4616q rfl rfl (by kernel_rfl) rfl (fun a4617q h4618q => ?_)
            clear h4616q a4615q
            refine WL.skipped (m := 29) h4618q rfl rfl (by kernel_rfl) rfl (fun a4619q h4620q => ?_)
            clear h4618q a4617q
            refine WL.skipped (m := 30) h4620q rfl rfl (by kernel_rfl) rfl (fun a4621q h4622q => ?_)
            clear h4620q a4619q
            refine WL.block (c := 2) (m' := 33) h4622q rfl [(6, .bool false), (57, .bool false)] (by kernel_rfl) (fun a4623q h4624q => ?_)
            clear h4622q a4621q
            refine WL.done (by kernel_rfl) ?_
            refine wp_ret ?_
            obtain rfl := Option.some.inj H
            repeat (first | refine then_ret ?_ | refine inBlock_ret ?_ | refine inBlock_go ?_)
            refine body_ret (v := .bool false) h4624q (by kernel_rfl) (by kernel_rfl) ?_
            exact ⟨rfl, hS4556q⟩
        · rw [if_neg c4530q] at H
          have hb_ : (decide (r4507q ≤ r4519q)) = false := decide_eq_false c4530q
          try rw [hb_] at h4529q
          clear hb_
          refine WL.skipped (m := 11) h4529q rfl rfl (by kernel_rfl) rfl (fun a4625q h4626q => ?_)
          clear h4529q a4528q
          refine WL.skipped (m := 12) h4626q rfl rfl (by kernel_rfl) rfl (fun a4627q h4628q => ?_)
          clear h4626q a4625q
          refine WL.skipped (m := 13) h4628q rfl rfl (by kernel_rfl) rfl (fun a4629q h4630q => ?_)
          clear h4628q a4627q
          refine WL.skipped (m := 14) h4630q rfl rfl (by kernel_rfl) rfl (fun a4631q h4632q => ?_)
          clear h4630q a4629q
          refine WL.skipped (m := 15) h4632q rfl rfl (by kernel_rfl) rfl (fun a4633q h4634q => ?_)
          clear h4632q a4631q
          refine WL.skipped (m := 16) h4634q rfl rfl (by kernel_rfl) rfl (fun a4635q h4636q => ?_)
          clear h4634q a4633q
          refine WL.skipped (m := 17) h4636q rfl rfl (by kernel_rfl) rfl (fun a4637q h4638q => ?_)
          clear h4636q a4635q
          refine WL.skipped (m := 18) h4638q rfl rfl (by kernel_rfl) rfl (fun a4639q h4640q => ?_)
          clear h4638q a4637q
          refine WL.block (c := 2) (m' := 21) h4640q rfl [(46, .bool false), (45, .bool false)] (by kernel_rfl) (fun a4641q h4642q => ?_)
          clear h4640q a4639q
          refine WL.skipped (m := 21) h4642q rfl rfl (by kernel_rfl) rfl (fun a4643q h4644q => ?_)
          clear h4642q a4641q
          refine WL.skipped (m := 22) h4644q rfl rfl (by kernel_rfl) rfl (fun a4645q h4646q => ?_)
          clear h4644q a4643q
          refine WL.skipped (m := 23) h4646q rfl rfl (by kernel_rfl) rfl (fun a4647q h4648q => ?_)
          clear h4646q a4645q
          refine WL.skipped (m := 24) h4648q rfl rfl (by kernel_rfl) rfl (fun a4649q h4650q => ?_)
          clear h4648q a4647q
          refine WL.block (c := 2) (m' := 27) h4650q rfl [(52, .bool false), (51, .bool false)] (by kernel_rfl) (fun a4651q h4652q => ?_)
          clear h4650q a4649q
          refine WL.skipped (m := 27) h4652q rfl rfl (by kernel_rfl) rfl (fun a4653q h4654q => ?_)
          clear h4652q a4651q
          refine WL.skipped (m := 28) h4654q rfl rfl (by kernel_rfl) rfl (fun a4655q h4656q => ?_)
          clear h4654q a4653q
          refine WL.skipped (m := 29) h4656q rfl rfl (by kernel_rfl) rfl (fun a4657q h4658q => ?_)
          clear h4656q a4655q
          refine WL.skipped (m := 30) h4658q rfl rfl (by kernel_rfl) rfl (fun a4659q h4660q => ?_)
          clear h4658q a4657q
          refine WL.block (c := 2) (m' := 33) h4660q rfl [(6, .bool false), (57, .bool false)] (by kernel_rfl) (fun a4661q h4662q => ?_)
          clear h4660q a4659q
          refine WL.done (by kernel_rfl) ?_
          refine wp_ret ?_
          obtain rfl := Option.some.inj H
          repeat (first | refine then_ret ?_ | refine inBlock_ret ?_ | refine inBlock_go ?_)
          refine body_ret (v := .bool false) h4662q (by kernel_rfl) (by kernel_rfl) ?_
          exact ⟨rfl, hS4525q⟩
      · rw [if_neg c4501q] at H
        have hb_ : r4492q = false := (Bool.eq_false_iff.2 c4501q)
        try rw [hb_] at h4500q
        clear hb_
        refine WL.skipped (m := 2) h4500q rfl rfl (by kernel_rfl) rfl (fun a4663q h4664q => ?_)
        clear h4500q a4499q
        refine WL.skipped (m := 3) h4664q rfl rfl (by kernel_rfl) rfl (fun a4665q h4666q => ?_)
        clear h4664q a4663q
        refine WL.skipped (m := 4) h4666q rfl rfl (by kernel_rfl) rfl (fun a4667q h4668q => ?_)
        clear h4666q a4665q
        refine WL.skipped (m := 5) h4668q rfl rfl (by kernel_rfl) rfl (fun a4669q h4670q => ?_)
        clear h4668q a4667q
        refine WL.skipped (m := 6) h4670q rfl rfl (by kernel_rfl) rfl (fun a4671q h4672q => ?_)
        clear h4670q a4669q
        refine WL.skipped (m := 7) h4672q rfl rfl (by kernel_rfl) rfl (fun a4673q h4674q => ?_)
        clear h4672q a4671q
        refine WL.skipped (m := 8) h4674q rfl rfl (by kernel_rfl) rfl (fun a4675q h4676q => ?_)
        clear h4674q a4673q
        refine WL.block (c := 2) (m' := 11) h4676q rfl [(36, .bool false), (35, .bool false)] (by kernel_rfl) (fun a4677q h4678q => ?_)
        clear h4676q a4675q
        refine WL.skipped (m := 11) h4678q rfl rfl (by kernel_rfl) rfl (fun a4679q h4680q => ?_)
        clear h4678q a4677q
        refine WL.skipped (m := 12) h4680q rfl rfl (by kernel_rfl) rfl (fun a4681q h4682q => ?_)
        clear h4680q a4679q
        refine WL.skipped (m := 13) h4682q rfl rfl (by kernel_rfl) rfl (fun a4683q h4684q => ?_)
        clear h4682q a4681q
        refine WL.skipped (m := 14) h4684q rfl rfl (by kernel_rfl) rfl (fun a4685q h4686q => ?_)
        clear h4684q a4683q
        refine WL.skipped (m := 15) h4686q rfl rfl (by kernel_rfl) rfl (fun a4687q h4688q => ?_)
        clear h4686q a4685q
        refine WL.skipped (m := 16) h4688q rfl rfl (by kernel_rfl) rfl (fun a4689q h4690q => ?_)
        clear h4688q a4687q
        refine WL.skipped (m := 17) h4690q rfl rfl (by kernel_rfl) rfl (fun a4691q h4692q => ?_)
        clear h4690q a4689q
        refine WL.skipped (m := 18) h4692q rfl rfl (by kernel_rfl) rfl (fun a4693q h4694q => ?_)
        clear h4692q a4691q
        refine WL.block (c := 2) (m' := 21) h4694q rfl [(46, .bool false), (45, .bool false)] (by kernel_rfl) (fun a4695q h4696q => ?_)
        clear h4694q a4693q
        refine WL.skipped (m := 21) h4696q rfl rfl (by kernel_rfl) rfl (fun a4697q h4698q => ?_)
        clear h4696q a4695q
        refine WL.skipped (m := 22) h4698q rfl rfl (by kernel_rfl) rfl (fun a4699q h4700q => ?_)
        clear h4698q a4697q
        refine WL.skipped (m := 23) h4700q rfl rfl (by kernel_rfl) rfl (fun a4701q h4702q => ?_)
        clear h4700q a4699q
        refine WL.skipped (m := 24) h4702q rfl rfl (by kernel_rfl) rfl (fun a4703q h4704q => ?_)
        clear h4702q a4701q
        refine WL.block (c := 2) (m' := 27) h4704q rfl [(52, .bool false), (51, .bool false)] (by kernel_rfl) (fun a4705q h4706q => ?_)
        clear h4704q a4703q
        refine WL.skipped (m := 27) h4706q rfl rfl (by kernel_rfl) rfl (fun a4707q h4708q => ?_)
        clear h4706q a4705q
        refine WL.skipped (m := 28) h4708q rfl rfl (by kernel_rfl) rfl (fun a4709q h4710q => ?_)
        clear h4708q a4707q
        refine WL.skipped (m := 29) h4710q rfl rfl (by kernel_rfl) rfl (fun a4711q h4712q => ?_)
        clear h4710q a4709q
        refine WL.skipped (m := 30) h4712q rfl rfl (by kernel_rfl) rfl (fun a4713q h4714q => ?_)
        clear h4712q a4711q
        refine WL.block (c := 2) (m' := 33) h4714q rfl [(6, .bool false), (57, .bool false)] (by kernel_rfl) (fun a4715q h4716q => ?_)
        clear h4714q a4713q
        refine WL.done (by kernel_rfl) ?_
        refine wp_ret ?_
        obtain rfl := Option.some.inj H
        repeat (first | refine then_ret ?_ | refine inBlock_ret ?_ | refine inBlock_go ?_)
        refine body_ret (v := .bool false) h4716q (by kernel_rfl) (by kernel_rfl) ?_
        exact ⟨rfl, hS4498q⟩
end Go.Proofs.Ytonhiiedhnhanaa.Sl
