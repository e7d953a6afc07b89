/- What the functions of this program compute, told as plain functions, and that the calls come to just that. Printed by this session's program; part 1. -/
import Derived.Test.YtonhiiedhnhanaaProg
import Derived.Test.YtonhiiedhnhanaaSlI
set_option linter.unusedVariables false
set_option linter.unusedSimpArgs false
set_option linter.unnecessarySimpa false
namespace Go.Proofs.Ytonhiiedhnhanaa.Sl
open Go Go.RowKit Go.Proofs.Sl
/-! ### slices.Clone[[]byte,byte] -/
def slices_Clone_byte_byte.f (p0 : (List Int)) : Option ((List Int)) := if ([] : List Int).length + p0.length ≤ 140737488355328 then (lt1 (([] : List Int) ++ p0 : List Int) fun y52_ => (some y52_)) else (none)
set_option maxHeartbeats 2000000 in
set_option maxRecDepth 100000 in
theorem slices_Clone_byte_byte.calls {b : Nat} {w0 W : World} {R : Frag} {Fs : List Frag} {p0 : (List Int)} {v0 : Value} {r0_ : (List Int)} (hp0 : Rds (kInt .u8) b w0 R v0 p0) (H : slices_Clone_byte_byte.f p0 = some r0_) (hS : St b w0 W R (Fs)) :
    Calls Try.prog 14 ([v0] : List Value).toArray W (fun e W' => ∃ (u0_ : Value) (N0_ : Frag), e = .returned (u0_) ∧ Row (kInt .u8) 5 b w0 R u0_ r0_ N0_ ∧ St b w0 W' R (N0_ :: Fs)) := by
  obtain ⟨A0, c0, rfl⟩ := hp0.form
  obtain _ | A0 := A0
  · have hn_ : p0 = [] := hp0.nil_of
    subst hn_
    obtain rfl : ([] : (List Int)) = r0_ := by simpa [slices_Clone_byte_byte.f, lt1] using H
    clear H
    have H : some ([] : (List Int)) = some [] := rfl
    refine calls_enter Try.func14 rfl 8 rfl (by kernel_rfl) (fun a h => ?_)
    refine wp_seq ?_
    refine WL.start ?_
    refine WL.block (c := 1) (m' := 1) h rfl [(2, .slice none 0 0)] (by kernel_rfl) (fun a59_ h60_ => ?_)
    refine WL.done (by kernel_rfl) ?_
    refine wp_seq ?_
    refine wp_seq ?_
    refine WL.start ?_
    refine WL.block (c := 2) (m' := 2) h60_ rfl [(4, .bool true), (3, .slice none 0 c0)] (by kernel_rfl) (fun a61_ h62_ => ?_)
    clear h60_ a59_
    refine WL.done (by kernel_rfl) ?_
    refine wp_then h62_ rfl ?_
    refine wp_seq ?_
    refine WL.start ?_
    refine WL.block (c := 1) (m' := 1) h62_ rfl [(2, .slice none 0 0)] (by kernel_rfl) (fun a63_ h64_ => ?_)
    clear h62_ a61_
    refine WL.done (by kernel_rfl) ?_
    refine wp_ret ?_
    skip
    repeat (first | refine then_ret ?_ | refine inBlock_ret ?_ | refine inBlock_go ?_)
    refine body_ret (v := .slice none 0 0) h64_ (by kernel_rfl) (by kernel_rfl) ?_
    exact ⟨.slice none 0 0, [], rfl, Row.nil, hS.nil_⟩
  · unfold slices_Clone_byte_byte.f at H
    refine calls_enter Try.func14 rfl 8 rfl (by kernel_rfl) (fun a h => ?_)
    refine wp_seq ?_
    refine WL.start ?_
    refine WL.block (c := 1) (m' := 1) h rfl [(2, .slice none 0 0)] (by kernel_rfl) (fun a30_ h31_ => ?_)
    refine WL.done (by kernel_rfl) ?_
    refine wp_seq ?_
    refine wp_seq ?_
    refine WL.start ?_
    refine WL.block (c := 2) (m' := 2) h31_ rfl [(4, .bool false), (3, .slice (some A0) p0.length c0)] (by kernel_rfl) (fun a32_ h33_ => ?_)
    clear h31_ a30_
    refine WL.done (by kernel_rfl) ?_
    refine wp_else h33_ rfl ?_
    refine wp_skip ?_
    refine wp_seq ?_
    refine WL.start ?_
    refine WL.op' (m := 0) h33_ rfl rfl ?_
    refine owp_new (fun g_ => .slice (some ⟨g_, 0, none⟩) 0 0) (.cells ([] : List Value).toArray 5 (0, 0)) h33_ rfl (by kernel_rfl) (by kernel_rfl) hS (fun a34_ W36_ g37_ h35_ hS38_ => ?_)
    clear h33_ a32_
    have hr40_ : Row (kInt .u8) 5 b w0 R (.slice (some ⟨g37_, 0, none⟩) 0 0) ([] : List Int) [(g37_, .cells ([] : List Value).toArray 5 (0, 0))] := Row.lit (xs := ([] : List Int)) (Mi := []) ⟨rfl, rfl⟩ (by simp [maxLen])
    refine WL.block (c := 1) (m' := 2) h35_ rfl [(6, .slice (some A0) p0.length c0)] (by kernel_rfl) (fun a41_ h42_ => ?_)
    clear h35_ a34_
    by_cases c43_ : ([] : List Int).length + p0.length ≤ 140737488355328
    · rw [if_pos c43_] at H
      refine WL.op' (m := 2) h42_ rfl rfl ?_
      refine owp_app_rds (z := .int .u8 0) (bytes := 1) (dk := (kInt .u8)) h42_ rfl (by kernel_rfl) rfl rfl rfl (kInt_flat _) hr40_ hp0 hS38_ Try.underlying26 (by kernel_rfl) rfl (by decide) (by decide) (by first | omega | (simp only [List.length_cons, List.length_nil] at *; omega)) (fun a44_ W46_ v47_ M48_ h45_ hr49_ hS50_ => ?_)
      clear h42_ a41_
      obtain ⟨y52_, hy53_, H⟩ := lete H
      have hr54_ : Row (kInt .u8) 5 b w0 R v47_ y52_ M48_ := by rw [hy53_]; exact hr49_
      clear hr49_
      obtain ⟨A55_, c56_, rfl⟩ := hr54_.form
      refine WL.block (c := 1) (m' := 4) h45_ rfl [(2, .slice A55_ y52_.length c56_)] (by kernel_rfl) (fun a57_ h58_ => ?_)
      clear h45_ a44_
      refine WL.done (by kernel_rfl) ?_
      refine wp_ret ?_
      obtain rfl := Option.some.inj H
      repeat (first | refine then_ret ?_ | refine inBlock_ret ?_ | refine inBlock_go ?_)
      refine body_ret (v := .slice A55_ y52_.length c56_) h58_ (by kernel_rfl) (by kernel_rfl) ?_
      exact ⟨.slice A55_ y52_.length c56_, M48_, rfl, hr54_, hS50_⟩
    · rw [if_neg c43_] at H
      cases H

/-! ### louver/prefix.right -/
def prefix_right.f (p0 : Int) : Option (Bool) := if p0 ≥ 1 then (some (decide (p0 ≤ 8))) else (some false)
set_option maxHeartbeats 2000000 in
set_option maxRecDepth 100000 in
theorem prefix_right.calls {b : Nat} {w0 W : World} {R : Frag} {Fs : List Frag} {p0 : Int}  {r0_ : Bool}  (H : prefix_right.f p0 = some r0_) (hS : St b w0 W R (Fs)) :
    Calls Try.prog 15 ([.int .i64 p0] : List Value).toArray W (fun e W' => e = .returned (.bool r0_) ∧ St b w0 W' R (Fs)) := by
  unfold prefix_right.f at H
  refine calls_enter Try.func15 rfl 9 rfl (by kernel_rfl) (fun a h => ?_)
  refine wp_seq ?_
  refine WL.start ?_
  refine WL.block (c := 1) (m' := 1) h rfl [(2, .bool false)] (by kernel_rfl) (fun a82_ h83_ => ?_)
  refine WL.done (by kernel_rfl) ?_
  refine wp_seq ?_
  refine WL.start ?_
  refine WL.block (c := 3) (m' := 3) h83_ rfl [(5, .bool (decide (p0 ≥ 1))), (4, .bool (decide (p0 ≥ 1))), (3, .int .i64 p0)] (by kernel_rfl) (fun a84_ h85_ => ?_)
  clear h83_ a82_
  by_cases c86_ : p0 ≥ 1
  · rw [if_pos c86_] at H
    have hb_ : (decide (p0 ≥ 1)) = true := decide_eq_true c86_
    try rw [hb_] at h85_
    clear hb_
    refine WL.op' (m := 3) h85_ rfl rfl (owp_run h85_ rfl (by kernel_rfl) (v := .int .i64 p0) (by kernel_rfl) (fun a87_ h88_ => ?_))
    clear h85_ a84_
    refine WL.op' (m := 4) h88_ rfl rfl (owp_run h88_ rfl (by kernel_rfl) (v := .bool (decide (p0 ≤ 8))) (by kernel_rfl) (fun a89_ h90_ => ?_))
    clear h88_ a87_
    refine WL.block (c := 2) (m' := 7) h90_ rfl [(2, .bool (decide (p0 ≤ 8))), (8, .bool (decide (p0 ≤ 8)))] (by kernel_rfl) (fun a91_ h92_ => ?_)
    clear h90_ a89_
    refine WL.done (by kernel_rfl) ?_
    refine wp_ret ?_
    obtain rfl := Option.some.inj H
    repeat (first | refine then_ret ?_ | refine inBlock_ret ?_ | refine inBlock_go ?_)
    refine body_ret (v := .bool (decide (p0 ≤ 8))) h92_ (by kernel_rfl) (by kernel_rfl) ?_
    exact ⟨rfl, hS⟩
  · rw [if_neg c86_] at H
    have hb_ : (decide (p0 ≥ 1)) = false := decide_eq_false c86_
    try rw [hb_] at h85_
    clear hb_
    refine WL.skipped (m := 3) h85_ rfl rfl (by kernel_rfl) rfl (fun a93_ h94_ => ?_)
    clear h85_ a84_
    refine WL.skipped (m := 4) h94_ rfl rfl (by kernel_rfl) rfl (fun a95_ h96_ => ?_)
    clear h94_ a93_
    refine WL.block (c := 2) (m' := 7) h96_ rfl [(2, .bool false), (8, .bool false)] (by kernel_rfl) (fun a97_ h98_ => ?_)
    clear h96_ a95_
    refine WL.done (by kernel_rfl) ?_
    refine wp_ret ?_
    obtain rfl := Option.some.inj H
    repeat (first | refine then_ret ?_ | refine inBlock_ret ?_ | refine inBlock_go ?_)
    refine body_ret (v := .bool false) h98_ (by kernel_rfl) (by kernel_rfl) ?_
    exact ⟨rfl, hS⟩

/-! ### louver/prefix.Put -/
def prefix_Put.l0 : Nat → Int → (List Int) → Option ((List Int))
  | 0, _, _ => none
  | k + 1, x702_, x704_ => if x702_ > 127 then (if x704_.length + 1 ≤ 140737488355328 then (lt1 (x704_ ++ ([bOr .u8 (IntKind.u8.wrap (bAnd .u32 x702_ 127)) 128] : List Int) : List Int) fun y732_ => (prefix_Put.l0 k (shrI .u32 x702_ 7) y732_)) else (none)) else (if x704_.length + 1 ≤ 140737488355328 then (lt1 (x704_ ++ ([IntKind.u8.wrap x702_] : List Int) : List Int) fun y760_ => (some y760_)) else (none))
def prefix_Put.f (k : Nat) (p0 : (List Int)) (p1 : Int) (p2 : Int) (p3 : Int) : Option ((List Int)) := bnd1 (slices_Clone_byte_byte.f p0) fun r594_ => (bnd1 (prefix_right.f p1) fun r612_ => (if r612_ = true then (if p3 > 268435456 then (some r594_) else (if 0 ≤ p1 then (if p3 < (IntKind.u32.wrap ((shlI .u32 1 p1) - 1)) then (if r594_.length + 1 ≤ 140737488355328 then (lt1 (r594_ ++ ([bOr .u8 (bAndNot .u8 p2 (IntKind.u8.wrap (IntKind.u32.wrap ((shlI .u32 1 p1) - 1)))) (IntKind.u8.wrap p3)] : List Int) : List Int) fun y662_ => (some y662_)) else (none)) else (if r594_.length + 1 ≤ 140737488355328 then (lt1 (r594_ ++ ([bOr .u8 (bAndNot .u8 p2 (IntKind.u8.wrap (IntKind.u32.wrap ((shlI .u32 1 p1) - 1)))) (IntKind.u8.wrap (IntKind.u32.wrap ((shlI .u32 1 p1) - 1)))] : List Int) : List Int) fun y688_ => (prefix_Put.l0 k (IntKind.u32.wrap (p3 - (IntKind.u32.wrap ((shlI .u32 1 p1) - 1)))) y688_)) else (none))) else (none))) else (some r594_)))
set_option maxHeartbeats 2000000 in
set_option maxRecDepth 100000 in
theorem prefix_Put.calls (k : Nat) {b : Nat} {w0 W : World} {R : Frag} {Fs : List Frag} {p0 : (List Int)} {p1 : Int} {p2 : Int} {p3 : Int} {v0 : Value} {r0_ : (List Int)} (hp0 : Rds (kInt .u8) b w0 R v0 p0) (H : prefix_Put.f k p0 p1 p2 p3 = some r0_) (hS : St b w0 W R (Fs)) :
    Calls Try.prog 10 ([v0, .int .i64 p1, .int .u8 p2, .int .u32 p3] : List Value).toArray W (fun e W' => ∃ (u0_ : Value) (N0_ : Frag), e = .returned (u0_) ∧ Row (kInt .u8) 5 b w0 R u0_ r0_ N0_ ∧ St b w0 W' R (N0_ :: Fs)) := by
  obtain ⟨A0, c0, rfl⟩ := hp0.form
  unfold prefix_Put.f at H
  refine calls_enter Try.func10 rfl 65 rfl (by kernel_rfl) (fun a h => ?_)
  refine wp_seq ?_
  refine WL.start ?_
  refine WL.block (c := 1) (m' := 1) h rfl [(8, .slice none 0 0)] (by kernel_rfl) (fun a589_ h590_ => ?_)
  refine WL.done (by kernel_rfl) ?_
  refine wp_seq ?_
  refine WL.start ?_
  refine WL.block (c := 1) (m' := 1) h590_ rfl [(12, .slice A0 p0.length c0)] (by kernel_rfl) (fun a591_ h592_ => ?_)
  clear h590_ a589_
  obtain ⟨r594_, A593_, H⟩ := bind1 H
  refine WL.op' (m := 1) h592_ rfl rfl ?_
  refine owp_call [.slice A0 p0.length c0] h592_ rfl (by kernel_rfl) rfl Try.func14 (by kernel_rfl) rfl (by kernel_rfl) (slices_Clone_byte_byte.calls hp0 A593_ hS) (fun e596_ W595_ hp597_ => ?_)
  obtain ⟨v600_, M601_, rfl, hr602_, hS604_⟩ := hp597_
  refine ⟨_, rfl, fun a598_ h599_ => ?_⟩
  clear h592_ a591_
  obtain ⟨A605_, c606_, rfl⟩ := hr602_.form
  refine WL.block (c := 1) (m' := 3) h599_ rfl [(9, .slice A605_ r594_.length c606_)] (by kernel_rfl) (fun a607_ h608_ => ?_)
  clear h599_ a598_
  refine WL.done (by kernel_rfl) ?_
  refine wp_seq ?_
  refine wp_seq ?_
  refine WL.start ?_
  refine WL.block (c := 1) (m' := 1) h608_ rfl [(14, .int .i64 p1)] (by kernel_rfl) (fun a609_ h610_ => ?_)
  clear h608_ a607_
  obtain ⟨r612_, A611_, H⟩ := bind1 H
  refine WL.op' (m := 1) h610_ rfl rfl ?_
  refine owp_call [.int .i64 p1] h610_ rfl (by kernel_rfl) rfl Try.func15 (by kernel_rfl) rfl (by kernel_rfl) (prefix_right.calls  A611_ hS604_) (fun e614_ W613_ hp615_ => ?_)
  obtain ⟨rfl, hS618_⟩ := hp615_
  refine ⟨_, rfl, fun a616_ h617_ => ?_⟩
  clear h610_ a609_
  refine WL.block (c := 2) (m' := 4) h617_ rfl [(17, .bool (!r612_)), (16, .bool (!r612_))] (by kernel_rfl) (fun a619_ h620_ => ?_)
  clear h617_ a616_
  by_cases c621_ : r612_ = true
  · rw [if_pos c621_] at H
    have hb_ : r612_ = true := c621_
    try rw [hb_] at h620_
    clear hb_
    refine WL.op' (m := 4) h620_ rfl rfl (owp_run h620_ rfl (by kernel_rfl) (v := .int .u32 p3) (by kernel_rfl) (fun a622_ h623_ => ?_))
    clear h620_ a619_
    refine WL.op' (m := 5) h623_ rfl rfl (owp_run h623_ rfl (by kernel_rfl) (v := .bool (decide (p3 > 268435456))) (by kernel_rfl) (fun a624_ h625_ => ?_))
    clear h623_ a622_
    refine WL.block (c := 1) (m' := 7) h625_ rfl [(20, .bool (decide (p3 > 268435456)))] (by kernel_rfl) (fun a626_ h627_ => ?_)
    clear h625_ a624_
    refine WL.done (by kernel_rfl) ?_
    by_cases c628_ : p3 > 268435456
    · rw [if_pos c628_] at H
      have hb_ : (decide (p3 > 268435456)) = true := decide_eq_true c628_
      try rw [hb_] at h627_
      clear hb_
      refine wp_then h627_ rfl ?_
      refine wp_seq ?_
      refine WL.start ?_
      refine WL.block (c := 2) (m' := 2) h627_ rfl [(8, .slice A605_ r594_.length c606_), (21, .slice A605_ r594_.length c606_)] (by kernel_rfl) (fun a629_ h630_ => ?_)
      clear h627_ a626_
      refine WL.done (by kernel_rfl) ?_
      refine wp_ret ?_
      obtain rfl := Option.some.inj H
      repeat (first | refine then_ret ?_ | refine inBlock_ret ?_ | refine inBlock_go ?_)
      refine body_ret (v := .slice A605_ r594_.length c606_) h630_ (by kernel_rfl) (by kernel_rfl) ?_
      exact ⟨.slice A605_ r594_.length c606_, M601_, rfl, hr602_, hS618_⟩
    · rw [if_neg c628_] at H
      have hb_ : (decide (p3 > 268435456)) = false := decide_eq_false c628_
      try rw [hb_] at h627_
      clear hb_
      refine wp_else h627_ rfl ?_
      refine wp_skip ?_
      refine wp_seq ?_
      refine WL.start ?_
      refine WL.block (c := 1) (m' := 1) h627_ rfl [(22, .int .i64 p1)] (by kernel_rfl) (fun a631_ h632_ => ?_)
      clear h627_ a626_
      by_cases c633_ : 0 ≤ p1
      · rw [if_pos c633_] at H
        refine WL.op' (m := 1) h632_ rfl rfl ?_
        refine owp_run (v := .int .u32 (shlI .u32 1 p1)) h632_ rfl (by kernel_rfl) (run_shl rfl rfl rfl (by assumption)) (fun a634_ h635_ => ?_)
        clear h632_ a631_
        refine WL.block (c := 2) (m' := 4) h635_ rfl [(10, .int .u32 (IntKind.u32.wrap ((shlI .u32 1 p1) - 1))), (24, .int .u32 (IntKind.u32.wrap ((shlI .u32 1 p1) - 1)))] (by kernel_rfl) (fun a636_ h637_ => ?_)
        clear h635_ a634_
        refine WL.done (by kernel_rfl) ?_
        refine wp_seq ?_
        refine WL.start ?_
        refine WL.block (c := 5) (m' := 5) h637_ rfl [(11, .int .u8 (bAndNot .u8 p2 (IntKind.u8.wrap (IntKind.u32.wrap ((shlI .u32 1 p1) - 1))))), (28, .int .u8 (bAndNot .u8 p2 (IntKind.u8.wrap (IntKind.u32.wrap ((shlI .u32 1 p1) - 1))))), (27, .int .u8 (IntKind.u8.wrap (IntKind.u32.wrap ((shlI .u32 1 p1) - 1)))), (26, .int .u32 (IntKind.u32.wrap ((shlI .u32 1 p1) - 1))), (25, .int .u8 p2)] (by kernel_rfl) (fun a638_ h639_ => ?_)
        clear h637_ a636_
        refine WL.done (by kernel_rfl) ?_
        refine wp_seq ?_
        refine wp_seq ?_
        refine WL.start ?_
        refine WL.block (c := 3) (m' := 3) h639_ rfl [(31, .bool (decide (p3 < (IntKind.u32.wrap ((shlI .u32 1 p1) - 1))))), (30, .int .u32 (IntKind.u32.wrap ((shlI .u32 1 p1) - 1))), (29, .int .u32 p3)] (by kernel_rfl) (fun a640_ h641_ => ?_)
        clear h639_ a638_
        refine WL.done (by kernel_rfl) ?_
        by_cases c642_ : p3 < (IntKind.u32.wrap ((shlI .u32 1 p1) - 1))
        · rw [if_pos c642_] at H
          have hb_ : (decide (p3 < (IntKind.u32.wrap ((shlI .u32 1 p1) - 1)))) = true := decide_eq_true c642_
          try rw [hb_] at h641_
          clear hb_
          refine wp_then h641_ rfl ?_
          refine wp_seq ?_
          refine WL.start ?_
          refine WL.block (c := 5) (m' := 5) h641_ rfl [(36, .int .u8 (bOr .u8 (bAndNot .u8 p2 (IntKind.u8.wrap (IntKind.u32.wrap ((shlI .u32 1 p1) - 1)))) (IntKind.u8.wrap p3))), (35, .int .u8 (IntKind.u8.wrap p3)), (34, .int .u32 p3), (33, .int .u8 (bAndNot .u8 p2 (IntKind.u8.wrap (IntKind.u32.wrap ((shlI .u32 1 p1) - 1))))), (32, .slice A605_ r594_.length c606_)] (by kernel_rfl) (fun a643_ h644_ => ?_)
          clear h641_ a640_
          refine WL.op' (m := 5) h644_ rfl rfl ?_
          refine owp_new (fun g_ => .slice (some ⟨g_, 0, none⟩) 1 1) (.cells ([.int .u8 (bOr .u8 (bAndNot .u8 p2 (IntKind.u8.wrap (IntKind.u32.wrap ((shlI .u32 1 p1) - 1)))) (IntKind.u8.wrap p3))] : List Value).toArray 5 (0, 0)) h644_ rfl (by kernel_rfl) (by kernel_rfl) hS618_ (fun a645_ W647_ g648_ h646_ hS649_ => ?_)
          clear h644_ a643_
          have hr651_ : Row (kInt .u8) 5 b w0 R (.slice (some ⟨g648_, 0, none⟩) 1 1) ([bOr .u8 (bAndNot .u8 p2 (IntKind.u8.wrap (IntKind.u32.wrap ((shlI .u32 1 p1) - 1)))) (IntKind.u8.wrap p3)] : List Int) [(g648_, .cells ([.int .u8 (bOr .u8 (bAndNot .u8 p2 (IntKind.u8.wrap (IntKind.u32.wrap ((shlI .u32 1 p1) - 1)))) (IntKind.u8.wrap p3))] : List Value).toArray 5 (0, 0))] := Row.lit (xs := ([bOr .u8 (bAndNot .u8 p2 (IntKind.u8.wrap (IntKind.u32.wrap ((shlI .u32 1 p1) - 1)))) (IntKind.u8.wrap p3)] : List Int)) (Mi := []) ⟨_, _, [], _, rfl, rfl, ⟨rfl, rfl⟩, ⟨rfl, rfl⟩⟩ (by simp [maxLen])
          by_cases c652_ : r594_.length + 1 ≤ 140737488355328
          · rw [if_pos c652_] at H
            have hS653_ : St b w0 W647_ R (M601_ :: [(g648_, .cells ([.int .u8 (bOr .u8 (bAndNot .u8 p2 (IntKind.u8.wrap (IntKind.u32.wrap ((shlI .u32 1 p1) - 1)))) (IntKind.u8.wrap p3))] : List Value).toArray 5 (0, 0))] :: Fs) := hS649_.bring 1 rfl rfl
            refine WL.op' (m := 6) h646_ rfl rfl ?_
            refine owp_app_take (z := .int .u8 0) (bytes := 1) (dk := (kInt .u8)) h646_ rfl (by kernel_rfl) rfl rfl rfl hr602_ hr651_ hS653_ Try.underlying26 (by kernel_rfl) rfl (by decide) (by decide) (by first | omega | (simp only [List.length_cons, List.length_nil] at *; omega)) (fun a654_ W656_ v657_ M658_ h655_ hr659_ hS660_ => ?_)
            clear h646_ a645_
            obtain ⟨y662_, hy663_, H⟩ := lete H
            have hr664_ : Row (kInt .u8) 5 b w0 R v657_ y662_ M658_ := by rw [hy663_]; exact hr659_
            clear hr659_
            obtain ⟨A665_, c666_, rfl⟩ := hr664_.form
            refine WL.block (c := 1) (m' := 8) h655_ rfl [(8, .slice A665_ y662_.length c666_)] (by kernel_rfl) (fun a667_ h668_ => ?_)
            clear h655_ a654_
            refine WL.done (by kernel_rfl) ?_
            refine wp_ret ?_
            obtain rfl := Option.some.inj H
            repeat (first | refine then_ret ?_ | refine inBlock_ret ?_ | refine inBlock_go ?_)
            refine body_ret (v := .slice A665_ y662_.length c666_) h668_ (by kernel_rfl) (by kernel_rfl) ?_
            exact ⟨.slice A665_ y662_.length c666_, M658_, rfl, hr664_, hS660_⟩
          · rw [if_neg c652_] at H
            cases H
        · rw [if_neg c642_] at H
          have hb_ : (decide (p3 < (IntKind.u32.wrap ((shlI .u32 1 p1) - 1)))) = false := decide_eq_false c642_
          try rw [hb_] at h641_
          clear hb_
          refine wp_else h641_ rfl ?_
          refine wp_skip ?_
          refine wp_seq ?_
          refine WL.start ?_
          refine WL.block (c := 5) (m' := 5) h641_ rfl [(43, .int .u8 (bOr .u8 (bAndNot .u8 p2 (IntKind.u8.wrap (IntKind.u32.wrap ((shlI .u32 1 p1) - 1)))) (IntKind.u8.wrap (IntKind.u32.wrap ((shlI .u32 1 p1) - 1))))), (42, .int .u8 (IntKind.u8.wrap (IntKind.u32.wrap ((shlI .u32 1 p1) - 1)))), (41, .int .u32 (IntKind.u32.wrap ((shlI .u32 1 p1) - 1))), (40, .int .u8 (bAndNot .u8 p2 (IntKind.u8.wrap (IntKind.u32.wrap ((shlI .u32 1 p1) - 1))))), (39, .slice A605_ r594_.length c606_)] (by kernel_rfl) (fun a669_ h670_ => ?_)
          clear h641_ a640_
          refine WL.op' (m := 5) h670_ rfl rfl ?_
          refine owp_new (fun g_ => .slice (some ⟨g_, 0, none⟩) 1 1) (.cells ([.int .u8 (bOr .u8 (bAndNot .u8 p2 (IntKind.u8.wrap (IntKind.u32.wrap ((shlI .u32 1 p1) - 1)))) (IntKind.u8.wrap (IntKind.u32.wrap ((shlI .u32 1 p1) - 1))))] : List Value).toArray 5 (0, 0)) h670_ rfl (by kernel_rfl) (by kernel_rfl) hS618_ (fun a671_ W673_ g674_ h672_ hS675_ => ?_)
          clear h670_ a669_
          have hr677_ : Row (kInt .u8) 5 b w0 R (.slice (some ⟨g674_, 0, none⟩) 1 1) ([bOr .u8 (bAndNot .u8 p2 (IntKind.u8.wrap (IntKind.u32.wrap ((shlI .u32 1 p1) - 1)))) (IntKind.u8.wrap (IntKind.u32.wrap ((shlI .u32 1 p1) - 1)))] : List Int) [(g674_, .cells ([.int .u8 (bOr .u8 (bAndNot .u8 p2 (IntKind.u8.wrap (IntKind.u32.wrap ((shlI .u32 1 p1) - 1)))) (IntKind.u8.wrap (IntKind.u32.wrap ((shlI .u32 1 p1) - 1))))] : List Value).toArray 5 (0, 0))] := Row.lit (xs := ([bOr .u8 (bAndNot .u8 p2 (IntKind.u8.wrap (IntKind.u32.wrap ((shlI .u32 1 p1) - 1)))) (IntKind.u8.wrap (IntKind.u32.wrap ((shlI .u32 1 p1) - 1)))] : List Int)) (Mi := []) ⟨_, _, [], _, rfl, rfl, ⟨rfl, rfl⟩, ⟨rfl, rfl⟩⟩ (by simp [maxLen])
          by_cases c678_ : r594_.length + 1 ≤ 140737488355328
          · rw [if_pos c678_] at H
            have hS679_ : St b w0 W673_ R (M601_ :: [(g674_, .cells ([.int .u8 (bOr .u8 (bAndNot .u8 p2 (IntKind.u8.wrap (IntKind.u32.wrap ((shlI .u32 1 p1) - 1)))) (IntKind.u8.wrap (IntKind.u32.wrap ((shlI .u32 1 p1) - 1))))] : List Value).toArray 5 (0, 0))] :: Fs) := hS675_.bring 1 rfl rfl
            refine WL.op' (m := 6) h672_ rfl rfl ?_
            refine owp_app_take (z := .int .u8 0) (bytes := 1) (dk := (kInt .u8)) h672_ rfl (by kernel_rfl) rfl rfl rfl hr602_ hr677_ hS679_ Try.underlying26 (by kernel_rfl) rfl (by decide) (by decide) (by first | omega | (simp only [List.length_cons, List.length_nil] at *; omega)) (fun a680_ W682_ v683_ M684_ h681_ hr685_ hS686_ => ?_)
            clear h672_ a671_
            obtain ⟨y688_, hy689_, H⟩ := lete H
            have hr690_ : Row (kInt .u8) 5 b w0 R v683_ y688_ M684_ := by rw [hy689_]; exact hr685_
            clear hr685_
            obtain ⟨A691_, c692_, rfl⟩ := hr690_.form
            refine WL.block (c := 1) (m' := 8) h681_ rfl [(9, .slice A691_ y688_.length c692_)] (by kernel_rfl) (fun a693_ h694_ => ?_)
            clear h681_ a680_
            refine WL.done (by kernel_rfl) ?_
            refine wp_seq ?_
            refine WL.start ?_
            refine WL.block (c := 4) (m' := 4) h694_ rfl [(3, .int .u32 (IntKind.u32.wrap (p3 - (IntKind.u32.wrap ((shlI .u32 1 p1) - 1))))), (48, .int .u32 (IntKind.u32.wrap (p3 - (IntKind.u32.wrap ((shlI .u32 1 p1) - 1))))), (47, .int .u32 (IntKind.u32.wrap ((shlI .u32 1 p1) - 1))), (46, .int .u32 p3)] (by kernel_rfl) (fun a695_ h696_ => ?_)
            clear h694_ a693_
            refine WL.done (by kernel_rfl) ?_
            refine wp_seq ?_
            refine wp_block ?_
            refine wp_loop_ghost (fun kq_ a_ W_ => ∃ (x702_ : Int), ∃ (x704_ : (List Int)), ∃ (A705_ : Option Addr), ∃ (c706_ : Nat), ∃ (M707_ : Frag), Hd a_ 65 [(3, .int .u32 x702_), (9, .slice A705_ x704_.length c706_)] ∧ Asd (prefix_Put.l0 kq_ x702_ x704_ = some r0_) ∧ Asd (kq_ ≤ k) ∧ Asd (St b w0 W_ R (M707_ :: Fs)) ∧ Asd (Row (kInt .u8) 5 b w0 R (.slice A705_ x704_.length c706_) x704_ M707_)) k ⟨IntKind.u32.wrap (p3 - (IntKind.u32.wrap ((shlI .u32 1 p1) - 1))), y688_, A691_, c692_, M684_, h696_.keep ⟨rfl, rfl, trivial⟩, ⟨H⟩, ⟨Nat.le_refl _⟩, ⟨hS686_⟩, ⟨hr690_⟩⟩ ?_
            clear H hS686_
            rintro k701_ a698_ W699_ ⟨x702_, x704_, A705_, c706_, M707_, h697_, ⟨H⟩, ⟨hkk701_⟩, ⟨hS700_⟩, ⟨hr708_⟩⟩
            obtain _ | k709_ := k701_
            · exact absurd H (by simp [prefix_Put.l0])
            simp only [prefix_Put.l0] at H
            refine wp_seq ?_
            refine wp_seq ?_
            refine WL.start ?_
            refine WL.block (c := 2) (m' := 2) h697_ rfl [(50, .bool (decide (x702_ > 127))), (49, .int .u32 x702_)] (by kernel_rfl) (fun a710_ h711_ => ?_)
            clear h697_ a698_
            refine WL.done (by kernel_rfl) ?_
            by_cases c712_ : x702_ > 127
            · rw [if_pos c712_] at H
              have hb_ : (decide (x702_ > 127)) = true := decide_eq_true c712_
              try rw [hb_] at h711_
              clear hb_
              refine wp_then h711_ rfl ?_
              refine wp_skip ?_
              refine wp_block ?_
              refine wp_seq ?_
              refine WL.start ?_
              refine WL.block (c := 5) (m' := 5) h711_ rfl [(55, .int .u8 (bOr .u8 (IntKind.u8.wrap (bAnd .u32 x702_ 127)) 128)), (54, .int .u8 (IntKind.u8.wrap (bAnd .u32 x702_ 127))), (53, .int .u32 (bAnd .u32 x702_ 127)), (52, .int .u32 x702_), (51, .slice A705_ x704_.length c706_)] (by kernel_rfl) (fun a713_ h714_ => ?_)
              clear h711_ a710_
              refine WL.op' (m := 5) h714_ rfl rfl ?_
              refine owp_new (fun g_ => .slice (some ⟨g_, 0, none⟩) 1 1) (.cells ([.int .u8 (bOr .u8 (IntKind.u8.wrap (bAnd .u32 x702_ 127)) 128)] : List Value).toArray 5 (0, 0)) h714_ rfl (by kernel_rfl) (by kernel_rfl) hS700_ (fun a715_ W717_ g718_ h716_ hS719_ => ?_)
              clear h714_ a713_
              have hr721_ : Row (kInt .u8) 5 b w0 R (.slice (some ⟨g718_, 0, none⟩) 1 1) ([bOr .u8 (IntKind.u8.wrap (bAnd .u32 x702_ 127)) 128] : List Int) [(g718_, .cells ([.int .u8 (bOr .u8 (IntKind.u8.wrap (bAnd .u32 x702_ 127)) 128)] : List Value).toArray 5 (0, 0))] := Row.lit (xs := ([bOr .u8 (IntKind.u8.wrap (bAnd .u32 x702_ 127)) 128] : List Int)) (Mi := []) ⟨_, _, [], _, rfl, rfl, ⟨rfl, rfl⟩, ⟨rfl, rfl⟩⟩ (by simp [maxLen])
              by_cases c722_ : x704_.length + 1 ≤ 140737488355328
              · rw [if_pos c722_] at H
                have hS723_ : St b w0 W717_ R (M707_ :: [(g718_, .cells ([.int .u8 (bOr .u8 (IntKind.u8.wrap (bAnd .u32 x702_ 127)) 128)] : List Value).toArray 5 (0, 0))] :: Fs) := hS719_.bring 1 rfl rfl
                refine WL.op' (m := 6) h716_ rfl rfl ?_
                refine owp_app_take (z := .int .u8 0) (bytes := 1) (dk := (kInt .u8)) h716_ rfl (by kernel_rfl) rfl rfl rfl hr708_ hr721_ hS723_ Try.underlying26 (by kernel_rfl) rfl (by decide) (by decide) (by first | omega | (simp only [List.length_cons, List.length_nil] at *; omega)) (fun a724_ W726_ v727_ M728_ h725_ hr729_ hS730_ => ?_)
                clear h716_ a715_
                obtain ⟨y732_, hy733_, H⟩ := lete H
                have hr734_ : Row (kInt .u8) 5 b w0 R v727_ y732_ M728_ := by rw [hy733_]; exact hr729_
                clear hr729_
                obtain ⟨A735_, c736_, rfl⟩ := hr734_.form
                refine WL.block (c := 1) (m' := 8) h725_ rfl [(9, .slice A735_ y732_.length c736_)] (by kernel_rfl) (fun a737_ h738_ => ?_)
                clear h725_ a724_
                refine WL.done (by kernel_rfl) ?_
                refine WL.start ?_
                refine WL.block (c := 3) (m' := 3) h738_ rfl [(3, .int .u32 (shrI .u32 x702_ 7)), (59, .int .u32 (shrI .u32 x702_ 7)), (58, .int .u32 x702_)] (by kernel_rfl) (fun a739_ h740_ => ?_)
                clear h738_ a737_
                refine WL.done (by kernel_rfl) ?_
                exact ⟨k709_, by omega, shrI .u32 x702_ 7, y732_, A735_, c736_, M728_, h740_.keep ⟨rfl, rfl, trivial⟩, ⟨H⟩, ⟨by omega⟩, ⟨hS730_⟩, ⟨hr734_⟩⟩
              · rw [if_neg c722_] at H
                cases H
            · rw [if_neg c712_] at H
              have hb_ : (decide (x702_ > 127)) = false := decide_eq_false c712_
              try rw [hb_] at h711_
              clear hb_
              refine wp_else h711_ rfl ?_
              refine wp_exit ?_
              refine wp_seq ?_
              refine WL.start ?_
              refine WL.block (c := 3) (m' := 3) h711_ rfl [(62, .int .u8 (IntKind.u8.wrap x702_)), (61, .int .u32 x702_), (60, .slice A705_ x704_.length c706_)] (by kernel_rfl) (fun a741_ h742_ => ?_)
              clear h711_ a710_
              refine WL.op' (m := 3) h742_ rfl rfl ?_
              refine owp_new (fun g_ => .slice (some ⟨g_, 0, none⟩) 1 1) (.cells ([.int .u8 (IntKind.u8.wrap x702_)] : List Value).toArray 5 (0, 0)) h742_ rfl (by kernel_rfl) (by kernel_rfl) hS700_ (fun a743_ W745_ g746_ h744_ hS747_ => ?_)
              clear h742_ a741_
              have hr749_ : Row (kInt .u8) 5 b w0 R (.slice (some ⟨g746_, 0, none⟩) 1 1) ([IntKind.u8.wrap x702_] : List Int) [(g746_, .cells ([.int .u8 (IntKind.u8.wrap x702_)] : List Value).toArray 5 (0, 0))] := Row.lit (xs := ([IntKind.u8.wrap x702_] : List Int)) (Mi := []) ⟨_, _, [], _, rfl, rfl, ⟨rfl, rfl⟩, ⟨rfl, rfl⟩⟩ (by simp [maxLen])
              by_cases c750_ : x704_.length + 1 ≤ 140737488355328
              · rw [if_pos c750_] at H
                have hS751_ : St b w0 W745_ R (M707_ :: [(g746_, .cells ([.int .u8 (IntKind.u8.wrap x702_)] : List Value).toArray 5 (0, 0))] :: Fs) := hS747_.bring 1 rfl rfl
                refine WL.op' (m := 4) h744_ rfl rfl ?_
                refine owp_app_take (z := .int .u8 0) (bytes := 1) (dk := (kInt .u8)) h744_ rfl (by kernel_rfl) rfl rfl rfl hr708_ hr749_ hS751_ Try.underlying26 (by kernel_rfl) rfl (by decide) (by decide) (by first | omega | (simp only [List.length_cons, List.length_nil] at *; omega)) (fun a752_ W754_ v755_ M756_ h753_ hr757_ hS758_ => ?_)
                clear h744_ a743_
                obtain ⟨y760_, hy761_, H⟩ := lete H
                have hr762_ : Row (kInt .u8) 5 b w0 R v755_ y760_ M756_ := by rw [hy761_]; exact hr757_
                clear hr757_
                obtain ⟨A763_, c764_, rfl⟩ := hr762_.form
                refine WL.block (c := 1) (m' := 6) h753_ rfl [(8, .slice A763_ y760_.length c764_)] (by kernel_rfl) (fun a765_ h766_ => ?_)
                clear h753_ a752_
                refine WL.done (by kernel_rfl) ?_
                refine wp_ret ?_
                obtain rfl := Option.some.inj H
                repeat (first | refine then_ret ?_ | refine inBlock_ret ?_ | refine inBlock_go ?_)
                refine body_ret (v := .slice A763_ y760_.length c764_) h766_ (by kernel_rfl) (by kernel_rfl) ?_
                exact ⟨.slice A763_ y760_.length c764_, M756_, rfl, hr762_, hS758_⟩
              · rw [if_neg c750_] at H
                cases H
          · rw [if_neg c678_] at H
            cases H
      · rw [if_neg c633_] at H
        cases H
  · rw [if_neg c621_] at H
    have hb_ : r612_ = false := (Bool.eq_false_iff.2 c621_)
    try rw [hb_] at h620_
    clear hb_
    refine WL.skipped (m := 4) h620_ rfl rfl (by kernel_rfl) rfl (fun a767_ h768_ => ?_)
    clear h620_ a619_
    refine WL.skipped (m := 5) h768_ rfl rfl (by kernel_rfl) rfl (fun a769_ h770_ => ?_)
    clear h768_ a767_
    refine WL.block (c := 1) (m' := 7) h770_ rfl [(20, .bool true)] (by kernel_rfl) (fun a771_ h772_ => ?_)
    clear h770_ a769_
    refine WL.done (by kernel_rfl) ?_
    refine wp_then h772_ rfl ?_
    refine wp_seq ?_
    refine WL.start ?_
    refine WL.block (c := 2) (m' := 2) h772_ rfl [(8, .slice A605_ r594_.length c606_), (21, .slice A605_ r594_.length c606_)] (by kernel_rfl) (fun a773_ h774_ => ?_)
    clear h772_ a771_
    refine WL.done (by kernel_rfl) ?_
    refine wp_ret ?_
    obtain rfl := Option.some.inj H
    repeat (first | refine then_ret ?_ | refine inBlock_ret ?_ | refine inBlock_go ?_)
    refine body_ret (v := .slice A605_ r594_.length c606_) h774_ (by kernel_rfl) (by kernel_rfl) ?_
    exact ⟨.slice A605_ r594_.length c606_, M601_, rfl, hr602_, hS618_⟩

/-! ### louver/prefix.Size -/
def prefix_Size.f (k : Nat) (p0 : Int) (p1 : Int) : Option (Int) := bnd1 (prefix_Put.f k ([] : List Int) p0 0 p1) fun r801_ => (some (r801_.length : Int))
set_option maxHeartbeats 2000000 in
set_option maxRecDepth 100000 in
theorem prefix_Size.calls (k : Nat) {b : Nat} {w0 W : World} {R : Frag} {Fs : List Frag} {p0 : Int} {p1 : Int}  {r0_ : Int}  (H : prefix_Size.f k p0 p1 = some r0_) (hS : St b w0 W R (Fs)) :
    Calls Try.prog 9 ([.int .i64 p0, .int .u32 p1] : List Value).toArray W (fun e W' => e = .returned (.int .i64 r0_) ∧ St b w0 W' R (Fs)) := by
  unfold prefix_Size.f at H
  refine calls_enter Try.func9 rfl 9 rfl (by kernel_rfl) (fun a h => ?_)
  refine wp_seq ?_
  refine WL.start ?_
  refine WL.block (c := 1) (m' := 1) h rfl [(4, .int .i64 0)] (by kernel_rfl) (fun a796_ h797_ => ?_)
  refine WL.done (by kernel_rfl) ?_
  refine wp_seq ?_
  refine WL.start ?_
  refine WL.block (c := 2) (m' := 2) h797_ rfl [(6, .int .u32 p1), (5, .int .i64 p0)] (by kernel_rfl) (fun a798_ h799_ => ?_)
  clear h797_ a796_
  obtain ⟨r801_, A800_, H⟩ := bind1 H
  refine WL.op' (m := 2) h799_ rfl rfl ?_
  refine owp_call [.slice none 0 0, .int .i64 p0, .int .u8 0, .int .u32 p1] h799_ rfl (by kernel_rfl) rfl Try.func10 (by kernel_rfl) rfl (by kernel_rfl) (prefix_Put.calls k (Rds.nil (dk := (kInt .u8)) (R := R)) A800_ hS) (fun e803_ W802_ hp804_ => ?_)
  obtain ⟨v807_, M808_, rfl, hr809_, hS811_⟩ := hp804_
  refine ⟨_, rfl, fun a805_ h806_ => ?_⟩
  clear h799_ a798_
  obtain ⟨A812_, c813_, rfl⟩ := hr809_.form
  refine WL.block (c := 2) (m' := 5) h806_ rfl [(4, .int .i64 (r801_.length : Int)), (8, .int .i64 (r801_.length : Int))] (by kernel_rfl) (fun a814_ h815_ => ?_)
  clear h806_ a805_
  refine WL.done (by kernel_rfl) ?_
  refine wp_ret ?_
  have hS816_ : St b w0 W802_ R (Fs) := hS811_.drop_
  obtain rfl := Option.some.inj H
  repeat (first | refine then_ret ?_ | refine inBlock_ret ?_ | refine inBlock_go ?_)
  refine body_ret (v := .int .i64 (r801_.length : Int)) h815_ (by kernel_rfl) (by kernel_rfl) ?_
  exact ⟨rfl, hS816_⟩

/-! ### louver/louverlaw02.fixed -/
def louverlaw02_fixed.f (k : Nat)  : Option (Bool) := bnd1 (prefix_Put.f k ([] : List Int) 5 0 1337) fun r863_ => (if (toS r863_) = ([31, 154, 10] : List UInt8) then (bnd1 (prefix_Size.f k 5 10) fun r884_ => (some (decide (r884_ = 1)))) else (some false))
set_option maxHeartbeats 2000000 in
set_option maxRecDepth 100000 in
theorem louverlaw02_fixed.calls (k : Nat) {b : Nat} {w0 W : World} {R : Frag} {Fs : List Frag}   {r0_ : Bool}  (H : louverlaw02_fixed.f k = some r0_) (hS : St b w0 W R (Fs)) :
    Calls Try.prog 8 ([] : List Value).toArray W (fun e W' => e = .returned (.bool r0_) ∧ St b w0 W' R (Fs)) := by
  unfold louverlaw02_fixed.f at H
  refine calls_enter Try.func8 rfl 8 rfl (by kernel_rfl) (fun a h => ?_)
  refine wp_seq ?_
  refine WL.start ?_
  refine WL.block (c := 1) (m' := 1) h rfl [(0, .bool false)] (by kernel_rfl) (fun a860_ h861_ => ?_)
  refine WL.done (by kernel_rfl) ?_
  refine wp_seq ?_
  refine WL.start ?_
  obtain ⟨r863_, A862_, H⟩ := bind1 H
  refine WL.op' (m := 0) h861_ rfl rfl ?_
  refine owp_call [.slice none 0 0, .int .i64 5, .int .u8 0, .int .u32 1337] h861_ rfl (by kernel_rfl) rfl Try.func10 (by kernel_rfl) rfl (by kernel_rfl) (prefix_Put.calls k (Rds.nil (dk := (kInt .u8)) (R := R)) A862_ hS) (fun e865_ W864_ hp866_ => ?_)
  obtain ⟨v869_, M870_, rfl, hr871_, hS873_⟩ := hp866_
  refine ⟨_, rfl, fun a867_ h868_ => ?_⟩
  clear h861_ a860_
  obtain ⟨A874_, c875_, rfl⟩ := hr871_.form
  refine WL.op' (m := 1) h868_ rfl rfl ?_
  refine owp_run (v := .string (mkS (toS r863_))) h868_ rfl (by kernel_rfl) (run_tostr rfl rfl hr871_.rds (fun _ _ hk_ => (hS873_).pool.kn hk_) Try.underlying26 Try.underlying5 Try.underlying9) (fun a876_ h877_ => ?_)
  clear h868_ a867_
  refine WL.op' (m := 2) h877_ rfl rfl ?_
  refine owp_run (v := .bool (decide ((toS r863_) = ([31, 154, 10] : List UInt8)))) h877_ rfl (by kernel_rfl) (run_streq rfl rfl rfl) (fun a878_ h879_ => ?_)
  clear h877_ a876_
  refine WL.block (c := 1) (m' := 4) h879_ rfl [(4, .bool (decide ((toS r863_) = ([31, 154, 10] : List UInt8))))] (by kernel_rfl) (fun a880_ h881_ => ?_)
  clear h879_ a878_
  by_cases c882_ : (toS r863_) = ([31, 154, 10] : List UInt8)
  · rw [if_pos c882_] at H
    have hb_ : (decide ((toS r863_) = ([31, 154, 10] : List UInt8))) = true := decide_eq_true c882_
    try rw [hb_] at h881_
    clear hb_
    obtain ⟨r884_, A883_, H⟩ := bind1 H
    refine WL.op' (m := 4) h881_ rfl rfl ?_
    refine owp_call [.int .i64 5, .int .u32 10] h881_ rfl (by kernel_rfl) rfl Try.func9 (by kernel_rfl) rfl (by kernel_rfl) (prefix_Size.calls k  A883_ hS873_) (fun e886_ W885_ hp887_ => ?_)
    obtain ⟨rfl, hS890_⟩ := hp887_
    refine ⟨_, rfl, fun a888_ h889_ => ?_⟩
    clear h881_ a880_
    refine WL.op' (m := 5) h889_ rfl rfl (owp_run h889_ rfl (by kernel_rfl) (v := .bool (decide (r884_ = 1))) (by kernel_rfl) (fun a891_ h892_ => ?_))
    clear h889_ a888_
    refine WL.block (c := 2) (m' := 8) h892_ rfl [(0, .bool (decide (r884_ = 1))), (7, .bool (decide (r884_ = 1)))] (by kernel_rfl) (fun a893_ h894_ => ?_)
    clear h892_ a891_
    refine WL.done (by kernel_rfl) ?_
    refine wp_ret ?_
    have hS895_ : St b w0 W885_ R (Fs) := hS890_.drop_
    obtain rfl := Option.some.inj H
    repeat (first | refine then_ret ?_ | refine inBlock_ret ?_ | refine inBlock_go ?_)
    refine body_ret (v := .bool (decide (r884_ = 1))) h894_ (by kernel_rfl) (by kernel_rfl) ?_
    exact ⟨rfl, hS895_⟩
  · rw [if_neg c882_] at H
    have hb_ : (decide ((toS r863_) = ([31, 154, 10] : List UInt8))) = false := decide_eq_false c882_
    try rw [hb_] at h881_
    clear hb_
    refine WL.skipped (m := 4) h881_ rfl rfl (by kernel_rfl) rfl (fun a896_ h897_ => ?_)
    clear h881_ a880_
    refine WL.skipped (m := 5) h897_ rfl rfl (by kernel_rfl) rfl (fun a898_ h899_ => ?_)
    clear h897_ a896_
    refine WL.block (c := 2) (m' := 8) h899_ rfl [(0, .bool false), (7, .bool false)] (by kernel_rfl) (fun a900_ h901_ => ?_)
    clear h899_ a898_
    refine WL.done (by kernel_rfl) ?_
    refine wp_ret ?_
    have hS902_ : St b w0 W864_ R (Fs) := hS873_.drop_
    obtain rfl := Option.some.inj H
    repeat (first | refine then_ret ?_ | refine inBlock_ret ?_ | refine inBlock_go ?_)
    refine body_ret (v := .bool false) h901_ (by kernel_rfl) (by kernel_rfl) ?_
    exact ⟨rfl, hS902_⟩

/-! ### louver/louverref02.top -/
def louverref02_top.l0 : Nat → Int → Int → Int → Option (Int)
  | 0, _, _, _ => none
  | k + 1, x960_, x961_, p0 => if x961_ < p0 then (louverref02_top.l0 k (IntKind.u64.wrap (x960_ * 2)) (IntKind.i64.wrap (x961_ + 1)) p0) else (some (IntKind.u64.wrap (x960_ - 1)))
def louverref02_top.f (k : Nat) (p0 : Int) : Option (Int) := louverref02_top.l0 k 1 0 p0
set_option maxHeartbeats 2000000 in
set_option maxRecDepth 100000 in
theorem louverref02_top.calls (k : Nat) {b : Nat} {w0 W : World} {R : Frag} {Fs : List Frag} {p0 : Int}  {r0_ : Int}  (H : louverref02_top.f k p0 = some r0_) (hS : St b w0 W R (Fs)) :
    Calls Try.prog 16 ([.int .i64 p0] : List Value).toArray W (fun e W' => e = .returned (.int .u64 r0_) ∧ St b w0 W' R (Fs)) := by
  unfold louverref02_top.f at H
  refine calls_enter Try.func16 rfl 14 rfl (by kernel_rfl) (fun a h => ?_)
  refine wp_seq ?_
  refine WL.start ?_
  refine WL.block (c := 1) (m' := 1) h rfl [(2, .int .u64 0)] (by kernel_rfl) (fun a949_ h950_ => ?_)
  refine WL.done (by kernel_rfl) ?_
  refine wp_seq ?_
  refine WL.start ?_
  refine WL.block (c := 1) (m' := 1) h950_ rfl [(3, .int .u64 1)] (by kernel_rfl) (fun a951_ h952_ => ?_)
  clear h950_ a949_
  refine WL.done (by kernel_rfl) ?_
  refine wp_seq ?_
  refine wp_seq ?_
  refine WL.start ?_
  refine WL.block (c := 1) (m' := 1) h952_ rfl [(4, .int .i64 0)] (by kernel_rfl) (fun a953_ h954_ => ?_)
  clear h952_ a951_
  refine WL.done (by kernel_rfl) ?_
  refine wp_block ?_
  refine wp_loop_ghost (fun kq_ a_ W_ => ∃ (x960_ : Int), ∃ (x961_ : Int), Hd a_ 14 [(0, .int .i64 p0), (3, .int .u64 x960_), (4, .int .i64 x961_)] ∧ Asd (louverref02_top.l0 kq_ x960_ x961_ p0 = some r0_) ∧ Asd (kq_ ≤ k) ∧ Asd (St b w0 W_ R (Fs))) k ⟨1, 0, h954_.keep ⟨rfl, rfl, rfl, trivial⟩, ⟨H⟩, ⟨Nat.le_refl _⟩, ⟨hS⟩⟩ ?_
  clear H hS
  rintro k959_ a956_ W957_ ⟨x960_, x961_, h955_, ⟨H⟩, ⟨hkk959_⟩, ⟨hS958_⟩⟩
  obtain _ | k962_ := k959_
  · exact absurd H (by simp [louverref02_top.l0])
  simp only [louverref02_top.l0] at H
  refine wp_seq ?_
  refine wp_seq ?_
  refine WL.start ?_
  refine WL.block (c := 3) (m' := 3) h955_ rfl [(7, .bool (decide (x961_ < p0))), (6, .int .i64 p0), (5, .int .i64 x961_)] (by kernel_rfl) (fun a963_ h964_ => ?_)
  clear h955_ a956_
  refine WL.done (by kernel_rfl) ?_
  by_cases c965_ : x961_ < p0
  · rw [if_pos c965_] at H
    have hb_ : (decide (x961_ < p0)) = true := decide_eq_true c965_
    try rw [hb_] at h964_
    clear hb_
    refine wp_then h964_ rfl ?_
    refine wp_skip ?_
    refine wp_seq ?_
    refine wp_block ?_
    refine WL.start ?_
    refine WL.block (c := 3) (m' := 3) h964_ rfl [(3, .int .u64 (IntKind.u64.wrap (x960_ * 2))), (11, .int .u64 (IntKind.u64.wrap (x960_ * 2))), (10, .int .u64 x960_)] (by kernel_rfl) (fun a966_ h967_ => ?_)
    clear h964_ a963_
    refine WL.done (by kernel_rfl) ?_
    refine WL.start ?_
    refine WL.block (c := 3) (m' := 3) h967_ rfl [(4, .int .i64 (IntKind.i64.wrap (x961_ + 1))), (9, .int .i64 (IntKind.i64.wrap (x961_ + 1))), (8, .int .i64 x961_)] (by kernel_rfl) (fun a968_ h969_ => ?_)
    clear h967_ a966_
    refine WL.done (by kernel_rfl) ?_
    exact ⟨k962_, by omega, IntKind.u64.wrap (x960_ * 2), IntKind.i64.wrap (x961_ + 1), h969_.keep ⟨rfl, rfl, rfl, trivial⟩, ⟨H⟩, ⟨by omega⟩, ⟨hS958_⟩⟩
  · rw [if_neg c965_] at H
    have hb_ : (decide (x961_ < p0)) = false := decide_eq_false c965_
    try rw [hb_] at h964_
    clear hb_
    refine wp_else h964_ rfl ?_
    refine wp_exit ?_
    refine wp_seq ?_
    refine WL.start ?_
    refine WL.block (c := 3) (m' := 3) h964_ rfl [(2, .int .u64 (IntKind.u64.wrap (x960_ - 1))), (13, .int .u64 (IntKind.u64.wrap (x960_ - 1))), (12, .int .u64 x960_)] (by kernel_rfl) (fun a970_ h971_ => ?_)
    clear h964_ a963_
    refine WL.done (by kernel_rfl) ?_
    refine wp_ret ?_
    obtain rfl := Option.some.inj H
    repeat (first | refine then_ret ?_ | refine inBlock_ret ?_ | refine inBlock_go ?_)
    refine body_ret (v := .int .u64 (IntKind.u64.wrap (x960_ - 1))) h971_ (by kernel_rfl) (by kernel_rfl) ?_
    exact ⟨rfl, hS958_⟩

/-! ### louver/louverref02.Put -/
def louverref02_Put.l0 : Nat → (List Int) → Int → Option ((List Int))
  | 0, _, _ => none
  | k + 1, x1322_, x1327_ => if x1327_ ≥ 128 then (if x1322_.length + 1 ≤ 140737488355328 then (lt1 (x1322_ ++ ([IntKind.u8.wrap (IntKind.u64.wrap ((Int.tmod x1327_ 128) + 128))] : List Int) : List Int) fun y1351_ => (louverref02_Put.l0 k y1351_ (IntKind.u64.wrap (Int.tdiv x1327_ 128)))) else (none)) else (if x1322_.length + 1 ≤ 140737488355328 then (lt1 (x1322_ ++ ([IntKind.u8.wrap x1327_] : List Int) : List Int) fun y1379_ => (some y1379_)) else (none))
def louverref02_Put.f (k : Nat) (p0 : Int) (p1 : Int) (p2 : Int) : Option ((List Int)) := bnd1 (louverref02_top.f k p0) fun r1273_ => (if ¬ ((IntKind.u64.wrap (r1273_ + 1)) = 0) then (if (IntKind.u64.wrap p2) < r1273_ then (some ([IntKind.u8.wrap (IntKind.u64.wrap ((IntKind.u64.wrap ((IntKind.u64.wrap (Int.tdiv (IntKind.u64.wrap p1) (IntKind.u64.wrap (r1273_ + 1)))) * (IntKind.u64.wrap (r1273_ + 1)))) + (IntKind.u64.wrap p2)))] : List Int)) else (louverref02_Put.l0 k ([IntKind.u8.wrap (IntKind.u64.wrap ((IntKind.u64.wrap ((IntKind.u64.wrap (Int.tdiv (IntKind.u64.wrap p1) (IntKind.u64.wrap (r1273_ + 1)))) * (IntKind.u64.wrap (r1273_ + 1)))) + r1273_))] : List Int) (IntKind.u64.wrap ((IntKind.u64.wrap p2) - r1273_)))) else (none))
set_option maxHeartbeats 2000000 in
set_option maxRecDepth 100000 in
theorem louverref02_Put.calls (k : Nat) {b : Nat} {w0 W : World} {R : Frag} {Fs : List Frag} {p0 : Int} {p1 : Int} {p2 : Int}  {r0_ : (List Int)}  (H : louverref02_Put.f k p0 p1 p2 = some r0_) (hS : St b w0 W R (Fs)) :
    Calls Try.prog 11 ([.int .i64 p0, .int .u8 p1, .int .u32 p2] : List Value).toArray W (fun e W' => ∃ (u0_ : Value) (N0_ : Frag), e = .returned (u0_) ∧ Row (kInt .u8) 5 b w0 R u0_ r0_ N0_ ∧ St b w0 W' R (N0_ :: Fs)) := by
  unfold louverref02_Put.f at H
  refine calls_enter Try.func11 rfl 56 rfl (by kernel_rfl) (fun a h => ?_)
  refine wp_seq ?_
  refine WL.start ?_
  refine WL.block (c := 1) (m' := 1) h rfl [(6, .slice none 0 0)] (by kernel_rfl) (fun a1268_ h1269_ => ?_)
  refine WL.done (by kernel_rfl) ?_
  refine wp_seq ?_
  refine WL.start ?_
  refine WL.block (c := 1) (m' := 1) h1269_ rfl [(11, .int .i64 p0)] (by kernel_rfl) (fun a1270_ h1271_ => ?_)
  clear h1269_ a1268_
  obtain ⟨r1273_, A1272_, H⟩ := bind1 H
  refine WL.op' (m := 1) h1271_ rfl rfl ?_
  refine owp_call [.int .i64 p0] h1271_ rfl (by kernel_rfl) rfl Try.func16 (by kernel_rfl) rfl (by kernel_rfl) (louverref02_top.calls k  A1272_ hS) (fun e1275_ W1274_ hp1276_ => ?_)
  obtain ⟨rfl, hS1279_⟩ := hp1276_
  refine ⟨_, rfl, fun a1277_ h1278_ => ?_⟩
  clear h1271_ a1270_
  refine WL.block (c := 1) (m' := 3) h1278_ rfl [(7, .int .u64 r1273_)] (by kernel_rfl) (fun a1280_ h1281_ => ?_)
  clear h1278_ a1277_
  refine WL.done (by kernel_rfl) ?_
  refine wp_seq ?_
  refine WL.start ?_
  refine WL.block (c := 4) (m' := 4) h1281_ rfl [(16, .int .u64 (IntKind.u64.wrap (r1273_ + 1))), (15, .int .u64 r1273_), (14, .int .u64 (IntKind.u64.wrap p1)), (13, .int .u8 p1)] (by kernel_rfl) (fun a1282_ h1283_ => ?_)
  clear h1281_ a1280_
  by_cases c1284_ : ¬ ((IntKind.u64.wrap (r1273_ + 1)) = 0)
  · rw [if_pos c1284_] at H
    refine WL.op' (m := 4) h1283_ rfl rfl ?_
    refine owp_run (v := .int .u64 (IntKind.u64.wrap (Int.tdiv (IntKind.u64.wrap p1) (IntKind.u64.wrap (r1273_ + 1))))) h1283_ rfl (by kernel_rfl) (run_quo rfl rfl rfl (by assumption)) (fun a1285_ h1286_ => ?_)
    clear h1283_ a1282_
    refine WL.block (c := 4) (m' := 9) h1286_ rfl [(8, .int .u64 (IntKind.u64.wrap ((IntKind.u64.wrap (Int.tdiv (IntKind.u64.wrap p1) (IntKind.u64.wrap (r1273_ + 1)))) * (IntKind.u64.wrap (r1273_ + 1))))), (20, .int .u64 (IntKind.u64.wrap ((IntKind.u64.wrap (Int.tdiv (IntKind.u64.wrap p1) (IntKind.u64.wrap (r1273_ + 1)))) * (IntKind.u64.wrap (r1273_ + 1))))), (19, .int .u64 (IntKind.u64.wrap (r1273_ + 1))), (18, .int .u64 r1273_)] (by kernel_rfl) (fun a1287_ h1288_ => ?_)
    clear h1286_ a1285_
    refine WL.done (by kernel_rfl) ?_
    refine wp_seq ?_
    refine wp_seq ?_
    refine WL.start ?_
    refine WL.block (c := 4) (m' := 4) h1288_ rfl [(24, .bool (decide ((IntKind.u64.wrap p2) < r1273_))), (23, .int .u64 r1273_), (22, .int .u64 (IntKind.u64.wrap p2)), (21, .int .u32 p2)] (by kernel_rfl) (fun a1289_ h1290_ => ?_)
    clear h1288_ a1287_
    refine WL.done (by kernel_rfl) ?_
    by_cases c1291_ : (IntKind.u64.wrap p2) < r1273_
    · rw [if_pos c1291_] at H
      have hb_ : (decide ((IntKind.u64.wrap p2) < r1273_)) = true := decide_eq_true c1291_
      try rw [hb_] at h1290_
      clear hb_
      refine wp_then h1290_ rfl ?_
      refine wp_seq ?_
      refine WL.start ?_
      refine WL.block (c := 5) (m' := 5) h1290_ rfl [(29, .int .u8 (IntKind.u8.wrap (IntKind.u64.wrap ((IntKind.u64.wrap ((IntKind.u64.wrap (Int.tdiv (IntKind.u64.wrap p1) (IntKind.u64.wrap (r1273_ + 1)))) * (IntKind.u64.wrap (r1273_ + 1)))) + (IntKind.u64.wrap p2))))), (28, .int .u64 (IntKind.u64.wrap ((IntKind.u64.wrap ((IntKind.u64.wrap (Int.tdiv (IntKind.u64.wrap p1) (IntKind.u64.wrap (r1273_ + 1)))) * (IntKind.u64.wrap (r1273_ + 1)))) + (IntKind.u64.wrap p2)))), (27, .int .u64 (IntKind.u64.wrap p2)), (26, .int .u32 p2), (25, .int .u64 (IntKind.u64.wrap ((IntKind.u64.wrap (Int.tdiv (IntKind.u64.wrap p1) (IntKind.u64.wrap (r1273_ + 1)))) * (IntKind.u64.wrap (r1273_ + 1)))))] (by kernel_rfl) (fun a1292_ h1293_ => ?_)
      clear h1290_ a1289_
      refine WL.op' (m := 5) h1293_ rfl rfl ?_
      refine owp_new (fun g_ => .slice (some ⟨g_, 0, none⟩) 1 1) (.cells ([.int .u8 (IntKind.u8.wrap (IntKind.u64.wrap ((IntKind.u64.wrap ((IntKind.u64.wrap (Int.tdiv (IntKind.u64.wrap p1) (IntKind.u64.wrap (r1273_ + 1)))) * (IntKind.u64.wrap (r1273_ + 1)))) + (IntKind.u64.wrap p2))))] : List Value).toArray 5 (0, 0)) h1293_ rfl (by kernel_rfl) (by kernel_rfl) hS1279_ (fun a1294_ W1296_ g1297_ h1295_ hS1298_ => ?_)
      clear h1293_ a1292_
      have hr1300_ : Row (kInt .u8) 5 b w0 R (.slice (some ⟨g1297_, 0, none⟩) 1 1) ([IntKind.u8.wrap (IntKind.u64.wrap ((IntKind.u64.wrap ((IntKind.u64.wrap (Int.tdiv (IntKind.u64.wrap p1) (IntKind.u64.wrap (r1273_ + 1)))) * (IntKind.u64.wrap (r1273_ + 1)))) + (IntKind.u64.wrap p2)))] : List Int) [(g1297_, .cells ([.int .u8 (IntKind.u8.wrap (IntKind.u64.wrap ((IntKind.u64.wrap ((IntKind.u64.wrap (Int.tdiv (IntKind.u64.wrap p1) (IntKind.u64.wrap (r1273_ + 1)))) * (IntKind.u64.wrap (r1273_ + 1)))) + (IntKind.u64.wrap p2))))] : List Value).toArray 5 (0, 0))] := Row.lit (xs := ([IntKind.u8.wrap (IntKind.u64.wrap ((IntKind.u64.wrap ((IntKind.u64.wrap (Int.tdiv (IntKind.u64.wrap p1) (IntKind.u64.wrap (r1273_ + 1)))) * (IntKind.u64.wrap (r1273_ + 1)))) + (IntKind.u64.wrap p2)))] : List Int)) (Mi := []) ⟨_, _, [], _, rfl, rfl, ⟨rfl, rfl⟩, ⟨rfl, rfl⟩⟩ (by simp [maxLen])
      refine WL.block (c := 1) (m' := 7) h1295_ rfl [(6, .slice (some ⟨g1297_, 0, none⟩) 1 1)] (by kernel_rfl) (fun a1301_ h1302_ => ?_)
      clear h1295_ a1294_
      refine WL.done (by kernel_rfl) ?_
      refine wp_ret ?_
      obtain rfl := Option.some.inj H
      repeat (first | refine then_ret ?_ | refine inBlock_ret ?_ | refine inBlock_go ?_)
      refine body_ret (v := .slice (some ⟨g1297_, 0, none⟩) 1 1) h1302_ (by kernel_rfl) (by kernel_rfl) ?_
      exact ⟨.slice (some ⟨g1297_, 0, none⟩) 1 1, [(g1297_, .cells ([.int .u8 (IntKind.u8.wrap (IntKind.u64.wrap ((IntKind.u64.wrap ((IntKind.u64.wrap (Int.tdiv (IntKind.u64.wrap p1) (IntKind.u64.wrap (r1273_ + 1)))) * (IntKind.u64.wrap (r1273_ + 1)))) + (IntKind.u64.wrap p2))))] : List Value).toArray 5 (0, 0))], rfl, hr1300_, hS1298_⟩
    · rw [if_neg c1291_] at H
      have hb_ : (decide ((IntKind.u64.wrap p2) < r1273_)) = false := decide_eq_false c1291_
      try rw [hb_] at h1290_
      clear hb_
      refine wp_else h1290_ rfl ?_
      refine wp_skip ?_
      refine wp_seq ?_
      refine WL.start ?_
      refine WL.block (c := 4) (m' := 4) h1290_ rfl [(34, .int .u8 (IntKind.u8.wrap (IntKind.u64.wrap ((IntKind.u64.wrap ((IntKind.u64.wrap (Int.tdiv (IntKind.u64.wrap p1) (IntKind.u64.wrap (r1273_ + 1)))) * (IntKind.u64.wrap (r1273_ + 1)))) + r1273_)))), (33, .int .u64 (IntKind.u64.wrap ((IntKind.u64.wrap ((IntKind.u64.wrap (Int.tdiv (IntKind.u64.wrap p1) (IntKind.u64.wrap (r1273_ + 1)))) * (IntKind.u64.wrap (r1273_ + 1)))) + r1273_))), (32, .int .u64 r1273_), (31, .int .u64 (IntKind.u64.wrap ((IntKind.u64.wrap (Int.tdiv (IntKind.u64.wrap p1) (IntKind.u64.wrap (r1273_ + 1)))) * (IntKind.u64.wrap (r1273_ + 1)))))] (by kernel_rfl) (fun a1303_ h1304_ => ?_)
      clear h1290_ a1289_
      refine WL.op' (m := 4) h1304_ rfl rfl ?_
      refine owp_new (fun g_ => .slice (some ⟨g_, 0, none⟩) 1 1) (.cells ([.int .u8 (IntKind.u8.wrap (IntKind.u64.wrap ((IntKind.u64.wrap ((IntKind.u64.wrap (Int.tdiv (IntKind.u64.wrap p1) (IntKind.u64.wrap (r1273_ + 1)))) * (IntKind.u64.wrap (r1273_ + 1)))) + r1273_)))] : List Value).toArray 5 (0, 0)) h1304_ rfl (by kernel_rfl) (by kernel_rfl) hS1279_ (fun a1305_ W1307_ g1308_ h1306_ hS1309_ => ?_)
      clear h1304_ a1303_
      have hr1311_ : Row (kInt .u8) 5 b w0 R (.slice (some ⟨g1308_, 0, none⟩) 1 1) ([IntKind.u8.wrap (IntKind.u64.wrap ((IntKind.u64.wrap ((IntKind.u64.wrap (Int.tdiv (IntKind.u64.wrap p1) (IntKind.u64.wrap (r1273_ + 1)))) * (IntKind.u64.wrap (r1273_ + 1)))) + r1273_))] : List Int) [(g1308_, .cells ([.int .u8 (IntKind.u8.wrap (IntKind.u64.wrap ((IntKind.u64.wrap ((IntKind.u64.wrap (Int.tdiv (IntKind.u64.wrap p1) (IntKind.u64.wrap (r1273_ + 1)))) * (IntKind.u64.wrap (r1273_ + 1)))) + r1273_)))] : List Value).toArray 5 (0, 0))] := Row.lit (xs := ([IntKind.u8.wrap (IntKind.u64.wrap ((IntKind.u64.wrap ((IntKind.u64.wrap (Int.tdiv (IntKind.u64.wrap p1) (IntKind.u64.wrap (r1273_ + 1)))) * (IntKind.u64.wrap (r1273_ + 1)))) + r1273_))] : List Int)) (Mi := []) ⟨_, _, [], _, rfl, rfl, ⟨rfl, rfl⟩, ⟨rfl, rfl⟩⟩ (by simp [maxLen])
      refine WL.block (c := 1) (m' := 6) h1306_ rfl [(9, .slice (some ⟨g1308_, 0, none⟩) 1 1)] (by kernel_rfl) (fun a1312_ h1313_ => ?_)
      clear h1306_ a1305_
      refine WL.done (by kernel_rfl) ?_
      refine wp_seq ?_
      refine WL.start ?_
      refine WL.block (c := 5) (m' := 5) h1313_ rfl [(10, .int .u64 (IntKind.u64.wrap ((IntKind.u64.wrap p2) - r1273_))), (39, .int .u64 (IntKind.u64.wrap ((IntKind.u64.wrap p2) - r1273_))), (38, .int .u64 r1273_), (37, .int .u64 (IntKind.u64.wrap p2)), (36, .int .u32 p2)] (by kernel_rfl) (fun a1314_ h1315_ => ?_)
      clear h1313_ a1312_
      refine WL.done (by kernel_rfl) ?_
      refine wp_seq ?_
      refine wp_block ?_
      refine wp_loop_ghost (fun kq_ a_ W_ => ∃ (x1322_ : (List Int)), ∃ (A1323_ : Option Addr), ∃ (c1324_ : Nat), ∃ (M1325_ : Frag), ∃ (x1327_ : Int), Hd a_ 56 [(9, .slice A1323_ x1322_.length c1324_), (10, .int .u64 x1327_)] ∧ Asd (louverref02_Put.l0 kq_ x1322_ x1327_ = some r0_) ∧ Asd (kq_ ≤ k) ∧ Asd (St b w0 W_ R (M1325_ :: Fs)) ∧ Asd (Row (kInt .u8) 5 b w0 R (.slice A1323_ x1322_.length c1324_) x1322_ M1325_)) k ⟨([IntKind.u8.wrap (IntKind.u64.wrap ((IntKind.u64.wrap ((IntKind.u64.wrap (Int.tdiv (IntKind.u64.wrap p1) (IntKind.u64.wrap (r1273_ + 1)))) * (IntKind.u64.wrap (r1273_ + 1)))) + r1273_))] : List Int), (some ⟨g1308_, 0, none⟩), 1, [(g1308_, .cells ([.int .u8 (IntKind.u8.wrap (IntKind.u64.wrap ((IntKind.u64.wrap ((IntKind.u64.wrap (Int.tdiv (IntKind.u64.wrap p1) (IntKind.u64.wrap (r1273_ + 1)))) * (IntKind.u64.wrap (r1273_ + 1)))) + r1273_)))] : List Value).toArray 5 (0, 0))], IntKind.u64.wrap ((IntKind.u64.wrap p2) - r1273_), h1315_.keep ⟨rfl, rfl, trivial⟩, ⟨H⟩, ⟨Nat.le_refl _⟩, ⟨hS1309_⟩, ⟨hr1311_⟩⟩ ?_
      clear H hS1309_
      rintro k1320_ a1317_ W1318_ ⟨x1322_, A1323_, c1324_, M1325_, x1327_, h1316_, ⟨H⟩, ⟨hkk1320_⟩, ⟨hS1319_⟩, ⟨hr1326_⟩⟩
      obtain _ | k1328_ := k1320_
      · exact absurd H (by simp [louverref02_Put.l0])
      simp only [louverref02_Put.l0] at H
      refine wp_seq ?_
      refine wp_seq ?_
      refine WL.start ?_
      refine WL.block (c := 2) (m' := 2) h1316_ rfl [(41, .bool (decide (x1327_ ≥ 128))), (40, .int .u64 x1327_)] (by kernel_rfl) (fun a1329_ h1330_ => ?_)
      clear h1316_ a1317_
      refine WL.done (by kernel_rfl) ?_
      by_cases c1331_ : x1327_ ≥ 128
      · rw [if_pos c1331_] at H
        have hb_ : (decide (x1327_ ≥ 128)) = true := decide_eq_true c1331_
        try rw [hb_] at h1330_
        clear hb_
        refine wp_then h1330_ rfl ?_
        refine wp_skip ?_
        refine wp_block ?_
        refine wp_seq ?_
        refine WL.start ?_
        refine WL.block (c := 5) (m' := 5) h1330_ rfl [(46, .int .u8 (IntKind.u8.wrap (IntKind.u64.wrap ((Int.tmod x1327_ 128) + 128)))), (45, .int .u64 (IntKind.u64.wrap ((Int.tmod x1327_ 128) + 128))), (44, .int .u64 (Int.tmod x1327_ 128)), (43, .int .u64 x1327_), (42, .slice A1323_ x1322_.length c1324_)] (by kernel_rfl) (fun a1332_ h1333_ => ?_)
        clear h1330_ a1329_
        refine WL.op' (m := 5) h1333_ rfl rfl ?_
        refine owp_new (fun g_ => .slice (some ⟨g_, 0, none⟩) 1 1) (.cells ([.int .u8 (IntKind.u8.wrap (IntKind.u64.wrap ((Int.tmod x1327_ 128) + 128)))] : List Value).toArray 5 (0, 0)) h1333_ rfl (by kernel_rfl) (by kernel_rfl) hS1319_ (fun a1334_ W1336_ g1337_ h1335_ hS1338_ => ?_)
        clear h1333_ a1332_
        have hr1340_ : Row (kInt .u8) 5 b w0 R (.slice (some ⟨g1337_, 0, none⟩) 1 1) ([IntKind.u8.wrap (IntKind.u64.wrap ((Int.tmod x1327_ 128) + 128))] : List Int) [(g1337_, .cells ([.int .u8 (IntKind.u8.wrap (IntKind.u64.wrap ((Int.tmod x1327_ 128) + 128)))] : List Value).toArray 5 (0, 0))] := Row.lit (xs := ([IntKind.u8.wrap (IntKind.u64.wrap ((Int.tmod x1327_ 128) + 128))] : List Int)) (Mi := []) ⟨_, _, [], _, rfl, rfl, ⟨rfl, rfl⟩, ⟨rfl, rfl⟩⟩ (by simp [maxLen])
        by_cases c1341_ : x1322_.length + 1 ≤ 140737488355328
        · rw [if_pos c1341_] at H
          have hS1342_ : St b w0 W1336_ R (M1325_ :: [(g1337_, .cells ([.int .u8 (IntKind.u8.wrap (IntKind.u64.wrap ((Int.tmod x1327_ 128) + 128)))] : List Value).toArray 5 (0, 0))] :: Fs) := hS1338_.bring 1 rfl rfl
          refine WL.op' (m := 6) h1335_ rfl rfl ?_
          refine owp_app_take (z := .int .u8 0) (bytes := 1) (dk := (kInt .u8)) h1335_ rfl (by kernel_rfl) rfl rfl rfl hr1326_ hr1340_ hS1342_ Try.underlying26 (by kernel_rfl) rfl (by decide) (by decide) (by first | omega | (simp only [List.length_cons, List.length_nil] at *; omega)) (fun a1343_ W1345_ v1346_ M1347_ h1344_ hr1348_ hS1349_ => ?_)
          clear h1335_ a1334_
          obtain ⟨y1351_, hy1352_, H⟩ := lete H
          have hr1353_ : Row (kInt .u8) 5 b w0 R v1346_ y1351_ M1347_ := by rw [hy1352_]; exact hr1348_
          clear hr1348_
          obtain ⟨A1354_, c1355_, rfl⟩ := hr1353_.form
          refine WL.block (c := 1) (m' := 8) h1344_ rfl [(9, .slice A1354_ y1351_.length c1355_)] (by kernel_rfl) (fun a1356_ h1357_ => ?_)
          clear h1344_ a1343_
          refine WL.done (by kernel_rfl) ?_
          refine WL.start ?_
          refine WL.block (c := 3) (m' := 3) h1357_ rfl [(10, .int .u64 (IntKind.u64.wrap (Int.tdiv x1327_ 128))), (50, .int .u64 (IntKind.u64.wrap (Int.tdiv x1327_ 128))), (49, .int .u64 x1327_)] (by kernel_rfl) (fun a1358_ h1359_ => ?_)
          clear h1357_ a1356_
          refine WL.done (by kernel_rfl) ?_
          exact ⟨k1328_, by omega, y1351_, A1354_, c1355_, M1347_, IntKind.u64.wrap (Int.tdiv x1327_ 128), h1359_.keep ⟨rfl, rfl, trivial⟩, ⟨H⟩, ⟨by omega⟩, ⟨hS1349_⟩, ⟨hr1353_⟩⟩
        · rw [if_neg c1341_] at H
          cases H
      · rw [if_neg c1331_] at H
        have hb_ : (decide (x1327_ ≥ 128)) = false := decide_eq_false c1331_
        try rw [hb_] at h1330_
        clear hb_
        refine wp_else h1330_ rfl ?_
        refine wp_exit ?_
        refine wp_seq ?_
        refine WL.start ?_
        refine WL.block (c := 3) (m' := 3) h1330_ rfl [(53, .int .u8 (IntKind.u8.wrap x1327_)), (52, .int .u64 x1327_), (51, .slice A1323_ x1322_.length c1324_)] (by kernel_rfl) (fun a1360_ h1361_ => ?_)
        clear h1330_ a1329_
        refine WL.op' (m := 3) h1361_ rfl rfl ?_
        refine owp_new (fun g_ => .slice (some ⟨g_, 0, none⟩) 1 1) (.cells ([.int .u8 (IntKind.u8.wrap x1327_)] : List Value).toArray 5 (0, 0)) h1361_ rfl (by kernel_rfl) (by kernel_rfl) hS1319_ (fun a1362_ W1364_ g1365_ h1363_ hS1366_ => ?_)
        clear h1361_ a1360_
        have hr1368_ : Row (kInt .u8) 5 b w0 R (.slice (some ⟨g1365_, 0, none⟩) 1 1) ([IntKind.u8.wrap x1327_] : List Int) [(g1365_, .cells ([.int .u8 (IntKind.u8.wrap x1327_)] : List Value).toArray 5 (0, 0))] := Row.lit (xs := ([IntKind.u8.wrap x1327_] : List Int)) (Mi := []) ⟨_, _, [], _, rfl, rfl, ⟨rfl, rfl⟩, ⟨rfl, rfl⟩⟩ (by simp [maxLen])
        by_cases c1369_ : x1322_.length + 1 ≤ 140737488355328
        · rw [if_pos c1369_] at H
          have hS1370_ : St b w0 W1364_ R (M1325_ :: [(g1365_, .cells ([.int .u8 (IntKind.u8.wrap x1327_)] : List Value).toArray 5 (0, 0))] :: Fs) := hS1366_.bring 1 rfl rfl
          refine WL.op' (m := 4) h1363_ rfl rfl ?_
          refine owp_app_take (z := .int .u8 0) (bytes := 1) (dk := (kInt .u8)) h1363_ rfl (by kernel_rfl) rfl rfl rfl hr1326_ hr1368_ hS1370_ Try.underlying26 (by kernel_rfl) rfl (by decide) (by decide) (by first | omega | (simp only [List.length_cons, List.length_nil] at *; omega)) (fun a1371_ W1373_ v1374_ M1375_ h1372_ hr1376_ hS1377_ => ?_)
          clear h1363_ a1362_
          obtain ⟨y1379_, hy1380_, H⟩ := lete H
          have hr1381_ : Row (kInt .u8) 5 b w0 R v1374_ y1379_ M1375_ := by rw [hy1380_]; exact hr1376_
          clear hr1376_
          obtain ⟨A1382_, c1383_, rfl⟩ := hr1381_.form
          refine WL.block (c := 1) (m' := 6) h1372_ rfl [(6, .slice A1382_ y1379_.length c1383_)] (by kernel_rfl) (fun a1384_ h1385_ => ?_)
          clear h1372_ a1371_
          refine WL.done (by kernel_rfl) ?_
          refine wp_ret ?_
          obtain rfl := Option.some.inj H
          repeat (first | refine then_ret ?_ | refine inBlock_ret ?_ | refine inBlock_go ?_)
          refine body_ret (v := .slice A1382_ y1379_.length c1383_) h1385_ (by kernel_rfl) (by kernel_rfl) ?_
          exact ⟨.slice A1382_ y1379_.length c1383_, M1375_, rfl, hr1381_, hS1377_⟩
        · rw [if_neg c1369_] at H
          cases H
  · rw [if_neg c1284_] at H
    cases H

/-! ### louver/prefix.Get -/
def prefix_Get.l0 : Nat → Int → Int → (List Int) → Option (Int × Int × Int)
  | 0, _, _, _ => none
  | k + 1, x1697_, x1698_, p0 => if x1698_ < ((p0.drop (1 : Int).toNat).length : Int) then (if 0 ≤ x1698_ then (if x1698_ = 4 then (some (0, 0, 4)) else (if 0 ≤ (IntKind.i64.wrap (7 * x1698_)) then (if (gt (0 : Int) (p0.drop (1 : Int).toNat) x1698_) < 128 then (if (IntKind.u64.wrap (x1697_ + (shlI .u64 (IntKind.u64.wrap (bAnd .u8 (gt (0 : Int) (p0.drop (1 : Int).toNat) x1698_) 127)) (IntKind.i64.wrap (7 * x1698_))))) > 268435456 then (some (0, 0, 4)) else (some (IntKind.u32.wrap (IntKind.u64.wrap (x1697_ + (shlI .u64 (IntKind.u64.wrap (bAnd .u8 (gt (0 : Int) (p0.drop (1 : Int).toNat) x1698_) 127)) (IntKind.i64.wrap (7 * x1698_))))), IntKind.i64.wrap (x1698_ + 2), 0))) else (prefix_Get.l0 k (IntKind.u64.wrap (x1697_ + (shlI .u64 (IntKind.u64.wrap (bAnd .u8 (gt (0 : Int) (p0.drop (1 : Int).toNat) x1698_) 127)) (IntKind.i64.wrap (7 * x1698_))))) (IntKind.i64.wrap (x1698_ + 1)) p0)) else (none))) else (none)) else (some (0, 0, 2))
def prefix_Get.f (k : Nat) (p0 : (List Int)) (p1 : Int) : Option (Int × Int × Int) := bnd1 (prefix_right.f p1) fun r1635_ => (if r1635_ = true then (if (p0.length : Int) = 0 then (some (0, 0, 2)) else (if 0 ≤ p1 then (if 0 < (p0.length : Int) then (if (bAnd .u64 (IntKind.u64.wrap (gt (0 : Int) p0 (0 : Int))) (IntKind.u64.wrap (IntKind.u32.wrap ((shlI .u32 1 p1) - 1)))) < (IntKind.u64.wrap (IntKind.u32.wrap ((shlI .u32 1 p1) - 1))) then (some (IntKind.u32.wrap (bAnd .u64 (IntKind.u64.wrap (gt (0 : Int) p0 (0 : Int))) (IntKind.u64.wrap (IntKind.u32.wrap ((shlI .u32 1 p1) - 1)))), 1, 0)) else (if 1 ≤ (p0.length : Int) then (prefix_Get.l0 k (bAnd .u64 (IntKind.u64.wrap (gt (0 : Int) p0 (0 : Int))) (IntKind.u64.wrap (IntKind.u32.wrap ((shlI .u32 1 p1) - 1)))) 0 p0) else (none))) else (none)) else (none))) else (some (0, 0, 1)))
set_option maxHeartbeats 2000000 in
set_option maxRecDepth 100000 in
theorem prefix_Get.calls (k : Nat) {b : Nat} {w0 W : World} {R : Frag} {Fs : List Frag} {p0 : (List Int)} {p1 : Int} {v0 : Value} {r0_ : Int} {r1_ : Int} {r2_ : Int} (hp0 : Rds (kInt .u8) b w0 R v0 p0) (H : prefix_Get.f k p0 p1 = some (r0_, r1_, r2_)) (hS : St b w0 W R (Fs)) :
    Calls Try.prog 12 ([v0, .int .i64 p1] : List Value).toArray W (fun e W' => e = .returned (.tuple #[.int .u32 r0_, .int .i64 r1_, .int .i64 r2_]) ∧ St b w0 W' R (Fs)) := by
  obtain ⟨A0, c0, rfl⟩ := hp0.form
  unfold prefix_Get.f at H
  refine calls_enter Try.func12 rfl 62 rfl (by kernel_rfl) (fun a h => ?_)
  refine wp_seq ?_
  refine WL.start ?_
  refine WL.block (c := 3) (m' := 3) h rfl [(6, .int .i64 0), (5, .int .i64 0), (4, .int .u32 0)] (by kernel_rfl) (fun a1630_ h1631_ => ?_)
  refine WL.done (by kernel_rfl) ?_
  refine wp_seq ?_
  refine wp_block ?_
  refine wp_seq ?_
  refine WL.start ?_
  refine WL.block (c := 1) (m' := 1) h1631_ rfl [(12, .int .i64 p1)] (by kernel_rfl) (fun a1632_ h1633_ => ?_)
  clear h1631_ a1630_
  obtain ⟨r1635_, A1634_, H⟩ := bind1 H
  refine WL.op' (m := 1) h1633_ rfl rfl ?_
  refine owp_call [.int .i64 p1] h1633_ rfl (by kernel_rfl) rfl Try.func15 (by kernel_rfl) rfl (by kernel_rfl) (prefix_right.calls  A1634_ hS) (fun e1637_ W1636_ hp1638_ => ?_)
  obtain ⟨rfl, hS1641_⟩ := hp1638_
  refine ⟨_, rfl, fun a1639_ h1640_ => ?_⟩
  clear h1633_ a1632_
  refine WL.block (c := 2) (m' := 4) h1640_ rfl [(11, .bool (!r1635_)), (14, .bool (!r1635_))] (by kernel_rfl) (fun a1642_ h1643_ => ?_)
  clear h1640_ a1639_
  refine WL.done (by kernel_rfl) ?_
  by_cases c1644_ : r1635_ = true
  · rw [if_pos c1644_] at H
    have hb_ : r1635_ = true := c1644_
    try rw [hb_] at h1643_
    clear hb_
    refine wp_else h1643_ rfl ?_
    refine wp_seq ?_
    refine WL.start ?_
    refine WL.block (c := 4) (m' := 4) h1643_ rfl [(15, .bool (decide ((p0.length : Int) = 0))), (18, .bool (decide ((p0.length : Int) = 0))), (17, .int .i64 (p0.length : Int)), (16, .slice A0 p0.length c0)] (by kernel_rfl) (fun a1645_ h1646_ => ?_)
    clear h1643_ a1642_
    refine WL.done (by kernel_rfl) ?_
    by_cases c1647_ : (p0.length : Int) = 0
    · rw [if_pos c1647_] at H
      have hb_ : (decide ((p0.length : Int) = 0)) = true := decide_eq_true c1647_
      try rw [hb_] at h1646_
      clear hb_
      refine wp_then h1646_ rfl ?_
      refine wp_seq ?_
      refine WL.start ?_
      refine WL.block (c := 3) (m' := 3) h1646_ rfl [(6, .int .i64 2), (5, .int .i64 0), (4, .int .u32 0)] (by kernel_rfl) (fun a1648_ h1649_ => ?_)
      clear h1646_ a1645_
      refine WL.done (by kernel_rfl) ?_
      refine wp_ret ?_
      obtain ⟨rfl, rfl, rfl⟩ := ret3 H
      repeat (first | refine then_ret ?_ | refine inBlock_ret ?_ | refine inBlock_go ?_)
      refine body_ret (v := .tuple #[.int .u32 0, .int .i64 0, .int .i64 2]) h1649_ (by kernel_rfl) (by kernel_rfl) ?_
      exact ⟨rfl, hS1641_⟩
    · rw [if_neg c1647_] at H
      have hb_ : (decide ((p0.length : Int) = 0)) = false := decide_eq_false c1647_
      try rw [hb_] at h1646_
      clear hb_
      refine wp_else h1646_ rfl ?_
      refine wp_skip ?_
      refine wp_seq ?_
      refine WL.start ?_
      refine WL.block (c := 1) (m' := 1) h1646_ rfl [(19, .int .i64 p1)] (by kernel_rfl) (fun a1650_ h1651_ => ?_)
      clear h1646_ a1645_
      by_cases c1652_ : 0 ≤ p1
      · rw [if_pos c1652_] at H
        refine WL.op' (m := 1) h1651_ rfl rfl ?_
        refine owp_run (v := .int .u32 (shlI .u32 1 p1)) h1651_ rfl (by kernel_rfl) (run_shl rfl rfl rfl (by assumption)) (fun a1653_ h1654_ => ?_)
        clear h1651_ a1650_
        refine WL.block (c := 2) (m' := 4) h1654_ rfl [(7, .int .u32 (IntKind.u32.wrap ((shlI .u32 1 p1) - 1))), (21, .int .u32 (IntKind.u32.wrap ((shlI .u32 1 p1) - 1)))] (by kernel_rfl) (fun a1655_ h1656_ => ?_)
        clear h1654_ a1653_
        refine WL.done (by kernel_rfl) ?_
        refine wp_seq ?_
        refine WL.start ?_
        refine WL.block (c := 1) (m' := 1) h1656_ rfl [(22, .slice A0 p0.length c0)] (by kernel_rfl) (fun a1657_ h1658_ => ?_)
        clear h1656_ a1655_
        by_cases c1659_ : 0 < (p0.length : Int)
        · rw [if_pos c1659_] at H
          have hi1662_ : 0 ≤ (0 : Int) := by first | assumption | omega
          have hi1663_ : 0 < (p0.length : Int) := by first | assumption | omega
          obtain ⟨ad1660_, _, ha1661_, -, -⟩ := Rds.elemAny hp0 hi1662_ (gt_get (z := (0 : Int)) hi1662_ hi1663_)
          refine WL.op' (m := 1) h1658_ rfl rfl ?_
          refine owp_run (v := .pointer (some (ad1660_.add ((0 : Int).toNat * 1)))) h1658_ rfl (by kernel_rfl) (run_idx (ad := ad1660_) (sz := 1) rfl (by rw [← ha1661_]; rfl) rfl Try.underlying26 (by kernel_rfl) hi1662_ hi1663_) (fun a1664_ h1665_ => ?_)
          clear h1658_ a1657_
          obtain ⟨ad1666_, cs1667_, ha1668_, hr1670_, hc1669_⟩ := Rds.elemAny hp0 hi1662_ (gt_get (z := (0 : Int)) hi1662_ hi1663_)
          rw [ha1661_] at ha1668_; obtain rfl := Option.some.inj ha1668_
          obtain rfl : cs1667_ = [.int .u8 (gt (0 : Int) p0 (0 : Int))] := hr1670_
          refine WL.op' (m := 2) h1665_ rfl rfl ?_
          refine owp_run (v := .int .u8 (gt (0 : Int) p0 (0 : Int))) h1665_ rfl (by kernel_rfl) (run_load1 rfl rfl Try.underlying5 rfl (cell0 (hc1669_ _ (fun _ _ hk_ => hS1641_.kn hk_)))) (fun a1671_ h1672_ => ?_)
          clear h1665_ a1664_
          refine WL.block (c := 5) (m' := 8) h1672_ rfl [(8, .int .u64 (bAnd .u64 (IntKind.u64.wrap (gt (0 : Int) p0 (0 : Int))) (IntKind.u64.wrap (IntKind.u32.wrap ((shlI .u32 1 p1) - 1))))), (28, .int .u64 (bAnd .u64 (IntKind.u64.wrap (gt (0 : Int) p0 (0 : Int))) (IntKind.u64.wrap (IntKind.u32.wrap ((shlI .u32 1 p1) - 1))))), (27, .int .u64 (IntKind.u64.wrap (IntKind.u32.wrap ((shlI .u32 1 p1) - 1)))), (26, .int .u32 (IntKind.u32.wrap ((shlI .u32 1 p1) - 1))), (25, .int .u64 (IntKind.u64.wrap (gt (0 : Int) p0 (0 : Int))))] (by kernel_rfl) (fun a1673_ h1674_ => ?_)
          clear h1672_ a1671_
          refine WL.done (by kernel_rfl) ?_
          refine wp_seq ?_
          refine wp_seq ?_
          refine WL.start ?_
          refine WL.block (c := 4) (m' := 4) h1674_ rfl [(32, .bool (decide ((bAnd .u64 (IntKind.u64.wrap (gt (0 : Int) p0 (0 : Int))) (IntKind.u64.wrap (IntKind.u32.wrap ((shlI .u32 1 p1) - 1)))) < (IntKind.u64.wrap (IntKind.u32.wrap ((shlI .u32 1 p1) - 1)))))), (31, .int .u64 (IntKind.u64.wrap (IntKind.u32.wrap ((shlI .u32 1 p1) - 1)))), (30, .int .u32 (IntKind.u32.wrap ((shlI .u32 1 p1) - 1))), (29, .int .u64 (bAnd .u64 (IntKind.u64.wrap (gt (0 : Int) p0 (0 : Int))) (IntKind.u64.wrap (IntKind.u32.wrap ((shlI .u32 1 p1) - 1)))))] (by kernel_rfl) (fun a1675_ h1676_ => ?_)
          clear h1674_ a1673_
          refine WL.done (by kernel_rfl) ?_
          by_cases c1677_ : (bAnd .u64 (IntKind.u64.wrap (gt (0 : Int) p0 (0 : Int))) (IntKind.u64.wrap (IntKind.u32.wrap ((shlI .u32 1 p1) - 1)))) < (IntKind.u64.wrap (IntKind.u32.wrap ((shlI .u32 1 p1) - 1)))
          · rw [if_pos c1677_] at H
            have hb_ : (decide ((bAnd .u64 (IntKind.u64.wrap (gt (0 : Int) p0 (0 : Int))) (IntKind.u64.wrap (IntKind.u32.wrap ((shlI .u32 1 p1) - 1)))) < (IntKind.u64.wrap (IntKind.u32.wrap ((shlI .u32 1 p1) - 1))))) = true := decide_eq_true c1677_
            try rw [hb_] at h1676_
            clear hb_
            refine wp_then h1676_ rfl ?_
            refine wp_seq ?_
            refine WL.start ?_
            refine WL.block (c := 5) (m' := 5) h1676_ rfl [(6, .int .i64 0), (5, .int .i64 1), (4, .int .u32 (IntKind.u32.wrap (bAnd .u64 (IntKind.u64.wrap (gt (0 : Int) p0 (0 : Int))) (IntKind.u64.wrap (IntKind.u32.wrap ((shlI .u32 1 p1) - 1)))))), (34, .int .u32 (IntKind.u32.wrap (bAnd .u64 (IntKind.u64.wrap (gt (0 : Int) p0 (0 : Int))) (IntKind.u64.wrap (IntKind.u32.wrap ((shlI .u32 1 p1) - 1)))))), (33, .int .u64 (bAnd .u64 (IntKind.u64.wrap (gt (0 : Int) p0 (0 : Int))) (IntKind.u64.wrap (IntKind.u32.wrap ((shlI .u32 1 p1) - 1)))))] (by kernel_rfl) (fun a1678_ h1679_ => ?_)
            clear h1676_ a1675_
            refine WL.done (by kernel_rfl) ?_
            refine wp_ret ?_
            obtain ⟨rfl, rfl, rfl⟩ := ret3 H
            repeat (first | refine then_ret ?_ | refine inBlock_ret ?_ | refine inBlock_go ?_)
            refine body_ret (v := .tuple #[.int .u32 (IntKind.u32.wrap (bAnd .u64 (IntKind.u64.wrap (gt (0 : Int) p0 (0 : Int))) (IntKind.u64.wrap (IntKind.u32.wrap ((shlI .u32 1 p1) - 1))))), .int .i64 1, .int .i64 0]) h1679_ (by kernel_rfl) (by kernel_rfl) ?_
            exact ⟨rfl, hS1641_⟩
          · rw [if_neg c1677_] at H
            have hb_ : (decide ((bAnd .u64 (IntKind.u64.wrap (gt (0 : Int) p0 (0 : Int))) (IntKind.u64.wrap (IntKind.u32.wrap ((shlI .u32 1 p1) - 1)))) < (IntKind.u64.wrap (IntKind.u32.wrap ((shlI .u32 1 p1) - 1))))) = false := decide_eq_false c1677_
            try rw [hb_] at h1676_
            clear hb_
            refine wp_else h1676_ rfl ?_
            refine wp_skip ?_
            refine wp_seq ?_
            refine wp_seq ?_
            refine WL.start ?_
            refine WL.block (c := 1) (m' := 1) h1676_ rfl [(35, .slice A0 p0.length c0)] (by kernel_rfl) (fun a1680_ h1681_ => ?_)
            clear h1676_ a1675_
            by_cases c1682_ : 1 ≤ (p0.length : Int)
            · rw [if_pos c1682_] at H
              refine WL.op' (m := 1) h1681_ rfl rfl ?_
              refine owp_run (v := sliced A0 (1 : Int).toNat (p0.length : Int).toNat c0 1) h1681_ rfl (by kernel_rfl) (run_cut (l := 1) (h := (p0.length : Int)) rfl rfl Try.underlying26 (by kernel_rfl) ⟨_, rfl⟩ rfl (by first | assumption | omega) (by first | assumption | omega) (by have q_ := Rds.cap hp0; omega) (by have q_ := Rds.cap hp0; omega)) (fun a1684_ h1685_ => ?_)
              clear h1681_ a1680_
              have hx1683_ := Rds.cut hp0 (l := (1 : Int).toNat) (h := (p0.length : Int).toNat) (by omega) (by omega)
              obtain ⟨v1686_, ev1687_⟩ : ∃ y_, y_ = sliced A0 (1 : Int).toNat (p0.length : Int).toNat c0 1 := ⟨_, rfl⟩
              have hx_ : Rds (kInt .u8) b w0 R v1686_ (p0.drop (1 : Int).toNat) := hx1683_.as_ ev1687_.symm (by simp)
              rw [← ev1687_] at h1685_; clear ev1687_ hx1683_
              have hx1683_ := hx_; clear hx_
              obtain ⟨A1688_, c1689_, rfl⟩ := hx1683_.form
              refine WL.block (c := 2) (m' := 4) h1685_ rfl [(38, .int .i64 0), (37, .int .i64 ((p0.drop (1 : Int).toNat).length : Int))] (by kernel_rfl) (fun a1690_ h1691_ => ?_)
              clear h1685_ a1684_
              refine WL.done (by kernel_rfl) ?_
              refine wp_block ?_
              refine wp_loop_ghost (fun kq_ a_ W_ => ∃ (x1697_ : Int), ∃ (x1698_ : Int), Hd a_ 62 [(8, .int .u64 x1697_), (36, .slice A1688_ (p0.drop (1 : Int).toNat).length c1689_), (37, .int .i64 ((p0.drop (1 : Int).toNat).length : Int)), (38, .int .i64 x1698_)] ∧ Asd (prefix_Get.l0 kq_ x1697_ x1698_ p0 = some (r0_, r1_, r2_)) ∧ Asd (kq_ ≤ k) ∧ Asd (St b w0 W_ R (Fs))) k ⟨bAnd .u64 (IntKind.u64.wrap (gt (0 : Int) p0 (0 : Int))) (IntKind.u64.wrap (IntKind.u32.wrap ((shlI .u32 1 p1) - 1))), 0, h1691_.keep ⟨rfl, rfl, rfl, rfl, trivial⟩, ⟨H⟩, ⟨Nat.le_refl _⟩, ⟨hS1641_⟩⟩ ?_
              clear H hS1641_
              rintro k1696_ a1693_ W1694_ ⟨x1697_, x1698_, h1692_, ⟨H⟩, ⟨hkk1696_⟩, ⟨hS1695_⟩⟩
              obtain _ | k1699_ := k1696_
              · exact absurd H (by simp [prefix_Get.l0])
              simp only [prefix_Get.l0] at H
              refine wp_seq ?_
              refine WL.start ?_
              refine WL.block (c := 1) (m' := 1) h1692_ rfl [(39, .bool (decide (x1698_ < ((p0.drop (1 : Int).toNat).length : Int))))] (by kernel_rfl) (fun a1700_ h1701_ => ?_)
              clear h1692_ a1693_
              refine WL.done (by kernel_rfl) ?_
              refine wp_seq ?_
              by_cases c1702_ : x1698_ < ((p0.drop (1 : Int).toNat).length : Int)
              · rw [if_pos c1702_] at H
                have hb_ : (decide (x1698_ < ((p0.drop (1 : Int).toNat).length : Int))) = true := decide_eq_true c1702_
                try rw [hb_] at h1701_
                clear hb_
                refine wp_then h1701_ rfl ?_
                refine wp_skip ?_
                refine wp_seq ?_
                refine wp_block ?_
                refine wp_seq ?_
                refine WL.start ?_
                refine WL.block (c := 1) (m' := 1) h1701_ rfl [(40, .int .i64 x1698_)] (by kernel_rfl) (fun a1703_ h1704_ => ?_)
                clear h1701_ a1700_
                by_cases c1705_ : 0 ≤ x1698_
                · rw [if_pos c1705_] at H
                  have hi1708_ : 0 ≤ x1698_ := by first | assumption | omega
                  have hi1709_ : x1698_ < ((p0.drop (1 : Int).toNat).length : Int) := by first | assumption | omega
                  obtain ⟨ad1706_, _, ha1707_, -, -⟩ := Rds.elemAny hx1683_ hi1708_ (gt_get (z := (0 : Int)) hi1708_ hi1709_)
                  refine WL.op' (m := 1) h1704_ rfl rfl ?_
                  refine owp_run (v := .pointer (some (ad1706_.add (x1698_.toNat * 1)))) h1704_ rfl (by kernel_rfl) (run_idx (ad := ad1706_) (sz := 1) rfl (by rw [← ha1707_]; rfl) rfl Try.underlying26 (by kernel_rfl) hi1708_ hi1709_) (fun a1710_ h1711_ => ?_)
                  clear h1704_ a1703_
                  obtain ⟨ad1712_, cs1713_, ha1714_, hr1716_, hc1715_⟩ := Rds.elemAny hx1683_ hi1708_ (gt_get (z := (0 : Int)) hi1708_ hi1709_)
                  rw [ha1707_] at ha1714_; obtain rfl := Option.some.inj ha1714_
                  obtain rfl : cs1713_ = [.int .u8 (gt (0 : Int) (p0.drop (1 : Int).toNat) x1698_)] := hr1716_
                  refine WL.op' (m := 2) h1711_ rfl rfl ?_
                  refine owp_run (v := .int .u8 (gt (0 : Int) (p0.drop (1 : Int).toNat) x1698_)) h1711_ rfl (by kernel_rfl) (run_load1 rfl rfl Try.underlying5 rfl (cell0 (hc1715_ _ (fun _ _ hk_ => hS1695_.kn hk_)))) (fun a1717_ h1718_ => ?_)
                  clear h1711_ a1710_
                  refine WL.block (c := 2) (m' := 5) h1718_ rfl [(10, .int .u8 (gt (0 : Int) (p0.drop (1 : Int).toNat) x1698_)), (9, .int .i64 x1698_)] (by kernel_rfl) (fun a1719_ h1720_ => ?_)
                  clear h1718_ a1717_
                  refine WL.done (by kernel_rfl) ?_
                  refine wp_seq ?_
                  refine wp_seq ?_
                  refine WL.start ?_
                  refine WL.block (c := 2) (m' := 2) h1720_ rfl [(44, .bool (decide (x1698_ = 4))), (43, .int .i64 x1698_)] (by kernel_rfl) (fun a1721_ h1722_ => ?_)
                  clear h1720_ a1719_
                  refine WL.done (by kernel_rfl) ?_
                  by_cases c1723_ : x1698_ = 4
                  · rw [if_pos c1723_] at H
                    have hb_ : (decide (x1698_ = 4)) = true := decide_eq_true c1723_
                    try rw [hb_] at h1722_
                    clear hb_
                    refine wp_then h1722_ rfl ?_
                    refine wp_seq ?_
                    refine WL.start ?_
                    refine WL.block (c := 3) (m' := 3) h1722_ rfl [(6, .int .i64 4), (5, .int .i64 0), (4, .int .u32 0)] (by kernel_rfl) (fun a1724_ h1725_ => ?_)
                    clear h1722_ a1721_
                    refine WL.done (by kernel_rfl) ?_
                    refine wp_ret ?_
                    obtain ⟨rfl, rfl, rfl⟩ := ret3 H
                    repeat (first | refine then_ret ?_ | refine inBlock_ret ?_ | refine inBlock_go ?_)
                    refine body_ret (v := .tuple #[.int .u32 0, .int .i64 0, .int .i64 4]) h1725_ (by kernel_rfl) (by kernel_rfl) ?_
                    exact ⟨rfl, hS1695_⟩
                  · rw [if_neg c1723_] at H
                    have hb_ : (decide (x1698_ = 4)) = false := decide_eq_false c1723_
                    try rw [hb_] at h1722_
                    clear hb_
                    refine wp_else h1722_ rfl ?_
                    refine wp_skip ?_
                    refine wp_seq ?_
                    refine WL.start ?_
                    refine WL.block (c := 6) (m' := 6) h1722_ rfl [(50, .int .i64 (IntKind.i64.wrap (7 * x1698_))), (49, .int .i64 x1698_), (48, .int .u64 (IntKind.u64.wrap (bAnd .u8 (gt (0 : Int) (p0.drop (1 : Int).toNat) x1698_) 127))), (47, .int .u8 (bAnd .u8 (gt (0 : Int) (p0.drop (1 : Int).toNat) x1698_) 127)), (46, .int .u8 (gt (0 : Int) (p0.drop (1 : Int).toNat) x1698_)), (45, .int .u64 x1697_)] (by kernel_rfl) (fun a1726_ h1727_ => ?_)
                    clear h1722_ a1721_
                    by_cases c1728_ : 0 ≤ (IntKind.i64.wrap (7 * x1698_))
                    · rw [if_pos c1728_] at H
                      refine WL.op' (m := 6) h1727_ rfl rfl ?_
                      refine owp_run (v := .int .u64 (shlI .u64 (IntKind.u64.wrap (bAnd .u8 (gt (0 : Int) (p0.drop (1 : Int).toNat) x1698_) 127)) (IntKind.i64.wrap (7 * x1698_)))) h1727_ rfl (by kernel_rfl) (run_shl rfl rfl rfl (by assumption)) (fun a1729_ h1730_ => ?_)
                      clear h1727_ a1726_
                      refine WL.block (c := 2) (m' := 9) h1730_ rfl [(8, .int .u64 (IntKind.u64.wrap (x1697_ + (shlI .u64 (IntKind.u64.wrap (bAnd .u8 (gt (0 : Int) (p0.drop (1 : Int).toNat) x1698_) 127)) (IntKind.i64.wrap (7 * x1698_)))))), (52, .int .u64 (IntKind.u64.wrap (x1697_ + (shlI .u64 (IntKind.u64.wrap (bAnd .u8 (gt (0 : Int) (p0.drop (1 : Int).toNat) x1698_) 127)) (IntKind.i64.wrap (7 * x1698_))))))] (by kernel_rfl) (fun a1731_ h1732_ => ?_)
                      clear h1730_ a1729_
                      refine WL.done (by kernel_rfl) ?_
                      refine wp_seq ?_
                      refine WL.start ?_
                      refine WL.block (c := 2) (m' := 2) h1732_ rfl [(54, .bool (decide ((gt (0 : Int) (p0.drop (1 : Int).toNat) x1698_) < 128))), (53, .int .u8 (gt (0 : Int) (p0.drop (1 : Int).toNat) x1698_))] (by kernel_rfl) (fun a1733_ h1734_ => ?_)
                      clear h1732_ a1731_
                      refine WL.done (by kernel_rfl) ?_
                      by_cases c1735_ : (gt (0 : Int) (p0.drop (1 : Int).toNat) x1698_) < 128
                      · rw [if_pos c1735_] at H
                        have hb_ : (decide ((gt (0 : Int) (p0.drop (1 : Int).toNat) x1698_) < 128)) = true := decide_eq_true c1735_
                        try rw [hb_] at h1734_
                        clear hb_
                        refine wp_then h1734_ rfl ?_
                        refine wp_seq ?_
                        refine wp_seq ?_
                        refine WL.start ?_
                        refine WL.block (c := 2) (m' := 2) h1734_ rfl [(56, .bool (decide ((IntKind.u64.wrap (x1697_ + (shlI .u64 (IntKind.u64.wrap (bAnd .u8 (gt (0 : Int) (p0.drop (1 : Int).toNat) x1698_) 127)) (IntKind.i64.wrap (7 * x1698_))))) > 268435456))), (55, .int .u64 (IntKind.u64.wrap (x1697_ + (shlI .u64 (IntKind.u64.wrap (bAnd .u8 (gt (0 : Int) (p0.drop (1 : Int).toNat) x1698_) 127)) (IntKind.i64.wrap (7 * x1698_))))))] (by kernel_rfl) (fun a1736_ h1737_ => ?_)
                        clear h1734_ a1733_
                        refine WL.done (by kernel_rfl) ?_
                        by_cases c1738_ : (IntKind.u64.wrap (x1697_ + (shlI .u64 (IntKind.u64.wrap (bAnd .u8 (gt (0 : Int) (p0.drop (1 : Int).toNat) x1698_) 127)) (IntKind.i64.wrap (7 * x1698_))))) > 268435456
                        · rw [if_pos c1738_] at H
                          have hb_ : (decide ((IntKind.u64.wrap (x1697_ + (shlI .u64 (IntKind.u64.wrap (bAnd .u8 (gt (0 : Int) (p0.drop (1 : Int).toNat) x1698_) 127)) (IntKind.i64.wrap (7 * x1698_))))) > 268435456)) = true := decide_eq_true c1738_
                          try rw [hb_] at h1737_
                          clear hb_
                          refine wp_then h1737_ rfl ?_
                          refine wp_seq ?_
                          refine WL.start ?_
                          refine WL.block (c := 3) (m' := 3) h1737_ rfl [(6, .int .i64 4), (5, .int .i64 0), (4, .int .u32 0)] (by kernel_rfl) (fun a1739_ h1740_ => ?_)
                          clear h1737_ a1736_
                          refine WL.done (by kernel_rfl) ?_
                          refine wp_ret ?_
                          obtain ⟨rfl, rfl, rfl⟩ := ret3 H
                          repeat (first | refine then_ret ?_ | refine inBlock_ret ?_ | refine inBlock_go ?_)
                          refine body_ret (v := .tuple #[.int .u32 0, .int .i64 0, .int .i64 4]) h1740_ (by kernel_rfl) (by kernel_rfl) ?_
                          exact ⟨rfl, hS1695_⟩
                        · rw [if_neg c1738_] at H
                          have hb_ : (decide ((IntKind.u64.wrap (x1697_ + (shlI .u64 (IntKind.u64.wrap (bAnd .u8 (gt (0 : Int) (p0.drop (1 : Int).toNat) x1698_) 127)) (IntKind.i64.wrap (7 * x1698_))))) > 268435456)) = false := decide_eq_false c1738_
                          try rw [hb_] at h1737_
                          clear hb_
                          refine wp_else h1737_ rfl ?_
                          refine wp_skip ?_
                          refine wp_seq ?_
                          refine WL.start ?_
                          refine WL.block (c := 7) (m' := 7) h1737_ rfl [(6, .int .i64 0), (5, .int .i64 (IntKind.i64.wrap (x1698_ + 2))), (4, .int .u32 (IntKind.u32.wrap (IntKind.u64.wrap (x1697_ + (shlI .u64 (IntKind.u64.wrap (bAnd .u8 (gt (0 : Int) (p0.drop (1 : Int).toNat) x1698_) 127)) (IntKind.i64.wrap (7 * x1698_))))))), (60, .int .i64 (IntKind.i64.wrap (x1698_ + 2))), (59, .int .i64 x1698_), (58, .int .u32 (IntKind.u32.wrap (IntKind.u64.wrap (x1697_ + (shlI .u64 (IntKind.u64.wrap (bAnd .u8 (gt (0 : Int) (p0.drop (1 : Int).toNat) x1698_) 127)) (IntKind.i64.wrap (7 * x1698_))))))), (57, .int .u64 (IntKind.u64.wrap (x1697_ + (shlI .u64 (IntKind.u64.wrap (bAnd .u8 (gt (0 : Int) (p0.drop (1 : Int).toNat) x1698_) 127)) (IntKind.i64.wrap (7 * x1698_))))))] (by kernel_rfl) (fun a1741_ h1742_ => ?_)
                          clear h1737_ a1736_
                          refine WL.done (by kernel_rfl) ?_
                          refine wp_ret ?_
                          obtain ⟨rfl, rfl, rfl⟩ := ret3 H
                          repeat (first | refine then_ret ?_ | refine inBlock_ret ?_ | refine inBlock_go ?_)
                          refine body_ret (v := .tuple #[.int .u32 (IntKind.u32.wrap (IntKind.u64.wrap (x1697_ + (shlI .u64 (IntKind.u64.wrap (bAnd .u8 (gt (0 : Int) (p0.drop (1 : Int).toNat) x1698_) 127)) (IntKind.i64.wrap (7 * x1698_)))))), .int .i64 (IntKind.i64.wrap (x1698_ + 2)), .int .i64 0]) h1742_ (by kernel_rfl) (by kernel_rfl) ?_
                          exact ⟨rfl, hS1695_⟩
                      · rw [if_neg c1735_] at H
                        have hb_ : (decide ((gt (0 : Int) (p0.drop (1 : Int).toNat) x1698_) < 128)) = false := decide_eq_false c1735_
                        try rw [hb_] at h1734_
                        clear hb_
                        refine wp_else h1734_ rfl ?_
                        refine wp_skip ?_
                        refine WL.start ?_
                        refine WL.block (c := 2) (m' := 2) h1734_ rfl [(38, .int .i64 (IntKind.i64.wrap (x1698_ + 1))), (61, .int .i64 (IntKind.i64.wrap (x1698_ + 1)))] (by kernel_rfl) (fun a1743_ h1744_ => ?_)
                        clear h1734_ a1733_
                        refine WL.done (by kernel_rfl) ?_
                        exact ⟨k1699_, by omega, IntKind.u64.wrap (x1697_ + (shlI .u64 (IntKind.u64.wrap (bAnd .u8 (gt (0 : Int) (p0.drop (1 : Int).toNat) x1698_) 127)) (IntKind.i64.wrap (7 * x1698_)))), IntKind.i64.wrap (x1698_ + 1), h1744_.keep ⟨rfl, rfl, rfl, rfl, trivial⟩, ⟨H⟩, ⟨by omega⟩, ⟨hS1695_⟩⟩
                    · rw [if_neg c1728_] at H
                      cases H
                · rw [if_neg c1705_] at H
                  cases H
              · rw [if_neg c1702_] at H
                have hb_ : (decide (x1698_ < ((p0.drop (1 : Int).toNat).length : Int))) = false := decide_eq_false c1702_
                try rw [hb_] at h1701_
                clear hb_
                refine wp_else h1701_ rfl ?_
                refine wp_exit ?_
                refine wp_seq ?_
                refine WL.start ?_
                refine WL.block (c := 3) (m' := 3) h1701_ rfl [(6, .int .i64 2), (5, .int .i64 0), (4, .int .u32 0)] (by kernel_rfl) (fun a1745_ h1746_ => ?_)
                clear h1701_ a1700_
                refine WL.done (by kernel_rfl) ?_
                refine wp_ret ?_
                obtain ⟨rfl, rfl, rfl⟩ := ret3 H
                repeat (first | refine then_ret ?_ | refine inBlock_ret ?_ | refine inBlock_go ?_)
                refine body_ret (v := .tuple #[.int .u32 0, .int .i64 0, .int .i64 2]) h1746_ (by kernel_rfl) (by kernel_rfl) ?_
                exact ⟨rfl, hS1695_⟩
            · rw [if_neg c1682_] at H
              cases H
        · rw [if_neg c1659_] at H
          cases H
      · rw [if_neg c1652_] at H
        cases H
  · rw [if_neg c1644_] at H
    have hb_ : r1635_ = false := (Bool.eq_false_iff.2 c1644_)
    try rw [hb_] at h1643_
    clear hb_
    refine wp_then h1643_ rfl ?_
    refine wp_seq ?_
    refine WL.start ?_
    refine WL.block (c := 3) (m' := 3) h1643_ rfl [(6, .int .i64 1), (5, .int .i64 0), (4, .int .u32 0)] (by kernel_rfl) (fun a1747_ h1748_ => ?_)
    clear h1643_ a1642_
    refine WL.done (by kernel_rfl) ?_
    refine wp_ret ?_
    obtain ⟨rfl, rfl, rfl⟩ := ret3 H
    repeat (first | refine then_ret ?_ | refine inBlock_ret ?_ | refine inBlock_go ?_)
    refine body_ret (v := .tuple #[.int .u32 0, .int .i64 0, .int .i64 1]) h1748_ (by kernel_rfl) (by kernel_rfl) ?_
    exact ⟨rfl, hS1641_⟩

/-! ### louver/louverlaw02.PrefixPuts -/
def louverlaw02_PrefixPuts.l0 : Nat → Int → Int → (List Int) → Option (Bool)
  | 0, _, _, _ => none
  | k + 1, x3394_, p1, r3250_ => if x3394_ < (r3250_.length : Int) then (if 0 ≤ x3394_ then (if x3394_ ≤ (r3250_.length : Int) then (bnd3 (prefix_Get.f k (r3250_.take x3394_.toNat) p1) fun r3418_ r3419_ r3420_ => (if r3420_ = 2 then (louverlaw02_PrefixPuts.l0 k (IntKind.i64.wrap (x3394_ + 1)) p1 r3250_) else (some false))) else (none)) else (none)) else (bnd1 (louverlaw02_fixed.f k) fun r3439_ => (some r3439_))
def louverlaw02_PrefixPuts.f (k : Nat) (p0 : (List Int)) (p1 : Int) (p2 : Int) (p3 : Int) (p4 : (List Int)) : Option (Bool) := if (p0.length : Int) > 3000 then (bnd1 (louverlaw02_fixed.f k) fun r2941_ => (some r2941_)) else (if (p4.length : Int) > 3000 then (bnd1 (louverlaw02_fixed.f k) fun r2960_ => (some r2960_)) else (bnd1 (prefix_Put.f k p0 p1 p2 p3) fun r2972_ => (if p1 < 1 then (bnd1 (louverlaw02_fixed.f k) fun r3003_ => (if r3003_ = true then (if (toS r2972_) = (toS p0) then (bnd1 (prefix_Size.f k p1 p3) fun r3031_ => (some (decide (r3031_ = 0)))) else (some false)) else (some false))) else (if p1 > 8 then (bnd1 (louverlaw02_fixed.f k) fun r3091_ => (if r3091_ = true then (if (toS r2972_) = (toS p0) then (bnd1 (prefix_Size.f k p1 p3) fun r3119_ => (some (decide (r3119_ = 0)))) else (some false)) else (some false))) else (if p3 > 268435456 then (bnd1 (louverlaw02_fixed.f k) fun r3173_ => (if r3173_ = true then (if (toS r2972_) = (toS p0) then (bnd1 (prefix_Size.f k p1 p3) fun r3201_ => (some (decide (r3201_ = 0)))) else (some false)) else (some false))) else (bnd1 (louverref02_Put.f k p1 p2 p3) fun r3250_ => (if (toS p0).length + (toS r3250_).length ≤ 9223372036854775807 then (if (toS r2972_) = ((toS p0) ++ (toS r3250_)) then (bnd1 (prefix_Size.f k p1 p3) fun r3292_ => (if r3292_ = (r3250_.length : Int) then (if ([] : List Int).length + r3250_.length ≤ 140737488355328 then (lt1 (([] : List Int) ++ r3250_ : List Int) fun y3328_ => (if y3328_.length + p4.length ≤ 140737488355328 then (lt1 (y3328_ ++ p4 : List Int) fun y3344_ => (bnd3 (prefix_Get.f k y3344_ p1) fun r3354_ r3355_ r3356_ => (if r3354_ = p3 then (if r3355_ = (r3250_.length : Int) then (if r3356_ = 0 then (louverlaw02_PrefixPuts.l0 k 0 p1 r3250_) else (some false)) else (some false)) else (some false)))) else (none))) else (none)) else (some false))) else (some false)) else (none))))))))
set_option maxHeartbeats 2000000 in
set_option maxRecDepth 100000 in
theorem louverlaw02_PrefixPuts.calls (k : Nat) {b : Nat} {w0 W : World} {R : Frag} {Fs : List Frag} {p0 : (List Int)} {p1 : Int} {p2 : Int} {p3 : Int} {p4 : (List Int)} {v0 : Value} {v4 : Value} {r0_ : Bool} (hp0 : Rds (kInt .u8) b w0 R v0 p0) (hp4 : Rds (kInt .u8) b w0 R v4 p4) (H : louverlaw02_PrefixPuts.f k p0 p1 p2 p3 p4 = some r0_) (hS : St b w0 W R (Fs)) :
    Calls Try.prog 4 ([v0, .int .i64 p1, .int .u8 p2, .int .u32 p3, v4] : List Value).toArray W (fun e W' => e = .returned (.bool r0_) ∧ St b w0 W' R (Fs)) := by
  obtain ⟨A0, c0, rfl⟩ := hp0.form
  obtain ⟨A4, c4, rfl⟩ := hp4.form
  unfold louverlaw02_PrefixPuts.f at H
  refine calls_enter Try.func4 rfl 122 rfl (by kernel_rfl) (fun a h => ?_)
  refine wp_seq ?_
  refine WL.start ?_
  refine WL.block (c := 1) (m' := 1) h rfl [(10, .bool false)] (by kernel_rfl) (fun a2927_ h2928_ => ?_)
  refine WL.done (by kernel_rfl) ?_
  refine wp_seq ?_
  refine wp_seq ?_
  refine WL.start ?_
  refine WL.block (c := 4) (m' := 4) h2928_ rfl [(24, .bool (decide ((p0.length : Int) > 3000))), (23, .bool (decide ((p0.length : Int) > 3000))), (22, .int .i64 (p0.length : Int)), (21, .slice A0 p0.length c0)] (by kernel_rfl) (fun a2929_ h2930_ => ?_)
  clear h2928_ a2927_
  by_cases c2931_ : (p0.length : Int) > 3000
  · rw [if_pos c2931_] at H
    have hb_ : (decide ((p0.length : Int) > 3000)) = true := decide_eq_true c2931_
    try rw [hb_] at h2930_
    clear hb_
    refine WL.skipped (m := 4) h2930_ rfl rfl (by kernel_rfl) rfl (fun a2932_ h2933_ => ?_)
    clear h2930_ a2929_
    refine WL.skipped (m := 5) h2933_ rfl rfl (by kernel_rfl) rfl (fun a2934_ h2935_ => ?_)
    clear h2933_ a2932_
    refine WL.skipped (m := 6) h2935_ rfl rfl (by kernel_rfl) rfl (fun a2936_ h2937_ => ?_)
    clear h2935_ a2934_
    refine WL.block (c := 1) (m' := 8) h2937_ rfl [(28, .bool true)] (by kernel_rfl) (fun a2938_ h2939_ => ?_)
    clear h2937_ a2936_
    refine WL.done (by kernel_rfl) ?_
    refine wp_then h2939_ rfl ?_
    refine wp_seq ?_
    refine WL.start ?_
    obtain ⟨r2941_, A2940_, H⟩ := bind1 H
    refine WL.op' (m := 0) h2939_ rfl rfl ?_
    refine owp_call [] h2939_ rfl (by kernel_rfl) rfl Try.func8 (by kernel_rfl) rfl (by kernel_rfl) (louverlaw02_fixed.calls k  A2940_ hS) (fun e2943_ W2942_ hp2944_ => ?_)
    obtain ⟨rfl, hS2947_⟩ := hp2944_
    refine ⟨_, rfl, fun a2945_ h2946_ => ?_⟩
    clear h2939_ a2938_
    refine WL.block (c := 1) (m' := 2) h2946_ rfl [(10, .bool r2941_)] (by kernel_rfl) (fun a2948_ h2949_ => ?_)
    clear h2946_ a2945_
    refine WL.done (by kernel_rfl) ?_
    refine wp_ret ?_
    obtain rfl := Option.some.inj H
    repeat (first | refine then_ret ?_ | refine inBlock_ret ?_ | refine inBlock_go ?_)
    refine body_ret (v := .bool r2941_) h2949_ (by kernel_rfl) (by kernel_rfl) ?_
    exact ⟨rfl, hS2947_⟩
  · rw [if_neg c2931_] at H
    have hb_ : (decide ((p0.length : Int) > 3000)) = false := decide_eq_false c2931_
    try rw [hb_] at h2930_
    clear hb_
    refine WL.op' (m := 4) h2930_ rfl rfl (owp_run h2930_ rfl (by kernel_rfl) (v := .slice A4 p4.length c4) (by kernel_rfl) (fun a2950_ h2951_ => ?_))
    clear h2930_ a2929_
    refine WL.op' (m := 5) h2951_ rfl rfl (owp_run h2951_ rfl (by kernel_rfl) (v := .int .i64 (p4.length : Int)) (by kernel_rfl) (fun a2952_ h2953_ => ?_))
    clear h2951_ a2950_
    refine WL.op' (m := 6) h2953_ rfl rfl (owp_run h2953_ rfl (by kernel_rfl) (v := .bool (decide ((p4.length : Int) > 3000))) (by kernel_rfl) (fun a2954_ h2955_ => ?_))
    clear h2953_ a2952_
    refine WL.block (c := 1) (m' := 8) h2955_ rfl [(28, .bool (decide ((p4.length : Int) > 3000)))] (by kernel_rfl) (fun a2956_ h2957_ => ?_)
    clear h2955_ a2954_
    refine WL.done (by kernel_rfl) ?_
    by_cases c2958_ : (p4.length : Int) > 3000
    · rw [if_pos c2958_] at H
      have hb_ : (decide ((p4.length : Int) > 3000)) = true := decide_eq_true c2958_
      try rw [hb_] at h2957_
      clear hb_
      refine wp_then h2957_ rfl ?_
      refine wp_seq ?_
      refine WL.start ?_
      obtain ⟨r2960_, A2959_, H⟩ := bind1 H
      refine WL.op' (m := 0) h2957_ rfl rfl ?_
      refine owp_call [] h2957_ rfl (by kernel_rfl) rfl Try.func8 (by kernel_rfl) rfl (by kernel_rfl) (louverlaw02_fixed.calls k  A2959_ hS) (fun e2962_ W2961_ hp2963_ => ?_)
      obtain ⟨rfl, hS2966_⟩ := hp2963_
      refine ⟨_, rfl, fun a2964_ h2965_ => ?_⟩
      clear h2957_ a2956_
      refine WL.block (c := 1) (m' := 2) h2965_ rfl [(10, .bool r2960_)] (by kernel_rfl) (fun a2967_ h2968_ => ?_)
      clear h2965_ a2964_
      refine WL.done (by kernel_rfl) ?_
      refine wp_ret ?_
      obtain rfl := Option.some.inj H
      repeat (first | refine then_ret ?_ | refine inBlock_ret ?_ | refine inBlock_go ?_)
      refine body_ret (v := .bool r2960_) h2968_ (by kernel_rfl) (by kernel_rfl) ?_
      exact ⟨rfl, hS2966_⟩
    · rw [if_neg c2958_] at H
      have hb_ : (decide ((p4.length : Int) > 3000)) = false := decide_eq_false c2958_
      try rw [hb_] at h2957_
      clear hb_
      refine wp_else h2957_ rfl ?_
      refine wp_skip ?_
      refine wp_seq ?_
      refine WL.start ?_
      refine WL.block (c := 4) (m' := 4) h2957_ rfl [(33, .int .u32 p3), (32, .int .u8 p2), (31, .int .i64 p1), (30, .slice A0 p0.length c0)] (by kernel_rfl) (fun a2969_ h2970_ => ?_)
      clear h2957_ a2956_
      obtain ⟨r2972_, A2971_, H⟩ := bind1 H
      refine WL.op' (m := 4) h2970_ rfl rfl ?_
      refine owp_call [.slice A0 p0.length c0, .int .i64 p1, .int .u8 p2, .int .u32 p3] h2970_ rfl (by kernel_rfl) rfl Try.func10 (by kernel_rfl) rfl (by kernel_rfl) (prefix_Put.calls k hp0 A2971_ hS) (fun e2974_ W2973_ hp2975_ => ?_)
      obtain ⟨v2978_, M2979_, rfl, hr2980_, hS2982_⟩ := hp2975_
      refine ⟨_, rfl, fun a2976_ h2977_ => ?_⟩
      clear h2970_ a2969_
      obtain ⟨A2983_, c2984_, rfl⟩ := hr2980_.form
      refine WL.block (c := 1) (m' := 6) h2977_ rfl [(11, .slice A2983_ r2972_.length c2984_)] (by kernel_rfl) (fun a2985_ h2986_ => ?_)
      clear h2977_ a2976_
      refine WL.done (by kernel_rfl) ?_
      refine wp_seq ?_
      refine wp_seq ?_
      refine WL.start ?_
      refine WL.block (c := 3) (m' := 3) h2986_ rfl [(37, .bool (decide (p1 < 1))), (36, .bool (decide (p1 < 1))), (35, .int .i64 p1)] (by kernel_rfl) (fun a2987_ h2988_ => ?_)
      clear h2986_ a2985_
      by_cases c2989_ : p1 < 1
      · rw [if_pos c2989_] at H
        have hb_ : (decide (p1 < 1)) = true := decide_eq_true c2989_
        try rw [hb_] at h2988_
        clear hb_
        refine WL.skipped (m := 3) h2988_ rfl rfl (by kernel_rfl) rfl (fun a2990_ h2991_ => ?_)
        clear h2988_ a2987_
        refine WL.skipped (m := 4) h2991_ rfl rfl (by kernel_rfl) rfl (fun a2992_ h2993_ => ?_)
        clear h2991_ a2990_
        refine WL.block (c := 2) (m' := 7) h2993_ rfl [(41, .bool true), (40, .bool true)] (by kernel_rfl) (fun a2994_ h2995_ => ?_)
        clear h2993_ a2992_
        refine WL.skipped (m := 7) h2995_ rfl rfl (by kernel_rfl) rfl (fun a2996_ h2997_ => ?_)
        clear h2995_ a2994_
        refine WL.skipped (m := 8) h2997_ rfl rfl (by kernel_rfl) rfl (fun a2998_ h2999_ => ?_)
        clear h2997_ a2996_
        refine WL.block (c := 1) (m' := 10) h2999_ rfl [(44, .bool true)] (by kernel_rfl) (fun a3000_ h3001_ => ?_)
        clear h2999_ a2998_
        refine WL.done (by kernel_rfl) ?_
        refine wp_then h3001_ rfl ?_
        refine wp_seq ?_
        refine WL.start ?_
        obtain ⟨r3003_, A3002_, H⟩ := bind1 H
        refine WL.op' (m := 0) h3001_ rfl rfl ?_
        refine owp_call [] h3001_ rfl (by kernel_rfl) rfl Try.func8 (by kernel_rfl) rfl (by kernel_rfl) (louverlaw02_fixed.calls k  A3002_ hS2982_) (fun e3005_ W3004_ hp3006_ => ?_)
        obtain ⟨rfl, hS3009_⟩ := hp3006_
        refine ⟨_, rfl, fun a3007_ h3008_ => ?_⟩
        clear h3001_ a3000_
        refine WL.block (c := 1) (m' := 2) h3008_ rfl [(46, .bool r3003_)] (by kernel_rfl) (fun a3010_ h3011_ => ?_)
        clear h3008_ a3007_
        by_cases c3012_ : r3003_ = true
        · rw [if_pos c3012_] at H
          have hb_ : r3003_ = true := c3012_
          try rw [hb_] at h3011_
          clear hb_
          refine WL.op' (m := 2) h3011_ rfl rfl (owp_run h3011_ rfl (by kernel_rfl) (v := .slice A2983_ r2972_.length c2984_) (by kernel_rfl) (fun a3013_ h3014_ => ?_))
          clear h3011_ a3010_
          refine WL.op' (m := 3) h3014_ rfl rfl ?_
          refine owp_run (v := .string (mkS (toS r2972_))) h3014_ rfl (by kernel_rfl) (run_tostr rfl rfl hr2980_.rds (fun _ _ hk_ => (hS3009_).pool.kn hk_) Try.underlying26 Try.underlying5 Try.underlying9) (fun a3015_ h3016_ => ?_)
          clear h3014_ a3013_
          refine WL.op' (m := 4) h3016_ rfl rfl (owp_run h3016_ rfl (by kernel_rfl) (v := .slice A0 p0.length c0) (by kernel_rfl) (fun a3017_ h3018_ => ?_))
          clear h3016_ a3015_
          refine WL.op' (m := 5) h3018_ rfl rfl ?_
          refine owp_run (v := .string (mkS (toS p0))) h3018_ rfl (by kernel_rfl) (run_tostr rfl rfl hp0 (fun _ _ hk_ => hS3009_.kn hk_) Try.underlying26 Try.underlying5 Try.underlying9) (fun a3019_ h3020_ => ?_)
          clear h3018_ a3017_
          refine WL.op' (m := 6) h3020_ rfl rfl ?_
          refine owp_run (v := .bool (decide ((toS r2972_) = (toS p0)))) h3020_ rfl (by kernel_rfl) (run_streq rfl rfl rfl) (fun a3021_ h3022_ => ?_)
          clear h3020_ a3019_
          refine WL.block (c := 2) (m' := 9) h3022_ rfl [(53, .bool (decide ((toS r2972_) = (toS p0)))), (52, .bool (decide ((toS r2972_) = (toS p0))))] (by kernel_rfl) (fun a3023_ h3024_ => ?_)
          clear h3022_ a3021_
          by_cases c3025_ : (toS r2972_) = (toS p0)
          · rw [if_pos c3025_] at H
            have hb_ : (decide ((toS r2972_) = (toS p0))) = true := decide_eq_true c3025_
            try rw [hb_] at h3024_
            clear hb_
            refine WL.op' (m := 9) h3024_ rfl rfl (owp_run h3024_ rfl (by kernel_rfl) (v := .int .i64 p1) (by kernel_rfl) (fun a3026_ h3027_ => ?_))
            clear h3024_ a3023_
            refine WL.op' (m := 10) h3027_ rfl rfl (owp_run h3027_ rfl (by kernel_rfl) (v := .int .u32 p3) (by kernel_rfl) (fun a3028_ h3029_ => ?_))
            clear h3027_ a3026_
            obtain ⟨r3031_, A3030_, H⟩ := bind1 H
            refine WL.op' (m := 11) h3029_ rfl rfl ?_
            refine owp_call [.int .i64 p1, .int .u32 p3] h3029_ rfl (by kernel_rfl) rfl Try.func9 (by kernel_rfl) rfl (by kernel_rfl) (prefix_Size.calls k  A3030_ hS3009_) (fun e3033_ W3032_ hp3034_ => ?_)
            obtain ⟨rfl, hS3037_⟩ := hp3034_
            refine ⟨_, rfl, fun a3035_ h3036_ => ?_⟩
            clear h3029_ a3028_
            refine WL.op' (m := 12) h3036_ rfl rfl (owp_run h3036_ rfl (by kernel_rfl) (v := .bool (decide (r3031_ = 0))) (by kernel_rfl) (fun a3038_ h3039_ => ?_))
            clear h3036_ a3035_
            refine WL.block (c := 2) (m' := 15) h3039_ rfl [(10, .bool (decide (r3031_ = 0))), (58, .bool (decide (r3031_ = 0)))] (by kernel_rfl) (fun a3040_ h3041_ => ?_)
            clear h3039_ a3038_
            refine WL.done (by kernel_rfl) ?_
            refine wp_ret ?_
            have hS3042_ : St b w0 W3032_ R (Fs) := hS3037_.drop_
            obtain rfl := Option.some.inj H
            repeat (first | refine then_ret ?_ | refine inBlock_ret ?_ | refine inBlock_go ?_)
            refine body_ret (v := .bool (decide (r3031_ = 0))) h3041_ (by kernel_rfl) (by kernel_rfl) ?_
            exact ⟨rfl, hS3042_⟩
          · rw [if_neg c3025_] at H
            have hb_ : (decide ((toS r2972_) = (toS p0))) = false := decide_eq_false c3025_
            try rw [hb_] at h3024_
            clear hb_
            refine WL.skipped (m := 9) h3024_ rfl rfl (by kernel_rfl) rfl (fun a3043_ h3044_ => ?_)
            clear h3024_ a3023_
            refine WL.skipped (m := 10) h3044_ rfl rfl (by kernel_rfl) rfl (fun a3045_ h3046_ => ?_)
            clear h3044_ a3043_
            refine WL.skipped (m := 11) h3046_ rfl rfl (by kernel_rfl) rfl (fun a3047_ h3048_ => ?_)
            clear h3046_ a3045_
            refine WL.skipped (m := 12) h3048_ rfl rfl (by kernel_rfl) rfl (fun a3049_ h3050_ => ?_)
            clear h3048_ a3047_
            refine WL.block (c := 2) (m' := 15) h3050_ rfl [(10, .bool false), (58, .bool false)] (by kernel_rfl) (fun a3051_ h3052_ => ?_)
            clear h3050_ a3049_
            refine WL.done (by kernel_rfl) ?_
            refine wp_ret ?_
            have hS3053_ : St b w0 W3004_ R (Fs) := hS3009_.drop_
            obtain rfl := Option.some.inj H
            repeat (first | refine then_ret ?_ | refine inBlock_ret ?_ | refine inBlock_go ?_)
            refine body_ret (v := .bool false) h3052_ (by kernel_rfl) (by kernel_rfl) ?_
            exact ⟨rfl, hS3053_⟩
        · rw [if_neg c3012_] at H
          have hb_ : r3003_ = false := (Bool.eq_false_iff.2 c3012_)
          try rw [hb_] at h3011_
          clear hb_
          refine WL.skipped (m := 2) h3011_ rfl rfl (by kernel_rfl) rfl (fun a3054_ h3055_ => ?_)
          clear h3011_ a3010_
          refine WL.skipped (m := 3) h3055_ rfl rfl (by kernel_rfl) rfl (fun a3056_ h3057_ => ?_)
          clear h3055_ a3054_
          refine WL.skipped (m := 4) h3057_ rfl rfl (by kernel_rfl) rfl (fun a3058_ h3059_ => ?_)
          clear h3057_ a3056_
          refine WL.skipped (m := 5) h3059_ rfl rfl (by kernel_rfl) rfl (fun a3060_ h3061_ => ?_)
          clear h3059_ a3058_
          refine WL.skipped (m := 6) h3061_ rfl rfl (by kernel_rfl) rfl (fun a3062_ h3063_ => ?_)
          clear h3061_ a3060_
          refine WL.block (c := 2) (m' := 9) h3063_ rfl [(53, .bool false), (52, .bool false)] (by kernel_rfl) (fun a3064_ h3065_ => ?_)
          clear h3063_ a3062_
          refine WL.skipped (m := 9) h3065_ rfl rfl (by kernel_rfl) rfl (fun a3066_ h3067_ => ?_)
          clear h3065_ a3064_
          refine WL.skipped (m := 10) h3067_ rfl rfl (by kernel_rfl) rfl (fun a3068_ h3069_ => ?_)
          clear h3067_ a3066_
          refine WL.skipped (m := 11) h3069_ rfl rfl (by kernel_rfl) rfl (fun a3070_ h3071_ => ?_)
          clear h3069_ a3068_
          refine WL.skipped (m := 12) h3071_ rfl rfl (by kernel_rfl) rfl (fun a3072_ h3073_ => ?_)
          clear h3071_ a3070_
          refine WL.block (c := 2) (m' := 15) h3073_ rfl [(10, .bool false), (58, .bool false)] (by kernel_rfl) (fun a3074_ h3075_ => ?_)
          clear h3073_ a3072_
          refine WL.done (by kernel_rfl) ?_
          refine wp_ret ?_
          have hS3076_ : St b w0 W3004_ R (Fs) := hS3009_.drop_
          obtain rfl := Option.some.inj H
          repeat (first | refine then_ret ?_ | refine inBlock_ret ?_ | refine inBlock_go ?_)
          refine body_ret (v := .bool false) h3075_ (by kernel_rfl) (by kernel_rfl) ?_
          exact ⟨rfl, hS3076_⟩
      · rw [if_neg c2989_] at H
        have hb_ : (decide (p1 < 1)) = false := decide_eq_false c2989_
        try rw [hb_] at h2988_
        clear hb_
        refine WL.op' (m := 3) h2988_ rfl rfl (owp_run h2988_ rfl (by kernel_rfl) (v := .int .i64 p1) (by kernel_rfl) (fun a3077_ h3078_ => ?_))
        clear h2988_ a2987_
        refine WL.op' (m := 4) h3078_ rfl rfl (owp_run h3078_ rfl (by kernel_rfl) (v := .bool (decide (p1 > 8))) (by kernel_rfl) (fun a3079_ h3080_ => ?_))
        clear h3078_ a3077_
        refine WL.block (c := 2) (m' := 7) h3080_ rfl [(41, .bool (decide (p1 > 8))), (40, .bool (decide (p1 > 8)))] (by kernel_rfl) (fun a3081_ h3082_ => ?_)
        clear h3080_ a3079_
        by_cases c3083_ : p1 > 8
        · rw [if_pos c3083_] at H
          have hb_ : (decide (p1 > 8)) = true := decide_eq_true c3083_
          try rw [hb_] at h3082_
          clear hb_
          refine WL.skipped (m := 7) h3082_ rfl rfl (by kernel_rfl) rfl (fun a3084_ h3085_ => ?_)
          clear h3082_ a3081_
          refine WL.skipped (m := 8) h3085_ rfl rfl (by kernel_rfl) rfl (fun a3086_ h3087_ => ?_)
          clear h3085_ a3084_
          refine WL.block (c := 1) (m' := 10) h3087_ rfl [(44, .bool true)] (by kernel_rfl) (fun a3088_ h3089_ => ?_)
          clear h3087_ a3086_
          refine WL.done (by kernel_rfl) ?_
          refine wp_then h3089_ rfl ?_
          refine wp_seq ?_
          refine WL.start ?_
          obtain ⟨r3091_, A3090_, H⟩ := bind1 H
          refine WL.op' (m := 0) h3089_ rfl rfl ?_
          refine owp_call [] h3089_ rfl (by kernel_rfl) rfl Try.func8 (by kernel_rfl) rfl (by kernel_rfl) (louverlaw02_fixed.calls k  A3090_ hS2982_) (fun e3093_ W3092_ hp3094_ => ?_)
          obtain ⟨rfl, hS3097_⟩ := hp3094_
          refine ⟨_, rfl, fun a3095_ h3096_ => ?_⟩
          clear h3089_ a3088_
          refine WL.block (c := 1) (m' := 2) h3096_ rfl [(46, .bool r3091_)] (by kernel_rfl) (fun a3098_ h3099_ => ?_)
          clear h3096_ a3095_
          by_cases c3100_ : r3091_ = true
          · rw [if_pos c3100_] at H
            have hb_ : r3091_ = true := c3100_
            try rw [hb_] at h3099_
            clear hb_
            refine WL.op' (m := 2) h3099_ rfl rfl (owp_run h3099_ rfl (by kernel_rfl) (v := .slice A2983_ r2972_.length c2984_) (by kernel_rfl) (fun a3101_ h3102_ => ?_))
            clear h3099_ a3098_
            refine WL.op' (m := 3) h3102_ rfl rfl ?_
            refine owp_run (v := .string (mkS (toS r2972_))) h3102_ rfl (by kernel_rfl) (run_tostr rfl rfl hr2980_.rds (fun _ _ hk_ => (hS3097_).pool.kn hk_) Try.underlying26 Try.underlying5 Try.underlying9) (fun a3103_ h3104_ => ?_)
            clear h3102_ a3101_
            refine WL.op' (m := 4) h3104_ rfl rfl (owp_run h3104_ rfl (by kernel_rfl) (v := .slice A0 p0.length c0) (by kernel_rfl) (fun a3105_ h3106_ => ?_))
            clear h3104_ a3103_
            refine WL.op' (m := 5) h3106_ rfl rfl ?_
            refine owp_run (v := .string (mkS (toS p0))) h3106_ rfl (by kernel_rfl) (run_tostr rfl rfl hp0 (fun _ _ hk_ => hS3097_.kn hk_) Try.underlying26 Try.underlying5 Try.underlying9) (fun a3107_ h3108_ => ?_)
            clear h3106_ a3105_
            refine WL.op' (m := 6) h3108_ rfl rfl ?_
            refine owp_run (v := .bool (decide ((toS r2972_) = (toS p0)))) h3108_ rfl (by kernel_rfl) (run_streq rfl rfl rfl) (fun a3109_ h3110_ => ?_)
            clear h3108_ a3107_
            refine WL.block (c := 2) (m' := 9) h3110_ rfl [(53, .bool (decide ((toS r2972_) = (toS p0)))), (52, .bool (decide ((toS r2972_) = (toS p0))))] (by kernel_rfl) (fun a3111_ h3112_ => ?_)
            clear h3110_ a3109_
            by_cases c3113_ : (toS r2972_) = (toS p0)
            · rw [if_pos c3113_] at H
              have hb_ : (decide ((toS r2972_) = (toS p0))) = true := decide_eq_true c3113_
              try rw [hb_] at h3112_
              clear hb_
              refine WL.op' (m := 9) h3112_ rfl rfl (owp_run h3112_ rfl (by kernel_rfl) (v := .int .i64 p1) (by kernel_rfl) (fun a3114_ h3115_ => ?_))
              clear h3112_ a3111_
              refine WL.op' (m := 10) h3115_ rfl rfl (owp_run h3115_ rfl (by kernel_rfl) (v := .int .u32 p3) (by kernel_rfl) (fun a3116_ h3117_ => ?_))
              clear h3115_ a3114_
              obtain ⟨r3119_, A3118_, H⟩ := bind1 H
              refine WL.op' (m := 11) h3117_ rfl rfl ?_
              refine owp_call [.int .i64 p1, .int .u32 p3] h3117_ rfl (by kernel_rfl) rfl Try.func9 (by kernel_rfl) rfl (by kernel_rfl) (prefix_Size.calls k  A3118_ hS3097_) (fun e3121_ W3120_ hp3122_ => ?_)
              obtain ⟨rfl, hS3125_⟩ := hp3122_
              refine ⟨_, rfl, fun a3123_ h3124_ => ?_⟩
              clear h3117_ a3116_
              refine WL.op' (m := 12) h3124_ rfl rfl (owp_run h3124_ rfl (by kernel_rfl) (v := .bool (decide (r3119_ = 0))) (by kernel_rfl) (fun a3126_ h3127_ => ?_))
              clear h3124_ a3123_
              refine WL.block (c := 2) (m' := 15) h3127_ rfl [(10, .bool (decide (r3119_ = 0))), (58, .bool (decide (r3119_ = 0)))] (by kernel_rfl) (fun a3128_ h3129_ => ?_)
              clear h3127_ a3126_
              refine WL.done (by kernel_rfl) ?_
              refine wp_ret ?_
              have hS3130_ : St b w0 W3120_ R (Fs) := hS3125_.drop_
              obtain rfl := Option.some.inj H
              repeat (first | refine then_ret ?_ | refine inBlock_ret ?_ | refine inBlock_go ?_)
              refine body_ret (v := .bool (decide (r3119_ = 0))) h3129_ (by kernel_rfl) (by kernel_rfl) ?_
              exact ⟨rfl, hS3130_⟩
            · rw [if_neg c3113_] at H
              have hb_ : (decide ((toS r2972_) = (toS p0))) = false := decide_eq_false c3113_
              try rw [hb_] at h3112_
              clear hb_
              refine WL.skipped (m := 9) h3112_ rfl rfl (by kernel_rfl) rfl (fun a3131_ h3132_ => ?_)
              clear h3112_ a3111_
              refine WL.skipped (m := 10) h3132_ rfl rfl (by kernel_rfl) rfl (fun a3133_ h3134_ => ?_)
              clear h3132_ a3131_
              refine WL.skipped (m := 11) h3134_ rfl rfl (by kernel_rfl) rfl (fun a3135_ h3136_ => ?_)
              clear h3134_ a3133_
              refine WL.skipped (m := 12) h3136_ rfl rfl (by kernel_rfl) rfl (fun a3137_ h3138_ => ?_)
              clear h3136_ a3135_
              refine WL.block (c := 2) (m' := 15) h3138_ rfl [(10, .bool false), (58, .bool false)] (by kernel_rfl) (fun a3139_ h3140_ => ?_)
              clear h3138_ a3137_
              refine WL.done (by kernel_rfl) ?_
              refine wp_ret ?_
              have hS3141_ : St b w0 W3092_ R (Fs) := hS3097_.drop_
              obtain rfl := Option.some.inj H
              repeat (first | refine then_ret ?_ | refine inBlock_ret ?_ | refine inBlock_go ?_)
              refine body_ret (v := .bool false) h3140_ (by kernel_rfl) (by kernel_rfl) ?_
              exact ⟨rfl, hS3141_⟩
          · rw [if_neg c3100_] at H
            have hb_ : r3091_ = false := (Bool.eq_false_iff.2 c3100_)
            try rw [hb_] at h3099_
            clear hb_
            refine WL.skipped (m := 2) h3099_ rfl rfl (by kernel_rfl) rfl (fun a3142_ h3143_ => ?_)
            clear h3099_ a3098_
            refine WL.skipped (m := 3) h3143_ rfl rfl (by kernel_rfl) rfl (fun a3144_ h3145_ => ?_)
            clear h3143_ a3142_
            refine WL.skipped (m := 4) h3145_ rfl rfl (by kernel_rfl) rfl (fun a3146_ h3147_ => ?_)
            clear h3145_ a3144_
            refine WL.skipped (m := 5) h3147_ rfl rfl (by kernel_rfl) rfl (fun a3148_ h3149_ => ?_)
            clear h3147_ a3146_
            refine WL.skipped (m := 6) h3149_ rfl rfl (by kernel_rfl) rfl (fun a3150_ h3151_ => ?_)
            clear h3149_ a3148_
            refine WL.block (c := 2) (m' := 9) h3151_ rfl [(53, .bool false), (52, .bool false)] (by kernel_rfl) (fun a3152_ h3153_ => ?_)
            clear h3151_ a3150_
            refine WL.skipped (m := 9) h3153_ rfl rfl (by kernel_rfl) rfl (fun a3154_ h3155_ => ?_)
            clear h3153_ a3152_
            refine WL.skipped (m := 10) h3155_ rfl rfl (by kernel_rfl) rfl (fun a3156_ h3157_ => ?_)
            clear h3155_ a3154_
            refine WL.skipped (m := 11) h3157_ rfl rfl (by kernel_rfl) rfl (fun a3158_ h3159_ => ?_)
            clear h3157_ a3156_
            refine WL.skipped (m := 12) h3159_ rfl rfl (by kernel_rfl) rfl (fun a3160_ h3161_ => ?_)
            clear h3159_ a3158_
            refine WL.block (c := 2) (m' := 15) h3161_ rfl [(10, .bool false), (58, .bool false)] (by kernel_rfl) (fun a3162_ h3163_ => ?_)
            clear h3161_ a3160_
            refine WL.done (by kernel_rfl) ?_
            refine wp_ret ?_
            have hS3164_ : St b w0 W3092_ R (Fs) := hS3097_.drop_
            obtain rfl := Option.some.inj H
            repeat (first | refine then_ret ?_ | refine inBlock_ret ?_ | refine inBlock_go ?_)
            refine body_ret (v := .bool false) h3163_ (by kernel_rfl) (by kernel_rfl) ?_
            exact ⟨rfl, hS3164_⟩
        · rw [if_neg c3083_] at H
          have hb_ : (decide (p1 > 8)) = false := decide_eq_false c3083_
          try rw [hb_] at h3082_
          clear hb_
          refine WL.op' (m := 7) h3082_ rfl rfl (owp_run h3082_ rfl (by kernel_rfl) (v := .int .u32 p3) (by kernel_rfl) (fun a3165_ h3166_ => ?_))
          clear h3082_ a3081_
          refine WL.op' (m := 8) h3166_ rfl rfl (owp_run h3166_ rfl (by kernel_rfl) (v := .bool (decide (p3 > 268435456))) (by kernel_rfl) (fun a3167_ h3168_ => ?_))
          clear h3166_ a3165_
          refine WL.block (c := 1) (m' := 10) h3168_ rfl [(44, .bool (decide (p3 > 268435456)))] (by kernel_rfl) (fun a3169_ h3170_ => ?_)
          clear h3168_ a3167_
          refine WL.done (by kernel_rfl) ?_
          by_cases c3171_ : p3 > 268435456
          · rw [if_pos c3171_] at H
            have hb_ : (decide (p3 > 268435456)) = true := decide_eq_true c3171_
            try rw [hb_] at h3170_
            clear hb_
            refine wp_then h3170_ rfl ?_
            refine wp_seq ?_
            refine WL.start ?_
            obtain ⟨r3173_, A3172_, H⟩ := bind1 H
            refine WL.op' (m := 0) h3170_ rfl rfl ?_
            refine owp_call [] h3170_ rfl (by kernel_rfl) rfl Try.func8 (by kernel_rfl) rfl (by kernel_rfl) (louverlaw02_fixed.calls k  A3172_ hS2982_) (fun e3175_ W3174_ hp3176_ => ?_)
            obtain ⟨rfl, hS3179_⟩ := hp3176_
            refine ⟨_, rfl, fun a3177_ h3178_ => ?_⟩
            clear h3170_ a3169_
            refine WL.block (c := 1) (m' := 2) h3178_ rfl [(46, .bool r3173_)] (by kernel_rfl) (fun a3180_ h3181_ => ?_)
            clear h3178_ a3177_
            by_cases c3182_ : r3173_ = true
            · rw [if_pos c3182_] at H
              have hb_ : r3173_ = true := c3182_
              try rw [hb_] at h3181_
              clear hb_
              refine WL.op' (m := 2) h3181_ rfl rfl (owp_run h3181_ rfl (by kernel_rfl) (v := .slice A2983_ r2972_.length c2984_) (by kernel_rfl) (fun a3183_ h3184_ => ?_))
              clear h3181_ a3180_
              refine WL.op' (m := 3) h3184_ rfl rfl ?_
              refine owp_run (v := .string (mkS (toS r2972_))) h3184_ rfl (by kernel_rfl) (run_tostr rfl rfl hr2980_.rds (fun _ _ hk_ => (hS3179_).pool.kn hk_) Try.underlying26 Try.underlying5 Try.underlying9) (fun a3185_ h3186_ => ?_)
              clear h3184_ a3183_
              refine WL.op' (m := 4) h3186_ rfl rfl (owp_run h3186_ rfl (by kernel_rfl) (v := .slice A0 p0.length c0) (by kernel_rfl) (fun a3187_ h3188_ => ?_))
              clear h3186_ a3185_
              refine WL.op' (m := 5) h3188_ rfl rfl ?_
              refine owp_run (v := .string (mkS (toS p0))) h3188_ rfl (by kernel_rfl) (run_tostr rfl rfl hp0 (fun _ _ hk_ => hS3179_.kn hk_) Try.underlying26 Try.underlying5 Try.underlying9) (fun a3189_ h3190_ => ?_)
              clear h3188_ a3187_
              refine WL.op' (m := 6) h3190_ rfl rfl ?_
              refine owp_run (v := .bool (decide ((toS r2972_) = (toS p0)))) h3190_ rfl (by kernel_rfl) (run_streq rfl rfl rfl) (fun a3191_ h3192_ => ?_)
              clear h3190_ a3189_
              refine WL.block (c := 2) (m' := 9) h3192_ rfl [(53, .bool (decide ((toS r2972_) = (toS p0)))), (52, .bool (decide ((toS r2972_) = (toS p0))))] (by kernel_rfl) (fun a3193_ h3194_ => ?_)
              clear h3192_ a3191_
              by_cases c3195_ : (toS r2972_) = (toS p0)
              · rw [if_pos c3195_] at H
                have hb_ : (decide ((toS r2972_) = (toS p0))) = true := decide_eq_true c3195_
                try rw [hb_] at h3194_
                clear hb_
                refine WL.op' (m := 9) h3194_ rfl rfl (owp_run h3194_ rfl (by kernel_rfl) (v := .int .i64 p1) (by kernel_rfl) (fun a3196_ h3197_ => ?_))
                clear h3194_ a3193_
                refine WL.op' (m := 10) h3197_ rfl rfl (owp_run h3197_ rfl (by kernel_rfl) (v := .int .u32 p3) (by kernel_rfl) (fun a3198_ h3199_ => ?_))
                clear h3197_ a3196_
                obtain ⟨r3201_, A3200_, H⟩ := bind1 H
                refine WL.op' (m := 11) h3199_ rfl rfl ?_
                refine owp_call [.int .i64 p1, .int .u32 p3] h3199_ rfl (by kernel_rfl) rfl Try.func9 (by kernel_rfl) rfl (by kernel_rfl) (prefix_Size.calls k  A3200_ hS3179_) (fun e3203_ W3202_ hp3204_ => ?_)
                obtain ⟨rfl, hS3207_⟩ := hp3204_
                refine ⟨_, rfl, fun a3205_ h3206_ => ?_⟩
                clear h3199_ a3198_
                refine WL.op' (m := 12) h3206_ rfl rfl (owp_run h3206_ rfl (by kernel_rfl) (v := .bool (decide (r3201_ = 0))) (by kernel_rfl) (fun a3208_ h3209_ => ?_))
                clear h3206_ a3205_
                refine WL.block (c := 2) (m' := 15) h3209_ rfl [(10, .bool (decide (r3201_ = 0))), (58, .bool (decide (r3201_ = 0)))] (by kernel_rfl) (fun a3210_ h3211_ => ?_)
                clear h3209_ a3208_
                refine WL.done (by kernel_rfl) ?_
                refine wp_ret ?_
                have hS3212_ : St b w0 W3202_ R (Fs) := hS3207_.drop_
                obtain rfl := Option.some.inj H
                repeat (first | refine then_ret ?_ | refine inBlock_ret ?_ | refine inBlock_go ?_)
                refine body_ret (v := .bool (decide (r3201_ = 0))) h3211_ (by kernel_rfl) (by kernel_rfl) ?_
                exact ⟨rfl, hS3212_⟩
              · rw [if_neg c3195_] at H
                have hb_ : (decide ((toS r2972_) = (toS p0))) = false := decide_eq_false c3195_
                try rw [hb_] at h3194_
                clear hb_
                refine WL.skipped (m := 9) h3194_ rfl rfl (by kernel_rfl) rfl (fun a3213_ h3214_ => ?_)
                clear h3194_ a3193_
                refine WL.skipped (m := 10) h3214_ rfl rfl (by kernel_rfl) rfl (fun a3215_ h3216_ => ?_)
                clear h3214_ a3213_
                refine WL.skipped (m := 11) h3216_ rfl rfl (by kernel_rfl) rfl (fun a3217_ h3218_ => ?_)
                clear h3216_ a3215_
                refine WL.skipped (m := 12) h3218_ rfl rfl (by kernel_rfl) rfl (fun a3219_ h3220_ => ?_)
                clear h3218_ a3217_
                refine WL.block (c := 2) (m' := 15) h3220_ rfl [(10, .bool false), (58, .bool false)] (by kernel_rfl) (fun a3221_ h3222_ => ?_)
                clear h3220_ a3219_
                refine WL.done (by kernel_rfl) ?_
                refine wp_ret ?_
                have hS3223_ : St b w0 W3174_ R (Fs) := hS3179_.drop_
                obtain rfl := Option.some.inj H
                repeat (first | refine then_ret ?_ | refine inBlock_ret ?_ | refine inBlock_go ?_)
                refine body_ret (v := .bool false) h3222_ (by kernel_rfl) (by kernel_rfl) ?_
                exact ⟨rfl, hS3223_⟩
            · rw [if_neg c3182_] at H
              have hb_ : r3173_ = false := (Bool.eq_false_iff.2 c3182_)
              try rw [hb_] at h3181_
              clear hb_
              refine WL.skipped (m := 2) h3181_ rfl rfl (by kernel_rfl) rfl (fun a3224_ h3225_ => ?_)
              clear h3181_ a3180_
              refine WL.skipped (m := 3) h3225_ rfl rfl (by kernel_rfl) rfl (fun a3226_ h3227_ => ?_)
              clear h3225_ a3224_
              refine WL.skipped (m := 4) h3227_ rfl rfl (by kernel_rfl) rfl (fun a3228_ h3229_ => ?_)
              clear h3227_ a3226_
              refine WL.skipped (m := 5) h3229_ rfl rfl (by kernel_rfl) rfl (fun a3230_ h3231_ => ?_)
              clear h3229_ a3228_
              refine WL.skipped (m := 6) h3231_ rfl rfl (by kernel_rfl) rfl (fun a3232_ h3233_ => ?_)
              clear h3231_ a3230_
              refine WL.block (c := 2) (m' := 9) h3233_ rfl [(53, .bool false), (52, .bool false)] (by kernel_rfl) (fun a3234_ h3235_ => ?_)
              clear h3233_ a3232_
              refine WL.skipped (m := 9) h3235_ rfl rfl (by kernel_rfl) rfl (fun a3236_ h3237_ => ?_)
              clear h3235_ a3234_
              refine WL.skipped (m := 10) h3237_ rfl rfl (by kernel_rfl) rfl (fun a3238_ h3239_ => ?_)
              clear h3237_ a3236_
              refine WL.skipped (m := 11) h3239_ rfl rfl (by kernel_rfl) rfl (fun a3240_ h3241_ => ?_)
              clear h3239_ a3238_
              refine WL.skipped (m := 12) h3241_ rfl rfl (by kernel_rfl) rfl (fun a3242_ h3243_ => ?_)
              clear h3241_ a3240_
              refine WL.block (c := 2) (m' := 15) h3243_ rfl [(10, .bool false), (58, .bool false)] (by kernel_rfl) (fun a3244_ h3245_ => ?_)
              clear h3243_ a3242_
              refine WL.done (by kernel_rfl) ?_
              refine wp_ret ?_
              have hS3246_ : St b w0 W3174_ R (Fs) := hS3179_.drop_
              obtain rfl := Option.some.inj H
              repeat (first | refine then_ret ?_ | refine inBlock_ret ?_ | refine inBlock_go ?_)
              refine body_ret (v := .bool false) h3245_ (by kernel_rfl) (by kernel_rfl) ?_
              exact ⟨rfl, hS3246_⟩
          · rw [if_neg c3171_] at H
            have hb_ : (decide (p3 > 268435456)) = false := decide_eq_false c3171_
            try rw [hb_] at h3170_
            clear hb_
            refine wp_else h3170_ rfl ?_
            refine wp_skip ?_
            refine wp_seq ?_
            refine WL.start ?_
            refine WL.block (c := 3) (m' := 3) h3170_ rfl [(61, .int .u32 p3), (60, .int .u8 p2), (59, .int .i64 p1)] (by kernel_rfl) (fun a3247_ h3248_ => ?_)
            clear h3170_ a3169_
            obtain ⟨r3250_, A3249_, H⟩ := bind1 H
            refine WL.op' (m := 3) h3248_ rfl rfl ?_
            refine owp_call [.int .i64 p1, .int .u8 p2, .int .u32 p3] h3248_ rfl (by kernel_rfl) rfl Try.func11 (by kernel_rfl) rfl (by kernel_rfl) (louverref02_Put.calls k  A3249_ hS2982_) (fun e3252_ W3251_ hp3253_ => ?_)
            obtain ⟨v3256_, M3257_, rfl, hr3258_, hS3260_⟩ := hp3253_
            refine ⟨_, rfl, fun a3254_ h3255_ => ?_⟩
            clear h3248_ a3247_
            obtain ⟨A3261_, c3262_, rfl⟩ := hr3258_.form
            refine WL.block (c := 1) (m' := 5) h3255_ rfl [(12, .slice A3261_ r3250_.length c3262_)] (by kernel_rfl) (fun a3263_ h3264_ => ?_)
            clear h3255_ a3254_
            refine WL.done (by kernel_rfl) ?_
            refine wp_seq ?_
            refine wp_seq ?_
            refine WL.start ?_
            refine WL.block (c := 1) (m' := 1) h3264_ rfl [(63, .slice A2983_ r2972_.length c2984_)] (by kernel_rfl) (fun a3265_ h3266_ => ?_)
            clear h3264_ a3263_
            have hS3267_ : St b w0 W3251_ R (M2979_ :: M3257_ :: Fs) := hS3260_.bring 1 rfl rfl
            refine WL.op' (m := 1) h3266_ rfl rfl ?_
            refine owp_run (v := .string (mkS (toS r2972_))) h3266_ rfl (by kernel_rfl) (run_tostr rfl rfl hr2980_.rds (fun _ _ hk_ => (hS3267_).pool.kn hk_) Try.underlying26 Try.underlying5 Try.underlying9) (fun a3268_ h3269_ => ?_)
            clear h3266_ a3265_
            refine WL.block (c := 1) (m' := 3) h3269_ rfl [(65, .slice A0 p0.length c0)] (by kernel_rfl) (fun a3270_ h3271_ => ?_)
            clear h3269_ a3268_
            refine WL.op' (m := 3) h3271_ rfl rfl ?_
            refine owp_run (v := .string (mkS (toS p0))) h3271_ rfl (by kernel_rfl) (run_tostr rfl rfl hp0 (fun _ _ hk_ => hS3267_.kn hk_) Try.underlying26 Try.underlying5 Try.underlying9) (fun a3272_ h3273_ => ?_)
            clear h3271_ a3270_
            refine WL.block (c := 1) (m' := 5) h3273_ rfl [(67, .slice A3261_ r3250_.length c3262_)] (by kernel_rfl) (fun a3274_ h3275_ => ?_)
            clear h3273_ a3272_
            have hS3276_ : St b w0 W3251_ R (M3257_ :: M2979_ :: Fs) := hS3267_.bring 1 rfl rfl
            refine WL.op' (m := 5) h3275_ rfl rfl ?_
            refine owp_run (v := .string (mkS (toS r3250_))) h3275_ rfl (by kernel_rfl) (run_tostr rfl rfl hr3258_.rds (fun _ _ hk_ => (hS3276_).pool.kn hk_) Try.underlying26 Try.underlying5 Try.underlying9) (fun a3277_ h3278_ => ?_)
            clear h3275_ a3274_
            by_cases c3279_ : (toS p0).length + (toS r3250_).length ≤ 9223372036854775807
            · rw [if_pos c3279_] at H
              refine WL.op' (m := 6) h3278_ rfl rfl ?_
              refine owp_run (v := .string (mkS ((toS p0) ++ (toS r3250_)))) h3278_ rfl (by kernel_rfl) (run_concat rfl rfl rfl (by assumption)) (fun a3280_ h3281_ => ?_)
              clear h3278_ a3277_
              refine WL.op' (m := 7) h3281_ rfl rfl ?_
              refine owp_run (v := .bool (!decide ((toS r2972_) = ((toS p0) ++ (toS r3250_))))) h3281_ rfl (by kernel_rfl) (run_strne rfl rfl rfl) (fun a3282_ h3283_ => ?_)
              clear h3281_ a3280_
              refine WL.block (c := 1) (m' := 9) h3283_ rfl [(71, .bool (!decide ((toS r2972_) = ((toS p0) ++ (toS r3250_)))))] (by kernel_rfl) (fun a3284_ h3285_ => ?_)
              clear h3283_ a3282_
              by_cases c3286_ : (toS r2972_) = ((toS p0) ++ (toS r3250_))
              · rw [if_pos c3286_] at H
                have hb_ : (decide ((toS r2972_) = ((toS p0) ++ (toS r3250_)))) = true := decide_eq_true c3286_
                try rw [hb_] at h3285_
                clear hb_
                refine WL.op' (m := 9) h3285_ rfl rfl (owp_run h3285_ rfl (by kernel_rfl) (v := .int .i64 p1) (by kernel_rfl) (fun a3287_ h3288_ => ?_))
                clear h3285_ a3284_
                refine WL.op' (m := 10) h3288_ rfl rfl (owp_run h3288_ rfl (by kernel_rfl) (v := .int .u32 p3) (by kernel_rfl) (fun a3289_ h3290_ => ?_))
                clear h3288_ a3287_
                obtain ⟨r3292_, A3291_, H⟩ := bind1 H
                refine WL.op' (m := 11) h3290_ rfl rfl ?_
                refine owp_call [.int .i64 p1, .int .u32 p3] h3290_ rfl (by kernel_rfl) rfl Try.func9 (by kernel_rfl) rfl (by kernel_rfl) (prefix_Size.calls k  A3291_ hS3276_) (fun e3294_ W3293_ hp3295_ => ?_)
                obtain ⟨rfl, hS3298_⟩ := hp3295_
                refine ⟨_, rfl, fun a3296_ h3297_ => ?_⟩
                clear h3290_ a3289_
                refine WL.op' (m := 12) h3297_ rfl rfl (owp_run h3297_ rfl (by kernel_rfl) (v := .slice A3261_ r3250_.length c3262_) (by kernel_rfl) (fun a3299_ h3300_ => ?_))
                clear h3297_ a3296_
                refine WL.op' (m := 13) h3300_ rfl rfl (owp_run h3300_ rfl (by kernel_rfl) (v := .int .i64 (r3250_.length : Int)) (by kernel_rfl) (fun a3301_ h3302_ => ?_))
                clear h3300_ a3299_
                refine WL.op' (m := 14) h3302_ rfl rfl (owp_run h3302_ rfl (by kernel_rfl) (v := .bool (!decide (r3292_ = (r3250_.length : Int)))) (by kernel_rfl) (fun a3303_ h3304_ => ?_))
                clear h3302_ a3301_
                refine WL.block (c := 1) (m' := 16) h3304_ rfl [(78, .bool (!decide (r3292_ = (r3250_.length : Int))))] (by kernel_rfl) (fun a3305_ h3306_ => ?_)
                clear h3304_ a3303_
                refine WL.done (by kernel_rfl) ?_
                by_cases c3307_ : r3292_ = (r3250_.length : Int)
                · rw [if_pos c3307_] at H
                  have hb_ : (decide (r3292_ = (r3250_.length : Int))) = true := decide_eq_true c3307_
                  try rw [hb_] at h3306_
                  clear hb_
                  refine wp_else h3306_ rfl ?_
                  refine wp_skip ?_
                  refine wp_seq ?_
                  refine WL.start ?_
                  refine WL.op' (m := 0) h3306_ rfl rfl ?_
                  refine owp_new (fun g_ => .slice (some ⟨g_, 0, none⟩) 0 0) (.cells ([] : List Value).toArray 5 (0, 0)) h3306_ rfl (by kernel_rfl) (by kernel_rfl) hS3298_ (fun a3308_ W3310_ g3311_ h3309_ hS3312_ => ?_)
                  clear h3306_ a3305_
                  have hr3314_ : Row (kInt .u8) 5 b w0 R (.slice (some ⟨g3311_, 0, none⟩) 0 0) ([] : List Int) [(g3311_, .cells ([] : List Value).toArray 5 (0, 0))] := Row.lit (xs := ([] : List Int)) (Mi := []) ⟨rfl, rfl⟩ (by simp [maxLen])
                  refine WL.block (c := 1) (m' := 2) h3309_ rfl [(80, .slice A3261_ r3250_.length c3262_)] (by kernel_rfl) (fun a3315_ h3316_ => ?_)
                  clear h3309_ a3308_
                  by_cases c3317_ : ([] : List Int).length + r3250_.length ≤ 140737488355328
                  · rw [if_pos c3317_] at H
                    have hS3318_ : St b w0 W3310_ R (M3257_ :: [(g3311_, .cells ([] : List Value).toArray 5 (0, 0))] :: M2979_ :: Fs) := hS3312_.bring 1 rfl rfl
                    have hS3319_ : St b w0 W3310_ R ([(g3311_, .cells ([] : List Value).toArray 5 (0, 0))] :: M3257_ :: M2979_ :: Fs) := hS3318_.bring 1 rfl rfl
                    refine WL.op' (m := 2) h3316_ rfl rfl ?_
                    refine owp_app_keep (z := .int .u8 0) (bytes := 1) (dk := (kInt .u8)) h3316_ rfl (by kernel_rfl) rfl rfl rfl (fun hr_ => hr_.2) hr3314_ hr3258_ hS3319_ Try.underlying26 (by kernel_rfl) rfl (by decide) (by decide) (by first | omega | (simp only [List.length_cons, List.length_nil] at *; omega)) (fun a3320_ W3322_ v3323_ M3324_ h3321_ hr3325_ hS3326_ => ?_)
                    clear h3316_ a3315_
                    obtain ⟨y3328_, hy3329_, H⟩ := lete H
                    have hr3330_ : Row (kInt .u8) 5 b w0 R v3323_ y3328_ M3324_ := by rw [hy3329_]; exact hr3325_
                    clear hr3325_
                    obtain ⟨A3331_, c3332_, rfl⟩ := hr3330_.form
                    refine WL.block (c := 1) (m' := 4) h3321_ rfl [(82, .slice A4 p4.length c4)] (by kernel_rfl) (fun a3333_ h3334_ => ?_)
                    clear h3321_ a3320_
                    by_cases c3335_ : y3328_.length + p4.length ≤ 140737488355328
                    · rw [if_pos c3335_] at H
                      refine WL.op' (m := 4) h3334_ rfl rfl ?_
                      refine owp_app_rds (z := .int .u8 0) (bytes := 1) (dk := (kInt .u8)) h3334_ rfl (by kernel_rfl) rfl rfl rfl (kInt_flat _) hr3330_ hp4 hS3326_ Try.underlying26 (by kernel_rfl) rfl (by decide) (by decide) (by first | omega | (simp only [List.length_cons, List.length_nil] at *; omega)) (fun a3336_ W3338_ v3339_ M3340_ h3337_ hr3341_ hS3342_ => ?_)
                      clear h3334_ a3333_
                      obtain ⟨y3344_, hy3345_, H⟩ := lete H
                      have hr3346_ : Row (kInt .u8) 5 b w0 R v3339_ y3344_ M3340_ := by rw [hy3345_]; exact hr3341_
                      clear hr3341_
                      obtain ⟨A3347_, c3348_, rfl⟩ := hr3346_.form
                      refine WL.block (c := 1) (m' := 6) h3337_ rfl [(13, .slice A3347_ y3344_.length c3348_)] (by kernel_rfl) (fun a3349_ h3350_ => ?_)
                      clear h3337_ a3336_
                      refine WL.done (by kernel_rfl) ?_
                      refine wp_seq ?_
                      refine WL.start ?_
                      refine WL.block (c := 2) (m' := 2) h3350_ rfl [(86, .int .i64 p1), (85, .slice A3347_ y3344_.length c3348_)] (by kernel_rfl) (fun a3351_ h3352_ => ?_)
                      clear h3350_ a3349_
                      obtain ⟨r3354_, r3355_, r3356_, A3353_, H⟩ := bind3 H
                      refine WL.op' (m := 2) h3352_ rfl rfl ?_
                      refine owp_call [.slice A3347_ y3344_.length c3348_, .int .i64 p1] h3352_ rfl (by kernel_rfl) rfl Try.func12 (by kernel_rfl) rfl (by kernel_rfl) (prefix_Get.calls k hr3346_.rds A3353_ (hS3342_.pool)) (fun e3358_ W3357_ hp3359_ => ?_)
                      obtain ⟨rfl, hS3362_⟩ := hp3359_
                      have hS3363_ : St b w0 W3357_ R (M3340_ :: M3257_ :: M2979_ :: Fs) := hS3362_.unpool
                      refine ⟨_, rfl, fun a3360_ h3361_ => ?_⟩
                      clear h3352_ a3351_
                      refine WL.block (c := 7) (m' := 10) h3361_ rfl [(16, .int .i64 r3356_), (15, .int .i64 r3355_), (14, .int .u32 r3354_), (90, .int .i64 r3356_), (89, .int .i64 r3355_), (88, .int .u32 r3354_), (84, .tuple #[.int .u32 r3354_, .int .i64 r3355_, .int .i64 r3356_])] (by kernel_rfl) (fun a3364_ h3365_ => ?_)
                      clear h3361_ a3360_
                      refine WL.done (by kernel_rfl) ?_
                      refine wp_seq ?_
                      refine wp_seq ?_
                      refine WL.start ?_
                      refine WL.block (c := 4) (m' := 4) h3365_ rfl [(94, .bool (!decide (r3354_ = p3))), (93, .bool (!decide (r3354_ = p3))), (92, .int .u32 p3), (91, .int .u32 r3354_)] (by kernel_rfl) (fun a3366_ h3367_ => ?_)
                      clear h3365_ a3364_
                      by_cases c3368_ : r3354_ = p3
                      · rw [if_pos c3368_] at H
                        have hb_ : (decide (r3354_ = p3)) = true := decide_eq_true c3368_
                        try rw [hb_] at h3367_
                        clear hb_
                        refine WL.op' (m := 4) h3367_ rfl rfl (owp_run h3367_ rfl (by kernel_rfl) (v := .int .i64 r3355_) (by kernel_rfl) (fun a3369_ h3370_ => ?_))
                        clear h3367_ a3366_
                        refine WL.op' (m := 5) h3370_ rfl rfl (owp_run h3370_ rfl (by kernel_rfl) (v := .slice A3261_ r3250_.length c3262_) (by kernel_rfl) (fun a3371_ h3372_ => ?_))
                        clear h3370_ a3369_
                        refine WL.op' (m := 6) h3372_ rfl rfl (owp_run h3372_ rfl (by kernel_rfl) (v := .int .i64 (r3250_.length : Int)) (by kernel_rfl) (fun a3373_ h3374_ => ?_))
                        clear h3372_ a3371_
                        refine WL.op' (m := 7) h3374_ rfl rfl (owp_run h3374_ rfl (by kernel_rfl) (v := .bool (!decide (r3355_ = (r3250_.length : Int)))) (by kernel_rfl) (fun a3375_ h3376_ => ?_))
                        clear h3374_ a3373_
                        refine WL.block (c := 2) (m' := 10) h3376_ rfl [(100, .bool (!decide (r3355_ = (r3250_.length : Int)))), (99, .bool (!decide (r3355_ = (r3250_.length : Int))))] (by kernel_rfl) (fun a3377_ h3378_ => ?_)
                        clear h3376_ a3375_
                        by_cases c3379_ : r3355_ = (r3250_.length : Int)
                        · rw [if_pos c3379_] at H
                          have hb_ : (decide (r3355_ = (r3250_.length : Int))) = true := decide_eq_true c3379_
                          try rw [hb_] at h3378_
                          clear hb_
                          refine WL.op' (m := 10) h3378_ rfl rfl (owp_run h3378_ rfl (by kernel_rfl) (v := .int .i64 r3356_) (by kernel_rfl) (fun a3380_ h3381_ => ?_))
                          clear h3378_ a3377_
                          refine WL.op' (m := 11) h3381_ rfl rfl (owp_run h3381_ rfl (by kernel_rfl) (v := .bool (!decide (r3356_ = 0))) (by kernel_rfl) (fun a3382_ h3383_ => ?_))
                          clear h3381_ a3380_
                          refine WL.block (c := 1) (m' := 13) h3383_ rfl [(103, .bool (!decide (r3356_ = 0)))] (by kernel_rfl) (fun a3384_ h3385_ => ?_)
                          clear h3383_ a3382_
                          refine WL.done (by kernel_rfl) ?_
                          by_cases c3386_ : r3356_ = 0
                          · rw [if_pos c3386_] at H
                            have hb_ : (decide (r3356_ = 0)) = true := decide_eq_true c3386_
                            try rw [hb_] at h3385_
                            clear hb_
                            refine wp_else h3385_ rfl ?_
                            refine wp_skip ?_
                            refine wp_seq ?_
                            refine wp_seq ?_
                            refine WL.start ?_
                            refine WL.block (c := 3) (m' := 3) h3385_ rfl [(106, .int .i64 0), (105, .int .i64 (r3250_.length : Int)), (104, .slice A3261_ r3250_.length c3262_)] (by kernel_rfl) (fun a3387_ h3388_ => ?_)
                            clear h3385_ a3384_
                            refine WL.done (by kernel_rfl) ?_
                            refine wp_block ?_
                            have hS3395_ : St b w0 W3357_ R (M3257_ :: M2979_ :: Fs) := hS3363_.drop_
                            have hS3396_ : St b w0 W3357_ R (M2979_ :: M3257_ :: Fs) := hS3395_.bring 1 rfl rfl
                            have hS3397_ : St b w0 W3357_ R (M3257_ :: Fs) := hS3396_.drop_
                            refine wp_loop_ghost (fun kq_ a_ W_ => ∃ (x3394_ : Int), Hd a_ 122 [(1, .int .i64 p1), (12, .slice A3261_ r3250_.length c3262_), (105, .int .i64 (r3250_.length : Int)), (106, .int .i64 x3394_)] ∧ Asd (louverlaw02_PrefixPuts.l0 kq_ x3394_ p1 r3250_ = some r0_) ∧ Asd (kq_ ≤ k) ∧ Asd (St b w0 W_ R (M3257_ :: Fs))) k ⟨0, h3388_.keep ⟨rfl, rfl, rfl, rfl, trivial⟩, ⟨H⟩, ⟨Nat.le_refl _⟩, ⟨hS3397_⟩⟩ ?_
                            clear H hS3397_
                            rintro k3393_ a3390_ W3391_ ⟨x3394_, h3389_, ⟨H⟩, ⟨hkk3393_⟩, ⟨hS3392_⟩⟩
                            obtain _ | k3398_ := k3393_
                            · exact absurd H (by simp [louverlaw02_PrefixPuts.l0])
                            simp only [louverlaw02_PrefixPuts.l0] at H
                            refine wp_seq ?_
                            refine WL.start ?_
                            refine WL.block (c := 1) (m' := 1) h3389_ rfl [(107, .bool (decide (x3394_ < (r3250_.length : Int))))] (by kernel_rfl) (fun a3399_ h3400_ => ?_)
                            clear h3389_ a3390_
                            refine WL.done (by kernel_rfl) ?_
                            refine wp_seq ?_
                            by_cases c3401_ : x3394_ < (r3250_.length : Int)
                            · rw [if_pos c3401_] at H
                              have hb_ : (decide (x3394_ < (r3250_.length : Int))) = true := decide_eq_true c3401_
                              try rw [hb_] at h3400_
                              clear hb_
                              refine wp_then h3400_ rfl ?_
                              refine wp_skip ?_
                              refine wp_seq ?_
                              refine wp_block ?_
                              refine wp_seq ?_
                              refine WL.start ?_
                              refine WL.block (c := 2) (m' := 2) h3400_ rfl [(17, .int .i64 x3394_), (108, .int .i64 x3394_)] (by kernel_rfl) (fun a3402_ h3403_ => ?_)
                              clear h3400_ a3399_
                              refine WL.done (by kernel_rfl) ?_
                              refine wp_seq ?_
                              refine WL.start ?_
                              refine WL.block (c := 2) (m' := 2) h3403_ rfl [(111, .int .i64 x3394_), (110, .slice A3261_ r3250_.length c3262_)] (by kernel_rfl) (fun a3404_ h3405_ => ?_)
                              clear h3403_ a3402_
                              by_cases c3406_ : 0 ≤ x3394_
                              · rw [if_pos c3406_] at H
                                by_cases c3407_ : x3394_ ≤ (r3250_.length : Int)
                                · rw [if_pos c3407_] at H
                                  refine WL.op' (m := 2) h3405_ rfl rfl ?_
                                  refine owp_run (v := sliced A3261_ (0 : Int).toNat x3394_.toNat c3262_ 1) h3405_ rfl (by kernel_rfl) (run_cut (l := 0) (h := x3394_) rfl rfl Try.underlying26 (by kernel_rfl) rfl ⟨_, rfl⟩ (by first | assumption | omega) (by first | assumption | omega) (by have q_ := Rds.cap hr3258_.rds; omega) (by have q_ := Rds.cap hr3258_.rds; omega)) (fun a3409_ h3410_ => ?_)
                                  clear h3405_ a3404_
                                  have hx3408_ := Rds.cut hr3258_.rds (l := (0 : Int).toNat) (h := x3394_.toNat) (by omega) (by omega)
                                  obtain ⟨v3411_, ev3412_⟩ : ∃ y_, y_ = sliced A3261_ (0 : Int).toNat x3394_.toNat c3262_ 1 := ⟨_, rfl⟩
                                  have hx_ : Rds (kInt .u8) b w0 (M3257_ ++ R) v3411_ (r3250_.take x3394_.toNat) := hx3408_.as_ ev3412_.symm (by simp)
                                  rw [← ev3412_] at h3410_; clear hx3408_
                                  have hx3408_ := hx_; clear hx_
                                  obtain ⟨A3413_, c3414_, rfl⟩ := hx3408_.form
                                  refine WL.block (c := 1) (m' := 4) h3410_ rfl [(113, .int .i64 p1)] (by kernel_rfl) (fun a3415_ h3416_ => ?_)
                                  clear h3410_ a3409_
                                  obtain ⟨r3418_, r3419_, r3420_, A3417_, H⟩ := bind3 H
                                  refine WL.op' (m := 4) h3416_ rfl rfl ?_
                                  refine owp_call [.slice A3413_ (r3250_.take x3394_.toNat).length c3414_, .int .i64 p1] h3416_ rfl (by kernel_rfl) rfl Try.func12 (by kernel_rfl) rfl (by kernel_rfl) (prefix_Get.calls k3398_ hx3408_ A3417_ (hS3392_.pool)) (fun e3422_ W3421_ hp3423_ => ?_)
                                  obtain ⟨rfl, hS3426_⟩ := hp3423_
                                  have hS3427_ : St b w0 W3421_ R (M3257_ :: Fs) := hS3426_.unpool
                                  refine ⟨_, rfl, fun a3424_ h3425_ => ?_⟩
                                  clear h3416_ a3415_
                                  refine WL.block (c := 7) (m' := 12) h3425_ rfl [(20, .int .i64 r3420_), (19, .int .i64 r3419_), (18, .int .u32 r3418_), (117, .int .i64 r3420_), (116, .int .i64 r3419_), (115, .int .u32 r3418_), (109, .tuple #[.int .u32 r3418_, .int .i64 r3419_, .int .i64 r3420_])] (by kernel_rfl) (fun a3428_ h3429_ => ?_)
                                  clear h3425_ a3424_
                                  refine WL.done (by kernel_rfl) ?_
                                  refine wp_seq ?_
                                  refine WL.start ?_
                                  refine WL.block (c := 2) (m' := 2) h3429_ rfl [(119, .bool (!decide (r3420_ = 2))), (118, .int .i64 r3420_)] (by kernel_rfl) (fun a3430_ h3431_ => ?_)
                                  clear h3429_ a3428_
                                  refine WL.done (by kernel_rfl) ?_
                                  by_cases c3432_ : r3420_ = 2
                                  · rw [if_pos c3432_] at H
                                    have hb_ : (decide (r3420_ = 2)) = true := decide_eq_true c3432_
                                    try rw [hb_] at h3431_
                                    clear hb_
                                    refine wp_else h3431_ rfl ?_
                                    refine wp_skip ?_
                                    refine WL.start ?_
                                    refine WL.block (c := 2) (m' := 2) h3431_ rfl [(106, .int .i64 (IntKind.i64.wrap (x3394_ + 1))), (120, .int .i64 (IntKind.i64.wrap (x3394_ + 1)))] (by kernel_rfl) (fun a3433_ h3434_ => ?_)
                                    clear h3431_ a3430_
                                    refine WL.done (by kernel_rfl) ?_
                                    exact ⟨k3398_, by omega, IntKind.i64.wrap (x3394_ + 1), h3434_.keep ⟨rfl, rfl, rfl, rfl, trivial⟩, ⟨H⟩, ⟨by omega⟩, ⟨hS3427_⟩⟩
                                  · rw [if_neg c3432_] at H
                                    have hb_ : (decide (r3420_ = 2)) = false := decide_eq_false c3432_
                                    try rw [hb_] at h3431_
                                    clear hb_
                                    refine wp_then h3431_ rfl ?_
                                    refine wp_seq ?_
                                    refine WL.start ?_
                                    refine WL.block (c := 1) (m' := 1) h3431_ rfl [(10, .bool false)] (by kernel_rfl) (fun a3435_ h3436_ => ?_)
                                    clear h3431_ a3430_
                                    refine WL.done (by kernel_rfl) ?_
                                    refine wp_ret ?_
                                    have hS3437_ : St b w0 W3421_ R (Fs) := hS3427_.drop_
                                    obtain rfl := Option.some.inj H
                                    repeat (first | refine then_ret ?_ | refine inBlock_ret ?_ | refine inBlock_go ?_)
                                    refine body_ret (v := .bool false) h3436_ (by kernel_rfl) (by kernel_rfl) ?_
                                    exact ⟨rfl, hS3437_⟩
                                · rw [if_neg c3407_] at H
                                  cases H
                              · rw [if_neg c3406_] at H
                                cases H
                            · rw [if_neg c3401_] at H
                              have hb_ : (decide (x3394_ < (r3250_.length : Int))) = false := decide_eq_false c3401_
                              try rw [hb_] at h3400_
                              clear hb_
                              refine wp_else h3400_ rfl ?_
                              refine wp_exit ?_
                              refine wp_seq ?_
                              refine WL.start ?_
                              obtain ⟨r3439_, A3438_, H⟩ := bind1 H
                              refine WL.op' (m := 0) h3400_ rfl rfl ?_
                              refine owp_call [] h3400_ rfl (by kernel_rfl) rfl Try.func8 (by kernel_rfl) rfl (by kernel_rfl) (louverlaw02_fixed.calls k3398_  A3438_ hS3392_) (fun e3441_ W3440_ hp3442_ => ?_)
                              obtain ⟨rfl, hS3445_⟩ := hp3442_
                              refine ⟨_, rfl, fun a3443_ h3444_ => ?_⟩
                              clear h3400_ a3399_
                              refine WL.block (c := 1) (m' := 2) h3444_ rfl [(10, .bool r3439_)] (by kernel_rfl) (fun a3446_ h3447_ => ?_)
                              clear h3444_ a3443_
                              refine WL.done (by kernel_rfl) ?_
                              refine wp_ret ?_
                              have hS3448_ : St b w0 W3440_ R (Fs) := hS3445_.drop_
                              obtain rfl := Option.some.inj H
                              repeat (first | refine then_ret ?_ | refine inBlock_ret ?_ | refine inBlock_go ?_)
                              refine body_ret (v := .bool r3439_) h3447_ (by kernel_rfl) (by kernel_rfl) ?_
                              exact ⟨rfl, hS3448_⟩
                          · rw [if_neg c3386_] at H
                            have hb_ : (decide (r3356_ = 0)) = false := decide_eq_false c3386_
                            try rw [hb_] at h3385_
                            clear hb_
                            refine wp_then h3385_ rfl ?_
                            refine wp_seq ?_
                            refine WL.start ?_
                            refine WL.block (c := 1) (m' := 1) h3385_ rfl [(10, .bool false)] (by kernel_rfl) (fun a3449_ h3450_ => ?_)
                            clear h3385_ a3384_
                            refine WL.done (by kernel_rfl) ?_
                            refine wp_ret ?_
                            have hS3451_ : St b w0 W3357_ R (M3257_ :: M2979_ :: Fs) := hS3363_.drop_
                            have hS3452_ : St b w0 W3357_ R (M2979_ :: Fs) := hS3451_.drop_
                            have hS3453_ : St b w0 W3357_ R (Fs) := hS3452_.drop_
                            obtain rfl := Option.some.inj H
                            repeat (first | refine then_ret ?_ | refine inBlock_ret ?_ | refine inBlock_go ?_)
                            refine body_ret (v := .bool false) h3450_ (by kernel_rfl) (by kernel_rfl) ?_
                            exact ⟨rfl, hS3453_⟩
                        · rw [if_neg c3379_] at H
                          have hb_ : (decide (r3355_ = (r3250_.length : Int))) = false := decide_eq_false c3379_
                          try rw [hb_] at h3378_
                          clear hb_
                          refine WL.skipped (m := 10) h3378_ rfl rfl (by kernel_rfl) rfl (fun a3454_ h3455_ => ?_)
                          clear h3378_ a3377_
                          refine WL.skipped (m := 11) h3455_ rfl rfl (by kernel_rfl) rfl (fun a3456_ h3457_ => ?_)
                          clear h3455_ a3454_
                          refine WL.block (c := 1) (m' := 13) h3457_ rfl [(103, .bool true)] (by kernel_rfl) (fun a3458_ h3459_ => ?_)
                          clear h3457_ a3456_
                          refine WL.done (by kernel_rfl) ?_
                          refine wp_then h3459_ rfl ?_
                          refine wp_seq ?_
                          refine WL.start ?_
                          refine WL.block (c := 1) (m' := 1) h3459_ rfl [(10, .bool false)] (by kernel_rfl) (fun a3460_ h3461_ => ?_)
                          clear h3459_ a3458_
                          refine WL.done (by kernel_rfl) ?_
                          refine wp_ret ?_
                          have hS3462_ : St b w0 W3357_ R (M3257_ :: M2979_ :: Fs) := hS3363_.drop_
                          have hS3463_ : St b w0 W3357_ R (M2979_ :: Fs) := hS3462_.drop_
                          have hS3464_ : St b w0 W3357_ R (Fs) := hS3463_.drop_
                          obtain rfl := Option.some.inj H
                          repeat (first | refine then_ret ?_ | refine inBlock_ret ?_ | refine inBlock_go ?_)
                          refine body_ret (v := .bool false) h3461_ (by kernel_rfl) (by kernel_rfl) ?_
                          exact ⟨rfl, hS3464_⟩
                      · rw [if_neg c3368_] at H
                        have hb_ : (decide (r3354_ = p3)) = false := decide_eq_false c3368_
                        try rw [hb_] at h3367_
                        clear hb_
                        refine WL.skipped (m := 4) h3367_ rfl rfl (by kernel_rfl) rfl (fun a3465_ h3466_ => ?_)
                        clear h3367_ a3366_
                        refine WL.skipped (m := 5) h3466_ rfl rfl (by kernel_rfl) rfl (fun a3467_ h3468_ => ?_)
                        clear h3466_ a3465_
                        refine WL.skipped (m := 6) h3468_ rfl rfl (by kernel_rfl) rfl (fun a3469_ h3470_ => ?_)
                        clear h3468_ a3467_
                        refine WL.skipped (m := 7) h3470_ rfl rfl (by kernel_rfl) rfl (fun a3471_ h3472_ => ?_)
                        clear h3470_ a3469_
                        refine WL.block (c := 2) (m' := 10) h3472_ rfl [(100, .bool true), (99, .bool true)] (by kernel_rfl) (fun a3473_ h3474_ => ?_)
                        clear h3472_ a3471_
                        refine WL.skipped (m := 10) h3474_ rfl rfl (by kernel_rfl) rfl (fun a3475_ h3476_ => ?_)
                        clear h3474_ a3473_
                        refine WL.skipped (m := 11) h3476_ rfl rfl (by kernel_rfl) rfl (fun a3477_ h3478_ => ?_)
                        clear h3476_ a3475_
                        refine WL.block (c := 1) (m' := 13) h3478_ rfl [(103, .bool true)] (by kernel_rfl) (fun a3479_ h3480_ => ?_)
                        clear h3478_ a3477_
                        refine WL.done (by kernel_rfl) ?_
                        refine wp_then h3480_ rfl ?_
                        refine wp_seq ?_
                        refine WL.start ?_
                        refine WL.block (c := 1) (m' := 1) h3480_ rfl [(10, .bool false)] (by kernel_rfl) (fun a3481_ h3482_ => ?_)
                        clear h3480_ a3479_
                        refine WL.done (by kernel_rfl) ?_
                        refine wp_ret ?_
                        have hS3483_ : St b w0 W3357_ R (M3257_ :: M2979_ :: Fs) := hS3363_.drop_
                        have hS3484_ : St b w0 W3357_ R (M2979_ :: Fs) := hS3483_.drop_
                        have hS3485_ : St b w0 W3357_ R (Fs) := hS3484_.drop_
                        obtain rfl := Option.some.inj H
                        repeat (first | refine then_ret ?_ | refine inBlock_ret ?_ | refine inBlock_go ?_)
                        refine body_ret (v := .bool false) h3482_ (by kernel_rfl) (by kernel_rfl) ?_
                        exact ⟨rfl, hS3485_⟩
                    · rw [if_neg c3335_] at H
                      cases H
                  · rw [if_neg c3317_] at H
                    cases H
                · rw [if_neg c3307_] at H
                  have hb_ : (decide (r3292_ = (r3250_.length : Int))) = false := decide_eq_false c3307_
                  try rw [hb_] at h3306_
                  clear hb_
                  refine wp_then h3306_ rfl ?_
                  refine wp_seq ?_
                  refine WL.start ?_
                  refine WL.block (c := 1) (m' := 1) h3306_ rfl [(10, .bool false)] (by kernel_rfl) (fun a3486_ h3487_ => ?_)
                  clear h3306_ a3305_
                  refine WL.done (by kernel_rfl) ?_
                  refine wp_ret ?_
                  have hS3488_ : St b w0 W3293_ R (M2979_ :: Fs) := hS3298_.drop_
                  have hS3489_ : St b w0 W3293_ R (Fs) := hS3488_.drop_
                  obtain rfl := Option.some.inj H
                  repeat (first | refine then_ret ?_ | refine inBlock_ret ?_ | refine inBlock_go ?_)
                  refine body_ret (v := .bool false) h3487_ (by kernel_rfl) (by kernel_rfl) ?_
                  exact ⟨rfl, hS3489_⟩
              · rw [if_neg c3286_] at H
                have hb_ : (decide ((toS r2972_) = ((toS p0) ++ (toS r3250_)))) = false := decide_eq_false c3286_
                try rw [hb_] at h3285_
                clear hb_
                refine WL.skipped (m := 9) h3285_ rfl rfl (by kernel_rfl) rfl (fun a3490_ h3491_ => ?_)
                clear h3285_ a3284_
                refine WL.skipped (m := 10) h3491_ rfl rfl (by kernel_rfl) rfl (fun a3492_ h3493_ => ?_)
                clear h3491_ a3490_
                refine WL.skipped (m := 11) h3493_ rfl rfl (by kernel_rfl) rfl (fun a3494_ h3495_ => ?_)
                clear h3493_ a3492_
                refine WL.skipped (m := 12) h3495_ rfl rfl (by kernel_rfl) rfl (fun a3496_ h3497_ => ?_)
                clear h3495_ a3494_
                refine WL.skipped (m := 13) h3497_ rfl rfl (by kernel_rfl) rfl (fun a3498_ h3499_ => ?_)
                clear h3497_ a3496_
                refine WL.skipped (m := 14) h3499_ rfl rfl (by kernel_rfl) rfl (fun a3500_ h3501_ => ?_)
                clear h3499_ a3498_
                refine WL.block (c := 1) (m' := 16) h3501_ rfl [(78, .bool true)] (by kernel_rfl) (fun a3502_ h3503_ => ?_)
                clear h3501_ a3500_
                refine WL.done (by kernel_rfl) ?_
                refine wp_then h3503_ rfl ?_
                refine wp_seq ?_
                refine WL.start ?_
                refine WL.block (c := 1) (m' := 1) h3503_ rfl [(10, .bool false)] (by kernel_rfl) (fun a3504_ h3505_ => ?_)
                clear h3503_ a3502_
                refine WL.done (by kernel_rfl) ?_
                refine wp_ret ?_
                have hS3506_ : St b w0 W3251_ R (M2979_ :: Fs) := hS3276_.drop_
                have hS3507_ : St b w0 W3251_ R (Fs) := hS3506_.drop_
                obtain rfl := Option.some.inj H
                repeat (first | refine then_ret ?_ | refine inBlock_ret ?_ | refine inBlock_go ?_)
                refine body_ret (v := .bool false) h3505_ (by kernel_rfl) (by kernel_rfl) ?_
                exact ⟨rfl, hS3507_⟩
            · rw [if_neg c3279_] at H
              cases H

/-! ### louver/louverref02.Get -/
def louverref02_Get.l0 : Nat → Int → Int → Int → (List Int) → Option (Int × Int × Int)
  | 0, _, _, _, _ => none
  | k + 1, x3864_, x3865_, x3866_, p0 => if x3866_ < (p0.length : Int) then (if x3866_ > 4 then (some (0, 0, 4)) else (if 0 ≤ x3866_ then (if (gt (0 : Int) p0 x3866_) < 128 then (if (IntKind.u64.wrap (x3864_ + (IntKind.u64.wrap ((Int.tmod (IntKind.u64.wrap (gt (0 : Int) p0 x3866_)) 128) * x3865_)))) > 268435456 then (some (0, 0, 4)) else (some (IntKind.u32.wrap (IntKind.u64.wrap (x3864_ + (IntKind.u64.wrap ((Int.tmod (IntKind.u64.wrap (gt (0 : Int) p0 x3866_)) 128) * x3865_)))), IntKind.i64.wrap (x3866_ + 1), 0))) else (louverref02_Get.l0 k (IntKind.u64.wrap (x3864_ + (IntKind.u64.wrap ((Int.tmod (IntKind.u64.wrap (gt (0 : Int) p0 x3866_)) 128) * x3865_)))) (IntKind.u64.wrap (x3865_ * 128)) (IntKind.i64.wrap (x3866_ + 1)) p0)) else (none))) else (some (0, 0, 2))
def louverref02_Get.f (k : Nat) (p0 : (List Int)) (p1 : Int) : Option (Int × Int × Int) := if p1 < 1 then (some (0, 0, 1)) else (if p1 > 8 then (some (0, 0, 1)) else (if (p0.length : Int) = 0 then (some (0, 0, 2)) else (bnd1 (louverref02_top.f k p1) fun r3818_ => (if 0 < (p0.length : Int) then (if ¬ ((IntKind.u64.wrap (r3818_ + 1)) = 0) then (if (Int.tmod (IntKind.u64.wrap (gt (0 : Int) p0 (0 : Int))) (IntKind.u64.wrap (r3818_ + 1))) < r3818_ then (some (IntKind.u32.wrap (Int.tmod (IntKind.u64.wrap (gt (0 : Int) p0 (0 : Int))) (IntKind.u64.wrap (r3818_ + 1))), 1, 0)) else (louverref02_Get.l0 k (Int.tmod (IntKind.u64.wrap (gt (0 : Int) p0 (0 : Int))) (IntKind.u64.wrap (r3818_ + 1))) 1 1 p0)) else (none)) else (none)))))
set_option maxHeartbeats 2000000 in
set_option maxRecDepth 100000 in
theorem louverref02_Get.calls (k : Nat) {b : Nat} {w0 W : World} {R : Frag} {Fs : List Frag} {p0 : (List Int)} {p1 : Int} {v0 : Value} {r0_ : Int} {r1_ : Int} {r2_ : Int} (hp0 : Rds (kInt .u8) b w0 R v0 p0) (H : louverref02_Get.f k p0 p1 = some (r0_, r1_, r2_)) (hS : St b w0 W R (Fs)) :
    Calls Try.prog 13 ([v0, .int .i64 p1] : List Value).toArray W (fun e W' => e = .returned (.tuple #[.int .u32 r0_, .int .i64 r1_, .int .i64 r2_]) ∧ St b w0 W' R (Fs)) := by
  obtain ⟨A0, c0, rfl⟩ := hp0.form
  unfold louverref02_Get.f at H
  refine calls_enter Try.func13 rfl 65 rfl (by kernel_rfl) (fun a h => ?_)
  refine wp_seq ?_
  refine WL.start ?_
  refine WL.block (c := 3) (m' := 3) h rfl [(6, .int .i64 0), (5, .int .i64 0), (4, .int .u32 0)] (by kernel_rfl) (fun a3788_ h3789_ => ?_)
  refine WL.done (by kernel_rfl) ?_
  refine wp_seq ?_
  refine wp_seq ?_
  refine WL.start ?_
  refine WL.block (c := 3) (m' := 3) h3789_ rfl [(13, .bool (decide (p1 < 1))), (12, .bool (decide (p1 < 1))), (11, .int .i64 p1)] (by kernel_rfl) (fun a3790_ h3791_ => ?_)
  clear h3789_ a3788_
  by_cases c3792_ : p1 < 1
  · rw [if_pos c3792_] at H
    have hb_ : (decide (p1 < 1)) = true := decide_eq_true c3792_
    try rw [hb_] at h3791_
    clear hb_
    refine WL.skipped (m := 3) h3791_ rfl rfl (by kernel_rfl) rfl (fun a3793_ h3794_ => ?_)
    clear h3791_ a3790_
    refine WL.skipped (m := 4) h3794_ rfl rfl (by kernel_rfl) rfl (fun a3795_ h3796_ => ?_)
    clear h3794_ a3793_
    refine WL.block (c := 1) (m' := 6) h3796_ rfl [(16, .bool true)] (by kernel_rfl) (fun a3797_ h3798_ => ?_)
    clear h3796_ a3795_
    refine WL.done (by kernel_rfl) ?_
    refine wp_then h3798_ rfl ?_
    refine wp_seq ?_
    refine WL.start ?_
    refine WL.block (c := 3) (m' := 3) h3798_ rfl [(6, .int .i64 1), (5, .int .i64 0), (4, .int .u32 0)] (by kernel_rfl) (fun a3799_ h3800_ => ?_)
    clear h3798_ a3797_
    refine WL.done (by kernel_rfl) ?_
    refine wp_ret ?_
    obtain ⟨rfl, rfl, rfl⟩ := ret3 H
    repeat (first | refine then_ret ?_ | refine inBlock_ret ?_ | refine inBlock_go ?_)
    refine body_ret (v := .tuple #[.int .u32 0, .int .i64 0, .int .i64 1]) h3800_ (by kernel_rfl) (by kernel_rfl) ?_
    exact ⟨rfl, hS⟩
  · rw [if_neg c3792_] at H
    have hb_ : (decide (p1 < 1)) = false := decide_eq_false c3792_
    try rw [hb_] at h3791_
    clear hb_
    refine WL.op' (m := 3) h3791_ rfl rfl (owp_run h3791_ rfl (by kernel_rfl) (v := .int .i64 p1) (by kernel_rfl) (fun a3801_ h3802_ => ?_))
    clear h3791_ a3790_
    refine WL.op' (m := 4) h3802_ rfl rfl (owp_run h3802_ rfl (by kernel_rfl) (v := .bool (decide (p1 > 8))) (by kernel_rfl) (fun a3803_ h3804_ => ?_))
    clear h3802_ a3801_
    refine WL.block (c := 1) (m' := 6) h3804_ rfl [(16, .bool (decide (p1 > 8)))] (by kernel_rfl) (fun a3805_ h3806_ => ?_)
    clear h3804_ a3803_
    refine WL.done (by kernel_rfl) ?_
    by_cases c3807_ : p1 > 8
    · rw [if_pos c3807_] at H
      have hb_ : (decide (p1 > 8)) = true := decide_eq_true c3807_
      try rw [hb_] at h3806_
      clear hb_
      refine wp_then h3806_ rfl ?_
      refine wp_seq ?_
      refine WL.start ?_
      refine WL.block (c := 3) (m' := 3) h3806_ rfl [(6, .int .i64 1), (5, .int .i64 0), (4, .int .u32 0)] (by kernel_rfl) (fun a3808_ h3809_ => ?_)
      clear h3806_ a3805_
      refine WL.done (by kernel_rfl) ?_
      refine wp_ret ?_
      obtain ⟨rfl, rfl, rfl⟩ := ret3 H
      repeat (first | refine then_ret ?_ | refine inBlock_ret ?_ | refine inBlock_go ?_)
      refine body_ret (v := .tuple #[.int .u32 0, .int .i64 0, .int .i64 1]) h3809_ (by kernel_rfl) (by kernel_rfl) ?_
      exact ⟨rfl, hS⟩
    · rw [if_neg c3807_] at H
      have hb_ : (decide (p1 > 8)) = false := decide_eq_false c3807_
      try rw [hb_] at h3806_
      clear hb_
      refine wp_else h3806_ rfl ?_
      refine wp_skip ?_
      refine wp_seq ?_
      refine wp_seq ?_
      refine WL.start ?_
      refine WL.block (c := 3) (m' := 3) h3806_ rfl [(19, .bool (decide ((p0.length : Int) = 0))), (18, .int .i64 (p0.length : Int)), (17, .slice A0 p0.length c0)] (by kernel_rfl) (fun a3810_ h3811_ => ?_)
      clear h3806_ a3805_
      refine WL.done (by kernel_rfl) ?_
      by_cases c3812_ : (p0.length : Int) = 0
      · rw [if_pos c3812_] at H
        have hb_ : (decide ((p0.length : Int) = 0)) = true := decide_eq_true c3812_
        try rw [hb_] at h3811_
        clear hb_
        refine wp_then h3811_ rfl ?_
        refine wp_seq ?_
        refine WL.start ?_
        refine WL.block (c := 3) (m' := 3) h3811_ rfl [(6, .int .i64 2), (5, .int .i64 0), (4, .int .u32 0)] (by kernel_rfl) (fun a3813_ h3814_ => ?_)
        clear h3811_ a3810_
        refine WL.done (by kernel_rfl) ?_
        refine wp_ret ?_
        obtain ⟨rfl, rfl, rfl⟩ := ret3 H
        repeat (first | refine then_ret ?_ | refine inBlock_ret ?_ | refine inBlock_go ?_)
        refine body_ret (v := .tuple #[.int .u32 0, .int .i64 0, .int .i64 2]) h3814_ (by kernel_rfl) (by kernel_rfl) ?_
        exact ⟨rfl, hS⟩
      · rw [if_neg c3812_] at H
        have hb_ : (decide ((p0.length : Int) = 0)) = false := decide_eq_false c3812_
        try rw [hb_] at h3811_
        clear hb_
        refine wp_else h3811_ rfl ?_
        refine wp_skip ?_
        refine wp_seq ?_
        refine WL.start ?_
        refine WL.block (c := 1) (m' := 1) h3811_ rfl [(20, .int .i64 p1)] (by kernel_rfl) (fun a3815_ h3816_ => ?_)
        clear h3811_ a3810_
        obtain ⟨r3818_, A3817_, H⟩ := bind1 H
        refine WL.op' (m := 1) h3816_ rfl rfl ?_
        refine owp_call [.int .i64 p1] h3816_ rfl (by kernel_rfl) rfl Try.func16 (by kernel_rfl) rfl (by kernel_rfl) (louverref02_top.calls k  A3817_ hS) (fun e3820_ W3819_ hp3821_ => ?_)
        obtain ⟨rfl, hS3824_⟩ := hp3821_
        refine ⟨_, rfl, fun a3822_ h3823_ => ?_⟩
        clear h3816_ a3815_
        refine WL.block (c := 1) (m' := 3) h3823_ rfl [(7, .int .u64 r3818_)] (by kernel_rfl) (fun a3825_ h3826_ => ?_)
        clear h3823_ a3822_
        refine WL.done (by kernel_rfl) ?_
        refine wp_seq ?_
        refine WL.start ?_
        refine WL.block (c := 1) (m' := 1) h3826_ rfl [(22, .slice A0 p0.length c0)] (by kernel_rfl) (fun a3827_ h3828_ => ?_)
        clear h3826_ a3825_
        by_cases c3829_ : 0 < (p0.length : Int)
        · rw [if_pos c3829_] at H
          have hi3832_ : 0 ≤ (0 : Int) := by first | assumption | omega
          have hi3833_ : 0 < (p0.length : Int) := by first | assumption | omega
          obtain ⟨ad3830_, _, ha3831_, -, -⟩ := Rds.elemAny hp0 hi3832_ (gt_get (z := (0 : Int)) hi3832_ hi3833_)
          refine WL.op' (m := 1) h3828_ rfl rfl ?_
          refine owp_run (v := .pointer (some (ad3830_.add ((0 : Int).toNat * 1)))) h3828_ rfl (by kernel_rfl) (run_idx (ad := ad3830_) (sz := 1) rfl (by rw [← ha3831_]; rfl) rfl Try.underlying26 (by kernel_rfl) hi3832_ hi3833_) (fun a3834_ h3835_ => ?_)
          clear h3828_ a3827_
          obtain ⟨ad3836_, cs3837_, ha3838_, hr3840_, hc3839_⟩ := Rds.elemAny hp0 hi3832_ (gt_get (z := (0 : Int)) hi3832_ hi3833_)
          rw [ha3831_] at ha3838_; obtain rfl := Option.some.inj ha3838_
          obtain rfl : cs3837_ = [.int .u8 (gt (0 : Int) p0 (0 : Int))] := hr3840_
          refine WL.op' (m := 2) h3835_ rfl rfl ?_
          refine owp_run (v := .int .u8 (gt (0 : Int) p0 (0 : Int))) h3835_ rfl (by kernel_rfl) (run_load1 rfl rfl Try.underlying5 rfl (cell0 (hc3839_ _ (fun _ _ hk_ => hS3824_.kn hk_)))) (fun a3841_ h3842_ => ?_)
          clear h3835_ a3834_
          refine WL.block (c := 3) (m' := 6) h3842_ rfl [(27, .int .u64 (IntKind.u64.wrap (r3818_ + 1))), (26, .int .u64 r3818_), (25, .int .u64 (IntKind.u64.wrap (gt (0 : Int) p0 (0 : Int))))] (by kernel_rfl) (fun a3843_ h3844_ => ?_)
          clear h3842_ a3841_
          by_cases c3845_ : ¬ ((IntKind.u64.wrap (r3818_ + 1)) = 0)
          · rw [if_pos c3845_] at H
            refine WL.op' (m := 6) h3844_ rfl rfl ?_
            refine owp_run (v := .int .u64 (Int.tmod (IntKind.u64.wrap (gt (0 : Int) p0 (0 : Int))) (IntKind.u64.wrap (r3818_ + 1)))) h3844_ rfl (by kernel_rfl) (run_rem rfl rfl rfl (by assumption)) (fun a3846_ h3847_ => ?_)
            clear h3844_ a3843_
            refine WL.block (c := 1) (m' := 8) h3847_ rfl [(8, .int .u64 (Int.tmod (IntKind.u64.wrap (gt (0 : Int) p0 (0 : Int))) (IntKind.u64.wrap (r3818_ + 1))))] (by kernel_rfl) (fun a3848_ h3849_ => ?_)
            clear h3847_ a3846_
            refine WL.done (by kernel_rfl) ?_
            refine wp_seq ?_
            refine wp_seq ?_
            refine WL.start ?_
            refine WL.block (c := 3) (m' := 3) h3849_ rfl [(31, .bool (decide ((Int.tmod (IntKind.u64.wrap (gt (0 : Int) p0 (0 : Int))) (IntKind.u64.wrap (r3818_ + 1))) < r3818_))), (30, .int .u64 r3818_), (29, .int .u64 (Int.tmod (IntKind.u64.wrap (gt (0 : Int) p0 (0 : Int))) (IntKind.u64.wrap (r3818_ + 1))))] (by kernel_rfl) (fun a3850_ h3851_ => ?_)
            clear h3849_ a3848_
            refine WL.done (by kernel_rfl) ?_
            by_cases c3852_ : (Int.tmod (IntKind.u64.wrap (gt (0 : Int) p0 (0 : Int))) (IntKind.u64.wrap (r3818_ + 1))) < r3818_
            · rw [if_pos c3852_] at H
              have hb_ : (decide ((Int.tmod (IntKind.u64.wrap (gt (0 : Int) p0 (0 : Int))) (IntKind.u64.wrap (r3818_ + 1))) < r3818_)) = true := decide_eq_true c3852_
              try rw [hb_] at h3851_
              clear hb_
              refine wp_then h3851_ rfl ?_
              refine wp_seq ?_
              refine WL.start ?_
              refine WL.block (c := 5) (m' := 5) h3851_ rfl [(6, .int .i64 0), (5, .int .i64 1), (4, .int .u32 (IntKind.u32.wrap (Int.tmod (IntKind.u64.wrap (gt (0 : Int) p0 (0 : Int))) (IntKind.u64.wrap (r3818_ + 1))))), (33, .int .u32 (IntKind.u32.wrap (Int.tmod (IntKind.u64.wrap (gt (0 : Int) p0 (0 : Int))) (IntKind.u64.wrap (r3818_ + 1))))), (32, .int .u64 (Int.tmod (IntKind.u64.wrap (gt (0 : Int) p0 (0 : Int))) (IntKind.u64.wrap (r3818_ + 1))))] (by kernel_rfl) (fun a3853_ h3854_ => ?_)
              clear h3851_ a3850_
              refine WL.done (by kernel_rfl) ?_
              refine wp_ret ?_
              obtain ⟨rfl, rfl, rfl⟩ := ret3 H
              repeat (first | refine then_ret ?_ | refine inBlock_ret ?_ | refine inBlock_go ?_)
              refine body_ret (v := .tuple #[.int .u32 (IntKind.u32.wrap (Int.tmod (IntKind.u64.wrap (gt (0 : Int) p0 (0 : Int))) (IntKind.u64.wrap (r3818_ + 1)))), .int .i64 1, .int .i64 0]) h3854_ (by kernel_rfl) (by kernel_rfl) ?_
              exact ⟨rfl, hS3824_⟩
            · rw [if_neg c3852_] at H
              have hb_ : (decide ((Int.tmod (IntKind.u64.wrap (gt (0 : Int) p0 (0 : Int))) (IntKind.u64.wrap (r3818_ + 1))) < r3818_)) = false := decide_eq_false c3852_
              try rw [hb_] at h3851_
              clear hb_
              refine wp_else h3851_ rfl ?_
              refine wp_skip ?_
              refine wp_seq ?_
              refine WL.start ?_
              refine WL.block (c := 1) (m' := 1) h3851_ rfl [(9, .int .u64 1)] (by kernel_rfl) (fun a3855_ h3856_ => ?_)
              clear h3851_ a3850_
              refine WL.done (by kernel_rfl) ?_
              refine wp_seq ?_
              refine wp_seq ?_
              refine WL.start ?_
              refine WL.block (c := 1) (m' := 1) h3856_ rfl [(10, .int .i64 1)] (by kernel_rfl) (fun a3857_ h3858_ => ?_)
              clear h3856_ a3855_
              refine WL.done (by kernel_rfl) ?_
              refine wp_block ?_
              refine wp_loop_ghost (fun kq_ a_ W_ => ∃ (x3864_ : Int), ∃ (x3865_ : Int), ∃ (x3866_ : Int), Hd a_ 65 [(0, .slice A0 p0.length c0), (8, .int .u64 x3864_), (9, .int .u64 x3865_), (10, .int .i64 x3866_)] ∧ Asd (louverref02_Get.l0 kq_ x3864_ x3865_ x3866_ p0 = some (r0_, r1_, r2_)) ∧ Asd (kq_ ≤ k) ∧ Asd (St b w0 W_ R (Fs))) k ⟨Int.tmod (IntKind.u64.wrap (gt (0 : Int) p0 (0 : Int))) (IntKind.u64.wrap (r3818_ + 1)), 1, 1, h3858_.keep ⟨rfl, rfl, rfl, rfl, trivial⟩, ⟨H⟩, ⟨Nat.le_refl _⟩, ⟨hS3824_⟩⟩ ?_
              clear H hS3824_
              rintro k3863_ a3860_ W3861_ ⟨x3864_, x3865_, x3866_, h3859_, ⟨H⟩, ⟨hkk3863_⟩, ⟨hS3862_⟩⟩
              obtain _ | k3867_ := k3863_
              · exact absurd H (by simp [louverref02_Get.l0])
              simp only [louverref02_Get.l0] at H
              refine wp_seq ?_
              refine wp_seq ?_
              refine WL.start ?_
              refine WL.block (c := 4) (m' := 4) h3859_ rfl [(37, .bool (decide (x3866_ < (p0.length : Int)))), (36, .int .i64 (p0.length : Int)), (35, .slice A0 p0.length c0), (34, .int .i64 x3866_)] (by kernel_rfl) (fun a3868_ h3869_ => ?_)
              clear h3859_ a3860_
              refine WL.done (by kernel_rfl) ?_
              by_cases c3870_ : x3866_ < (p0.length : Int)
              · rw [if_pos c3870_] at H
                have hb_ : (decide (x3866_ < (p0.length : Int))) = true := decide_eq_true c3870_
                try rw [hb_] at h3869_
                clear hb_
                refine wp_then h3869_ rfl ?_
                refine wp_skip ?_
                refine wp_seq ?_
                refine wp_block ?_
                refine wp_seq ?_
                refine wp_seq ?_
                refine WL.start ?_
                refine WL.block (c := 2) (m' := 2) h3869_ rfl [(41, .bool (decide (x3866_ > 4))), (40, .int .i64 x3866_)] (by kernel_rfl) (fun a3871_ h3872_ => ?_)
                clear h3869_ a3868_
                refine WL.done (by kernel_rfl) ?_
                by_cases c3873_ : x3866_ > 4
                · rw [if_pos c3873_] at H
                  have hb_ : (decide (x3866_ > 4)) = true := decide_eq_true c3873_
                  try rw [hb_] at h3872_
                  clear hb_
                  refine wp_then h3872_ rfl ?_
                  refine wp_seq ?_
                  refine WL.start ?_
                  refine WL.block (c := 3) (m' := 3) h3872_ rfl [(6, .int .i64 4), (5, .int .i64 0), (4, .int .u32 0)] (by kernel_rfl) (fun a3874_ h3875_ => ?_)
                  clear h3872_ a3871_
                  refine WL.done (by kernel_rfl) ?_
                  refine wp_ret ?_
                  obtain ⟨rfl, rfl, rfl⟩ := ret3 H
                  repeat (first | refine then_ret ?_ | refine inBlock_ret ?_ | refine inBlock_go ?_)
                  refine body_ret (v := .tuple #[.int .u32 0, .int .i64 0, .int .i64 4]) h3875_ (by kernel_rfl) (by kernel_rfl) ?_
                  exact ⟨rfl, hS3862_⟩
                · rw [if_neg c3873_] at H
                  have hb_ : (decide (x3866_ > 4)) = false := decide_eq_false c3873_
                  try rw [hb_] at h3872_
                  clear hb_
                  refine wp_else h3872_ rfl ?_
                  refine wp_skip ?_
                  refine wp_seq ?_
                  refine WL.start ?_
                  refine WL.block (c := 3) (m' := 3) h3872_ rfl [(44, .int .i64 x3866_), (43, .slice A0 p0.length c0), (42, .int .u64 x3864_)] (by kernel_rfl) (fun a3876_ h3877_ => ?_)
                  clear h3872_ a3871_
                  by_cases c3878_ : 0 ≤ x3866_
                  · rw [if_pos c3878_] at H
                    have hi3881_ : 0 ≤ x3866_ := by first | assumption | omega
                    have hi3882_ : x3866_ < (p0.length : Int) := by first | assumption | omega
                    obtain ⟨ad3879_, _, ha3880_, -, -⟩ := Rds.elemAny hp0 hi3881_ (gt_get (z := (0 : Int)) hi3881_ hi3882_)
                    refine WL.op' (m := 3) h3877_ rfl rfl ?_
                    refine owp_run (v := .pointer (some (ad3879_.add (x3866_.toNat * 1)))) h3877_ rfl (by kernel_rfl) (run_idx (ad := ad3879_) (sz := 1) rfl (by rw [← ha3880_]; rfl) rfl Try.underlying26 (by kernel_rfl) hi3881_ hi3882_) (fun a3883_ h3884_ => ?_)
                    clear h3877_ a3876_
                    obtain ⟨ad3885_, cs3886_, ha3887_, hr3889_, hc3888_⟩ := Rds.elemAny hp0 hi3881_ (gt_get (z := (0 : Int)) hi3881_ hi3882_)
                    rw [ha3880_] at ha3887_; obtain rfl := Option.some.inj ha3887_
                    obtain rfl : cs3886_ = [.int .u8 (gt (0 : Int) p0 x3866_)] := hr3889_
                    refine WL.op' (m := 4) h3884_ rfl rfl ?_
                    refine owp_run (v := .int .u8 (gt (0 : Int) p0 x3866_)) h3884_ rfl (by kernel_rfl) (run_load1 rfl rfl Try.underlying5 rfl (cell0 (hc3888_ _ (fun _ _ hk_ => hS3862_.kn hk_)))) (fun a3890_ h3891_ => ?_)
                    clear h3884_ a3883_
                    refine WL.block (c := 6) (m' := 11) h3891_ rfl [(8, .int .u64 (IntKind.u64.wrap (x3864_ + (IntKind.u64.wrap ((Int.tmod (IntKind.u64.wrap (gt (0 : Int) p0 x3866_)) 128) * x3865_))))), (51, .int .u64 (IntKind.u64.wrap (x3864_ + (IntKind.u64.wrap ((Int.tmod (IntKind.u64.wrap (gt (0 : Int) p0 x3866_)) 128) * x3865_))))), (50, .int .u64 (IntKind.u64.wrap ((Int.tmod (IntKind.u64.wrap (gt (0 : Int) p0 x3866_)) 128) * x3865_))), (49, .int .u64 x3865_), (48, .int .u64 (Int.tmod (IntKind.u64.wrap (gt (0 : Int) p0 x3866_)) 128)), (47, .int .u64 (IntKind.u64.wrap (gt (0 : Int) p0 x3866_)))] (by kernel_rfl) (fun a3892_ h3893_ => ?_)
                    clear h3891_ a3890_
                    refine WL.done (by kernel_rfl) ?_
                    refine wp_seq ?_
                    refine WL.start ?_
                    refine WL.block (c := 3) (m' := 3) h3893_ rfl [(9, .int .u64 (IntKind.u64.wrap (x3865_ * 128))), (53, .int .u64 (IntKind.u64.wrap (x3865_ * 128))), (52, .int .u64 x3865_)] (by kernel_rfl) (fun a3894_ h3895_ => ?_)
                    clear h3893_ a3892_
                    refine WL.done (by kernel_rfl) ?_
                    refine wp_seq ?_
                    refine WL.start ?_
                    refine WL.block (c := 2) (m' := 2) h3895_ rfl [(55, .int .i64 x3866_), (54, .slice A0 p0.length c0)] (by kernel_rfl) (fun a3896_ h3897_ => ?_)
                    clear h3895_ a3894_
                    have hi3900_ : 0 ≤ x3866_ := by first | assumption | omega
                    have hi3901_ : x3866_ < (p0.length : Int) := by first | assumption | omega
                    obtain ⟨ad3898_, _, ha3899_, -, -⟩ := Rds.elemAny hp0 hi3900_ (gt_get (z := (0 : Int)) hi3900_ hi3901_)
                    refine WL.op' (m := 2) h3897_ rfl rfl ?_
                    refine owp_run (v := .pointer (some (ad3898_.add (x3866_.toNat * 1)))) h3897_ rfl (by kernel_rfl) (run_idx (ad := ad3898_) (sz := 1) rfl (by rw [← ha3899_]; rfl) rfl Try.underlying26 (by kernel_rfl) hi3900_ hi3901_) (fun a3902_ h3903_ => ?_)
                    clear h3897_ a3896_
                    obtain ⟨ad3904_, cs3905_, ha3906_, hr3908_, hc3907_⟩ := Rds.elemAny hp0 hi3900_ (gt_get (z := (0 : Int)) hi3900_ hi3901_)
                    rw [ha3899_] at ha3906_; obtain rfl := Option.some.inj ha3906_
                    obtain rfl : cs3905_ = [.int .u8 (gt (0 : Int) p0 x3866_)] := hr3908_
                    refine WL.op' (m := 3) h3903_ rfl rfl ?_
                    refine owp_run (v := .int .u8 (gt (0 : Int) p0 x3866_)) h3903_ rfl (by kernel_rfl) (run_load1 rfl rfl Try.underlying5 rfl (cell0 (hc3907_ _ (fun _ _ hk_ => hS3862_.kn hk_)))) (fun a3909_ h3910_ => ?_)
                    clear h3903_ a3902_
                    refine WL.block (c := 1) (m' := 5) h3910_ rfl [(58, .bool (decide ((gt (0 : Int) p0 x3866_) < 128)))] (by kernel_rfl) (fun a3911_ h3912_ => ?_)
                    clear h3910_ a3909_
                    refine WL.done (by kernel_rfl) ?_
                    by_cases c3913_ : (gt (0 : Int) p0 x3866_) < 128
                    · rw [if_pos c3913_] at H
                      have hb_ : (decide ((gt (0 : Int) p0 x3866_) < 128)) = true := decide_eq_true c3913_
                      try rw [hb_] at h3912_
                      clear hb_
                      refine wp_then h3912_ rfl ?_
                      refine wp_seq ?_
                      refine wp_seq ?_
                      refine WL.start ?_
                      refine WL.block (c := 2) (m' := 2) h3912_ rfl [(60, .bool (decide ((IntKind.u64.wrap (x3864_ + (IntKind.u64.wrap ((Int.tmod (IntKind.u64.wrap (gt (0 : Int) p0 x3866_)) 128) * x3865_)))) > 268435456))), (59, .int .u64 (IntKind.u64.wrap (x3864_ + (IntKind.u64.wrap ((Int.tmod (IntKind.u64.wrap (gt (0 : Int) p0 x3866_)) 128) * x3865_)))))] (by kernel_rfl) (fun a3914_ h3915_ => ?_)
                      clear h3912_ a3911_
                      refine WL.done (by kernel_rfl) ?_
                      by_cases c3916_ : (IntKind.u64.wrap (x3864_ + (IntKind.u64.wrap ((Int.tmod (IntKind.u64.wrap (gt (0 : Int) p0 x3866_)) 128) * x3865_)))) > 268435456
                      · rw [if_pos c3916_] at H
                        have hb_ : (decide ((IntKind.u64.wrap (x3864_ + (IntKind.u64.wrap ((Int.tmod (IntKind.u64.wrap (gt (0 : Int) p0 x3866_)) 128) * x3865_)))) > 268435456)) = true := decide_eq_true c3916_
                        try rw [hb_] at h3915_
                        clear hb_
                        refine wp_then h3915_ rfl ?_
                        refine wp_seq ?_
                        refine WL.start ?_
                        refine WL.block (c := 3) (m' := 3) h3915_ rfl [(6, .int .i64 4), (5, .int .i64 0), (4, .int .u32 0)] (by kernel_rfl) (fun a3917_ h3918_ => ?_)
                        clear h3915_ a3914_
                        refine WL.done (by kernel_rfl) ?_
                        refine wp_ret ?_
                        obtain ⟨rfl, rfl, rfl⟩ := ret3 H
                        repeat (first | refine then_ret ?_ | refine inBlock_ret ?_ | refine inBlock_go ?_)
                        refine body_ret (v := .tuple #[.int .u32 0, .int .i64 0, .int .i64 4]) h3918_ (by kernel_rfl) (by kernel_rfl) ?_
                        exact ⟨rfl, hS3862_⟩
                      · rw [if_neg c3916_] at H
                        have hb_ : (decide ((IntKind.u64.wrap (x3864_ + (IntKind.u64.wrap ((Int.tmod (IntKind.u64.wrap (gt (0 : Int) p0 x3866_)) 128) * x3865_)))) > 268435456)) = false := decide_eq_false c3916_
                        try rw [hb_] at h3915_
                        clear hb_
                        refine wp_else h3915_ rfl ?_
                        refine wp_skip ?_
                        refine wp_seq ?_
                        refine WL.start ?_
                        refine WL.block (c := 7) (m' := 7) h3915_ rfl [(6, .int .i64 0), (5, .int .i64 (IntKind.i64.wrap (x3866_ + 1))), (4, .int .u32 (IntKind.u32.wrap (IntKind.u64.wrap (x3864_ + (IntKind.u64.wrap ((Int.tmod (IntKind.u64.wrap (gt (0 : Int) p0 x3866_)) 128) * x3865_)))))), (64, .int .i64 (IntKind.i64.wrap (x3866_ + 1))), (63, .int .i64 x3866_), (62, .int .u32 (IntKind.u32.wrap (IntKind.u64.wrap (x3864_ + (IntKind.u64.wrap ((Int.tmod (IntKind.u64.wrap (gt (0 : Int) p0 x3866_)) 128) * x3865_)))))), (61, .int .u64 (IntKind.u64.wrap (x3864_ + (IntKind.u64.wrap ((Int.tmod (IntKind.u64.wrap (gt (0 : Int) p0 x3866_)) 128) * x3865_)))))] (by kernel_rfl) (fun a3919_ h3920_ => ?_)
                        clear h3915_ a3914_
                        refine WL.done (by kernel_rfl) ?_
                        refine wp_ret ?_
                        obtain ⟨rfl, rfl, rfl⟩ := ret3 H
                        repeat (first | refine then_ret ?_ | refine inBlock_ret ?_ | refine inBlock_go ?_)
                        refine body_ret (v := .tuple #[.int .u32 (IntKind.u32.wrap (IntKind.u64.wrap (x3864_ + (IntKind.u64.wrap ((Int.tmod (IntKind.u64.wrap (gt (0 : Int) p0 x3866_)) 128) * x3865_))))), .int .i64 (IntKind.i64.wrap (x3866_ + 1)), .int .i64 0]) h3920_ (by kernel_rfl) (by kernel_rfl) ?_
                        exact ⟨rfl, hS3862_⟩
                    · rw [if_neg c3913_] at H
                      have hb_ : (decide ((gt (0 : Int) p0 x3866_) < 128)) = false := decide_eq_false c3913_
                      try rw [hb_] at h3912_
                      clear hb_
                      refine wp_else h3912_ rfl ?_
                      refine wp_skip ?_
                      refine WL.start ?_
                      refine WL.block (c := 3) (m' := 3) h3912_ rfl [(10, .int .i64 (IntKind.i64.wrap (x3866_ + 1))), (39, .int .i64 (IntKind.i64.wrap (x3866_ + 1))), (38, .int .i64 x3866_)] (by kernel_rfl) (fun a3921_ h3922_ => ?_)
                      clear h3912_ a3911_
                      refine WL.done (by kernel_rfl) ?_
                      exact ⟨k3867_, by omega, IntKind.u64.wrap (x3864_ + (IntKind.u64.wrap ((Int.tmod (IntKind.u64.wrap (gt (0 : Int) p0 x3866_)) 128) * x3865_))), IntKind.u64.wrap (x3865_ * 128), IntKind.i64.wrap (x3866_ + 1), h3922_.keep ⟨rfl, rfl, rfl, rfl, trivial⟩, ⟨H⟩, ⟨by omega⟩, ⟨hS3862_⟩⟩
                  · rw [if_neg c3878_] at H
                    cases H
              · rw [if_neg c3870_] at H
                have hb_ : (decide (x3866_ < (p0.length : Int))) = false := decide_eq_false c3870_
                try rw [hb_] at h3869_
                clear hb_
                refine wp_else h3869_ rfl ?_
                refine wp_exit ?_
                refine wp_seq ?_
                refine WL.start ?_
                refine WL.block (c := 3) (m' := 3) h3869_ rfl [(6, .int .i64 2), (5, .int .i64 0), (4, .int .u32 0)] (by kernel_rfl) (fun a3923_ h3924_ => ?_)
                clear h3869_ a3868_
                refine WL.done (by kernel_rfl) ?_
                refine wp_ret ?_
                obtain ⟨rfl, rfl, rfl⟩ := ret3 H
                repeat (first | refine then_ret ?_ | refine inBlock_ret ?_ | refine inBlock_go ?_)
                refine body_ret (v := .tuple #[.int .u32 0, .int .i64 0, .int .i64 2]) h3924_ (by kernel_rfl) (by kernel_rfl) ?_
                exact ⟨rfl, hS3862_⟩
          · rw [if_neg c3845_] at H
            cases H
        · rw [if_neg c3829_] at H
          cases H

/-! ### louver/louverlaw02.PrefixGets -/
def louverlaw02_PrefixGets.f (k : Nat) (p0 : (List Int)) (p1 : Int) : Option (Bool) := if (p0.length : Int) > 3000 then (bnd1 (louverlaw02_fixed.f k) fun r4059_ => (some r4059_)) else (bnd3 (prefix_Get.f k p0 p1) fun r4071_ r4072_ r4073_ => (bnd3 (louverref02_Get.f k p0 p1) fun r4085_ r4086_ r4087_ => (bnd1 (louverlaw02_fixed.f k) fun r4097_ => (if r4097_ = true then (if r4071_ = r4085_ then (if r4072_ = r4086_ then (some (decide (r4073_ = r4087_))) else (some false)) else (some false)) else (some false)))))
set_option maxHeartbeats 2000000 in
set_option maxRecDepth 100000 in
theorem louverlaw02_PrefixGets.calls (k : Nat) {b : Nat} {w0 W : World} {R : Frag} {Fs : List Frag} {p0 : (List Int)} {p1 : Int} {v0 : Value} {r0_ : Bool} (hp0 : Rds (kInt .u8) b w0 R v0 p0) (H : louverlaw02_PrefixGets.f k p0 p1 = some r0_) (hS : St b w0 W R (Fs)) :
    Calls Try.prog 5 ([v0, .int .i64 p1] : List Value).toArray W (fun e W' => e = .returned (.bool r0_) ∧ St b w0 W' R (Fs)) := by
  obtain ⟨A0, c0, rfl⟩ := hp0.form
  unfold louverlaw02_PrefixGets.f at H
  refine calls_enter Try.func5 rfl 45 rfl (by kernel_rfl) (fun a h => ?_)
  refine wp_seq ?_
  refine WL.start ?_
  refine WL.block (c := 1) (m' := 1) h rfl [(4, .bool false)] (by kernel_rfl) (fun a4053_ h4054_ => ?_)
  refine WL.done (by kernel_rfl) ?_
  refine wp_seq ?_
  refine wp_seq ?_
  refine WL.start ?_
  refine WL.block (c := 3) (m' := 3) h4054_ rfl [(13, .bool (decide ((p0.length : Int) > 3000))), (12, .int .i64 (p0.length : Int)), (11, .slice A0 p0.length c0)] (by kernel_rfl) (fun a4055_ h4056_ => ?_)
  clear h4054_ a4053_
  refine WL.done (by kernel_rfl) ?_
  by_cases c4057_ : (p0.length : Int) > 3000
  · rw [if_pos c4057_] at H
    have hb_ : (decide ((p0.length : Int) > 3000)) = true := decide_eq_true c4057_
    try rw [hb_] at h4056_
    clear hb_
    refine wp_then h4056_ rfl ?_
    refine wp_seq ?_
    refine WL.start ?_
    obtain ⟨r4059_, A4058_, H⟩ := bind1 H
    refine WL.op' (m := 0) h4056_ rfl rfl ?_
    refine owp_call [] h4056_ rfl (by kernel_rfl) rfl Try.func8 (by kernel_rfl) rfl (by kernel_rfl) (louverlaw02_fixed.calls k  A4058_ hS) (fun e4061_ W4060_ hp4062_ => ?_)
    obtain ⟨rfl, hS4065_⟩ := hp4062_
    refine ⟨_, rfl, fun a4063_ h4064_ => ?_⟩
    clear h4056_ a4055_
    refine WL.block (c := 1) (m' := 2) h4064_ rfl [(4, .bool r4059_)] (by kernel_rfl) (fun a4066_ h4067_ => ?_)
    clear h4064_ a4063_
    refine WL.done (by kernel_rfl) ?_
    refine wp_ret ?_
    obtain rfl := Option.some.inj H
    repeat (first | refine then_ret ?_ | refine inBlock_ret ?_ | refine inBlock_go ?_)
    refine body_ret (v := .bool r4059_) h4067_ (by kernel_rfl) (by kernel_rfl) ?_
    exact ⟨rfl, hS4065_⟩
  · rw [if_neg c4057_] at H
    have hb_ : (decide ((p0.length : Int) > 3000)) = false := decide_eq_false c4057_
    try rw [hb_] at h4056_
    clear hb_
    refine wp_else h4056_ rfl ?_
    refine wp_skip ?_
    refine wp_seq ?_
    refine WL.start ?_
    refine WL.block (c := 2) (m' := 2) h4056_ rfl [(17, .int .i64 p1), (16, .slice A0 p0.length c0)] (by kernel_rfl) (fun a4068_ h4069_ => ?_)
    clear h4056_ a4055_
    obtain ⟨r4071_, r4072_, r4073_, A4070_, H⟩ := bind3 H
    refine WL.op' (m := 2) h4069_ rfl rfl ?_
    refine owp_call [.slice A0 p0.length c0, .int .i64 p1] h4069_ rfl (by kernel_rfl) rfl Try.func12 (by kernel_rfl) rfl (by kernel_rfl) (prefix_Get.calls k hp0 A4070_ hS) (fun e4075_ W4074_ hp4076_ => ?_)
    obtain ⟨rfl, hS4079_⟩ := hp4076_
    refine ⟨_, rfl, fun a4077_ h4078_ => ?_⟩
    clear h4069_ a4068_
    refine WL.block (c := 7) (m' := 10) h4078_ rfl [(7, .int .i64 r4073_), (6, .int .i64 r4072_), (5, .int .u32 r4071_), (21, .int .i64 r4073_), (20, .int .i64 r4072_), (19, .int .u32 r4071_), (15, .tuple #[.int .u32 r4071_, .int .i64 r4072_, .int .i64 r4073_])] (by kernel_rfl) (fun a4080_ h4081_ => ?_)
    clear h4078_ a4077_
    refine WL.done (by kernel_rfl) ?_
    refine wp_seq ?_
    refine WL.start ?_
    refine WL.block (c := 2) (m' := 2) h4081_ rfl [(24, .int .i64 p1), (23, .slice A0 p0.length c0)] (by kernel_rfl) (fun a4082_ h4083_ => ?_)
    clear h4081_ a4080_
    obtain ⟨r4085_, r4086_, r4087_, A4084_, H⟩ := bind3 H
    refine WL.op' (m := 2) h4083_ rfl rfl ?_
    refine owp_call [.slice A0 p0.length c0, .int .i64 p1] h4083_ rfl (by kernel_rfl) rfl Try.func13 (by kernel_rfl) rfl (by kernel_rfl) (louverref02_Get.calls k hp0 A4084_ hS4079_) (fun e4089_ W4088_ hp4090_ => ?_)
    obtain ⟨rfl, hS4093_⟩ := hp4090_
    refine ⟨_, rfl, fun a4091_ h4092_ => ?_⟩
    clear h4083_ a4082_
    refine WL.block (c := 7) (m' := 10) h4092_ rfl [(10, .int .i64 r4087_), (9, .int .i64 r4086_), (8, .int .u32 r4085_), (28, .int .i64 r4087_), (27, .int .i64 r4086_), (26, .int .u32 r4085_), (22, .tuple #[.int .u32 r4085_, .int .i64 r4086_, .int .i64 r4087_])] (by kernel_rfl) (fun a4094_ h4095_ => ?_)
    clear h4092_ a4091_
    refine WL.done (by kernel_rfl) ?_
    refine wp_seq ?_
    refine WL.start ?_
    obtain ⟨r4097_, A4096_, H⟩ := bind1 H
    refine WL.op' (m := 0) h4095_ rfl rfl ?_
    refine owp_call [] h4095_ rfl (by kernel_rfl) rfl Try.func8 (by kernel_rfl) rfl (by kernel_rfl) (louverlaw02_fixed.calls k  A4096_ hS4093_) (fun e4099_ W4098_ hp4100_ => ?_)
    obtain ⟨rfl, hS4103_⟩ := hp4100_
    refine ⟨_, rfl, fun a4101_ h4102_ => ?_⟩
    clear h4095_ a4094_
    refine WL.block (c := 1) (m' := 2) h4102_ rfl [(30, .bool r4097_)] (by kernel_rfl) (fun a4104_ h4105_ => ?_)
    clear h4102_ a4101_
    by_cases c4106_ : r4097_ = true
    · rw [if_pos c4106_] at H
      have hb_ : r4097_ = true := c4106_
      try rw [hb_] at h4105_
      clear hb_
      refine WL.op' (m := 2) h4105_ rfl rfl (owp_run h4105_ rfl (by kernel_rfl) (v := .int .u32 r4071_) (by kernel_rfl) (fun a4107_ h4108_ => ?_))
      clear h4105_ a4104_
      refine WL.op' (m := 3) h4108_ rfl rfl (owp_run h4108_ rfl (by kernel_rfl) (v := .int .u32 r4085_) (by kernel_rfl) (fun a4109_ h4110_ => ?_))
      clear h4108_ a4107_
      refine WL.op' (m := 4) h4110_ rfl rfl (owp_run h4110_ rfl (by kernel_rfl) (v := .bool (decide (r4071_ = r4085_))) (by kernel_rfl) (fun a4111_ h4112_ => ?_))
      clear h4110_ a4109_
      refine WL.block (c := 2) (m' := 7) h4112_ rfl [(35, .bool (decide (r4071_ = r4085_))), (34, .bool (decide (r4071_ = r4085_)))] (by kernel_rfl) (fun a4113_ h4114_ => ?_)
      clear h4112_ a4111_
      by_cases c4115_ : r4071_ = r4085_
      · rw [if_pos c4115_] at H
        have hb_ : (decide (r4071_ = r4085_)) = true := decide_eq_true c4115_
        try rw [hb_] at h4114_
        clear hb_
        refine WL.op' (m := 7) h4114_ rfl rfl (owp_run h4114_ rfl (by kernel_rfl) (v := .int .i64 r4072_) (by kernel_rfl) (fun a4116_ h4117_ => ?_))
        clear h4114_ a4113_
        refine WL.op' (m := 8) h4117_ rfl rfl (owp_run h4117_ rfl (by kernel_rfl) (v := .int .i64 r4086_) (by kernel_rfl) (fun a4118_ h4119_ => ?_))
        clear h4117_ a4116_
        refine WL.op' (m := 9) h4119_ rfl rfl (owp_run h4119_ rfl (by kernel_rfl) (v := .bool (decide (r4072_ = r4086_))) (by kernel_rfl) (fun a4120_ h4121_ => ?_))
        clear h4119_ a4118_
        refine WL.block (c := 2) (m' := 12) h4121_ rfl [(40, .bool (decide (r4072_ = r4086_))), (39, .bool (decide (r4072_ = r4086_)))] (by kernel_rfl) (fun a4122_ h4123_ => ?_)
        clear h4121_ a4120_
        by_cases c4124_ : r4072_ = r4086_
        · rw [if_pos c4124_] at H
          have hb_ : (decide (r4072_ = r4086_)) = true := decide_eq_true c4124_
          try rw [hb_] at h4123_
          clear hb_
          refine WL.op' (m := 12) h4123_ rfl rfl (owp_run h4123_ rfl (by kernel_rfl) (v := .int .i64 r4073_) (by kernel_rfl) (fun a4125_ h4126_ => ?_))
          clear h4123_ a4122_
          refine WL.op' (m := 13) h4126_ rfl rfl (owp_run h4126_ rfl (by kernel_rfl) (v := .int .i64 r4087_) (by kernel_rfl) (fun a4127_ h4128_ => ?_))
          clear h4126_ a4125_
          refine WL.op' (m := 14) h4128_ rfl rfl (owp_run h4128_ rfl (by kernel_rfl) (v := .bool (decide (r4073_ = r4087_))) (by kernel_rfl) (fun a4129_ h4130_ => ?_))
          clear h4128_ a4127_
          refine WL.block (c := 2) (m' := 17) h4130_ rfl [(4, .bool (decide (r4073_ = r4087_))), (44, .bool (decide (r4073_ = r4087_)))] (by kernel_rfl) (fun a4131_ h4132_ => ?_)
          clear h4130_ a4129_
          refine WL.done (by kernel_rfl) ?_
          refine wp_ret ?_
          obtain rfl := Option.some.inj H
          repeat (first | refine then_ret ?_ | refine inBlock_ret ?_ | refine inBlock_go ?_)
          refine body_ret (v := .bool (decide (r4073_ = r4087_))) h4132_ (by kernel_rfl) (by kernel_rfl) ?_
          exact ⟨rfl, hS4103_⟩
        · rw [if_neg c4124_] at H
          have hb_ : (decide (r4072_ = r4086_)) = false := decide_eq_false c4124_
          try rw [hb_] at h4123_
          clear hb_
          refine WL.skipped (m := 12) h4123_ rfl rfl (by kernel_rfl) rfl (fun a4133_ h4134_ => ?_)
          clear h4123_ a4122_
          refine WL.skipped (m := 13) h4134_ rfl rfl (by kernel_rfl) rfl (fun a4135_ h4136_ => ?_)
          clear h4134_ a4133_
          refine WL.skipped (m := 14) h4136_ rfl rfl (by kernel_rfl) rfl (fun a4137_ h4138_ => ?_)
          clear h4136_ a4135_
          refine WL.block (c := 2) (m' := 17) h4138_ rfl [(4, .bool false), (44, .bool false)] (by kernel_rfl) (fun a4139_ h4140_ => ?_)
          clear h4138_ a4137_
          refine WL.done (by kernel_rfl) ?_
          refine wp_ret ?_
          obtain rfl := Option.some.inj H
          repeat (first | refine then_ret ?_ | refine inBlock_ret ?_ | refine inBlock_go ?_)
          refine body_ret (v := .bool false) h4140_ (by kernel_rfl) (by kernel_rfl) ?_
          exact ⟨rfl, hS4103_⟩
      · rw [if_neg c4115_] at H
        have hb_ : (decide (r4071_ = r4085_)) = false := decide_eq_false c4115_
        try rw [hb_] at h4114_
        clear hb_
        refine WL.skipped (m := 7) h4114_ rfl rfl (by kernel_rfl) rfl (fun a4141_ h4142_ => ?_)
        clear h4114_ a4113_
        refine WL.skipped (m := 8) h4142_ rfl rfl (by kernel_rfl) rfl (fun a4143_ h4144_ => ?_)
        clear h4142_ a4141_
        refine WL.skipped (m := 9) h4144_ rfl rfl (by kernel_rfl) rfl (fun a4145_ h4146_ => ?_)
        clear h4144_ a4143_
        refine WL.block (c := 2) (m' := 12) h4146_ rfl [(40, .bool false), (39, .bool false)] (by kernel_rfl) (fun a4147_ h4148_ => ?_)
        clear h4146_ a4145_
        refine WL.skipped (m := 12) h4148_ rfl rfl (by kernel_rfl) rfl (fun a4149_ h4150_ => ?_)
        clear h4148_ a4147_
        refine WL.skipped (m := 13) h4150_ rfl rfl (by kernel_rfl) rfl (fun a4151_ h4152_ => ?_)
        clear h4150_ a4149_
        refine WL.skipped (m := 14) h4152_ rfl rfl (by kernel_rfl) rfl (fun a4153_ h4154_ => ?_)
        clear h4152_ a4151_
        refine WL.block (c := 2) (m' := 17) h4154_ rfl [(4, .bool false), (44, .bool false)] (by kernel_rfl) (fun a4155_ h4156_ => ?_)
        clear h4154_ a4153_
        refine WL.done (by kernel_rfl) ?_
        refine wp_ret ?_
        obtain rfl := Option.some.inj H
        repeat (first | refine then_ret ?_ | refine inBlock_ret ?_ | refine inBlock_go ?_)
        refine body_ret (v := .bool false) h4156_ (by kernel_rfl) (by kernel_rfl) ?_
        exact ⟨rfl, hS4103_⟩
    · rw [if_neg c4106_] at H
      have hb_ : r4097_ = false := (Bool.eq_false_iff.2 c4106_)
      try rw [hb_] at h4105_
      clear hb_
      refine WL.skipped (m := 2) h4105_ rfl rfl (by kernel_rfl) rfl (fun a4157_ h4158_ => ?_)
      clear h4105_ a4104_
      refine WL.skipped (m := 3) h4158_ rfl rfl (by kernel_rfl) rfl (fun a4159_ h4160_ => ?_)
      clear h4158_ a4157_
      refine WL.skipped (m := 4) h4160_ rfl rfl (by kernel_rfl) rfl (fun a4161_ h4162_ => ?_)
      clear h4160_ a4159_
      refine WL.block (c := 2) (m' := 7) h4162_ rfl [(35, .bool false), (34, .bool false)] (by kernel_rfl) (fun a4163_ h4164_ => ?_)
      clear h4162_ a4161_
      refine WL.skipped (m := 7) h4164_ rfl rfl (by kernel_rfl) rfl (fun a4165_ h4166_ => ?_)
      clear h4164_ a4163_
      refine WL.skipped (m := 8) h4166_ rfl rfl (by kernel_rfl) rfl (fun a4167_ h4168_ => ?_)
      clear h4166_ a4165_
      refine WL.skipped (m := 9) h4168_ rfl rfl (by kernel_rfl) rfl (fun a4169_ h4170_ => ?_)
      clear h4168_ a4167_
      refine WL.block (c := 2) (m' := 12) h4170_ rfl [(40, .bool false), (39, .bool false)] (by kernel_rfl) (fun a4171_ h4172_ => ?_)
      clear h4170_ a4169_
      refine WL.skipped (m := 12) h4172_ rfl rfl (by kernel_rfl) rfl (fun a4173_ h4174_ => ?_)
      clear h4172_ a4171_
      refine WL.skipped (m := 13) h4174_ rfl rfl (by kernel_rfl) rfl (fun a4175_ h4176_ => ?_)
      clear h4174_ a4173_
      refine WL.skipped (m := 14) h4176_ rfl rfl (by kernel_rfl) rfl (fun a4177_ h4178_ => ?_)
      clear h4176_ a4175_
      refine WL.block (c := 2) (m' := 17) h4178_ rfl [(4, .bool false), (44, .bool false)] (by kernel_rfl) (fun a4179_ h4180_ => ?_)
      clear h4178_ a4177_
      refine WL.done (by kernel_rfl) ?_
      refine wp_ret ?_
      obtain rfl := Option.some.inj H
      repeat (first | refine then_ret ?_ | refine inBlock_ret ?_ | refine inBlock_go ?_)
      refine body_ret (v := .bool false) h4180_ (by kernel_rfl) (by kernel_rfl) ?_
      exact ⟨rfl, hS4103_⟩

/-! ### louver/louverlaw02.PrefixSizes -/
def louverlaw02_PrefixSizes.f (k : Nat) (p0 : Int) (p1 : Int) (p2 : Int) : Option (Bool) := if p0 < 2 then (bnd1 (louverlaw02_fixed.f k) fun r4461_ => (some r4461_)) else (if p0 > 8 then (bnd1 (louverlaw02_fixed.f k) fun r4478_ => (some r4478_)) else (bnd1 (louverlaw02_fixed.f k) fun r4492_ => (if r4492_ = true then (bnd1 (prefix_Size.f k p0 (mnI (Int.tmod p1 268435457) (Int.tmod p2 268435457))) fun r4507_ => (bnd1 (prefix_Size.f k p0 (mxI (Int.tmod p1 268435457) (Int.tmod p2 268435457))) fun r4519_ => (if r4507_ ≤ r4519_ then (bnd1 (prefix_Size.f k p0 (Int.tmod p1 268435457)) fun r4536_ => (bnd1 (prefix_Size.f k (IntKind.i64.wrap (p0 - 1)) (Int.tmod p1 268435457)) fun r4550_ => (if r4536_ ≤ r4550_ then (bnd1 (prefix_Size.f k p0 (mxI (Int.tmod p1 268435457) (Int.tmod p2 268435457))) fun r4567_ => (if r4567_ ≤ 6 then (bnd1 (prefix_Size.f k p0 (mnI (Int.tmod p1 268435457) (Int.tmod p2 268435457))) fun r4584_ => (some (decide (r4584_ ≥ 1)))) else (some false))) else (some false)))) else (some false)))) else (some false))))
set_option maxHeartbeats 2000000 in
set_option maxRecDepth 100000 in
theorem louverlaw02_PrefixSizes.calls (k : Nat) {b : Nat} {w0 W : World} {R : Frag} {Fs : List Frag} {p0 : Int} {p1 : Int} {p2 : Int}  {r0_ : Bool}  (H : louverlaw02_PrefixSizes.f k p0 p1 p2 = some r0_) (hS : St b w0 W R (Fs)) :
    Calls Try.prog 3 ([.int .i64 p0, .int .u32 p1, .int .u32 p2] : List Value).toArray W (fun e W' => e = .returned (.bool r0_) ∧ St b w0 W' R (Fs)) := by
  unfold louverlaw02_PrefixSizes.f at H
  refine calls_enter Try.func3 rfl 58 rfl (by kernel_rfl) (fun a h => ?_)
  refine wp_seq ?_
  refine WL.start ?_
  refine WL.block (c := 1) (m' := 1) h rfl [(6, .bool false)] (by kernel_rfl) (fun a4449_ h4450_ => ?_)
  refine WL.done (by kernel_rfl) ?_
  refine wp_seq ?_
  refine wp_seq ?_
  refine WL.start ?_
  refine WL.block (c := 3) (m' := 3) h4450_ rfl [(11, .bool (decide (p0 < 2))), (10, .bool (decide (p0 < 2))), (9, .int .i64 p0)] (by kernel_rfl) (fun a4451_ h4452_ => ?_)
  clear h4450_ a4449_
  by_cases c4453_ : p0 < 2
  · rw [if_pos c4453_] at H
    have hb_ : (decide (p0 < 2)) = true := decide_eq_true c4453_
    try rw [hb_] at h4452_
    clear hb_
    refine WL.skipped (m := 3) h4452_ rfl rfl (by kernel_rfl) rfl (fun a4454_ h4455_ => ?_)
    clear h4452_ a4451_
    refine WL.skipped (m := 4) h4455_ rfl rfl (by kernel_rfl) rfl (fun a4456_ h4457_ => ?_)
    clear h4455_ a4454_
    refine WL.block (c := 1) (m' := 6) h4457_ rfl [(14, .bool true)] (by kernel_rfl) (fun a4458_ h4459_ => ?_)
    clear h4457_ a4456_
    refine WL.done (by kernel_rfl) ?_
    refine wp_then h4459_ rfl ?_
    refine wp_seq ?_
    refine WL.start ?_
    obtain ⟨r4461_, A4460_, H⟩ := bind1 H
    refine WL.op' (m := 0) h4459_ rfl rfl ?_
    refine owp_call [] h4459_ rfl (by kernel_rfl) rfl Try.func8 (by kernel_rfl) rfl (by kernel_rfl) (louverlaw02_fixed.calls k  A4460_ hS) (fun e4463_ W4462_ hp4464_ => ?_)
    obtain ⟨rfl, hS4467_⟩ := hp4464_
    refine ⟨_, rfl, fun a4465_ h4466_ => ?_⟩
    clear h4459_ a4458_
    refine WL.block (c := 1) (m' := 2) h4466_ rfl [(6, .bool r4461_)] (by kernel_rfl) (fun a4468_ h4469_ => ?_)
    clear h4466_ a4465_
    refine WL.done (by kernel_rfl) ?_
    refine wp_ret ?_
    obtain rfl := Option.some.inj H
    repeat (first | refine then_ret ?_ | refine inBlock_ret ?_ | refine inBlock_go ?_)
    refine body_ret (v := .bool r4461_) h4469_ (by kernel_rfl) (by kernel_rfl) ?_
    exact ⟨rfl, hS4467_⟩
  · rw [if_neg c4453_] at H
    have hb_ : (decide (p0 < 2)) = false := decide_eq_false c4453_
    try rw [hb_] at h4452_
    clear hb_
    refine WL.op' (m := 3) h4452_ rfl rfl (owp_run h4452_ rfl (by kernel_rfl) (v := .int .i64 p0) (by kernel_rfl) (fun a4470_ h4471_ => ?_))
    clear h4452_ a4451_
    refine WL.op' (m := 4) h4471_ rfl rfl (owp_run h4471_ rfl (by kernel_rfl) (v := .bool (decide (p0 > 8))) (by kernel_rfl) (fun a4472_ h4473_ => ?_))
    clear h4471_ a4470_
    refine WL.block (c := 1) (m' := 6) h4473_ rfl [(14, .bool (decide (p0 > 8)))] (by kernel_rfl) (fun a4474_ h4475_ => ?_)
    clear h4473_ a4472_
    refine WL.done (by kernel_rfl) ?_
    by_cases c4476_ : p0 > 8
    · rw [if_pos c4476_] at H
      have hb_ : (decide (p0 > 8)) = true := decide_eq_true c4476_
      try rw [hb_] at h4475_
      clear hb_
      refine wp_then h4475_ rfl ?_
      refine wp_seq ?_
      refine WL.start ?_
      obtain ⟨r4478_, A4477_, H⟩ := bind1 H
      refine WL.op' (m := 0) h4475_ rfl rfl ?_
      refine owp_call [] h4475_ rfl (by kernel_rfl) rfl Try.func8 (by kernel_rfl) rfl (by kernel_rfl) (louverlaw02_fixed.calls k  A4477_ hS) (fun e4480_ W4479_ hp4481_ => ?_)
      obtain ⟨rfl, hS4484_⟩ := hp4481_
      refine ⟨_, rfl, fun a4482_ h4483_ => ?_⟩
      clear h4475_ a4474_
      refine WL.block (c := 1) (m' := 2) h4483_ rfl [(6, .bool r4478_)] (by kernel_rfl) (fun a4485_ h4486_ => ?_)
      clear h4483_ a4482_
      refine WL.done (by kernel_rfl) ?_
      refine wp_ret ?_
      obtain rfl := Option.some.inj H
      repeat (first | refine then_ret ?_ | refine inBlock_ret ?_ | refine inBlock_go ?_)
      refine body_ret (v := .bool r4478_) h4486_ (by kernel_rfl) (by kernel_rfl) ?_
      exact ⟨rfl, hS4484_⟩
    · rw [if_neg c4476_] at H
      have hb_ : (decide (p0 > 8)) = false := decide_eq_false c4476_
      try rw [hb_] at h4475_
      clear hb_
      refine wp_else h4475_ rfl ?_
      refine wp_skip ?_
      refine wp_seq ?_
      refine WL.start ?_
      refine WL.block (c := 6) (m' := 6) h4475_ rfl [(2, .int .u32 (Int.tmod p2 268435457)), (1, .int .u32 (Int.tmod p1 268435457)), (19, .int .u32 (Int.tmod p2 268435457)), (18, .int .u32 p2), (17, .int .u32 (Int.tmod p1 268435457)), (16, .int .u32 p1)] (by kernel_rfl) (fun a4487_ h4488_ => ?_)
      clear h4475_ a4474_
      refine WL.done (by kernel_rfl) ?_
      refine wp_seq ?_
      refine WL.start ?_
      refine WL.block (c := 8) (m' := 8) h4488_ rfl [(8, .int .u32 (mxI (Int.tmod p1 268435457) (Int.tmod p2 268435457))), (7, .int .u32 (mnI (Int.tmod p1 268435457) (Int.tmod p2 268435457))), (25, .int .u32 (mxI (Int.tmod p1 268435457) (Int.tmod p2 268435457))), (24, .int .u32 (Int.tmod p2 268435457)), (23, .int .u32 (Int.tmod p1 268435457)), (22, .int .u32 (mnI (Int.tmod p1 268435457) (Int.tmod p2 268435457))), (21, .int .u32 (Int.tmod p2 268435457)), (20, .int .u32 (Int.tmod p1 268435457))] (by kernel_rfl) (fun a4489_ h4490_ => ?_)
      clear h4488_ a4487_
      refine WL.done (by kernel_rfl) ?_
      refine wp_seq ?_
      refine WL.start ?_
      obtain ⟨r4492_, A4491_, H⟩ := bind1 H
      refine WL.op' (m := 0) h4490_ rfl rfl ?_
      refine owp_call [] h4490_ rfl (by kernel_rfl) rfl Try.func8 (by kernel_rfl) rfl (by kernel_rfl) (louverlaw02_fixed.calls k  A4491_ hS) (fun e4494_ W4493_ hp4495_ => ?_)
      obtain ⟨rfl, hS4498_⟩ := hp4495_
      refine ⟨_, rfl, fun a4496_ h4497_ => ?_⟩
      clear h4490_ a4489_
      refine WL.block (c := 1) (m' := 2) h4497_ rfl [(27, .bool r4492_)] (by kernel_rfl) (fun a4499_ h4500_ => ?_)
      clear h4497_ a4496_
      by_cases c4501_ : r4492_ = true
      · rw [if_pos c4501_] at H
        have hb_ : r4492_ = true := c4501_
        try rw [hb_] at h4500_
        clear hb_
        refine WL.op' (m := 2) h4500_ rfl rfl (owp_run h4500_ rfl (by kernel_rfl) (v := .int .i64 p0) (by kernel_rfl) (fun a4502_ h4503_ => ?_))
        clear h4500_ a4499_
        refine WL.op' (m := 3) h4503_ rfl rfl (owp_run h4503_ rfl (by kernel_rfl) (v := .int .u32 (mnI (Int.tmod p1 268435457) (Int.tmod p2 268435457))) (by kernel_rfl) (fun a4504_ h4505_ => ?_))
        clear h4503_ a4502_
        obtain ⟨r4507_, A4506_, H⟩ := bind1 H
        refine WL.op' (m := 4) h4505_ rfl rfl ?_
        refine owp_call [.int .i64 p0, .int .u32 (mnI (Int.tmod p1 268435457) (Int.tmod p2 268435457))] h4505_ rfl (by kernel_rfl) rfl Try.func9 (by kernel_rfl) rfl (by kernel_rfl) (prefix_Size.calls k  A4506_ hS4498_) (fun e4509_ W4508_ hp4510_ => ?_)
        obtain ⟨rfl, hS4513_⟩ := hp4510_
        refine ⟨_, rfl, fun a4511_ h4512_ => ?_⟩
        clear h4505_ a4504_
        refine WL.op' (m := 5) h4512_ rfl rfl (owp_run h4512_ rfl (by kernel_rfl) (v := .int .i64 p0) (by kernel_rfl) (fun a4514_ h4515_ => ?_))
        clear h4512_ a4511_
        refine WL.op' (m := 6) h4515_ rfl rfl (owp_run h4515_ rfl (by kernel_rfl) (v := .int .u32 (mxI (Int.tmod p1 268435457) (Int.tmod p2 268435457))) (by kernel_rfl) (fun a4516_ h4517_ => ?_))
        clear h4515_ a4514_
        obtain ⟨r4519_, A4518_, H⟩ := bind1 H
        refine WL.op' (m := 7) h4517_ rfl rfl ?_
        refine owp_call [.int .i64 p0, .int .u32 (mxI (Int.tmod p1 268435457) (Int.tmod p2 268435457))] h4517_ rfl (by kernel_rfl) rfl Try.func9 (by kernel_rfl) rfl (by kernel_rfl) (prefix_Size.calls k  A4518_ hS4513_) (fun e4521_ W4520_ hp4522_ => ?_)
        obtain ⟨rfl, hS4525_⟩ := hp4522_
        refine ⟨_, rfl, fun a4523_ h4524_ => ?_⟩
        clear h4517_ a4516_
        refine WL.op' (m := 8) h4524_ rfl rfl (owp_run h4524_ rfl (by kernel_rfl) (v := .bool (decide (r4507_ ≤ r4519_))) (by kernel_rfl) (fun a4526_ h4527_ => ?_))
        clear h4524_ a4523_
        refine WL.block (c := 2) (m' := 11) h4527_ rfl [(36, .bool (decide (r4507_ ≤ r4519_))), (35, .bool (decide (r4507_ ≤ r4519_)))] (by kernel_rfl) (fun a4528_ h4529_ => ?_)
        clear h4527_ a4526_
        by_cases c4530_ : r4507_ ≤ r4519_
        · rw [if_pos c4530_] at H
          have hb_ : (decide (r4507_ ≤ r4519_)) = true := decide_eq_true c4530_
          try rw [hb_] at h4529_
          clear hb_
          refine WL.op' (m := 11) h4529_ rfl rfl (owp_run h4529_ rfl (by kernel_rfl) (v := .int .i64 p0) (by kernel_rfl) (fun a4531_ h4532_ => ?_))
          clear h4529_ a4528_
          refine WL.op' (m := 12) h4532_ rfl rfl (owp_run h4532_ rfl (by kernel_rfl) (v := .int .u32 (Int.tmod p1 268435457)) (by kernel_rfl) (fun a4533_ h4534_ => ?_))
          clear h4532_ a4531_
          obtain ⟨r4536_, A4535_, H⟩ := bind1 H
          refine WL.op' (m := 13) h4534_ rfl rfl ?_
          refine owp_call [.int .i64 p0, .int .u32 (Int.tmod p1 268435457)] h4534_ rfl (by kernel_rfl) rfl Try.func9 (by kernel_rfl) rfl (by kernel_rfl) (prefix_Size.calls k  A4535_ hS4525_) (fun e4538_ W4537_ hp4539_ => ?_)
          obtain ⟨rfl, hS4542_⟩ := hp4539_
          refine ⟨_, rfl, fun a4540_ h4541_ => ?_⟩
          clear h4534_ a4533_
          refine WL.op' (m := 14) h4541_ rfl rfl (owp_run h4541_ rfl (by kernel_rfl) (v := .int .i64 p0) (by kernel_rfl) (fun a4543_ h4544_ => ?_))
          clear h4541_ a4540_
          refine WL.op' (m := 15) h4544_ rfl rfl (owp_run h4544_ rfl (by kernel_rfl) (v := .int .i64 (IntKind.i64.wrap (p0 - 1))) (by kernel_rfl) (fun a4545_ h4546_ => ?_))
          clear h4544_ a4543_
          refine WL.op' (m := 16) h4546_ rfl rfl (owp_run h4546_ rfl (by kernel_rfl) (v := .int .u32 (Int.tmod p1 268435457)) (by kernel_rfl) (fun a4547_ h4548_ => ?_))
          clear h4546_ a4545_
          obtain ⟨r4550_, A4549_, H⟩ := bind1 H
          refine WL.op' (m := 17) h4548_ rfl rfl ?_
          refine owp_call [.int .i64 (IntKind.i64.wrap (p0 - 1)), .int .u32 (Int.tmod p1 268435457)] h4548_ rfl (by kernel_rfl) rfl Try.func9 (by kernel_rfl) rfl (by kernel_rfl) (prefix_Size.calls k  A4549_ hS4542_) (fun e4552_ W4551_ hp4553_ => ?_)
          obtain ⟨rfl, hS4556_⟩ := hp4553_
          refine ⟨_, rfl, fun a4554_ h4555_ => ?_⟩
          clear h4548_ a4547_
          refine WL.op' (m := 18) h4555_ rfl rfl (owp_run h4555_ rfl (by kernel_rfl) (v := .bool (decide (r4536_ ≤ r4550_))) (by kernel_rfl) (fun a4557_ h4558_ => ?_))
          clear h4555_ a4554_
          refine WL.block (c := 2) (m' := 21) h4558_ rfl [(46, .bool (decide (r4536_ ≤ r4550_))), (45, .bool (decide (r4536_ ≤ r4550_)))] (by kernel_rfl) (fun a4559_ h4560_ => ?_)
          clear h4558_ a4557_
          by_cases c4561_ : r4536_ ≤ r4550_
          · rw [if_pos c4561_] at H
            have hb_ : (decide (r4536_ ≤ r4550_)) = true := decide_eq_true c4561_
            try rw [hb_] at h4560_
            clear hb_
            refine WL.op' (m := 21) h4560_ rfl rfl (owp_run h4560_ rfl (by kernel_rfl) (v := .int .i64 p0) (by kernel_rfl) (fun a4562_ h4563_ => ?_))
            clear h4560_ a4559_
            refine WL.op' (m := 22) h4563_ rfl rfl (owp_run h4563_ rfl (by kernel_rfl) (v := .int .u32 (mxI (Int.tmod p1 268435457) (Int.tmod p2 268435457))) (by kernel_rfl) (fun a4564_ h4565_ => ?_))
            clear h4563_ a4562_
            obtain ⟨r4567_, A4566_, H⟩ := bind1 H
            refine WL.op' (m := 23) h4565_ rfl rfl ?_
            refine owp_call [.int .i64 p0, .int .u32 (mxI (Int.tmod p1 268435457) (Int.tmod p2 268435457))] h4565_ rfl (by kernel_rfl) rfl Try.func9 (by kernel_rfl) rfl (by kernel_rfl) (prefix_Size.calls k  A4566_ hS4556_) (fun e4569_ W4568_ hp4570_ => ?_)
            obtain ⟨rfl, hS4573_⟩ := hp4570_
            refine ⟨_, rfl, fun a4571_ h4572_ => ?_⟩
            clear h4565_ a4564_
            refine WL.op' (m := 24) h4572_ rfl rfl (owp_run h4572_ rfl (by kernel_rfl) (v := .bool (decide (r4567_ ≤ 6))) (by kernel_rfl) (fun a4574_ h4575_ => ?_))
            clear h4572_ a4571_
            refine WL.block (c := 2) (m' := 27) h4575_ rfl [(52, .bool (decide (r4567_ ≤ 6))), (51, .bool (decide (r4567_ ≤ 6)))] (by kernel_rfl) (fun a4576_ h4577_ => ?_)
            clear h4575_ a4574_
            by_cases c4578_ : r4567_ ≤ 6
            · rw [if_pos c4578_] at H
              have hb_ : (decide (r4567_ ≤ 6)) = true := decide_eq_true c4578_
              try rw [hb_] at h4577_
              clear hb_
              refine WL.op' (m := 27) h4577_ rfl rfl (owp_run h4577_ rfl (by kernel_rfl) (v := .int .i64 p0) (by kernel_rfl) (fun a4579_ h4580_ => ?_))
              clear h4577_ a4576_
              refine WL.op' (m := 28) h4580_ rfl rfl (owp_run h4580_ rfl (by kernel_rfl) (v := .int .u32 (mnI (Int.tmod p1 268435457) (Int.tmod p2 268435457))) (by kernel_rfl) (fun a4581_ h4582_ => ?_))
              clear h4580_ a4579_
              obtain ⟨r4584_, A4583_, H⟩ := bind1 H
              refine WL.op' (m := 29) h4582_ rfl rfl ?_
              refine owp_call [.int .i64 p0, .int .u32 (mnI (Int.tmod p1 268435457) (Int.tmod p2 268435457))] h4582_ rfl (by kernel_rfl) rfl Try.func9 (by kernel_rfl) rfl (by kernel_rfl) (prefix_Size.calls k  A4583_ hS4573_) (fun e4586_ W4585_ hp4587_ => ?_)
              obtain ⟨rfl, hS4590_⟩ := hp4587_
              refine ⟨_, rfl, fun a4588_ h4589_ => ?_⟩
              clear h4582_ a4581_
              refine WL.op' (m := 30) h4589_ rfl rfl (owp_run h4589_ rfl (by kernel_rfl) (v := .bool (decide (r4584_ ≥ 1))) (by kernel_rfl) (fun a4591_ h4592_ => ?_))
              clear h4589_ a4588_
              refine WL.block (c := 2) (m' := 33) h4592_ rfl [(6, .bool (decide (r4584_ ≥ 1))), (57, .bool (decide (r4584_ ≥ 1)))] (by kernel_rfl) (fun a4593_ h4594_ => ?_)
              clear h4592_ a4591_
              refine WL.done (by kernel_rfl) ?_
              refine wp_ret ?_
              obtain rfl := Option.some.inj H
              repeat (first | refine then_ret ?_ | refine inBlock_ret ?_ | refine inBlock_go ?_)
              refine body_ret (v := .bool (decide (r4584_ ≥ 1))) h4594_ (by kernel_rfl) (by kernel_rfl) ?_
              exact ⟨rfl, hS4590_⟩
            · rw [if_neg c4578_] at H
              have hb_ : (decide (r4567_ ≤ 6)) = false := decide_eq_false c4578_
              try rw [hb_] at h4577_
              clear hb_
              refine WL.skipped (m := 27) h4577_ rfl rfl (by kernel_rfl) rfl (fun a4595_ h4596_ => ?_)
              clear h4577_ a4576_
              refine WL.skipped (m := 28) h4596_ rfl rfl (by kernel_rfl) rfl (fun a4597_ h4598_ => ?_)
              clear h4596_ a4595_
              refine WL.skipped (m := 29) h4598_ rfl rfl (by kernel_rfl) rfl (fun a4599_ h4600_ => ?_)
              clear h4598_ a4597_
              refine WL.skipped (m := 30) h4600_ rfl rfl (by kernel_rfl) rfl (fun a4601_ h4602_ => ?_)
              clear h4600_ a4599_
              refine WL.block (c := 2) (m' := 33) h4602_ rfl [(6, .bool false), (57, .bool false)] (by kernel_rfl) (fun a4603_ h4604_ => ?_)
              clear h4602_ a4601_
              refine WL.done (by kernel_rfl) ?_
              refine wp_ret ?_
              obtain rfl := Option.some.inj H
              repeat (first | refine then_ret ?_ | refine inBlock_ret ?_ | refine inBlock_go ?_)
              refine body_ret (v := .bool false) h4604_ (by kernel_rfl) (by kernel_rfl) ?_
              exact ⟨rfl, hS4573_⟩
          · rw [if_neg c4561_] at H
            have hb_ : (decide (r4536_ ≤ r4550_)) = false := decide_eq_false c4561_
            try rw [hb_] at h4560_
            clear hb_
            refine WL.skipped (m := 21) h4560_ rfl rfl (by kernel_rfl) rfl (fun a4605_ h4606_ => ?_)
            clear h4560_ a4559_
            refine WL.skipped (m := 22) h4606_ rfl rfl (by kernel_rfl) rfl (fun a4607_ h4608_ => ?_)
            clear h4606_ a4605_
            refine WL.skipped (m := 23) h4608_ rfl rfl (by kernel_rfl) rfl (fun a4609_ h4610_ => ?_)
            clear h4608_ a4607_
            refine WL.skipped (m := 24) h4610_ rfl rfl (by kernel_rfl) rfl (fun a4611_ h4612_ => ?_)
            clear h4610_ a4609_
            refine WL.block (c := 2) (m' := 27) h4612_ rfl [(52, .bool false), (51, .bool false)] (by kernel_rfl) (fun a4613_ h4614_ => ?_)
            clear h4612_ a4611_
            refine WL.skipped (m := 27) h4614_ rfl rfl (by kernel_rfl) rfl (fun a4615_ h4616_ => ?_)
            clear h4614_ a4613_
            refine WL.skipped (m := 28) h4616_ rfl rfl (by kernel_rfl) rfl (fun a4617_ h4618_ => ?_)
            clear h4616_ a4615_
            refine WL.skipped (m := 29) h4618_ rfl rfl (by kernel_rfl) rfl (fun a4619_ h4620_ => ?_)
            clear h4618_ a4617_
            refine WL.skipped (m := 30) h4620_ rfl rfl (by kernel_rfl) rfl (fun a4621_ h4622_ => ?_)
            clear h4620_ a4619_
            refine WL.block (c := 2) (m' := 33) h4622_ rfl [(6, .bool false), (57, .bool false)] (by kernel_rfl) (fun a4623_ h4624_ => ?_)
            clear h4622_ a4621_
            refine WL.done (by kernel_rfl) ?_
            refine wp_ret ?_
            obtain rfl := Option.some.inj H
            repeat (first | refine then_ret ?_ | refine inBlock_ret ?_ | refine inBlock_go ?_)
            refine body_ret (v := .bool false) h4624_ (by kernel_rfl) (by kernel_rfl) ?_
            exact ⟨rfl, hS4556_⟩
        · rw [if_neg c4530_] at H
          have hb_ : (decide (r4507_ ≤ r4519_)) = false := decide_eq_false c4530_
          try rw [hb_] at h4529_
          clear hb_
          refine WL.skipped (m := 11) h4529_ rfl rfl (by kernel_rfl) rfl (fun a4625_ h4626_ => ?_)
          clear h4529_ a4528_
          refine WL.skipped (m := 12) h4626_ rfl rfl (by kernel_rfl) rfl (fun a4627_ h4628_ => ?_)
          clear h4626_ a4625_
          refine WL.skipped (m := 13) h4628_ rfl rfl (by kernel_rfl) rfl (fun a4629_ h4630_ => ?_)
          clear h4628_ a4627_
          refine WL.skipped (m := 14) h4630_ rfl rfl (by kernel_rfl) rfl (fun a4631_ h4632_ => ?_)
          clear h4630_ a4629_
          refine WL.skipped (m := 15) h4632_ rfl rfl (by kernel_rfl) rfl (fun a4633_ h4634_ => ?_)
          clear h4632_ a4631_
          refine WL.skipped (m := 16) h4634_ rfl rfl (by kernel_rfl) rfl (fun a4635_ h4636_ => ?_)
          clear h4634_ a4633_
          refine WL.skipped (m := 17) h4636_ rfl rfl (by kernel_rfl) rfl (fun a4637_ h4638_ => ?_)
          clear h4636_ a4635_
          refine WL.skipped (m := 18) h4638_ rfl rfl (by kernel_rfl) rfl (fun a4639_ h4640_ => ?_)
          clear h4638_ a4637_
          refine WL.block (c := 2) (m' := 21) h4640_ rfl [(46, .bool false), (45, .bool false)] (by kernel_rfl) (fun a4641_ h4642_ => ?_)
          clear h4640_ a4639_
          refine WL.skipped (m := 21) h4642_ rfl rfl (by kernel_rfl) rfl (fun a4643_ h4644_ => ?_)
          clear h4642_ a4641_
          refine WL.skipped (m := 22) h4644_ rfl rfl (by kernel_rfl) rfl (fun a4645_ h4646_ => ?_)
          clear h4644_ a4643_
          refine WL.skipped (m := 23) h4646_ rfl rfl (by kernel_rfl) rfl (fun a4647_ h4648_ => ?_)
          clear h4646_ a4645_
          refine WL.skipped (m := 24) h4648_ rfl rfl (by kernel_rfl) rfl (fun a4649_ h4650_ => ?_)
          clear h4648_ a4647_
          refine WL.block (c := 2) (m' := 27) h4650_ rfl [(52, .bool false), (51, .bool false)] (by kernel_rfl) (fun a4651_ h4652_ => ?_)
          clear h4650_ a4649_
          refine WL.skipped (m := 27) h4652_ rfl rfl (by kernel_rfl) rfl (fun a4653_ h4654_ => ?_)
          clear h4652_ a4651_
          refine WL.skipped (m := 28) h4654_ rfl rfl (by kernel_rfl) rfl (fun a4655_ h4656_ => ?_)
          clear h4654_ a4653_
          refine WL.skipped (m := 29) h4656_ rfl rfl (by kernel_rfl) rfl (fun a4657_ h4658_ => ?_)
          clear h4656_ a4655_
          refine WL.skipped (m := 30) h4658_ rfl rfl (by kernel_rfl) rfl (fun a4659_ h4660_ => ?_)
          clear h4658_ a4657_
          refine WL.block (c := 2) (m' := 33) h4660_ rfl [(6, .bool false), (57, .bool false)] (by kernel_rfl) (fun a4661_ h4662_ => ?_)
          clear h4660_ a4659_
          refine WL.done (by kernel_rfl) ?_
          refine wp_ret ?_
          obtain rfl := Option.some.inj H
          repeat (first | refine then_ret ?_ | refine inBlock_ret ?_ | refine inBlock_go ?_)
          refine body_ret (v := .bool false) h4662_ (by kernel_rfl) (by kernel_rfl) ?_
          exact ⟨rfl, hS4525_⟩
      · rw [if_neg c4501_] at H
        have hb_ : r4492_ = false := (Bool.eq_false_iff.2 c4501_)
        try rw [hb_] at h4500_
        clear hb_
        refine WL.skipped (m := 2) h4500_ rfl rfl (by kernel_rfl) rfl (fun a4663_ h4664_ => ?_)
        clear h4500_ a4499_
        refine WL.skipped (m := 3) h4664_ rfl rfl (by kernel_rfl) rfl (fun a4665_ h4666_ => ?_)
        clear h4664_ a4663_
        refine WL.skipped (m := 4) h4666_ rfl rfl (by kernel_rfl) rfl (fun a4667_ h4668_ => ?_)
        clear h4666_ a4665_
        refine WL.skipped (m := 5) h4668_ rfl rfl (by kernel_rfl) rfl (fun a4669_ h4670_ => ?_)
        clear h4668_ a4667_
        refine WL.skipped (m := 6) h4670_ rfl rfl (by kernel_rfl) rfl (fun a4671_ h4672_ => ?_)
        clear h4670_ a4669_
        refine WL.skipped (m := 7) h4672_ rfl rfl (by kernel_rfl) rfl (fun a4673_ h4674_ => ?_)
        clear h4672_ a4671_
        refine WL.skipped (m := 8) h4674_ rfl rfl (by kernel_rfl) rfl (fun a4675_ h4676_ => ?_)
        clear h4674_ a4673_
        refine WL.block (c := 2) (m' := 11) h4676_ rfl [(36, .bool false), (35, .bool false)] (by kernel_rfl) (fun a4677_ h4678_ => ?_)
        clear h4676_ a4675_
        refine WL.skipped (m := 11) h4678_ rfl rfl (by kernel_rfl) rfl (fun a4679_ h4680_ => ?_)
        clear h4678_ a4677_
        refine WL.skipped (m := 12) h4680_ rfl rfl (by kernel_rfl) rfl (fun a4681_ h4682_ => ?_)
        clear h4680_ a4679_
        refine WL.skipped (m := 13) h4682_ rfl rfl (by kernel_rfl) rfl (fun a4683_ h4684_ => ?_)
        clear h4682_ a4681_
        refine WL.skipped (m := 14) h4684_ rfl rfl (by kernel_rfl) rfl (fun a4685_ h4686_ => ?_)
        clear h4684_ a4683_
        refine WL.skipped (m := 15) h4686_ rfl rfl (by kernel_rfl) rfl (fun a4687_ h4688_ => ?_)
        clear h4686_ a4685_
        refine WL.skipped (m := 16) h4688_ rfl rfl (by kernel_rfl) rfl (fun a4689_ h4690_ => ?_)
        clear h4688_ a4687_
        refine WL.skipped (m := 17) h4690_ rfl rfl (by kernel_rfl) rfl (fun a4691_ h4692_ => ?_)
        clear h4690_ a4689_
        refine WL.skipped (m := 18) h4692_ rfl rfl (by kernel_rfl) rfl (fun a4693_ h4694_ => ?_)
        clear h4692_ a4691_
        refine WL.block (c := 2) (m' := 21) h4694_ rfl [(46, .bool false), (45, .bool false)] (by kernel_rfl) (fun a4695_ h4696_ => ?_)
        clear h4694_ a4693_
        refine WL.skipped (m := 21) h4696_ rfl rfl (by kernel_rfl) rfl (fun a4697_ h4698_ => ?_)
        clear h4696_ a4695_
        refine WL.skipped (m := 22) h4698_ rfl rfl (by kernel_rfl) rfl (fun a4699_ h4700_ => ?_)
        clear h4698_ a4697_
        refine WL.skipped (m := 23) h4700_ rfl rfl (by kernel_rfl) rfl (fun a4701_ h4702_ => ?_)
        clear h4700_ a4699_
        refine WL.skipped (m := 24) h4702_ rfl rfl (by kernel_rfl) rfl (fun a4703_ h4704_ => ?_)
        clear h4702_ a4701_
        refine WL.block (c := 2) (m' := 27) h4704_ rfl [(52, .bool false), (51, .bool false)] (by kernel_rfl) (fun a4705_ h4706_ => ?_)
        clear h4704_ a4703_
        refine WL.skipped (m := 27) h4706_ rfl rfl (by kernel_rfl) rfl (fun a4707_ h4708_ => ?_)
        clear h4706_ a4705_
        refine WL.skipped (m := 28) h4708_ rfl rfl (by kernel_rfl) rfl (fun a4709_ h4710_ => ?_)
        clear h4708_ a4707_
        refine WL.skipped (m := 29) h4710_ rfl rfl (by kernel_rfl) rfl (fun a4711_ h4712_ => ?_)
        clear h4710_ a4709_
        refine WL.skipped (m := 30) h4712_ rfl rfl (by kernel_rfl) rfl (fun a4713_ h4714_ => ?_)
        clear h4712_ a4711_
        refine WL.block (c := 2) (m' := 33) h4714_ rfl [(6, .bool false), (57, .bool false)] (by kernel_rfl) (fun a4715_ h4716_ => ?_)
        clear h4714_ a4713_
        refine WL.done (by kernel_rfl) ?_
        refine wp_ret ?_
        obtain rfl := Option.some.inj H
        repeat (first | refine then_ret ?_ | refine inBlock_ret ?_ | refine inBlock_go ?_)
        refine body_ret (v := .bool false) h4716_ (by kernel_rfl) (by kernel_rfl) ?_
        exact ⟨rfl, hS4498_⟩
end Go.Proofs.Ytonhiiedhnhanaa.Sl
