/- What the functions of this program compute, told as plain functions, and that the calls come to just that. Printed by this session's program; part 3. -/
import Derived.Test.YtgbognkigcedbaaCode2
set_option linter.unusedVariables false
set_option linter.unusedSimpArgs false
set_option linter.unnecessarySimpa false
namespace Go.Proofs.Ytgbognkigcedbaa.Sl
open Go Go.RowKit Go.Proofs.Sl
/-! ### (*louver/window.Window).Grow -/
def window_Window_Grow.f (p0 : S68) (p1 : Int) : Option (S31 × S68) := bnd2 (window_Window_to.f (⟨p0.f0, p0.f1⟩ : S68) (IntKind.i64.wrap (p0.f0 + (IntKind.i64.wrap p1)))) fun r9719q r9720q => (if r9719q = true then (some ((⟨0, 0⟩ : S31), r9720q)) else (bnd1 (window_scope.f r9720q.f1) fun r9752q => (some ((⟨r9752q, 3⟩ : S31), (⟨r9720q.f0, r9720q.f1⟩ : S68)))))
set_option maxHeartbeats 2000000 in
set_option maxRecDepth 100000 in
theorem window_Window_Grow.calls {b : Nat} {w0 W : World} {R : Frag} {Fs : List Frag} {p0 : S68} {p1 : Int}  {v0 : Value} {M0 : Frag} {r0q : S31} {r1q : S68} (hp0 : Ptr k68 68 b w0 R v0 p0 M0) (H : window_Window_Grow.f p0 p1 = some (r0q, r1q)) (hS : St b w0 W R (M0 :: Fs)) :
    Calls Try.prog 22 ([v0, .int .u32 p1] : List Value).toArray W (fun e W' => ∃ (O0q : Frag), e = .returned (.agg #[.int .u8 r0q.f0, .int .u32 r0q.f1]) ∧ Ptr k68 68 b w0 R v0 r1q O0q ∧ St b w0 W' R (O0q :: Fs)) := by
  unfold window_Window_Grow.f at H
  refine calls_enter Try.func22 rfl 27 rfl (by kernel_rfl) (fun a h => ?_)
  refine wp_seq ?_
  refine WL.start ?_
  refine WL.op' (m := 0) h rfl rfl ?_
  refine owp_new (fun g_ => .pointer (some ⟨g_, 0, none⟩)) (.cells ([.int .u8 0, .int .u32 0] : List Value).toArray 31 (0, 0)) h rfl (by kernel_rfl) (by kernel_rfl) hS (fun a9691q W9693q g9694q h9692q hS9695q => ?_)
  refine WL.done (by kernel_rfl) ?_
  refine wp_seq ?_
  refine wp_block ?_
  refine wp_seq ?_
  refine WL.start ?_
  refine WL.block (c := 1) (m' := 1) h9692q rfl [(6, v0)] (by kernel_rfl) (fun a9696q h9697q => ?_)
  clear h9692q a9691q
  have hS9698q : St b w0 W9693q R (M0 :: [(g9694q, .cells ([.int .u8 0, .int .u32 0] : List Value).toArray 31 (0, 0))] :: Fs) := hS9695q.bring 1 rfl rfl
  obtain ⟨g9699q, cs9700q, M9701q, hv_, hM_, hr9702q⟩ := hp0
  obtain ⟨rfl, hM2q⟩ := k68qrep hr9702q
  subst hM2q
  subst hM_
  subst hv_
  have hS9703q : St b w0 W9693q R ([(g9699q, .cells ([.int .i64 p0.f0, .bool p0.f1] : List Value).toArray 68 (0, 0))] :: [(g9694q, .cells ([.int .u8 0, .int .u32 0] : List Value).toArray 31 (0, 0))] :: Fs) := hS9698q.assoc (by simp only [List.flatten_cons, List.append_assoc, List.cons_append, List.nil_append, List.append_nil])
  refine WL.block (c := 2) (m' := 3) h9697q rfl [(5, .bool false), (7, .bool false)] (by kernel_rfl) (fun a9704q h9705q => ?_)
  clear h9697q a9696q
  refine WL.done (by kernel_rfl) ?_
  refine wp_else h9705q rfl ?_
  refine wp_seq ?_
  refine WL.start ?_
  refine WL.block (c := 4) (m' := 4) h9705q rfl [(13, .pointer (some ⟨g9699q, 0, none⟩)), (12, .pointer (some ⟨g9699q, 0, none⟩)), (11, .pointer (some ⟨g9699q, 0, none⟩)), (10, .pointer (some ⟨g9699q, 0, none⟩))] (by kernel_rfl) (fun a9706q h9707q => ?_)
  clear h9705q a9704q
  refine WL.op' (m := 4) h9707q rfl rfl ?_
  refine owp_run (v := .int .i64 p0.f0) h9707q rfl (by kernel_rfl) (run_load1 rfl rfl Try.underlying2 rfl (hS9703q.cell (i := 0) rfl)) (fun a9708q h9709q => ?_)
  clear h9707q a9706q
  refine WL.block (c := 3) (m' := 8) h9709q rfl [(17, .int .i64 (IntKind.i64.wrap (p0.f0 + (IntKind.i64.wrap p1)))), (16, .int .i64 (IntKind.i64.wrap p1)), (15, .int .u32 p1)] (by kernel_rfl) (fun a9710q h9711q => ?_)
  clear h9709q a9708q
  obtain ⟨M9713q, hr9712q, hM_⟩ := k68qmk (b := b) (w0 := w0) (R := R) (x := (⟨p0.f0, p0.f1⟩ : S68)) 
  have hp9714q : Ptr k68 68 b w0 R (.pointer (some ⟨g9699q, 0, none⟩)) (⟨p0.f0, p0.f1⟩ : S68) ((g9699q, .cells ([.int .i64 p0.f0, .bool p0.f1] : List Value).toArray 68 (0, 0)) :: M9713q) := ⟨_, _, _, rfl, rfl, hr9712q⟩
  rw [hM_] at hp9714q
  have hS9716q : St b w0 W9693q R (((g9699q, .cells ([.int .i64 p0.f0, .bool p0.f1] : List Value).toArray 68 (0, 0)) :: ([])) :: [(g9694q, .cells ([.int .u8 0, .int .u32 0] : List Value).toArray 31 (0, 0))] :: Fs) := hS9703q.assoc (by simp only [List.flatten_cons, List.append_assoc, List.cons_append, List.nil_append, List.append_nil])
  obtain ⟨M9717q, hM_⟩ : ∃ y : Frag, y = ((g9699q, .cells ([.int .i64 p0.f0, .bool p0.f1] : List Value).toArray 68 (0, 0)) :: ([])) := ⟨_, rfl⟩
  rw [← hM_] at hp9714q hS9716q
  clear hM_
  obtain ⟨r9719q, r9720q, A9718q, H⟩ := bind2 H
  refine WL.op' (m := 8) h9711q rfl rfl ?_
  refine owp_call [.pointer (some ⟨g9699q, 0, none⟩), .int .i64 (IntKind.i64.wrap (p0.f0 + (IntKind.i64.wrap p1)))] h9711q rfl (by kernel_rfl) rfl Try.func29 (by kernel_rfl) rfl (by kernel_rfl) (window_Window_to.calls hp9714q A9718q hS9716q) (fun e9722q W9721q hp9723q => ?_)
  obtain ⟨M9726q, rfl, hr9727q, hS9728q⟩ := hp9723q
  refine ⟨_, rfl, fun a9724q h9725q => ?_⟩
  clear h9711q a9710q
  refine WL.block (c := 2) (m' := 11) h9725q rfl [(9, .bool (!r9719q)), (19, .bool (!r9719q))] (by kernel_rfl) (fun a9729q h9730q => ?_)
  clear h9725q a9724q
  refine WL.done (by kernel_rfl) ?_
  by_cases c9731q : r9719q = true
  · rw [if_pos c9731q] at H
    have hb_ : r9719q = true := c9731q
    try rw [hb_] at h9730q
    clear hb_
    refine wp_else h9730q rfl ?_
    refine wp_skip ?_
    refine wp_seq ?_
    refine WL.start ?_
    refine WL.block (c := 1) (m' := 1) h9730q rfl [(26, .agg #[.int .u8 0, .int .u32 0])] (by kernel_rfl) (fun a9732q h9733q => ?_)
    clear h9730q a9729q
    have hS9734q : St b w0 W9721q R ([(g9694q, .cells ([.int .u8 0, .int .u32 0] : List Value).toArray 31 (0, 0))] :: M9726q :: Fs) := hS9728q.bring 1 rfl rfl
    refine WL.op' (m := 1) h9733q rfl rfl ?_
    refine owp_store (i := 0) (vs := ([.int .u8 0, .int .u32 0] : List Value)) h9733q rfl (by kernel_rfl) rfl rfl rfl rfl (by simp [Value.oneCell']) (by kernel_rfl) hS9734q (by simp) (cs' := ([.int .u8 0, .int .u32 0] : List Value)) rfl (fun a9735q W9737q h9736q hS9738q => ?_)
    clear h9733q a9732q
    refine WL.done (by kernel_rfl) ?_
    refine wp_ret ?_
    have hS9739q : St b w0 W9737q R (M9726q :: Fs) := hS9738q.drop_
    obtain ⟨rfl, rfl⟩ := ret2 H
    repeat (first | refine then_ret ?_ | refine inBlock_ret ?_ | refine inBlock_go ?_)
    refine body_ret (v := .agg #[.int .u8 0, .int .u32 0]) h9736q (by kernel_rfl) (res_one rfl ⟨_, rfl, loadVarN Try.underlying31 rfl (cs := ([.int .u8 0, .int .u32 0] : List Value)) (by kernel_rfl) (hS9738q.cells (vs := ([.int .u8 0, .int .u32 0] : List Value)) rfl)⟩) ?_
    exact ⟨M9726q, rfl, hr9727q, hS9739q⟩
  · rw [if_neg c9731q] at H
    have hb_ : r9719q = false := (Bool.eq_false_iff.2 c9731q)
    try rw [hb_] at h9730q
    clear hb_
    refine wp_then h9730q rfl ?_
    refine wp_seq ?_
    refine WL.start ?_
    refine WL.block (c := 1) (m' := 1) h9730q rfl [(20, .pointer (some ⟨g9699q, 0, none⟩))] (by kernel_rfl) (fun a9740q h9741q => ?_)
    clear h9730q a9729q
    obtain ⟨g9742q, cs9743q, M9744q, hv_, hM_, hr9745q⟩ := hr9727q
    obtain ⟨rfl, hM2q⟩ := k68qrep hr9745q
    subst hM2q
    subst hM_
    have hg_ : g9699q = g9742q := by simpa using hv_
    subst hg_
    clear hv_
    have hS9746q : St b w0 W9721q R ([(g9699q, .cells ([.int .i64 r9720q.f0, .bool r9720q.f1] : List Value).toArray 68 (0, 0))] :: [(g9694q, .cells ([.int .u8 0, .int .u32 0] : List Value).toArray 31 (0, 0))] :: Fs) := hS9728q.assoc (by simp only [List.flatten_cons, List.append_assoc, List.cons_append, List.nil_append, List.append_nil])
    refine WL.block (c := 2) (m' := 3) h9741q rfl [(22, .pointer (some ⟨g9699q, 1, none⟩)), (21, .pointer (some ⟨g9699q, 0, none⟩))] (by kernel_rfl) (fun a9747q h9748q => ?_)
    clear h9741q a9740q
    refine WL.op' (m := 3) h9748q rfl rfl ?_
    refine owp_run (v := .bool r9720q.f1) h9748q rfl (by kernel_rfl) (run_load1 rfl rfl Try.underlying4 rfl (hS9746q.cell (i := 1) rfl)) (fun a9749q h9750q => ?_)
    clear h9748q a9747q
    obtain ⟨r9752q, A9751q, H⟩ := bind1 H
    refine WL.op' (m := 4) h9750q rfl rfl ?_
    refine owp_call [.bool r9720q.f1] h9750q rfl (by kernel_rfl) rfl Try.func28 (by kernel_rfl) rfl (by kernel_rfl) (window_scope.calls  A9751q hS9746q) (fun e9754q W9753q hp9755q => ?_)
    obtain ⟨rfl, hS9758q⟩ := hp9755q
    refine ⟨_, rfl, fun a9756q h9757q => ?_⟩
    clear h9750q a9749q
    refine WL.block (c := 1) (m' := 6) h9757q rfl [(25, .agg #[.int .u8 r9752q, .int .u32 3])] (by kernel_rfl) (fun a9759q h9760q => ?_)
    clear h9757q a9756q
    have hS9761q : St b w0 W9753q R ([(g9694q, .cells ([.int .u8 0, .int .u32 0] : List Value).toArray 31 (0, 0))] :: [(g9699q, .cells ([.int .i64 r9720q.f0, .bool r9720q.f1] : List Value).toArray 68 (0, 0))] :: Fs) := hS9758q.bring 1 rfl rfl
    refine WL.op' (m := 6) h9760q rfl rfl ?_
    refine owp_store (i := 0) (vs := ([.int .u8 r9752q, .int .u32 3] : List Value)) h9760q rfl (by kernel_rfl) rfl rfl rfl rfl (by simp [Value.oneCell']) (by kernel_rfl) hS9761q (by simp) (cs' := ([.int .u8 r9752q, .int .u32 3] : List Value)) rfl (fun a9762q W9764q h9763q hS9765q => ?_)
    clear h9760q a9759q
    refine WL.done (by kernel_rfl) ?_
    refine wp_ret ?_
    have hS9766q : St b w0 W9764q R ([(g9699q, .cells ([.int .i64 r9720q.f0, .bool r9720q.f1] : List Value).toArray 68 (0, 0))] :: [(g9694q, .cells ([.int .u8 r9752q, .int .u32 3] : List Value).toArray 31 (0, 0))] :: Fs) := hS9765q.bring 1 rfl rfl
    obtain ⟨M9768q, hr9767q, hM_⟩ := k68qmk (b := b) (w0 := w0) (R := R) (x := (⟨r9720q.f0, r9720q.f1⟩ : S68)) 
    have hp9769q : Ptr k68 68 b w0 R (.pointer (some ⟨g9699q, 0, none⟩)) (⟨r9720q.f0, r9720q.f1⟩ : S68) ((g9699q, .cells ([.int .i64 r9720q.f0, .bool r9720q.f1] : List Value).toArray 68 (0, 0)) :: M9768q) := ⟨_, _, _, rfl, rfl, hr9767q⟩
    rw [hM_] at hp9769q
    have hS9771q : St b w0 W9764q R (((g9699q, .cells ([.int .i64 r9720q.f0, .bool r9720q.f1] : List Value).toArray 68 (0, 0)) :: ([])) :: [(g9694q, .cells ([.int .u8 r9752q, .int .u32 3] : List Value).toArray 31 (0, 0))] :: Fs) := hS9766q.assoc (by simp only [List.flatten_cons, List.append_assoc, List.cons_append, List.nil_append, List.append_nil])
    obtain ⟨M9772q, hM_⟩ : ∃ y : Frag, y = ((g9699q, .cells ([.int .i64 r9720q.f0, .bool r9720q.f1] : List Value).toArray 68 (0, 0)) :: ([])) := ⟨_, rfl⟩
    rw [← hM_] at hp9769q hS9771q
    clear hM_
    have hS9773q : St b w0 W9764q R ([(g9694q, .cells ([.int .u8 r9752q, .int .u32 3] : List Value).toArray 31 (0, 0))] :: M9772q :: Fs) := hS9771q.bring 1 rfl rfl
    have hS9774q : St b w0 W9764q R (M9772q :: Fs) := hS9773q.drop_
    obtain ⟨rfl, rfl⟩ := ret2 H
    repeat (first | refine then_ret ?_ | refine inBlock_ret ?_ | refine inBlock_go ?_)
    refine body_ret (v := .agg #[.int .u8 r9752q, .int .u32 3]) h9763q (by kernel_rfl) (res_one rfl ⟨_, rfl, loadVarN Try.underlying31 rfl (cs := ([.int .u8 r9752q, .int .u32 3] : List Value)) (by kernel_rfl) (hS9765q.cells (vs := ([.int .u8 r9752q, .int .u32 3] : List Value)) rfl)⟩) ?_
    exact ⟨M9772q, rfl, hp9769q, hS9774q⟩

/-! ### (*louver/window.Window).Grow -/
def window_Window_Grow_nil.f (p1 : Int) : Option (S31) := bnd1 (window_internal.f) fun r9803q => (some (⟨r9803q.f0, r9803q.f1⟩ : S31))
set_option maxHeartbeats 2000000 in
set_option maxRecDepth 100000 in
theorem window_Window_Grow_nil.calls {b : Nat} {w0 W : World} {R : Frag} {Fs : List Frag} {p1 : Int}  {r0q : S31}  (H : window_Window_Grow_nil.f p1 = some r0q) (hS : St b w0 W R (Fs)) :
    Calls Try.prog 22 ([.pointer none, .int .u32 p1] : List Value).toArray W (fun e W' => e = .returned (.agg #[.int .u8 r0q.f0, .int .u32 r0q.f1]) ∧ St b w0 W' R (Fs)) := by
  unfold window_Window_Grow_nil.f at H
  refine calls_enter Try.func22 rfl 27 rfl (by kernel_rfl) (fun a h => ?_)
  refine wp_seq ?_
  refine WL.start ?_
  refine WL.op' (m := 0) h rfl rfl ?_
  refine owp_new (fun g_ => .pointer (some ⟨g_, 0, none⟩)) (.cells ([.int .u8 0, .int .u32 0] : List Value).toArray 31 (0, 0)) h rfl (by kernel_rfl) (by kernel_rfl) hS (fun a9795q W9797q g9798q h9796q hS9799q => ?_)
  refine WL.done (by kernel_rfl) ?_
  refine wp_seq ?_
  refine wp_block ?_
  refine wp_seq ?_
  refine WL.start ?_
  refine WL.block (c := 3) (m' := 3) h9796q rfl [(5, .bool true), (7, .bool true), (6, .pointer none)] (by kernel_rfl) (fun a9800q h9801q => ?_)
  clear h9796q a9795q
  refine WL.done (by kernel_rfl) ?_
  refine wp_then h9801q rfl ?_
  refine wp_seq ?_
  refine WL.start ?_
  obtain ⟨r9803q, A9802q, H⟩ := bind1 H
  refine WL.op' (m := 0) h9801q rfl rfl ?_
  refine owp_call [] h9801q rfl (by kernel_rfl) rfl Try.func27 (by kernel_rfl) rfl (by kernel_rfl) (window_internal.calls  A9802q hS9799q) (fun e9805q W9804q hp9806q => ?_)
  obtain ⟨rfl, hS9809q⟩ := hp9806q
  refine ⟨_, rfl, fun a9807q h9808q => ?_⟩
  clear h9801q a9800q
  refine WL.op' (m := 1) h9808q rfl rfl ?_
  refine owp_store (i := 0) (vs := ([.int .u8 r9803q.f0, .int .u32 r9803q.f1] : List Value)) h9808q rfl (by kernel_rfl) rfl rfl rfl rfl (by simp [Value.oneCell']) (by kernel_rfl) hS9809q (by simp) (cs' := ([.int .u8 r9803q.f0, .int .u32 r9803q.f1] : List Value)) rfl (fun a9810q W9812q h9811q hS9813q => ?_)
  clear h9808q a9807q
  refine WL.done (by kernel_rfl) ?_
  refine wp_ret ?_
  have hS9814q : St b w0 W9812q R (Fs) := hS9813q.drop_
  obtain rfl := Option.some.inj H
  repeat (first | refine then_ret ?_ | refine inBlock_ret ?_ | refine inBlock_go ?_)
  refine body_ret (v := .agg #[.int .u8 r9803q.f0, .int .u32 r9803q.f1]) h9811q (by kernel_rfl) (res_one rfl ⟨_, rfl, loadVarN Try.underlying31 rfl (cs := ([.int .u8 r9803q.f0, .int .u32 r9803q.f1] : List Value)) (by kernel_rfl) (hS9813q.cells (vs := ([.int .u8 r9803q.f0, .int .u32 r9803q.f1] : List Value)) rfl)⟩) ?_
  exact ⟨rfl, hS9814q⟩

/-! ### louver/louverlaw10.WindowEnds -/
def louverlaw10qWindowEnds.l0 : Nat → S68 → S63 → Int → (List S33) → Option (Bool)
  | 0, _, _, _, _ => none
  | k + 1, x10540q, x10543q, x10546q, p1 => if x10546q < (p1.length : Int) then (if 0 ≤ x10546q then (if ((gt z33 p1 x10546q).f0) = 0 then (bnd2 (window_Window_Take.f x10540q ((gt z33 p1 x10546q).f1)) fun r10588q r10589q => (if r10588q = true then (bnd2 (window_Meter_Come.f x10543q ((gt z33 p1 x10546q).f1)) fun r10610q r10611q => (if (decide (r10610q.f0 = 0) && decide (r10610q.f1 = 0)) = true then (bnd1 (window_Window_Left.f r10589q) fun r10629q => (bnd1 (window_Meter_Left.f r10611q) fun r10642q => (if r10629q = r10642q then (louverlaw10qWindowEnds.l0 k r10589q r10611q (IntKind.i64.wrap (x10546q + 1)) p1) else (some false)))) else (some false))) else (louverlaw10qWindowEnds.l0 k r10589q x10543q (IntKind.i64.wrap (x10546q + 1)) p1))) else (bnd2 (window_Meter_Use.f x10543q ((gt z33 p1 x10546q).f1)) fun r10679q r10680q => (if r10679q > 0 then (bnd2 (window_Window_Grow.f x10540q r10679q) fun r10700q r10701q => (if (decide (r10700q.f0 = 0) && decide (r10700q.f1 = 0)) = true then (bnd1 (window_Window_Left.f r10701q) fun r10720q => (bnd1 (window_Meter_Left.f r10680q) fun r10733q => (if r10720q = r10733q then (louverlaw10qWindowEnds.l0 k r10701q r10680q (IntKind.i64.wrap (x10546q + 1)) p1) else (some false)))) else (some false))) else (bnd1 (window_Window_Left.f x10540q) fun r10776q => (bnd1 (window_Meter_Left.f r10680q) fun r10789q => (if r10776q = r10789q then (louverlaw10qWindowEnds.l0 k x10540q r10680q (IntKind.i64.wrap (x10546q + 1)) p1) else (some false))))))) else (none)) else (bnd1 (louverlaw10qfixed.f) fun r10812q => (some r10812q))
def louverlaw10qWindowEnds.f (k : Nat) (p0 : Int) (p1 : (List S33)) : Option (Bool) := if (p1.length : Int) > 500 then (bnd1 (louverlaw10qfixed.f) fun r10492q => (some r10492q)) else (bnd1 (window_New.f (IntKind.i64.wrap (mnI p0 2147483647)) true) fun r10506q => (bnd1 (window_Of.f (mnI p0 2147483647) true) fun r10521q => (louverlaw10qWindowEnds.l0 k r10506q r10521q 0 p1)))
set_option maxHeartbeats 2000000 in
set_option maxRecDepth 100000 in
theorem louverlaw10qWindowEnds.calls (k : Nat) {b : Nat} {w0 W : World} {R : Frag} {Fs : List Frag} {p0 : Int} {p1 : (List S33)} {v1 : Value} {r0q : Bool} (hp1 : Rds k33 b w0 R v1 p1) (H : louverlaw10qWindowEnds.f k p0 p1 = some r0q) (hS : St b w0 W R (Fs)) :
    Calls Try.prog 6 ([.int .u32 p0, v1] : List Value).toArray W (fun e W' => e = .returned (.bool r0q) ∧ St b w0 W' R (Fs)) := by
  obtain ⟨A1, c1, rfl⟩ := hp1.form
  unfold louverlaw10qWindowEnds.f at H
  refine calls_enter Try.func6 rfl 63 rfl (by kernel_rfl) (fun a h => ?_)
  refine wp_seq ?_
  refine WL.start ?_
  refine WL.block (c := 1) (m' := 1) h rfl [(4, .bool false)] (by kernel_rfl) (fun a10486q h10487q => ?_)
  refine WL.done (by kernel_rfl) ?_
  refine wp_seq ?_
  refine wp_seq ?_
  refine WL.start ?_
  refine WL.block (c := 3) (m' := 3) h10487q rfl [(13, .bool (decide ((p1.length : Int) > 500))), (12, .int .i64 (p1.length : Int)), (11, .slice A1 p1.length c1)] (by kernel_rfl) (fun a10488q h10489q => ?_)
  clear h10487q a10486q
  refine WL.done (by kernel_rfl) ?_
  by_cases c10490q : (p1.length : Int) > 500
  · rw [if_pos c10490q] at H
    have hb_ : (decide ((p1.length : Int) > 500)) = true := decide_eq_true c10490q
    try rw [hb_] at h10489q
    clear hb_
    refine wp_then h10489q rfl ?_
    refine wp_seq ?_
    refine WL.start ?_
    obtain ⟨r10492q, A10491q, H⟩ := bind1 H
    refine WL.op' (m := 0) h10489q rfl rfl ?_
    refine owp_call [] h10489q rfl (by kernel_rfl) rfl Try.func9 (by kernel_rfl) rfl (by kernel_rfl) (louverlaw10qfixed.calls  A10491q hS) (fun e10494q W10493q hp10495q => ?_)
    obtain ⟨rfl, hS10498q⟩ := hp10495q
    refine ⟨_, rfl, fun a10496q h10497q => ?_⟩
    clear h10489q a10488q
    refine WL.block (c := 1) (m' := 2) h10497q rfl [(4, .bool r10492q)] (by kernel_rfl) (fun a10499q h10500q => ?_)
    clear h10497q a10496q
    refine WL.done (by kernel_rfl) ?_
    refine wp_ret ?_
    obtain rfl := Option.some.inj H
    repeat (first | refine then_ret ?_ | refine inBlock_ret ?_ | refine inBlock_go ?_)
    refine body_ret (v := .bool r10492q) h10500q (by kernel_rfl) (by kernel_rfl) ?_
    exact ⟨rfl, hS10498q⟩
  · rw [if_neg c10490q] at H
    have hb_ : (decide ((p1.length : Int) > 500)) = false := decide_eq_false c10490q
    try rw [hb_] at h10489q
    clear hb_
    refine wp_else h10489q rfl ?_
    refine wp_skip ?_
    refine wp_seq ?_
    refine WL.start ?_
    refine WL.block (c := 3) (m' := 3) h10489q rfl [(0, .int .u32 (mnI p0 2147483647)), (16, .int .u32 (mnI p0 2147483647)), (15, .int .u32 p0)] (by kernel_rfl) (fun a10501q h10502q => ?_)
    clear h10489q a10488q
    refine WL.done (by kernel_rfl) ?_
    refine wp_seq ?_
    refine WL.start ?_
    refine WL.block (c := 2) (m' := 2) h10502q rfl [(18, .int .i64 (IntKind.i64.wrap (mnI p0 2147483647))), (17, .int .u32 (mnI p0 2147483647))] (by kernel_rfl) (fun a10503q h10504q => ?_)
    clear h10502q a10501q
    obtain ⟨r10506q, A10505q, H⟩ := bind1 H
    refine WL.op' (m := 2) h10504q rfl rfl ?_
    refine owp_call [.int .i64 (IntKind.i64.wrap (mnI p0 2147483647)), .bool true] h10504q rfl (by kernel_rfl) rfl Try.func18 (by kernel_rfl) rfl (by kernel_rfl) (window_New.calls  A10505q hS) (fun e10508q W10507q hp10509q => ?_)
    obtain ⟨v10512q, M10513q, rfl, hr10514q, hS10515q⟩ := hp10509q
    refine ⟨_, rfl, fun a10510q h10511q => ?_⟩
    clear h10504q a10503q
    refine WL.block (c := 1) (m' := 4) h10511q rfl [(5, v10512q)] (by kernel_rfl) (fun a10516q h10517q => ?_)
    clear h10511q a10510q
    refine WL.done (by kernel_rfl) ?_
    refine wp_seq ?_
    refine WL.start ?_
    refine WL.block (c := 1) (m' := 1) h10517q rfl [(20, .int .u32 (mnI p0 2147483647))] (by kernel_rfl) (fun a10518q h10519q => ?_)
    clear h10517q a10516q
    obtain ⟨r10521q, A10520q, H⟩ := bind1 H
    refine WL.op' (m := 1) h10519q rfl rfl ?_
    refine owp_call [.int .u32 (mnI p0 2147483647), .bool true] h10519q rfl (by kernel_rfl) rfl Try.func10 (by kernel_rfl) rfl (by kernel_rfl) (window_Of.calls  A10520q hS10515q) (fun e10523q W10522q hp10524q => ?_)
    obtain ⟨v10527q, M10528q, rfl, hr10529q, hS10530q⟩ := hp10524q
    refine ⟨_, rfl, fun a10525q h10526q => ?_⟩
    clear h10519q a10518q
    refine WL.block (c := 1) (m' := 3) h10526q rfl [(6, v10527q)] (by kernel_rfl) (fun a10531q h10532q => ?_)
    clear h10526q a10525q
    refine WL.done (by kernel_rfl) ?_
    refine wp_seq ?_
    refine wp_seq ?_
    refine WL.start ?_
    refine WL.block (c := 3) (m' := 3) h10532q rfl [(24, .int .i64 0), (23, .int .i64 (p1.length : Int)), (22, .slice A1 p1.length c1)] (by kernel_rfl) (fun a10533q h10534q => ?_)
    clear h10532q a10531q
    refine WL.done (by kernel_rfl) ?_
    refine wp_block ?_
    have hS10547q : St b w0 W10522q R (M10513q :: M10528q :: Fs) := hS10530q.bring 1 rfl rfl
    refine wp_loop_ghost (fun kq_ a_ W_ => ∃ (x10540q : S68), ∃ (M10541q : Frag), ∃ (x10543q : S63), ∃ (M10544q : Frag), ∃ (x10546q : Int), Hd a_ 63 [(5, v10512q), (6, v10527q), (22, .slice A1 p1.length c1), (23, .int .i64 (p1.length : Int)), (24, .int .i64 x10546q)] ∧ Asd (louverlaw10qWindowEnds.l0 kq_ x10540q x10543q x10546q p1 = some r0q) ∧ Asd (kq_ ≤ k) ∧ Asd (St b w0 W_ R (M10541q :: M10544q :: Fs)) ∧ Asd (Ptr k68 68 b w0 R v10512q x10540q M10541q) ∧ Asd (Ptr k63 63 b w0 R v10527q x10543q M10544q)) k ⟨r10506q, M10513q, r10521q, M10528q, 0, h10534q.keep ⟨rfl, rfl, rfl, rfl, rfl, trivial⟩, ⟨H⟩, ⟨Nat.le_refl _⟩, ⟨hS10547q⟩, ⟨hr10514q⟩, ⟨hr10529q⟩⟩ ?_
    clear H hS10547q
    rintro k10539q a10536q W10537q ⟨x10540q, M10541q, x10543q, M10544q, x10546q, h10535q, ⟨H⟩, ⟨hkk10539q⟩, ⟨hS10538q⟩, ⟨hr10542q⟩, ⟨hr10545q⟩⟩
    obtain _ | k10548q := k10539q
    · exact absurd H (by simp [louverlaw10qWindowEnds.l0])
    simp only [louverlaw10qWindowEnds.l0] at H
    refine wp_seq ?_
    refine WL.start ?_
    refine WL.block (c := 1) (m' := 1) h10535q rfl [(25, .bool (decide (x10546q < (p1.length : Int))))] (by kernel_rfl) (fun a10549q h10550q => ?_)
    clear h10535q a10536q
    refine WL.done (by kernel_rfl) ?_
    refine wp_seq ?_
    by_cases c10551q : x10546q < (p1.length : Int)
    · rw [if_pos c10551q] at H
      have hb_ : (decide (x10546q < (p1.length : Int))) = true := decide_eq_true c10551q
      try rw [hb_] at h10550q
      clear hb_
      refine wp_then h10550q rfl ?_
      refine wp_skip ?_
      refine wp_seq ?_
      refine wp_block ?_
      refine wp_seq ?_
      refine WL.start ?_
      by_cases c10552q : 0 ≤ x10546q
      · rw [if_pos c10552q] at H
        have hi10555q : 0 ≤ x10546q := by first | assumption | omega
        have hi10556q : x10546q < (p1.length : Int) := by first | assumption | omega
        obtain ⟨ad10553q, _, ha10554q, -, -⟩ := Rds.elemAny hp1 hi10555q (gt_get (z := z33) hi10555q hi10556q)
        refine WL.op' (m := 0) h10550q rfl rfl ?_
        refine owp_run (v := .pointer (some (ad10553q.add (x10546q.toNat * 4)))) h10550q rfl (by kernel_rfl) (run_idx (ad := ad10553q) (sz := 4) rfl (by rw [← ha10554q]; rfl) rfl Try.underlying23 (by kernel_rfl) hi10555q hi10556q) (fun a10557q h10558q => ?_)
        clear h10550q a10549q
        obtain ⟨ad10559q, cs10560q, ha10561q, hr10563q, hc10562q⟩ := Rds.elemAny hp1 hi10555q (gt_get (z := z33) hi10555q hi10556q)
        rw [ha10554q] at ha10561q; obtain rfl := Option.some.inj ha10561q
        obtain rfl := k33qrd hr10563q
        refine WL.op' (m := 1) h10558q rfl rfl ?_
        refine owp_run (v := .agg #[.int .i64 ((gt z33 p1 x10546q).f0), .int .i64 ((gt z33 p1 x10546q).f1), .int .u32 ((gt z33 p1 x10546q).f2), .int .u32 ((gt z33 p1 x10546q).f3)]) h10558q rfl (by kernel_rfl) (run_loadN rfl rfl Try.underlying33 rfl (cs := ([.int .i64 ((gt z33 p1 x10546q).f0), .int .i64 ((gt z33 p1 x10546q).f1), .int .u32 ((gt z33 p1 x10546q).f2), .int .u32 ((gt z33 p1 x10546q).f3)] : List Value)) (by kernel_rfl) (hc10562q _ (fun _ _ hk_ => hS10538q.kn hk_))) (fun a10564q h10565q => ?_)
        clear h10558q a10557q
        refine WL.op' (m := 2) h10565q rfl rfl ?_
        refine owp_new (fun g_ => .pointer (some ⟨g_, 0, none⟩)) (.cells ([.int .i64 0, .int .i64 0, .int .u32 0, .int .u32 0] : List Value).toArray 33 (0, 0)) h10565q rfl (by kernel_rfl) (by kernel_rfl) hS10538q (fun a10566q W10568q g10569q h10567q hS10570q => ?_)
        clear h10565q a10564q
        refine WL.op' (m := 3) h10567q rfl rfl ?_
        refine owp_store (i := 0) (vs := ([.int .i64 ((gt z33 p1 x10546q).f0), .int .i64 ((gt z33 p1 x10546q).f1), .int .u32 ((gt z33 p1 x10546q).f2), .int .u32 ((gt z33 p1 x10546q).f3)] : List Value)) h10567q rfl (by kernel_rfl) rfl rfl rfl rfl (by simp [Value.oneCell']) (by kernel_rfl) hS10570q (by simp) (cs' := ([.int .i64 ((gt z33 p1 x10546q).f0), .int .i64 ((gt z33 p1 x10546q).f1), .int .u32 ((gt z33 p1 x10546q).f2), .int .u32 ((gt z33 p1 x10546q).f3)] : List Value)) rfl (fun a10571q W10573q h10572q hS10574q => ?_)
        clear h10567q a10566q
        refine WL.done (by kernel_rfl) ?_
        refine wp_seq ?_
        refine wp_seq ?_
        refine WL.start ?_
        refine WL.block (c := 1) (m' := 1) h10572q rfl [(28, .pointer (some ⟨g10569q, 0, none⟩))] (by kernel_rfl) (fun a10575q h10576q => ?_)
        clear h10572q a10571q
        refine WL.op' (m := 1) h10576q rfl rfl ?_
        refine owp_run (v := .int .i64 ((gt z33 p1 x10546q).f0)) h10576q rfl (by kernel_rfl) (run_load1 rfl rfl Try.underlying3 rfl (hS10574q.cell (i := 0) rfl)) (fun a10577q h10578q => ?_)
        clear h10576q a10575q
        refine WL.block (c := 1) (m' := 3) h10578q rfl [(30, .bool (decide (((gt z33 p1 x10546q).f0) = 0)))] (by kernel_rfl) (fun a10579q h10580q => ?_)
        clear h10578q a10577q
        refine WL.done (by kernel_rfl) ?_
        by_cases c10581q : ((gt z33 p1 x10546q).f0) = 0
        · rw [if_pos c10581q] at H
          have hb_ : (decide (((gt z33 p1 x10546q).f0) = 0)) = true := decide_eq_true c10581q
          try rw [hb_] at h10580q
          clear hb_
          refine wp_then h10580q rfl ?_
          refine wp_seq ?_
          refine WL.start ?_
          refine WL.block (c := 2) (m' := 2) h10580q rfl [(32, .pointer (some ⟨g10569q, 1, none⟩)), (31, v10512q)] (by kernel_rfl) (fun a10582q h10583q => ?_)
          clear h10580q a10579q
          refine WL.op' (m := 2) h10583q rfl rfl ?_
          refine owp_run (v := .int .i64 ((gt z33 p1 x10546q).f1)) h10583q rfl (by kernel_rfl) (run_load1 rfl rfl Try.underlying3 rfl (hS10574q.cell (i := 1) rfl)) (fun a10584q h10585q => ?_)
          clear h10583q a10582q
          have hS10586q : St b w0 W10573q R (M10541q :: [(g10569q, .cells ([.int .i64 ((gt z33 p1 x10546q).f0), .int .i64 ((gt z33 p1 x10546q).f1), .int .u32 ((gt z33 p1 x10546q).f2), .int .u32 ((gt z33 p1 x10546q).f3)] : List Value).toArray 33 (0, 0))] :: M10544q :: Fs) := hS10574q.bring 1 rfl rfl
          obtain ⟨r10588q, r10589q, A10587q, H⟩ := bind2 H
          refine WL.op' (m := 3) h10585q rfl rfl ?_
          refine owp_call [v10512q, .int .i64 ((gt z33 p1 x10546q).f1)] h10585q rfl (by kernel_rfl) rfl Try.func21 (by kernel_rfl) rfl (by kernel_rfl) (window_Window_Take.calls hr10542q A10587q hS10586q) (fun e10591q W10590q hp10592q => ?_)
          obtain ⟨M10595q, rfl, hr10596q, hS10597q⟩ := hp10592q
          refine ⟨_, rfl, fun a10593q h10594q => ?_⟩
          clear h10585q a10584q
          refine WL.block (c := 1) (m' := 5) h10594q rfl [(9, .bool r10588q)] (by kernel_rfl) (fun a10598q h10599q => ?_)
          clear h10594q a10593q
          refine WL.done (by kernel_rfl) ?_
          refine wp_seq ?_
          refine wp_seq ?_
          refine WL.start ?_
          refine WL.block (c := 2) (m' := 2) h10599q rfl [(36, .bool (!r10588q)), (35, .bool r10588q)] (by kernel_rfl) (fun a10600q h10601q => ?_)
          clear h10599q a10598q
          refine WL.done (by kernel_rfl) ?_
          by_cases c10602q : r10588q = true
          · rw [if_pos c10602q] at H
            have hb_ : r10588q = true := c10602q
            try rw [hb_] at h10601q
            clear hb_
            refine wp_else h10601q rfl ?_
            refine wp_skip ?_
            refine wp_seq ?_
            refine WL.start ?_
            refine WL.block (c := 2) (m' := 2) h10601q rfl [(38, .pointer (some ⟨g10569q, 1, none⟩)), (37, v10527q)] (by kernel_rfl) (fun a10603q h10604q => ?_)
            clear h10601q a10600q
            have hS10605q : St b w0 W10590q R ([(g10569q, .cells ([.int .i64 ((gt z33 p1 x10546q).f0), .int .i64 ((gt z33 p1 x10546q).f1), .int .u32 ((gt z33 p1 x10546q).f2), .int .u32 ((gt z33 p1 x10546q).f3)] : List Value).toArray 33 (0, 0))] :: M10595q :: M10544q :: Fs) := hS10597q.bring 1 rfl rfl
            refine WL.op' (m := 2) h10604q rfl rfl ?_
            refine owp_run (v := .int .i64 ((gt z33 p1 x10546q).f1)) h10604q rfl (by kernel_rfl) (run_load1 rfl rfl Try.underlying3 rfl (hS10605q.cell (i := 1) rfl)) (fun a10606q h10607q => ?_)
            clear h10604q a10603q
            have hS10608q : St b w0 W10590q R (M10544q :: [(g10569q, .cells ([.int .i64 ((gt z33 p1 x10546q).f0), .int .i64 ((gt z33 p1 x10546q).f1), .int .u32 ((gt z33 p1 x10546q).f2), .int .u32 ((gt z33 p1 x10546q).f3)] : List Value).toArray 33 (0, 0))] :: M10595q :: Fs) := hS10605q.bring 2 rfl rfl
            obtain ⟨r10610q, r10611q, A10609q, H⟩ := bind2 H
            refine WL.op' (m := 3) h10607q rfl rfl ?_
            refine owp_call [v10527q, .int .i64 ((gt z33 p1 x10546q).f1)] h10607q rfl (by kernel_rfl) rfl Try.func13 (by kernel_rfl) rfl (by kernel_rfl) (window_Meter_Come.calls hr10545q A10609q hS10608q) (fun e10613q W10612q hp10614q => ?_)
            obtain ⟨M10617q, rfl, hr10618q, hS10619q⟩ := hp10614q
            refine ⟨_, rfl, fun a10615q h10616q => ?_⟩
            clear h10607q a10606q
            refine WL.block (c := 1) (m' := 5) h10616q rfl [(41, .agg #[.int .u8 0, .int .u32 0])] (by kernel_rfl) (fun a10620q h10621q => ?_)
            clear h10616q a10615q
            refine WL.op' (m := 5) h10621q rfl rfl ?_
            refine owp_run (v := .bool (!(decide (r10610q.f0 = 0) && decide (r10610q.f1 = 0)))) h10621q rfl (by kernel_rfl) (run_stne (xs := [.int .u8 r10610q.f0, .int .u32 r10610q.f1]) (ys := [.int .u8 0, .int .u32 0]) rfl rfl rfl (by kernel_rfl) (eqs_of Try.underlying31 (by kernel_rfl) (eqf_cons rfl (by kernel_rfl) rfl rfl (eqi_int Try.underlying5) (eqf_last rfl (by kernel_rfl) rfl rfl (eqi_int Try.underlying22))))) (fun a10622q h10623q => ?_)
            clear h10621q a10620q
            refine WL.done (by kernel_rfl) ?_
            by_cases c10624q : (decide (r10610q.f0 = 0) && decide (r10610q.f1 = 0)) = true
            · rw [if_pos c10624q] at H
              have hb_ : (decide (r10610q.f0 = 0) && decide (r10610q.f1 = 0)) = true := c10624q
              try rw [hb_] at h10623q
              clear hb_
              refine wp_else h10623q rfl ?_
              refine wp_skip ?_
              refine wp_seq ?_
              refine WL.start ?_
              refine WL.block (c := 1) (m' := 1) h10623q rfl [(56, v10512q)] (by kernel_rfl) (fun a10625q h10626q => ?_)
              clear h10623q a10622q
              have hS10627q : St b w0 W10612q R (M10595q :: M10617q :: [(g10569q, .cells ([.int .i64 ((gt z33 p1 x10546q).f0), .int .i64 ((gt z33 p1 x10546q).f1), .int .u32 ((gt z33 p1 x10546q).f2), .int .u32 ((gt z33 p1 x10546q).f3)] : List Value).toArray 33 (0, 0))] :: Fs) := hS10619q.bring 2 rfl rfl
              obtain ⟨r10629q, A10628q, H⟩ := bind1 H
              refine WL.op' (m := 1) h10626q rfl rfl ?_
              refine owp_call [v10512q] h10626q rfl (by kernel_rfl) rfl Try.func19 (by kernel_rfl) rfl (by kernel_rfl) (window_Window_Left.calls hr10596q A10628q hS10627q) (fun e10631q W10630q hp10632q => ?_)
              obtain ⟨M10635q, rfl, hr10636q, hS10637q⟩ := hp10632q
              refine ⟨_, rfl, fun a10633q h10634q => ?_⟩
              clear h10626q a10625q
              refine WL.block (c := 1) (m' := 3) h10634q rfl [(58, v10527q)] (by kernel_rfl) (fun a10638q h10639q => ?_)
              clear h10634q a10633q
              have hS10640q : St b w0 W10630q R (M10617q :: M10635q :: [(g10569q, .cells ([.int .i64 ((gt z33 p1 x10546q).f0), .int .i64 ((gt z33 p1 x10546q).f1), .int .u32 ((gt z33 p1 x10546q).f2), .int .u32 ((gt z33 p1 x10546q).f3)] : List Value).toArray 33 (0, 0))] :: Fs) := hS10637q.bring 1 rfl rfl
              obtain ⟨r10642q, A10641q, H⟩ := bind1 H
              refine WL.op' (m := 3) h10639q rfl rfl ?_
              refine owp_call [v10527q] h10639q rfl (by kernel_rfl) rfl Try.func16 (by kernel_rfl) rfl (by kernel_rfl) (window_Meter_Left.calls hr10618q A10641q hS10640q) (fun e10644q W10643q hp10645q => ?_)
              obtain ⟨M10648q, rfl, hr10649q, hS10650q⟩ := hp10645q
              refine ⟨_, rfl, fun a10646q h10647q => ?_⟩
              clear h10639q a10638q
              refine WL.block (c := 1) (m' := 5) h10647q rfl [(60, .bool (!decide (r10629q = r10642q)))] (by kernel_rfl) (fun a10651q h10652q => ?_)
              clear h10647q a10646q
              refine WL.done (by kernel_rfl) ?_
              by_cases c10653q : r10629q = r10642q
              · rw [if_pos c10653q] at H
                have hb_ : (decide (r10629q = r10642q)) = true := decide_eq_true c10653q
                try rw [hb_] at h10652q
                clear hb_
                refine wp_else h10652q rfl ?_
                refine wp_skip ?_
                refine WL.start ?_
                refine WL.block (c := 2) (m' := 2) h10652q rfl [(24, .int .i64 (IntKind.i64.wrap (x10546q + 1))), (61, .int .i64 (IntKind.i64.wrap (x10546q + 1)))] (by kernel_rfl) (fun a10654q h10655q => ?_)
                clear h10652q a10651q
                refine WL.done (by kernel_rfl) ?_
                have hS10656q : St b w0 W10643q R ([(g10569q, .cells ([.int .i64 ((gt z33 p1 x10546q).f0), .int .i64 ((gt z33 p1 x10546q).f1), .int .u32 ((gt z33 p1 x10546q).f2), .int .u32 ((gt z33 p1 x10546q).f3)] : List Value).toArray 33 (0, 0))] :: M10648q :: M10635q :: Fs) := hS10650q.bring 2 rfl rfl
                have hS10657q : St b w0 W10643q R (M10648q :: M10635q :: Fs) := hS10656q.drop_
                have hS10658q : St b w0 W10643q R (M10635q :: M10648q :: Fs) := hS10657q.bring 1 rfl rfl
                exact ⟨k10548q, by omega, r10589q, M10635q, r10611q, M10648q, IntKind.i64.wrap (x10546q + 1), h10655q.keep ⟨rfl, rfl, rfl, rfl, rfl, trivial⟩, ⟨H⟩, ⟨by omega⟩, ⟨hS10658q⟩, ⟨hr10636q⟩, ⟨hr10649q⟩⟩
              · rw [if_neg c10653q] at H
                have hb_ : (decide (r10629q = r10642q)) = false := decide_eq_false c10653q
                try rw [hb_] at h10652q
                clear hb_
                refine wp_then h10652q rfl ?_
                refine wp_seq ?_
                refine WL.start ?_
                refine WL.block (c := 1) (m' := 1) h10652q rfl [(4, .bool false)] (by kernel_rfl) (fun a10659q h10660q => ?_)
                clear h10652q a10651q
                refine WL.done (by kernel_rfl) ?_
                refine wp_ret ?_
                have hS10661q : St b w0 W10643q R (M10635q :: [(g10569q, .cells ([.int .i64 ((gt z33 p1 x10546q).f0), .int .i64 ((gt z33 p1 x10546q).f1), .int .u32 ((gt z33 p1 x10546q).f2), .int .u32 ((gt z33 p1 x10546q).f3)] : List Value).toArray 33 (0, 0))] :: Fs) := hS10650q.drop_
                have hS10662q : St b w0 W10643q R ([(g10569q, .cells ([.int .i64 ((gt z33 p1 x10546q).f0), .int .i64 ((gt z33 p1 x10546q).f1), .int .u32 ((gt z33 p1 x10546q).f2), .int .u32 ((gt z33 p1 x10546q).f3)] : List Value).toArray 33 (0, 0))] :: Fs) := hS10661q.drop_
                have hS10663q : St b w0 W10643q R (Fs) := hS10662q.drop_
                obtain rfl := Option.some.inj H
                repeat (first | refine then_ret ?_ | refine inBlock_ret ?_ | refine inBlock_go ?_)
                refine body_ret (v := .bool false) h10660q (by kernel_rfl) (by kernel_rfl) ?_
                exact ⟨rfl, hS10663q⟩
            · rw [if_neg c10624q] at H
              have hb_ : (decide (r10610q.f0 = 0) && decide (r10610q.f1 = 0)) = false := (Bool.eq_false_iff.2 c10624q)
              try rw [hb_] at h10623q
              clear hb_
              refine wp_then h10623q rfl ?_
              refine wp_seq ?_
              refine WL.start ?_
              refine WL.block (c := 1) (m' := 1) h10623q rfl [(4, .bool false)] (by kernel_rfl) (fun a10664q h10665q => ?_)
              clear h10623q a10622q
              refine WL.done (by kernel_rfl) ?_
              refine wp_ret ?_
              have hS10666q : St b w0 W10612q R ([(g10569q, .cells ([.int .i64 ((gt z33 p1 x10546q).f0), .int .i64 ((gt z33 p1 x10546q).f1), .int .u32 ((gt z33 p1 x10546q).f2), .int .u32 ((gt z33 p1 x10546q).f3)] : List Value).toArray 33 (0, 0))] :: M10595q :: Fs) := hS10619q.drop_
              have hS10667q : St b w0 W10612q R (M10595q :: Fs) := hS10666q.drop_
              have hS10668q : St b w0 W10612q R (Fs) := hS10667q.drop_
              obtain rfl := Option.some.inj H
              repeat (first | refine then_ret ?_ | refine inBlock_ret ?_ | refine inBlock_go ?_)
              refine body_ret (v := .bool false) h10665q (by kernel_rfl) (by kernel_rfl) ?_
              exact ⟨rfl, hS10668q⟩
          · rw [if_neg c10602q] at H
            have hb_ : r10588q = false := (Bool.eq_false_iff.2 c10602q)
            try rw [hb_] at h10601q
            clear hb_
            refine wp_then h10601q rfl ?_
            refine wp_exit ?_
            refine WL.start ?_
            refine WL.block (c := 2) (m' := 2) h10601q rfl [(24, .int .i64 (IntKind.i64.wrap (x10546q + 1))), (61, .int .i64 (IntKind.i64.wrap (x10546q + 1)))] (by kernel_rfl) (fun a10669q h10670q => ?_)
            clear h10601q a10600q
            refine WL.done (by kernel_rfl) ?_
            have hS10671q : St b w0 W10590q R ([(g10569q, .cells ([.int .i64 ((gt z33 p1 x10546q).f0), .int .i64 ((gt z33 p1 x10546q).f1), .int .u32 ((gt z33 p1 x10546q).f2), .int .u32 ((gt z33 p1 x10546q).f3)] : List Value).toArray 33 (0, 0))] :: M10595q :: M10544q :: Fs) := hS10597q.bring 1 rfl rfl
            have hS10672q : St b w0 W10590q R (M10595q :: M10544q :: Fs) := hS10671q.drop_
            exact ⟨k10548q, by omega, r10589q, M10595q, x10543q, M10544q, IntKind.i64.wrap (x10546q + 1), h10670q.keep ⟨rfl, rfl, rfl, rfl, rfl, trivial⟩, ⟨H⟩, ⟨by omega⟩, ⟨hS10672q⟩, ⟨hr10596q⟩, ⟨hr10545q⟩⟩
        · rw [if_neg c10581q] at H
          have hb_ : (decide (((gt z33 p1 x10546q).f0) = 0)) = false := decide_eq_false c10581q
          try rw [hb_] at h10580q
          clear hb_
          refine wp_else h10580q rfl ?_
          refine wp_seq ?_
          refine WL.start ?_
          refine WL.block (c := 2) (m' := 2) h10580q rfl [(44, .pointer (some ⟨g10569q, 1, none⟩)), (43, v10527q)] (by kernel_rfl) (fun a10673q h10674q => ?_)
          clear h10580q a10579q
          refine WL.op' (m := 2) h10674q rfl rfl ?_
          refine owp_run (v := .int .i64 ((gt z33 p1 x10546q).f1)) h10674q rfl (by kernel_rfl) (run_load1 rfl rfl Try.underlying3 rfl (hS10574q.cell (i := 1) rfl)) (fun a10675q h10676q => ?_)
          clear h10674q a10673q
          have hS10677q : St b w0 W10573q R (M10544q :: [(g10569q, .cells ([.int .i64 ((gt z33 p1 x10546q).f0), .int .i64 ((gt z33 p1 x10546q).f1), .int .u32 ((gt z33 p1 x10546q).f2), .int .u32 ((gt z33 p1 x10546q).f3)] : List Value).toArray 33 (0, 0))] :: M10541q :: Fs) := hS10574q.bring 2 rfl rfl
          obtain ⟨r10679q, r10680q, A10678q, H⟩ := bind2 H
          refine WL.op' (m := 3) h10676q rfl rfl ?_
          refine owp_call [v10527q, .int .i64 ((gt z33 p1 x10546q).f1)] h10676q rfl (by kernel_rfl) rfl Try.func15 (by kernel_rfl) rfl (by kernel_rfl) (window_Meter_Use.calls hr10545q A10678q hS10677q) (fun e10682q W10681q hp10683q => ?_)
          obtain ⟨M10686q, rfl, hr10687q, hS10688q⟩ := hp10683q
          refine ⟨_, rfl, fun a10684q h10685q => ?_⟩
          clear h10676q a10675q
          refine WL.block (c := 1) (m' := 5) h10685q rfl [(10, .int .u32 r10679q)] (by kernel_rfl) (fun a10689q h10690q => ?_)
          clear h10685q a10684q
          refine WL.done (by kernel_rfl) ?_
          refine wp_seq ?_
          refine WL.start ?_
          refine WL.block (c := 3) (m' := 3) h10690q rfl [(49, .bool (decide (r10679q > 0))), (48, .bool (decide (r10679q > 0))), (47, .int .u32 r10679q)] (by kernel_rfl) (fun a10691q h10692q => ?_)
          clear h10690q a10689q
          by_cases c10693q : r10679q > 0
          · rw [if_pos c10693q] at H
            have hb_ : (decide (r10679q > 0)) = true := decide_eq_true c10693q
            try rw [hb_] at h10692q
            clear hb_
            refine WL.op' (m := 3) h10692q rfl rfl (owp_run h10692q rfl (by kernel_rfl) (v := v10512q) (by kernel_rfl) (fun a10694q h10695q => ?_))
            clear h10692q a10691q
            refine WL.op' (m := 4) h10695q rfl rfl (owp_run h10695q rfl (by kernel_rfl) (v := .int .u32 r10679q) (by kernel_rfl) (fun a10696q h10697q => ?_))
            clear h10695q a10694q
            have hS10698q : St b w0 W10681q R (M10541q :: M10686q :: [(g10569q, .cells ([.int .i64 ((gt z33 p1 x10546q).f0), .int .i64 ((gt z33 p1 x10546q).f1), .int .u32 ((gt z33 p1 x10546q).f2), .int .u32 ((gt z33 p1 x10546q).f3)] : List Value).toArray 33 (0, 0))] :: Fs) := hS10688q.bring 2 rfl rfl
            obtain ⟨r10700q, r10701q, A10699q, H⟩ := bind2 H
            refine WL.op' (m := 5) h10697q rfl rfl ?_
            refine owp_call [v10512q, .int .u32 r10679q] h10697q rfl (by kernel_rfl) rfl Try.func22 (by kernel_rfl) rfl (by kernel_rfl) (window_Window_Grow.calls hr10542q A10699q hS10698q) (fun e10703q W10702q hp10704q => ?_)
            obtain ⟨M10707q, rfl, hr10708q, hS10709q⟩ := hp10704q
            refine ⟨_, rfl, fun a10705q h10706q => ?_⟩
            clear h10697q a10696q
            refine WL.op' (m := 6) h10706q rfl rfl (owp_run h10706q rfl (by kernel_rfl) (v := .agg #[.int .u8 0, .int .u32 0]) (by kernel_rfl) (fun a10710q h10711q => ?_))
            clear h10706q a10705q
            refine WL.op' (m := 7) h10711q rfl rfl ?_
            refine owp_run (v := .bool (!(decide (r10700q.f0 = 0) && decide (r10700q.f1 = 0)))) h10711q rfl (by kernel_rfl) (run_stne (xs := [.int .u8 r10700q.f0, .int .u32 r10700q.f1]) (ys := [.int .u8 0, .int .u32 0]) rfl rfl rfl (by kernel_rfl) (eqs_of Try.underlying31 (by kernel_rfl) (eqf_cons rfl (by kernel_rfl) rfl rfl (eqi_int Try.underlying5) (eqf_last rfl (by kernel_rfl) rfl rfl (eqi_int Try.underlying22))))) (fun a10712q h10713q => ?_)
            clear h10711q a10710q
            refine WL.block (c := 1) (m' := 9) h10713q rfl [(55, .bool (!(decide (r10700q.f0 = 0) && decide (r10700q.f1 = 0))))] (by kernel_rfl) (fun a10714q h10715q => ?_)
            clear h10713q a10712q
            refine WL.done (by kernel_rfl) ?_
            by_cases c10716q : (decide (r10700q.f0 = 0) && decide (r10700q.f1 = 0)) = true
            · rw [if_pos c10716q] at H
              have hb_ : (decide (r10700q.f0 = 0) && decide (r10700q.f1 = 0)) = true := c10716q
              try rw [hb_] at h10715q
              clear hb_
              refine wp_else h10715q rfl ?_
              refine wp_skip ?_
              refine wp_seq ?_
              refine WL.start ?_
              refine WL.block (c := 1) (m' := 1) h10715q rfl [(56, v10512q)] (by kernel_rfl) (fun a10717q h10718q => ?_)
              clear h10715q a10714q
              obtain ⟨r10720q, A10719q, H⟩ := bind1 H
              refine WL.op' (m := 1) h10718q rfl rfl ?_
              refine owp_call [v10512q] h10718q rfl (by kernel_rfl) rfl Try.func19 (by kernel_rfl) rfl (by kernel_rfl) (window_Window_Left.calls hr10708q A10719q hS10709q) (fun e10722q W10721q hp10723q => ?_)
              obtain ⟨M10726q, rfl, hr10727q, hS10728q⟩ := hp10723q
              refine ⟨_, rfl, fun a10724q h10725q => ?_⟩
              clear h10718q a10717q
              refine WL.block (c := 1) (m' := 3) h10725q rfl [(58, v10527q)] (by kernel_rfl) (fun a10729q h10730q => ?_)
              clear h10725q a10724q
              have hS10731q : St b w0 W10721q R (M10686q :: M10726q :: [(g10569q, .cells ([.int .i64 ((gt z33 p1 x10546q).f0), .int .i64 ((gt z33 p1 x10546q).f1), .int .u32 ((gt z33 p1 x10546q).f2), .int .u32 ((gt z33 p1 x10546q).f3)] : List Value).toArray 33 (0, 0))] :: Fs) := hS10728q.bring 1 rfl rfl
              obtain ⟨r10733q, A10732q, H⟩ := bind1 H
              refine WL.op' (m := 3) h10730q rfl rfl ?_
              refine owp_call [v10527q] h10730q rfl (by kernel_rfl) rfl Try.func16 (by kernel_rfl) rfl (by kernel_rfl) (window_Meter_Left.calls hr10687q A10732q hS10731q) (fun e10735q W10734q hp10736q => ?_)
              obtain ⟨M10739q, rfl, hr10740q, hS10741q⟩ := hp10736q
              refine ⟨_, rfl, fun a10737q h10738q => ?_⟩
              clear h10730q a10729q
              refine WL.block (c := 1) (m' := 5) h10738q rfl [(60, .bool (!decide (r10720q = r10733q)))] (by kernel_rfl) (fun a10742q h10743q => ?_)
              clear h10738q a10737q
              refine WL.done (by kernel_rfl) ?_
              by_cases c10744q : r10720q = r10733q
              · rw [if_pos c10744q] at H
                have hb_ : (decide (r10720q = r10733q)) = true := decide_eq_true c10744q
                try rw [hb_] at h10743q
                clear hb_
                refine wp_else h10743q rfl ?_
                refine wp_skip ?_
                refine WL.start ?_
                refine WL.block (c := 2) (m' := 2) h10743q rfl [(24, .int .i64 (IntKind.i64.wrap (x10546q + 1))), (61, .int .i64 (IntKind.i64.wrap (x10546q + 1)))] (by kernel_rfl) (fun a10745q h10746q => ?_)
                clear h10743q a10742q
                refine WL.done (by kernel_rfl) ?_
                have hS10747q : St b w0 W10734q R ([(g10569q, .cells ([.int .i64 ((gt z33 p1 x10546q).f0), .int .i64 ((gt z33 p1 x10546q).f1), .int .u32 ((gt z33 p1 x10546q).f2), .int .u32 ((gt z33 p1 x10546q).f3)] : List Value).toArray 33 (0, 0))] :: M10739q :: M10726q :: Fs) := hS10741q.bring 2 rfl rfl
                have hS10748q : St b w0 W10734q R (M10739q :: M10726q :: Fs) := hS10747q.drop_
                have hS10749q : St b w0 W10734q R (M10726q :: M10739q :: Fs) := hS10748q.bring 1 rfl rfl
                exact ⟨k10548q, by omega, r10701q, M10726q, r10680q, M10739q, IntKind.i64.wrap (x10546q + 1), h10746q.keep ⟨rfl, rfl, rfl, rfl, rfl, trivial⟩, ⟨H⟩, ⟨by omega⟩, ⟨hS10749q⟩, ⟨hr10727q⟩, ⟨hr10740q⟩⟩
              · rw [if_neg c10744q] at H
                have hb_ : (decide (r10720q = r10733q)) = false := decide_eq_false c10744q
                try rw [hb_] at h10743q
                clear hb_
                refine wp_then h10743q rfl ?_
                refine wp_seq ?_
                refine WL.start ?_
                refine WL.block (c := 1) (m' := 1) h10743q rfl [(4, .bool false)] (by kernel_rfl) (fun a10750q h10751q => ?_)
                clear h10743q a10742q
                refine WL.done (by kernel_rfl) ?_
                refine wp_ret ?_
                have hS10752q : St b w0 W10734q R (M10726q :: [(g10569q, .cells ([.int .i64 ((gt z33 p1 x10546q).f0), .int .i64 ((gt z33 p1 x10546q).f1), .int .u32 ((gt z33 p1 x10546q).f2), .int .u32 ((gt z33 p1 x10546q).f3)] : List Value).toArray 33 (0, 0))] :: Fs) := hS10741q.drop_
                have hS10753q : St b w0 W10734q R ([(g10569q, .cells ([.int .i64 ((gt z33 p1 x10546q).f0), .int .i64 ((gt z33 p1 x10546q).f1), .int .u32 ((gt z33 p1 x10546q).f2), .int .u32 ((gt z33 p1 x10546q).f3)] : List Value).toArray 33 (0, 0))] :: Fs) := hS10752q.drop_
                have hS10754q : St b w0 W10734q R (Fs) := hS10753q.drop_
                obtain rfl := Option.some.inj H
                repeat (first | refine then_ret ?_ | refine inBlock_ret ?_ | refine inBlock_go ?_)
                refine body_ret (v := .bool false) h10751q (by kernel_rfl) (by kernel_rfl) ?_
                exact ⟨rfl, hS10754q⟩
            · rw [if_neg c10716q] at H
              have hb_ : (decide (r10700q.f0 = 0) && decide (r10700q.f1 = 0)) = false := (Bool.eq_false_iff.2 c10716q)
              try rw [hb_] at h10715q
              clear hb_
              refine wp_then h10715q rfl ?_
              refine wp_seq ?_
              refine WL.start ?_
              refine WL.block (c := 1) (m' := 1) h10715q rfl [(4, .bool false)] (by kernel_rfl) (fun a10755q h10756q => ?_)
              clear h10715q a10714q
              refine WL.done (by kernel_rfl) ?_
              refine wp_ret ?_
              have hS10757q : St b w0 W10702q R (M10686q :: [(g10569q, .cells ([.int .i64 ((gt z33 p1 x10546q).f0), .int .i64 ((gt z33 p1 x10546q).f1), .int .u32 ((gt z33 p1 x10546q).f2), .int .u32 ((gt z33 p1 x10546q).f3)] : List Value).toArray 33 (0, 0))] :: Fs) := hS10709q.drop_
              have hS10758q : St b w0 W10702q R ([(g10569q, .cells ([.int .i64 ((gt z33 p1 x10546q).f0), .int .i64 ((gt z33 p1 x10546q).f1), .int .u32 ((gt z33 p1 x10546q).f2), .int .u32 ((gt z33 p1 x10546q).f3)] : List Value).toArray 33 (0, 0))] :: Fs) := hS10757q.drop_
              have hS10759q : St b w0 W10702q R (Fs) := hS10758q.drop_
              obtain rfl := Option.some.inj H
              repeat (first | refine then_ret ?_ | refine inBlock_ret ?_ | refine inBlock_go ?_)
              refine body_ret (v := .bool false) h10756q (by kernel_rfl) (by kernel_rfl) ?_
              exact ⟨rfl, hS10759q⟩
          · rw [if_neg c10693q] at H
            have hb_ : (decide (r10679q > 0)) = false := decide_eq_false c10693q
            try rw [hb_] at h10692q
            clear hb_
            refine WL.skipped (m := 3) h10692q rfl rfl (by kernel_rfl) rfl (fun a10760q h10761q => ?_)
            clear h10692q a10691q
            refine WL.skipped (m := 4) h10761q rfl rfl (by kernel_rfl) rfl (fun a10762q h10763q => ?_)
            clear h10761q a10760q
            refine WL.skipped (m := 5) h10763q rfl rfl (by kernel_rfl) rfl (fun a10764q h10765q => ?_)
            clear h10763q a10762q
            refine WL.skipped (m := 6) h10765q rfl rfl (by kernel_rfl) rfl (fun a10766q h10767q => ?_)
            clear h10765q a10764q
            refine WL.skipped (m := 7) h10767q rfl rfl (by kernel_rfl) rfl (fun a10768q h10769q => ?_)
            clear h10767q a10766q
            refine WL.block (c := 1) (m' := 9) h10769q rfl [(55, .bool false)] (by kernel_rfl) (fun a10770q h10771q => ?_)
            clear h10769q a10768q
            refine WL.done (by kernel_rfl) ?_
            refine wp_else h10771q rfl ?_
            refine wp_skip ?_
            refine wp_seq ?_
            refine WL.start ?_
            refine WL.block (c := 1) (m' := 1) h10771q rfl [(56, v10512q)] (by kernel_rfl) (fun a10772q h10773q => ?_)
            clear h10771q a10770q
            have hS10774q : St b w0 W10681q R (M10541q :: M10686q :: [(g10569q, .cells ([.int .i64 ((gt z33 p1 x10546q).f0), .int .i64 ((gt z33 p1 x10546q).f1), .int .u32 ((gt z33 p1 x10546q).f2), .int .u32 ((gt z33 p1 x10546q).f3)] : List Value).toArray 33 (0, 0))] :: Fs) := hS10688q.bring 2 rfl rfl
            obtain ⟨r10776q, A10775q, H⟩ := bind1 H
            refine WL.op' (m := 1) h10773q rfl rfl ?_
            refine owp_call [v10512q] h10773q rfl (by kernel_rfl) rfl Try.func19 (by kernel_rfl) rfl (by kernel_rfl) (window_Window_Left.calls hr10542q A10775q hS10774q) (fun e10778q W10777q hp10779q => ?_)
            obtain ⟨M10782q, rfl, hr10783q, hS10784q⟩ := hp10779q
            refine ⟨_, rfl, fun a10780q h10781q => ?_⟩
            clear h10773q a10772q
            refine WL.block (c := 1) (m' := 3) h10781q rfl [(58, v10527q)] (by kernel_rfl) (fun a10785q h10786q => ?_)
            clear h10781q a10780q
            have hS10787q : St b w0 W10777q R (M10686q :: M10782q :: [(g10569q, .cells ([.int .i64 ((gt z33 p1 x10546q).f0), .int .i64 ((gt z33 p1 x10546q).f1), .int .u32 ((gt z33 p1 x10546q).f2), .int .u32 ((gt z33 p1 x10546q).f3)] : List Value).toArray 33 (0, 0))] :: Fs) := hS10784q.bring 1 rfl rfl
            obtain ⟨r10789q, A10788q, H⟩ := bind1 H
            refine WL.op' (m := 3) h10786q rfl rfl ?_
            refine owp_call [v10527q] h10786q rfl (by kernel_rfl) rfl Try.func16 (by kernel_rfl) rfl (by kernel_rfl) (window_Meter_Left.calls hr10687q A10788q hS10787q) (fun e10791q W10790q hp10792q => ?_)
            obtain ⟨M10795q, rfl, hr10796q, hS10797q⟩ := hp10792q
            refine ⟨_, rfl, fun a10793q h10794q => ?_⟩
            clear h10786q a10785q
            refine WL.block (c := 1) (m' := 5) h10794q rfl [(60, .bool (!decide (r10776q = r10789q)))] (by kernel_rfl) (fun a10798q h10799q => ?_)
            clear h10794q a10793q
            refine WL.done (by kernel_rfl) ?_
            by_cases c10800q : r10776q = r10789q
            · rw [if_pos c10800q] at H
              have hb_ : (decide (r10776q = r10789q)) = true := decide_eq_true c10800q
              try rw [hb_] at h10799q
              clear hb_
              refine wp_else h10799q rfl ?_
              refine wp_skip ?_
              refine WL.start ?_
              refine WL.block (c := 2) (m' := 2) h10799q rfl [(24, .int .i64 (IntKind.i64.wrap (x10546q + 1))), (61, .int .i64 (IntKind.i64.wrap (x10546q + 1)))] (by kernel_rfl) (fun a10801q h10802q => ?_)
              clear h10799q a10798q
              refine WL.done (by kernel_rfl) ?_
              have hS10803q : St b w0 W10790q R ([(g10569q, .cells ([.int .i64 ((gt z33 p1 x10546q).f0), .int .i64 ((gt z33 p1 x10546q).f1), .int .u32 ((gt z33 p1 x10546q).f2), .int .u32 ((gt z33 p1 x10546q).f3)] : List Value).toArray 33 (0, 0))] :: M10795q :: M10782q :: Fs) := hS10797q.bring 2 rfl rfl
              have hS10804q : St b w0 W10790q R (M10795q :: M10782q :: Fs) := hS10803q.drop_
              have hS10805q : St b w0 W10790q R (M10782q :: M10795q :: Fs) := hS10804q.bring 1 rfl rfl
              exact ⟨k10548q, by omega, x10540q, M10782q, r10680q, M10795q, IntKind.i64.wrap (x10546q + 1), h10802q.keep ⟨rfl, rfl, rfl, rfl, rfl, trivial⟩, ⟨H⟩, ⟨by omega⟩, ⟨hS10805q⟩, ⟨hr10783q⟩, ⟨hr10796q⟩⟩
            · rw [if_neg c10800q] at H
              have hb_ : (decide (r10776q = r10789q)) = false := decide_eq_false c10800q
              try rw [hb_] at h10799q
              clear hb_
              refine wp_then h10799q rfl ?_
              refine wp_seq ?_
              refine WL.start ?_
              refine WL.block (c := 1) (m' := 1) h10799q rfl [(4, .bool false)] (by kernel_rfl) (fun a10806q h10807q => ?_)
              clear h10799q a10798q
              refine WL.done (by kernel_rfl) ?_
              refine wp_ret ?_
              have hS10808q : St b w0 W10790q R (M10782q :: [(g10569q, .cells ([.int .i64 ((gt z33 p1 x10546q).f0), .int .i64 ((gt z33 p1 x10546q).f1), .int .u32 ((gt z33 p1 x10546q).f2), .int .u32 ((gt z33 p1 x10546q).f3)] : List Value).toArray 33 (0, 0))] :: Fs) := hS10797q.drop_
              have hS10809q : St b w0 W10790q R ([(g10569q, .cells ([.int .i64 ((gt z33 p1 x10546q).f0), .int .i64 ((gt z33 p1 x10546q).f1), .int .u32 ((gt z33 p1 x10546q).f2), .int .u32 ((gt z33 p1 x10546q).f3)] : List Value).toArray 33 (0, 0))] :: Fs) := hS10808q.drop_
              have hS10810q : St b w0 W10790q R (Fs) := hS10809q.drop_
              obtain rfl := Option.some.inj H
              repeat (first | refine then_ret ?_ | refine inBlock_ret ?_ | refine inBlock_go ?_)
              refine body_ret (v := .bool false) h10807q (by kernel_rfl) (by kernel_rfl) ?_
              exact ⟨rfl, hS10810q⟩
      · rw [if_neg c10552q] at H
        cases H
    · rw [if_neg c10551q] at H
      have hb_ : (decide (x10546q < (p1.length : Int))) = false := decide_eq_false c10551q
      try rw [hb_] at h10550q
      clear hb_
      refine wp_else h10550q rfl ?_
      refine wp_exit ?_
      refine wp_seq ?_
      refine WL.start ?_
      obtain ⟨r10812q, A10811q, H⟩ := bind1 H
      refine WL.op' (m := 0) h10550q rfl rfl ?_
      refine owp_call [] h10550q rfl (by kernel_rfl) rfl Try.func9 (by kernel_rfl) rfl (by kernel_rfl) (louverlaw10qfixed.calls  A10811q hS10538q) (fun e10814q W10813q hp10815q => ?_)
      obtain ⟨rfl, hS10818q⟩ := hp10815q
      refine ⟨_, rfl, fun a10816q h10817q => ?_⟩
      clear h10550q a10549q
      refine WL.block (c := 1) (m' := 2) h10817q rfl [(4, .bool r10812q)] (by kernel_rfl) (fun a10819q h10820q => ?_)
      clear h10817q a10816q
      refine WL.done (by kernel_rfl) ?_
      refine wp_ret ?_
      have hS10821q : St b w0 W10813q R (M10544q :: Fs) := hS10818q.drop_
      have hS10822q : St b w0 W10813q R (Fs) := hS10821q.drop_
      obtain rfl := Option.some.inj H
      repeat (first | refine then_ret ?_ | refine inBlock_ret ?_ | refine inBlock_go ?_)
      refine body_ret (v := .bool r10812q) h10820q (by kernel_rfl) (by kernel_rfl) ?_
      exact ⟨rfl, hS10822q⟩

/-! ### louver/louverlaw10.WindowNil -/
def louverlaw10qWindowNil.f (p0 : Int) (p1 : Int) : Option (Bool) := bnd1 (louverlaw10qfixed.f) fun r13799q => (if r13799q = true then (bnd1 (window_Window_Left_nil.f) fun r13812q => (if r13812q = 0 then (bnd1 (window_Window_Take_nil.f p0) fun r13831q => (if r13831q = true then (some false) else (bnd1 (window_Window_Grow_nil.f p1) fun r13927q => (if (decide (r13927q.f0 = 1) && decide (r13927q.f1 = 2)) = true then (bnd1 (window_Window_Shift_nil.f p1 1) fun r13948q => (if (decide (r13948q.f0 = 1) && decide (r13948q.f1 = 2)) = true then (bnd1 (window_Meter_Come_nil.f p0) fun r13969q => (if (decide (r13969q.f0 = 1) && decide (r13969q.f1 = 2)) = true then (bnd1 (window_Meter_Use_nil.f p0) fun r13988q => (if r13988q = 0 then (bnd1 (window_Meter_Left_nil.f) fun r14005q => (if r14005q = 0 then (bnd1 (window_Meter_Owed_nil.f) fun r14022q => (some (decide (r14022q = 0)))) else (some false))) else (some false))) else (some false))) else (some false))) else (some false))))) else (some false))) else (some false))
set_option maxHeartbeats 2000000 in
set_option maxRecDepth 100000 in
theorem louverlaw10qWindowNil.calls {b : Nat} {w0 W : World} {R : Frag} {Fs : List Frag} {p0 : Int} {p1 : Int}  {r0q : Bool}  (H : louverlaw10qWindowNil.f p0 p1 = some r0q) (hS : St b w0 W R (Fs)) :
    Calls Try.prog 7 ([.int .i64 p0, .int .u32 p1] : List Value).toArray W (fun e W' => e = .returned (.bool r0q) ∧ St b w0 W' R (Fs)) := by
  unfold louverlaw10qWindowNil.f at H
  refine calls_enter Try.func7 rfl 58 rfl (by kernel_rfl) (fun a h => ?_)
  refine wp_seq ?_
  refine WL.start ?_
  refine WL.block (c := 1) (m' := 1) h rfl [(4, .bool false)] (by kernel_rfl) (fun a12608q h12609q => ?_)
  refine WL.done (by kernel_rfl) ?_
  refine wp_seq ?_
  refine WL.start ?_
  refine WL.block (c := 1) (m' := 1) h12609q rfl [(5, .pointer none)] (by kernel_rfl) (fun a12610q h12611q => ?_)
  clear h12609q a12608q
  refine WL.done (by kernel_rfl) ?_
  refine wp_seq ?_
  refine WL.start ?_
  refine WL.block (c := 1) (m' := 1) h12611q rfl [(6, .pointer none)] (by kernel_rfl) (fun a12612q h12613q => ?_)
  clear h12611q a12610q
  refine WL.done (by kernel_rfl) ?_
  refine wp_seq ?_
  refine WL.start ?_
  refine WL.block (c := 1) (m' := 1) h12613q rfl [(8, .agg #[.int .u8 1, .int .u32 2])] (by kernel_rfl) (fun a12614q h12615q => ?_)
  clear h12613q a12612q
  refine WL.op' (m := 1) h12615q rfl rfl ?_
  refine owp_new (fun g_ => .pointer (some ⟨g_, 0, none⟩)) (.cells ([.int .u8 0, .int .u32 0] : List Value).toArray 31 (0, 0)) h12615q rfl (by kernel_rfl) (by kernel_rfl) hS (fun a12616q W12618q g12619q h12617q hS12620q => ?_)
  clear h12615q a12614q
  refine WL.op' (m := 2) h12617q rfl rfl ?_
  refine owp_store (i := 0) (vs := ([.int .u8 1, .int .u32 2] : List Value)) h12617q rfl (by kernel_rfl) rfl rfl rfl rfl (by simp [Value.oneCell']) (by kernel_rfl) hS12620q (by simp) (cs' := ([.int .u8 1, .int .u32 2] : List Value)) rfl (fun a12621q W12623q h12622q hS12624q => ?_)
  clear h12617q a12616q
  refine WL.done (by kernel_rfl) ?_
  refine wp_seq ?_
  refine WH.start (fun w_ => (∀ j_ u_, ([.int .u8 1, .int .u32 2] : List Value)[j_]? = some u_ → w_.cell? ((⟨g12619q, 0, none⟩ : Addr).add j_) = some u_) ∧ True) (by kernel_rfl) #[false, false, false, false, false, false, false, false, false, false, false, false, false, false, false, false, false, false, false, false, false, false, false, false, false, false, false, false, false, false, false, false, false, false, false, false, false, false, false, false, false, false, false, false, false, false, false, false, false, false] 50 rfl rfl ?_
  have hS13797q := hS12624q.drew
  obtain ⟨r13799q, A13798q, H⟩ := bind1 H
  refine WH.op 0 (listed' := #[true, false, false, false, false, false, false, false, false, false, false, false, false, false, false, false, false, false, false, false, false, false, false, false, false, false, false, false, false, false, false, false, false, false, false, false, false, false, false, false, false, false, false, false, false, false, false, false, false, false]) h12622q rfl (by kernel_rfl) rfl rfl ?_
  refine owp_call [] h12622q rfl (by kernel_rfl) rfl Try.func9 (by kernel_rfl) rfl (by kernel_rfl) (louverlaw10qfixed.calls  A13798q hS13797q) (fun e13801q W13800q hp13802q => ?_)
  obtain ⟨rfl, hS13805q⟩ := hp13802q
  refine ⟨_, rfl, fun a13803q h13804q => ?_⟩
  clear h12622q a12621q
  refine ⟨⟨(hS13805q.cells (vs := ([.int .u8 1, .int .u32 2] : List Value)) rfl), trivial⟩, ?_⟩
  refine WH.take 1 (listed' := #[true, true, false, false, false, false, false, false, false, false, false, false, false, false, false, false, false, false, false, false, false, false, false, false, false, false, false, false, false, false, false, false, false, false, false, false, false, false, false, false, false, false, false, false, false, false, false, false, false, false]) h13804q rfl rfl (by kernel_rfl) rfl rfl (.bool r13799q) (fun _ _ => by kernel_rfl) ⟨(hS13805q.cells (vs := ([.int .u8 1, .int .u32 2] : List Value)) rfl), trivial⟩ (fun _ _ _ h_ => h_) (fun a13806q h13807q => ?_)
  clear h13804q a13803q
  by_cases c13808q : r13799q = true
  · rw [if_pos c13808q] at H
    have hb_ : r13799q = true := c13808q
    try rw [hb_] at h13807q
    clear hb_
    refine WH.take 2 (listed' := #[true, true, true, false, false, false, false, false, false, false, false, false, false, false, false, false, false, false, false, false, false, false, false, false, false, false, false, false, false, false, false, false, false, false, false, false, false, false, false, false, false, false, false, false, false, false, false, false, false, false]) h13807q rfl rfl (by kernel_rfl) rfl rfl (.pointer none) (fun _ _ => by kernel_rfl) ⟨(hS13805q.cells (vs := ([.int .u8 1, .int .u32 2] : List Value)) rfl), trivial⟩ (fun _ _ _ h_ => h_) (fun a13809q h13810q => ?_)
    clear h13807q a13806q
    obtain ⟨r13812q, A13811q, H⟩ := bind1 H
    refine WH.op 3 (listed' := #[true, true, true, true, false, false, false, false, false, false, false, false, false, false, false, false, false, false, false, false, false, false, false, false, false, false, false, false, false, false, false, false, false, false, false, false, false, false, false, false, false, false, false, false, false, false, false, false, false, false]) h13810q rfl (by kernel_rfl) rfl rfl ?_
    refine owp_call [.pointer none] h13810q rfl (by kernel_rfl) rfl Try.func19 (by kernel_rfl) rfl (by kernel_rfl) (window_Window_Left_nil.calls  A13811q hS13805q) (fun e13814q W13813q hp13815q => ?_)
    obtain ⟨rfl, hS13818q⟩ := hp13815q
    refine ⟨_, rfl, fun a13816q h13817q => ?_⟩
    clear h13810q a13809q
    refine ⟨⟨(hS13818q.cells (vs := ([.int .u8 1, .int .u32 2] : List Value)) rfl), trivial⟩, ?_⟩
    refine WH.take 4 (listed' := #[true, true, true, true, true, false, false, false, false, false, false, false, false, false, false, false, false, false, false, false, false, false, false, false, false, false, false, false, false, false, false, false, false, false, false, false, false, false, false, false, false, false, false, false, false, false, false, false, false, false]) h13817q rfl rfl (by kernel_rfl) rfl rfl (.bool (decide (r13812q = 0))) (fun _ _ => by kernel_rfl) ⟨(hS13818q.cells (vs := ([.int .u8 1, .int .u32 2] : List Value)) rfl), trivial⟩ (fun _ _ _ h_ => h_) (fun a13819q h13820q => ?_)
    clear h13817q a13816q
    refine WH.take 5 (listed' := #[true, true, true, true, true, true, false, false, false, false, false, false, false, false, false, false, false, false, false, false, false, false, false, false, false, false, false, false, false, false, false, false, false, false, false, false, false, false, false, false, false, false, false, false, false, false, false, false, false, false]) h13820q rfl rfl (by kernel_rfl) rfl rfl (.bool (decide (r13812q = 0))) (fun _ _ => by kernel_rfl) ⟨(hS13818q.cells (vs := ([.int .u8 1, .int .u32 2] : List Value)) rfl), trivial⟩ (fun _ _ _ h_ => h_) (fun a13821q h13822q => ?_)
    clear h13820q a13819q
    refine WH.take 6 (listed' := #[true, true, true, true, true, true, true, false, false, false, false, false, false, false, false, false, false, false, false, false, false, false, false, false, false, false, false, false, false, false, false, false, false, false, false, false, false, false, false, false, false, false, false, false, false, false, false, false, false, false]) h13822q rfl rfl (by kernel_rfl) rfl rfl (.bool (decide (r13812q = 0))) (fun _ _ => by kernel_rfl) ⟨(hS13818q.cells (vs := ([.int .u8 1, .int .u32 2] : List Value)) rfl), trivial⟩ (fun _ _ _ h_ => h_) (fun a13823q h13824q => ?_)
    clear h13822q a13821q
    by_cases c13825q : r13812q = 0
    · rw [if_pos c13825q] at H
      have hb_ : (decide (r13812q = 0)) = true := decide_eq_true c13825q
      try rw [hb_] at h13824q
      clear hb_
      refine WH.take 7 (listed' := #[true, true, true, true, true, true, true, true, false, false, false, false, false, false, false, false, false, false, false, false, false, false, false, false, false, false, false, false, false, false, false, false, false, false, false, false, false, false, false, false, false, false, false, false, false, false, false, false, false, false]) h13824q rfl rfl (by kernel_rfl) rfl rfl (.pointer none) (fun _ _ => by kernel_rfl) ⟨(hS13818q.cells (vs := ([.int .u8 1, .int .u32 2] : List Value)) rfl), trivial⟩ (fun _ _ _ h_ => h_) (fun a13826q h13827q => ?_)
      clear h13824q a13823q
      refine WH.take 8 (listed' := #[true, true, true, true, true, true, true, true, true, false, false, false, false, false, false, false, false, false, false, false, false, false, false, false, false, false, false, false, false, false, false, false, false, false, false, false, false, false, false, false, false, false, false, false, false, false, false, false, false, false]) h13827q rfl rfl (by kernel_rfl) rfl rfl (.int .i64 p0) (fun _ _ => by kernel_rfl) ⟨(hS13818q.cells (vs := ([.int .u8 1, .int .u32 2] : List Value)) rfl), trivial⟩ (fun _ _ _ h_ => h_) (fun a13828q h13829q => ?_)
      clear h13827q a13826q
      obtain ⟨r13831q, A13830q, H⟩ := bind1 H
      refine WH.op 9 (listed' := #[true, true, true, true, true, true, true, true, true, true, false, false, false, false, false, false, false, false, false, false, false, false, false, false, false, false, false, false, false, false, false, false, false, false, false, false, false, false, false, false, false, false, false, false, false, false, false, false, false, false]) h13829q rfl (by kernel_rfl) rfl rfl ?_
      refine owp_call [.pointer none, .int .i64 p0] h13829q rfl (by kernel_rfl) rfl Try.func21 (by kernel_rfl) rfl (by kernel_rfl) (window_Window_Take_nil.calls  A13830q hS13818q) (fun e13833q W13832q hp13834q => ?_)
      obtain ⟨rfl, hS13837q⟩ := hp13834q
      refine ⟨_, rfl, fun a13835q h13836q => ?_⟩
      clear h13829q a13828q
      refine ⟨⟨(hS13837q.cells (vs := ([.int .u8 1, .int .u32 2] : List Value)) rfl), trivial⟩, ?_⟩
      refine WH.take 10 (listed' := #[true, true, true, true, true, true, true, true, true, true, true, false, false, false, false, false, false, false, false, false, false, false, false, false, false, false, false, false, false, false, false, false, false, false, false, false, false, false, false, false, false, false, false, false, false, false, false, false, false, false]) h13836q rfl rfl (by kernel_rfl) rfl rfl (.bool (!r13831q)) (fun _ _ => by kernel_rfl) ⟨(hS13837q.cells (vs := ([.int .u8 1, .int .u32 2] : List Value)) rfl), trivial⟩ (fun _ _ _ h_ => h_) (fun a13838q h13839q => ?_)
      clear h13836q a13835q
      refine WH.take 11 (listed' := #[true, true, true, true, true, true, true, true, true, true, true, true, false, false, false, false, false, false, false, false, false, false, false, false, false, false, false, false, false, false, false, false, false, false, false, false, false, false, false, false, false, false, false, false, false, false, false, false, false, false]) h13839q rfl rfl (by kernel_rfl) rfl rfl (.bool (!r13831q)) (fun _ _ => by kernel_rfl) ⟨(hS13837q.cells (vs := ([.int .u8 1, .int .u32 2] : List Value)) rfl), trivial⟩ (fun _ _ _ h_ => h_) (fun a13840q h13841q => ?_)
      clear h13839q a13838q
      refine WH.take 12 (listed' := #[true, true, true, true, true, true, true, true, true, true, true, true, true, false, false, false, false, false, false, false, false, false, false, false, false, false, false, false, false, false, false, false, false, false, false, false, false, false, false, false, false, false, false, false, false, false, false, false, false, false]) h13841q rfl rfl (by kernel_rfl) rfl rfl (.bool (!r13831q)) (fun _ _ => by kernel_rfl) ⟨(hS13837q.cells (vs := ([.int .u8 1, .int .u32 2] : List Value)) rfl), trivial⟩ (fun _ _ _ h_ => h_) (fun a13842q h13843q => ?_)
      clear h13841q a13840q
      by_cases c13844q : r13831q = true
      · rw [if_pos c13844q] at H
        have hb_ : r13831q = true := c13844q
        try rw [hb_] at h13843q
        clear hb_
        refine WH.skip 13 (listed' := #[true, true, true, true, true, true, true, true, true, true, true, true, true, true, false, false, false, false, false, false, false, false, false, false, false, false, false, false, false, false, false, false, false, false, false, false, false, false, false, false, false, false, false, false, false, false, false, false, false, false]) h13843q rfl rfl (by kernel_rfl) rfl rfl ⟨(hS13837q.cells (vs := ([.int .u8 1, .int .u32 2] : List Value)) rfl), trivial⟩ (fun _ _ _ h_ => h_) (fun a13845q h13846q => ?_)
        clear h13843q a13842q
        refine WH.skip 14 (listed' := #[true, true, true, true, true, true, true, true, true, true, true, true, true, true, true, false, false, false, false, false, false, false, false, false, false, false, false, false, false, false, false, false, false, false, false, false, false, false, false, false, false, false, false, false, false, false, false, false, false, false]) h13846q rfl rfl (by kernel_rfl) rfl rfl ⟨(hS13837q.cells (vs := ([.int .u8 1, .int .u32 2] : List Value)) rfl), trivial⟩ (fun _ _ _ h_ => h_) (fun a13847q h13848q => ?_)
        clear h13846q a13845q
        refine WH.skip 15 (listed' := #[true, true, true, true, true, true, true, true, true, true, true, true, true, true, true, true, false, false, false, false, false, false, false, false, false, false, false, false, false, false, false, false, false, false, false, false, false, false, false, false, false, false, false, false, false, false, false, false, false, false]) h13848q rfl rfl (by kernel_rfl) rfl rfl ⟨(hS13837q.cells (vs := ([.int .u8 1, .int .u32 2] : List Value)) rfl), trivial⟩ (fun _ _ _ h_ => h_) (fun a13849q h13850q => ?_)
        clear h13848q a13847q
        refine WH.skip 16 (listed' := #[true, true, true, true, true, true, true, true, true, true, true, true, true, true, true, true, true, false, false, false, false, false, false, false, false, false, false, false, false, false, false, false, false, false, false, false, false, false, false, false, false, false, false, false, false, false, false, false, false, false]) h13850q rfl rfl (by kernel_rfl) rfl rfl ⟨(hS13837q.cells (vs := ([.int .u8 1, .int .u32 2] : List Value)) rfl), trivial⟩ (fun _ _ _ h_ => h_) (fun a13851q h13852q => ?_)
        clear h13850q a13849q
        refine WH.skip 17 (listed' := #[true, true, true, true, true, true, true, true, true, true, true, true, true, true, true, true, true, true, false, false, false, false, false, false, false, false, false, false, false, false, false, false, false, false, false, false, false, false, false, false, false, false, false, false, false, false, false, false, false, false]) h13852q rfl rfl (by kernel_rfl) rfl rfl ⟨(hS13837q.cells (vs := ([.int .u8 1, .int .u32 2] : List Value)) rfl), trivial⟩ (fun _ _ _ h_ => h_) (fun a13853q h13854q => ?_)
        clear h13852q a13851q
        refine WH.take 18 (listed' := #[true, true, true, true, true, true, true, true, true, true, true, true, true, true, true, true, true, true, true, false, false, false, false, false, false, false, false, false, false, false, false, false, false, false, false, false, false, false, false, false, false, false, false, false, false, false, false, false, false, false]) h13854q rfl rfl (by kernel_rfl) rfl rfl (.bool false) (fun _ _ => by kernel_rfl) ⟨(hS13837q.cells (vs := ([.int .u8 1, .int .u32 2] : List Value)) rfl), trivial⟩ (fun _ _ _ h_ => h_) (fun a13855q h13856q => ?_)
        clear h13854q a13853q
        refine WH.take 19 (listed' := #[true, true, true, true, true, true, true, true, true, true, true, true, true, true, true, true, true, true, true, true, false, false, false, false, false, false, false, false, false, false, false, false, false, false, false, false, false, false, false, false, false, false, false, false, false, false, false, false, false, false]) h13856q rfl rfl (by kernel_rfl) rfl rfl (.bool false) (fun _ _ => by kernel_rfl) ⟨(hS13837q.cells (vs := ([.int .u8 1, .int .u32 2] : List Value)) rfl), trivial⟩ (fun _ _ _ h_ => h_) (fun a13857q h13858q => ?_)
        clear h13856q a13855q
        refine WH.skip 20 (listed' := #[true, true, true, true, true, true, true, true, true, true, true, true, true, true, true, true, true, true, true, true, true, false, false, false, false, false, false, false, false, false, false, false, false, false, false, false, false, false, false, false, false, false, false, false, false, false, false, false, false, false]) h13858q rfl rfl (by kernel_rfl) rfl rfl ⟨(hS13837q.cells (vs := ([.int .u8 1, .int .u32 2] : List Value)) rfl), trivial⟩ (fun _ _ _ h_ => h_) (fun a13859q h13860q => ?_)
        clear h13858q a13857q
        refine WH.skip 21 (listed' := #[true, true, true, true, true, true, true, true, true, true, true, true, true, true, true, true, true, true, true, true, true, true, false, false, false, false, false, false, false, false, false, false, false, false, false, false, false, false, false, false, false, false, false, false, false, false, false, false, false, false]) h13860q rfl rfl (by kernel_rfl) rfl rfl ⟨(hS13837q.cells (vs := ([.int .u8 1, .int .u32 2] : List Value)) rfl), trivial⟩ (fun _ _ _ h_ => h_) (fun a13861q h13862q => ?_)
        clear h13860q a13859q
        refine WH.skip 22 (listed' := #[true, true, true, true, true, true, true, true, true, true, true, true, true, true, true, true, true, true, true, true, true, true, true, false, false, false, false, false, false, false, false, false, false, false, false, false, false, false, false, false, false, false, false, false, false, false, false, false, false, false]) h13862q rfl rfl (by kernel_rfl) rfl rfl ⟨(hS13837q.cells (vs := ([.int .u8 1, .int .u32 2] : List Value)) rfl), trivial⟩ (fun _ _ _ h_ => h_) (fun a13863q h13864q => ?_)
        clear h13862q a13861q
        refine WH.skip 23 (listed' := #[true, true, true, true, true, true, true, true, true, true, true, true, true, true, true, true, true, true, true, true, true, true, true, true, false, false, false, false, false, false, false, false, false, false, false, false, false, false, false, false, false, false, false, false, false, false, false, false, false, false]) h13864q rfl rfl (by kernel_rfl) rfl rfl ⟨(hS13837q.cells (vs := ([.int .u8 1, .int .u32 2] : List Value)) rfl), trivial⟩ (fun _ _ _ h_ => h_) (fun a13865q h13866q => ?_)
        clear h13864q a13863q
        refine WH.skip 24 (listed' := #[true, true, true, true, true, true, true, true, true, true, true, true, true, true, true, true, true, true, true, true, true, true, true, true, true, false, false, false, false, false, false, false, false, false, false, false, false, false, false, false, false, false, false, false, false, false, false, false, false, false]) h13866q rfl rfl (by kernel_rfl) rfl rfl ⟨(hS13837q.cells (vs := ([.int .u8 1, .int .u32 2] : List Value)) rfl), trivial⟩ (fun _ _ _ h_ => h_) (fun a13867q h13868q => ?_)
        clear h13866q a13865q
        refine WH.take 25 (listed' := #[true, true, true, true, true, true, true, true, true, true, true, true, true, true, true, true, true, true, true, true, true, true, true, true, true, true, false, false, false, false, false, false, false, false, false, false, false, false, false, false, false, false, false, false, false, false, false, false, false, false]) h13868q rfl rfl (by kernel_rfl) rfl rfl (.bool false) (fun _ _ => by kernel_rfl) ⟨(hS13837q.cells (vs := ([.int .u8 1, .int .u32 2] : List Value)) rfl), trivial⟩ (fun _ _ _ h_ => h_) (fun a13869q h13870q => ?_)
        clear h13868q a13867q
        refine WH.take 26 (listed' := #[true, true, true, true, true, true, true, true, true, true, true, true, true, true, true, true, true, true, true, true, true, true, true, true, true, true, true, false, false, false, false, false, false, false, false, false, false, false, false, false, false, false, false, false, false, false, false, false, false, false]) h13870q rfl rfl (by kernel_rfl) rfl rfl (.bool false) (fun _ _ => by kernel_rfl) ⟨(hS13837q.cells (vs := ([.int .u8 1, .int .u32 2] : List Value)) rfl), trivial⟩ (fun _ _ _ h_ => h_) (fun a13871q h13872q => ?_)
        clear h13870q a13869q
        refine WH.skip 27 (listed' := #[true, true, true, true, true, true, true, true, true, true, true, true, true, true, true, true, true, true, true, true, true, true, true, true, true, true, true, true, false, false, false, false, false, false, false, false, false, false, false, false, false, false, false, false, false, false, false, false, false, false]) h13872q rfl rfl (by kernel_rfl) rfl rfl ⟨(hS13837q.cells (vs := ([.int .u8 1, .int .u32 2] : List Value)) rfl), trivial⟩ (fun _ _ _ h_ => h_) (fun a13873q h13874q => ?_)
        clear h13872q a13871q
        refine WH.skip 28 (listed' := #[true, true, true, true, true, true, true, true, true, true, true, true, true, true, true, true, true, true, true, true, true, true, true, true, true, true, true, true, true, false, false, false, false, false, false, false, false, false, false, false, false, false, false, false, false, false, false, false, false, false]) h13874q rfl rfl (by kernel_rfl) rfl rfl ⟨(hS13837q.cells (vs := ([.int .u8 1, .int .u32 2] : List Value)) rfl), trivial⟩ (fun _ _ _ h_ => h_) (fun a13875q h13876q => ?_)
        clear h13874q a13873q
        refine WH.skip 29 (listed' := #[true, true, true, true, true, true, true, true, true, true, true, true, true, true, true, true, true, true, true, true, true, true, true, true, true, true, true, true, true, true, false, false, false, false, false, false, false, false, false, false, false, false, false, false, false, false, false, false, false, false]) h13876q rfl rfl (by kernel_rfl) rfl rfl ⟨(hS13837q.cells (vs := ([.int .u8 1, .int .u32 2] : List Value)) rfl), trivial⟩ (fun _ _ _ h_ => h_) (fun a13877q h13878q => ?_)
        clear h13876q a13875q
        refine WH.skip 30 (listed' := #[true, true, true, true, true, true, true, true, true, true, true, true, true, true, true, true, true, true, true, true, true, true, true, true, true, true, true, true, true, true, true, false, false, false, false, false, false, false, false, false, false, false, false, false, false, false, false, false, false, false]) h13878q rfl rfl (by kernel_rfl) rfl rfl ⟨(hS13837q.cells (vs := ([.int .u8 1, .int .u32 2] : List Value)) rfl), trivial⟩ (fun _ _ _ h_ => h_) (fun a13879q h13880q => ?_)
        clear h13878q a13877q
        refine WH.skip 31 (listed' := #[true, true, true, true, true, true, true, true, true, true, true, true, true, true, true, true, true, true, true, true, true, true, true, true, true, true, true, true, true, true, true, true, false, false, false, false, false, false, false, false, false, false, false, false, false, false, false, false, false, false]) h13880q rfl rfl (by kernel_rfl) rfl rfl ⟨(hS13837q.cells (vs := ([.int .u8 1, .int .u32 2] : List Value)) rfl), trivial⟩ (fun _ _ _ h_ => h_) (fun a13881q h13882q => ?_)
        clear h13880q a13879q
        refine WH.take 32 (listed' := #[true, true, true, true, true, true, true, true, true, true, true, true, true, true, true, true, true, true, true, true, true, true, true, true, true, true, true, true, true, true, true, true, true, false, false, false, false, false, false, false, false, false, false, false, false, false, false, false, false, false]) h13882q rfl rfl (by kernel_rfl) rfl rfl (.bool false) (fun _ _ => by kernel_rfl) ⟨(hS13837q.cells (vs := ([.int .u8 1, .int .u32 2] : List Value)) rfl), trivial⟩ (fun _ _ _ h_ => h_) (fun a13883q h13884q => ?_)
        clear h13882q a13881q
        refine WH.take 33 (listed' := #[true, true, true, true, true, true, true, true, true, true, true, true, true, true, true, true, true, true, true, true, true, true, true, true, true, true, true, true, true, true, true, true, true, true, false, false, false, false, false, false, false, false, false, false, false, false, false, false, false, false]) h13884q rfl rfl (by kernel_rfl) rfl rfl (.bool false) (fun _ _ => by kernel_rfl) ⟨(hS13837q.cells (vs := ([.int .u8 1, .int .u32 2] : List Value)) rfl), trivial⟩ (fun _ _ _ h_ => h_) (fun a13885q h13886q => ?_)
        clear h13884q a13883q
        refine WH.skip 34 (listed' := #[true, true, true, true, true, true, true, true, true, true, true, true, true, true, true, true, true, true, true, true, true, true, true, true, true, true, true, true, true, true, true, true, true, true, true, false, false, false, false, false, false, false, false, false, false, false, false, false, false, false]) h13886q rfl rfl (by kernel_rfl) rfl rfl ⟨(hS13837q.cells (vs := ([.int .u8 1, .int .u32 2] : List Value)) rfl), trivial⟩ (fun _ _ _ h_ => h_) (fun a13887q h13888q => ?_)
        clear h13886q a13885q
        refine WH.skip 35 (listed' := #[true, true, true, true, true, true, true, true, true, true, true, true, true, true, true, true, true, true, true, true, true, true, true, true, true, true, true, true, true, true, true, true, true, true, true, true, false, false, false, false, false, false, false, false, false, false, false, false, false, false]) h13888q rfl rfl (by kernel_rfl) rfl rfl ⟨(hS13837q.cells (vs := ([.int .u8 1, .int .u32 2] : List Value)) rfl), trivial⟩ (fun _ _ _ h_ => h_) (fun a13889q h13890q => ?_)
        clear h13888q a13887q
        refine WH.skip 36 (listed' := #[true, true, true, true, true, true, true, true, true, true, true, true, true, true, true, true, true, true, true, true, true, true, true, true, true, true, true, true, true, true, true, true, true, true, true, true, true, false, false, false, false, false, false, false, false, false, false, false, false, false]) h13890q rfl rfl (by kernel_rfl) rfl rfl ⟨(hS13837q.cells (vs := ([.int .u8 1, .int .u32 2] : List Value)) rfl), trivial⟩ (fun _ _ _ h_ => h_) (fun a13891q h13892q => ?_)
        clear h13890q a13889q
        refine WH.skip 37 (listed' := #[true, true, true, true, true, true, true, true, true, true, true, true, true, true, true, true, true, true, true, true, true, true, true, true, true, true, true, true, true, true, true, true, true, true, true, true, true, true, false, false, false, false, false, false, false, false, false, false, false, false]) h13892q rfl rfl (by kernel_rfl) rfl rfl ⟨(hS13837q.cells (vs := ([.int .u8 1, .int .u32 2] : List Value)) rfl), trivial⟩ (fun _ _ _ h_ => h_) (fun a13893q h13894q => ?_)
        clear h13892q a13891q
        refine WH.take 38 (listed' := #[true, true, true, true, true, true, true, true, true, true, true, true, true, true, true, true, true, true, true, true, true, true, true, true, true, true, true, true, true, true, true, true, true, true, true, true, true, true, true, false, false, false, false, false, false, false, false, false, false, false]) h13894q rfl rfl (by kernel_rfl) rfl rfl (.bool false) (fun _ _ => by kernel_rfl) ⟨(hS13837q.cells (vs := ([.int .u8 1, .int .u32 2] : List Value)) rfl), trivial⟩ (fun _ _ _ h_ => h_) (fun a13895q h13896q => ?_)
        clear h13894q a13893q
        refine WH.take 39 (listed' := #[true, true, true, true, true, true, true, true, true, true, true, true, true, true, true, true, true, true, true, true, true, true, true, true, true, true, true, true, true, true, true, true, true, true, true, true, true, true, true, true, false, false, false, false, false, false, false, false, false, false]) h13896q rfl rfl (by kernel_rfl) rfl rfl (.bool false) (fun _ _ => by kernel_rfl) ⟨(hS13837q.cells (vs := ([.int .u8 1, .int .u32 2] : List Value)) rfl), trivial⟩ (fun _ _ _ h_ => h_) (fun a13897q h13898q => ?_)
        clear h13896q a13895q
        refine WH.skip 40 (listed' := #[true, true, true, true, true, true, true, true, true, true, true, true, true, true, true, true, true, true, true, true, true, true, true, true, true, true, true, true, true, true, true, true, true, true, true, true, true, true, true, true, true, false, false, false, false, false, false, false, false, false]) h13898q rfl rfl (by kernel_rfl) rfl rfl ⟨(hS13837q.cells (vs := ([.int .u8 1, .int .u32 2] : List Value)) rfl), trivial⟩ (fun _ _ _ h_ => h_) (fun a13899q h13900q => ?_)
        clear h13898q a13897q
        refine WH.skip 41 (listed' := #[true, true, true, true, true, true, true, true, true, true, true, true, true, true, true, true, true, true, true, true, true, true, true, true, true, true, true, true, true, true, true, true, true, true, true, true, true, true, true, true, true, true, false, false, false, false, false, false, false, false]) h13900q rfl rfl (by kernel_rfl) rfl rfl ⟨(hS13837q.cells (vs := ([.int .u8 1, .int .u32 2] : List Value)) rfl), trivial⟩ (fun _ _ _ h_ => h_) (fun a13901q h13902q => ?_)
        clear h13900q a13899q
        refine WH.skip 42 (listed' := #[true, true, true, true, true, true, true, true, true, true, true, true, true, true, true, true, true, true, true, true, true, true, true, true, true, true, true, true, true, true, true, true, true, true, true, true, true, true, true, true, true, true, true, false, false, false, false, false, false, false]) h13902q rfl rfl (by kernel_rfl) rfl rfl ⟨(hS13837q.cells (vs := ([.int .u8 1, .int .u32 2] : List Value)) rfl), trivial⟩ (fun _ _ _ h_ => h_) (fun a13903q h13904q => ?_)
        clear h13902q a13901q
        refine WH.take 43 (listed' := #[true, true, true, true, true, true, true, true, true, true, true, true, true, true, true, true, true, true, true, true, true, true, true, true, true, true, true, true, true, true, true, true, true, true, true, true, true, true, true, true, true, true, true, true, false, false, false, false, false, false]) h13904q rfl rfl (by kernel_rfl) rfl rfl (.bool false) (fun _ _ => by kernel_rfl) ⟨(hS13837q.cells (vs := ([.int .u8 1, .int .u32 2] : List Value)) rfl), trivial⟩ (fun _ _ _ h_ => h_) (fun a13905q h13906q => ?_)
        clear h13904q a13903q
        refine WH.take 44 (listed' := #[true, true, true, true, true, true, true, true, true, true, true, true, true, true, true, true, true, true, true, true, true, true, true, true, true, true, true, true, true, true, true, true, true, true, true, true, true, true, true, true, true, true, true, true, true, false, false, false, false, false]) h13906q rfl rfl (by kernel_rfl) rfl rfl (.bool false) (fun _ _ => by kernel_rfl) ⟨(hS13837q.cells (vs := ([.int .u8 1, .int .u32 2] : List Value)) rfl), trivial⟩ (fun _ _ _ h_ => h_) (fun a13907q h13908q => ?_)
        clear h13906q a13905q
        refine WH.skip 45 (listed' := #[true, true, true, true, true, true, true, true, true, true, true, true, true, true, true, true, true, true, true, true, true, true, true, true, true, true, true, true, true, true, true, true, true, true, true, true, true, true, true, true, true, true, true, true, true, true, false, false, false, false]) h13908q rfl rfl (by kernel_rfl) rfl rfl ⟨(hS13837q.cells (vs := ([.int .u8 1, .int .u32 2] : List Value)) rfl), trivial⟩ (fun _ _ _ h_ => h_) (fun a13909q h13910q => ?_)
        clear h13908q a13907q
        refine WH.skip 46 (listed' := #[true, true, true, true, true, true, true, true, true, true, true, true, true, true, true, true, true, true, true, true, true, true, true, true, true, true, true, true, true, true, true, true, true, true, true, true, true, true, true, true, true, true, true, true, true, true, true, false, false, false]) h13910q rfl rfl (by kernel_rfl) rfl rfl ⟨(hS13837q.cells (vs := ([.int .u8 1, .int .u32 2] : List Value)) rfl), trivial⟩ (fun _ _ _ h_ => h_) (fun a13911q h13912q => ?_)
        clear h13910q a13909q
        refine WH.skip 47 (listed' := #[true, true, true, true, true, true, true, true, true, true, true, true, true, true, true, true, true, true, true, true, true, true, true, true, true, true, true, true, true, true, true, true, true, true, true, true, true, true, true, true, true, true, true, true, true, true, true, true, false, false]) h13912q rfl rfl (by kernel_rfl) rfl rfl ⟨(hS13837q.cells (vs := ([.int .u8 1, .int .u32 2] : List Value)) rfl), trivial⟩ (fun _ _ _ h_ => h_) (fun a13913q h13914q => ?_)
        clear h13912q a13911q
        refine WH.take 48 (listed' := #[true, true, true, true, true, true, true, true, true, true, true, true, true, true, true, true, true, true, true, true, true, true, true, true, true, true, true, true, true, true, true, true, true, true, true, true, true, true, true, true, true, true, true, true, true, true, true, true, true, false]) h13914q rfl rfl (by kernel_rfl) rfl rfl (.bool false) (fun _ _ => by kernel_rfl) ⟨(hS13837q.cells (vs := ([.int .u8 1, .int .u32 2] : List Value)) rfl), trivial⟩ (fun _ _ _ h_ => h_) (fun a13915q h13916q => ?_)
        clear h13914q a13913q
        refine WH.take 49 (listed' := #[true, true, true, true, true, true, true, true, true, true, true, true, true, true, true, true, true, true, true, true, true, true, true, true, true, true, true, true, true, true, true, true, true, true, true, true, true, true, true, true, true, true, true, true, true, true, true, true, true, true]) h13916q rfl rfl (by kernel_rfl) rfl rfl (.bool false) (fun _ _ => by kernel_rfl) ⟨(hS13837q.cells (vs := ([.int .u8 1, .int .u32 2] : List Value)) rfl), trivial⟩ (fun _ _ _ h_ => h_) (fun a13917q h13918q => ?_)
        clear h13916q a13915q
        refine WH.done (by kernel_rfl) ?_
        refine wp_ret ?_
        have hS13919q : St b w0 W13832q R (Fs) := hS13837q.drop_
        obtain rfl := Option.some.inj H
        repeat (first | refine then_ret ?_ | refine inBlock_ret ?_ | refine inBlock_go ?_)
        refine body_ret (v := .bool false) h13918q (by kernel_rfl) (by kernel_rfl) ?_
        exact ⟨rfl, hS13919q⟩
      · rw [if_neg c13844q] at H
        have hb_ : r13831q = false := (Bool.eq_false_iff.2 c13844q)
        try rw [hb_] at h13843q
        clear hb_
        refine WH.take 13 (listed' := #[true, true, true, true, true, true, true, true, true, true, true, true, true, true, false, false, false, false, false, false, false, false, false, false, false, false, false, false, false, false, false, false, false, false, false, false, false, false, false, false, false, false, false, false, false, false, false, false, false, false]) h13843q rfl rfl (by kernel_rfl) rfl rfl (.pointer none) (fun _ _ => by kernel_rfl) ⟨(hS13837q.cells (vs := ([.int .u8 1, .int .u32 2] : List Value)) rfl), trivial⟩ (fun _ _ _ h_ => h_) (fun a13920q h13921q => ?_)
        clear h13843q a13842q
        refine WH.take 14 (listed' := #[true, true, true, true, true, true, true, true, true, true, true, true, true, true, true, false, false, false, false, false, false, false, false, false, false, false, false, false, false, false, false, false, false, false, false, false, false, false, false, false, false, false, false, false, false, false, false, false, false, false]) h13921q rfl rfl (by kernel_rfl) rfl rfl (.int .u32 p1) (fun _ _ => by kernel_rfl) ⟨(hS13837q.cells (vs := ([.int .u8 1, .int .u32 2] : List Value)) rfl), trivial⟩ (fun _ _ _ h_ => h_) (fun a13922q h13923q => ?_)
        clear h13921q a13920q
        refine WH.take 16 (listed' := #[true, true, true, true, true, true, true, true, true, true, true, true, true, true, true, false, true, false, false, false, false, false, false, false, false, false, false, false, false, false, false, false, false, false, false, false, false, false, false, false, false, false, false, false, false, false, false, false, false, false]) h13923q rfl rfl (by kernel_rfl) rfl rfl (.agg #[.int .u8 1, .int .u32 2]) (fun w_ hs_ => (run_loadN rfl rfl Try.underlying31 rfl (cs := ([.int .u8 1, .int .u32 2] : List Value)) (by kernel_rfl) hs_.1)) ⟨(hS13837q.cells (vs := ([.int .u8 1, .int .u32 2] : List Value)) rfl), trivial⟩ (fun _ _ _ h_ => h_) (fun a13924q h13925q => ?_)
        clear h13923q a13922q
        obtain ⟨r13927q, A13926q, H⟩ := bind1 H
        refine WH.op 15 (listed' := #[true, true, true, true, true, true, true, true, true, true, true, true, true, true, true, true, true, false, false, false, false, false, false, false, false, false, false, false, false, false, false, false, false, false, false, false, false, false, false, false, false, false, false, false, false, false, false, false, false, false]) h13925q rfl (by kernel_rfl) rfl rfl ?_
        refine owp_call [.pointer none, .int .u32 p1] h13925q rfl (by kernel_rfl) rfl Try.func22 (by kernel_rfl) rfl (by kernel_rfl) (window_Window_Grow_nil.calls  A13926q hS13837q) (fun e13929q W13928q hp13930q => ?_)
        obtain ⟨rfl, hS13933q⟩ := hp13930q
        refine ⟨_, rfl, fun a13931q h13932q => ?_⟩
        clear h13925q a13924q
        refine ⟨⟨(hS13933q.cells (vs := ([.int .u8 1, .int .u32 2] : List Value)) rfl), trivial⟩, ?_⟩
        refine WH.take 17 (listed' := #[true, true, true, true, true, true, true, true, true, true, true, true, true, true, true, true, true, true, false, false, false, false, false, false, false, false, false, false, false, false, false, false, false, false, false, false, false, false, false, false, false, false, false, false, false, false, false, false, false, false]) h13932q rfl rfl (by kernel_rfl) rfl rfl (.bool (decide (r13927q.f0 = 1) && decide (r13927q.f1 = 2))) (fun w_ hs_ => (run_steq (xs := [.int .u8 r13927q.f0, .int .u32 r13927q.f1]) (ys := [.int .u8 1, .int .u32 2]) rfl rfl rfl (by kernel_rfl) (eqs_of Try.underlying31 (by kernel_rfl) (eqf_cons rfl (by kernel_rfl) rfl rfl (eqi_int Try.underlying5) (eqf_last rfl (by kernel_rfl) rfl rfl (eqi_int Try.underlying22)))))) ⟨(hS13933q.cells (vs := ([.int .u8 1, .int .u32 2] : List Value)) rfl), trivial⟩ (fun _ _ _ h_ => h_) (fun a13934q h13935q => ?_)
        clear h13932q a13931q
        refine WH.take 18 (listed' := #[true, true, true, true, true, true, true, true, true, true, true, true, true, true, true, true, true, true, true, false, false, false, false, false, false, false, false, false, false, false, false, false, false, false, false, false, false, false, false, false, false, false, false, false, false, false, false, false, false, false]) h13935q rfl rfl (by kernel_rfl) rfl rfl (.bool (decide (r13927q.f0 = 1) && decide (r13927q.f1 = 2))) (fun _ _ => by kernel_rfl) ⟨(hS13933q.cells (vs := ([.int .u8 1, .int .u32 2] : List Value)) rfl), trivial⟩ (fun _ _ _ h_ => h_) (fun a13936q h13937q => ?_)
        clear h13935q a13934q
        refine WH.take 19 (listed' := #[true, true, true, true, true, true, true, true, true, true, true, true, true, true, true, true, true, true, true, true, false, false, false, false, false, false, false, false, false, false, false, false, false, false, false, false, false, false, false, false, false, false, false, false, false, false, false, false, false, false]) h13937q rfl rfl (by kernel_rfl) rfl rfl (.bool (decide (r13927q.f0 = 1) && decide (r13927q.f1 = 2))) (fun _ _ => by kernel_rfl) ⟨(hS13933q.cells (vs := ([.int .u8 1, .int .u32 2] : List Value)) rfl), trivial⟩ (fun _ _ _ h_ => h_) (fun a13938q h13939q => ?_)
        clear h13937q a13936q
        by_cases c13940q : (decide (r13927q.f0 = 1) && decide (r13927q.f1 = 2)) = true
        · rw [if_pos c13940q] at H
          have hb_ : (decide (r13927q.f0 = 1) && decide (r13927q.f1 = 2)) = true := c13940q
          try rw [hb_] at h13939q
          clear hb_
          refine WH.take 20 (listed' := #[true, true, true, true, true, true, true, true, true, true, true, true, true, true, true, true, true, true, true, true, true, false, false, false, false, false, false, false, false, false, false, false, false, false, false, false, false, false, false, false, false, false, false, false, false, false, false, false, false, false]) h13939q rfl rfl (by kernel_rfl) rfl rfl (.pointer none) (fun _ _ => by kernel_rfl) ⟨(hS13933q.cells (vs := ([.int .u8 1, .int .u32 2] : List Value)) rfl), trivial⟩ (fun _ _ _ h_ => h_) (fun a13941q h13942q => ?_)
          clear h13939q a13938q
          refine WH.take 21 (listed' := #[true, true, true, true, true, true, true, true, true, true, true, true, true, true, true, true, true, true, true, true, true, true, false, false, false, false, false, false, false, false, false, false, false, false, false, false, false, false, false, false, false, false, false, false, false, false, false, false, false, false]) h13942q rfl rfl (by kernel_rfl) rfl rfl (.int .u32 p1) (fun _ _ => by kernel_rfl) ⟨(hS13933q.cells (vs := ([.int .u8 1, .int .u32 2] : List Value)) rfl), trivial⟩ (fun _ _ _ h_ => h_) (fun a13943q h13944q => ?_)
          clear h13942q a13941q
          refine WH.take 23 (listed' := #[true, true, true, true, true, true, true, true, true, true, true, true, true, true, true, true, true, true, true, true, true, true, false, true, false, false, false, false, false, false, false, false, false, false, false, false, false, false, false, false, false, false, false, false, false, false, false, false, false, false]) h13944q rfl rfl (by kernel_rfl) rfl rfl (.agg #[.int .u8 1, .int .u32 2]) (fun w_ hs_ => (run_loadN rfl rfl Try.underlying31 rfl (cs := ([.int .u8 1, .int .u32 2] : List Value)) (by kernel_rfl) hs_.1)) ⟨(hS13933q.cells (vs := ([.int .u8 1, .int .u32 2] : List Value)) rfl), trivial⟩ (fun _ _ _ h_ => h_) (fun a13945q h13946q => ?_)
          clear h13944q a13943q
          obtain ⟨r13948q, A13947q, H⟩ := bind1 H
          refine WH.op 22 (listed' := #[true, true, true, true, true, true, true, true, true, true, true, true, true, true, true, true, true, true, true, true, true, true, true, true, false, false, false, false, false, false, false, false, false, false, false, false, false, false, false, false, false, false, false, false, false, false, false, false, false, false]) h13946q rfl (by kernel_rfl) rfl rfl ?_
          refine owp_call [.pointer none, .int .u32 p1, .int .u32 1] h13946q rfl (by kernel_rfl) rfl Try.func20 (by kernel_rfl) rfl (by kernel_rfl) (window_Window_Shift_nil.calls  A13947q hS13933q) (fun e13950q W13949q hp13951q => ?_)
          obtain ⟨rfl, hS13954q⟩ := hp13951q
          refine ⟨_, rfl, fun a13952q h13953q => ?_⟩
          clear h13946q a13945q
          refine ⟨⟨(hS13954q.cells (vs := ([.int .u8 1, .int .u32 2] : List Value)) rfl), trivial⟩, ?_⟩
          refine WH.take 24 (listed' := #[true, true, true, true, true, true, true, true, true, true, true, true, true, true, true, true, true, true, true, true, true, true, true, true, true, false, false, false, false, false, false, false, false, false, false, false, false, false, false, false, false, false, false, false, false, false, false, false, false, false]) h13953q rfl rfl (by kernel_rfl) rfl rfl (.bool (decide (r13948q.f0 = 1) && decide (r13948q.f1 = 2))) (fun w_ hs_ => (run_steq (xs := [.int .u8 r13948q.f0, .int .u32 r13948q.f1]) (ys := [.int .u8 1, .int .u32 2]) rfl rfl rfl (by kernel_rfl) (eqs_of Try.underlying31 (by kernel_rfl) (eqf_cons rfl (by kernel_rfl) rfl rfl (eqi_int Try.underlying5) (eqf_last rfl (by kernel_rfl) rfl rfl (eqi_int Try.underlying22)))))) ⟨(hS13954q.cells (vs := ([.int .u8 1, .int .u32 2] : List Value)) rfl), trivial⟩ (fun _ _ _ h_ => h_) (fun a13955q h13956q => ?_)
          clear h13953q a13952q
          refine WH.take 25 (listed' := #[true, true, true, true, true, true, true, true, true, true, true, true, true, true, true, true, true, true, true, true, true, true, true, true, true, true, false, false, false, false, false, false, false, false, false, false, false, false, false, false, false, false, false, false, false, false, false, false, false, false]) h13956q rfl rfl (by kernel_rfl) rfl rfl (.bool (decide (r13948q.f0 = 1) && decide (r13948q.f1 = 2))) (fun _ _ => by kernel_rfl) ⟨(hS13954q.cells (vs := ([.int .u8 1, .int .u32 2] : List Value)) rfl), trivial⟩ (fun _ _ _ h_ => h_) (fun a13957q h13958q => ?_)
          clear h13956q a13955q
          refine WH.take 26 (listed' := #[true, true, true, true, true, true, true, true, true, true, true, true, true, true, true, true, true, true, true, true, true, true, true, true, true, true, true, false, false, false, false, false, false, false, false, false, false, false, false, false, false, false, false, false, false, false, false, false, false, false]) h13958q rfl rfl (by kernel_rfl) rfl rfl (.bool (decide (r13948q.f0 = 1) && decide (r13948q.f1 = 2))) (fun _ _ => by kernel_rfl) ⟨(hS13954q.cells (vs := ([.int .u8 1, .int .u32 2] : List Value)) rfl), trivial⟩ (fun _ _ _ h_ => h_) (fun a13959q h13960q => ?_)
          clear h13958q a13957q
          by_cases c13961q : (decide (r13948q.f0 = 1) && decide (r13948q.f1 = 2)) = true
          · rw [if_pos c13961q] at H
            have hb_ : (decide (r13948q.f0 = 1) && decide (r13948q.f1 = 2)) = true := c13961q
            try rw [hb_] at h13960q
            clear hb_
            refine WH.take 27 (listed' := #[true, true, true, true, true, true, true, true, true, true, true, true, true, true, true, true, true, true, true, true, true, true, true, true, true, true, true, true, false, false, false, false, false, false, false, false, false, false, false, false, false, false, false, false, false, false, false, false, false, false]) h13960q rfl rfl (by kernel_rfl) rfl rfl (.pointer none) (fun _ _ => by kernel_rfl) ⟨(hS13954q.cells (vs := ([.int .u8 1, .int .u32 2] : List Value)) rfl), trivial⟩ (fun _ _ _ h_ => h_) (fun a13962q h13963q => ?_)
            clear h13960q a13959q
            refine WH.take 28 (listed' := #[true, true, true, true, true, true, true, true, true, true, true, true, true, true, true, true, true, true, true, true, true, true, true, true, true, true, true, true, true, false, false, false, false, false, false, false, false, false, false, false, false, false, false, false, false, false, false, false, false, false]) h13963q rfl rfl (by kernel_rfl) rfl rfl (.int .i64 p0) (fun _ _ => by kernel_rfl) ⟨(hS13954q.cells (vs := ([.int .u8 1, .int .u32 2] : List Value)) rfl), trivial⟩ (fun _ _ _ h_ => h_) (fun a13964q h13965q => ?_)
            clear h13963q a13962q
            refine WH.take 30 (listed' := #[true, true, true, true, true, true, true, true, true, true, true, true, true, true, true, true, true, true, true, true, true, true, true, true, true, true, true, true, true, false, true, false, false, false, false, false, false, false, false, false, false, false, false, false, false, false, false, false, false, false]) h13965q rfl rfl (by kernel_rfl) rfl rfl (.agg #[.int .u8 1, .int .u32 2]) (fun w_ hs_ => (run_loadN rfl rfl Try.underlying31 rfl (cs := ([.int .u8 1, .int .u32 2] : List Value)) (by kernel_rfl) hs_.1)) ⟨(hS13954q.cells (vs := ([.int .u8 1, .int .u32 2] : List Value)) rfl), trivial⟩ (fun _ _ _ h_ => h_) (fun a13966q h13967q => ?_)
            clear h13965q a13964q
            obtain ⟨r13969q, A13968q, H⟩ := bind1 H
            refine WH.op 29 (listed' := #[true, true, true, true, true, true, true, true, true, true, true, true, true, true, true, true, true, true, true, true, true, true, true, true, true, true, true, true, true, true, true, false, false, false, false, false, false, false, false, false, false, false, false, false, false, false, false, false, false, false]) h13967q rfl (by kernel_rfl) rfl rfl ?_
            refine owp_call [.pointer none, .int .i64 p0] h13967q rfl (by kernel_rfl) rfl Try.func13 (by kernel_rfl) rfl (by kernel_rfl) (window_Meter_Come_nil.calls  A13968q hS13954q) (fun e13971q W13970q hp13972q => ?_)
            obtain ⟨rfl, hS13975q⟩ := hp13972q
            refine ⟨_, rfl, fun a13973q h13974q => ?_⟩
            clear h13967q a13966q
            refine ⟨⟨(hS13975q.cells (vs := ([.int .u8 1, .int .u32 2] : List Value)) rfl), trivial⟩, ?_⟩
            refine WH.take 31 (listed' := #[true, true, true, true, true, true, true, true, true, true, true, true, true, true, true, true, true, true, true, true, true, true, true, true, true, true, true, true, true, true, true, true, false, false, false, false, false, false, false, false, false, false, false, false, false, false, false, false, false, false]) h13974q rfl rfl (by kernel_rfl) rfl rfl (.bool (decide (r13969q.f0 = 1) && decide (r13969q.f1 = 2))) (fun w_ hs_ => (run_steq (xs := [.int .u8 r13969q.f0, .int .u32 r13969q.f1]) (ys := [.int .u8 1, .int .u32 2]) rfl rfl rfl (by kernel_rfl) (eqs_of Try.underlying31 (by kernel_rfl) (eqf_cons rfl (by kernel_rfl) rfl rfl (eqi_int Try.underlying5) (eqf_last rfl (by kernel_rfl) rfl rfl (eqi_int Try.underlying22)))))) ⟨(hS13975q.cells (vs := ([.int .u8 1, .int .u32 2] : List Value)) rfl), trivial⟩ (fun _ _ _ h_ => h_) (fun a13976q h13977q => ?_)
            clear h13974q a13973q
            refine WH.take 32 (listed' := #[true, true, true, true, true, true, true, true, true, true, true, true, true, true, true, true, true, true, true, true, true, true, true, true, true, true, true, true, true, true, true, true, true, false, false, false, false, false, false, false, false, false, false, false, false, false, false, false, false, false]) h13977q rfl rfl (by kernel_rfl) rfl rfl (.bool (decide (r13969q.f0 = 1) && decide (r13969q.f1 = 2))) (fun _ _ => by kernel_rfl) ⟨(hS13975q.cells (vs := ([.int .u8 1, .int .u32 2] : List Value)) rfl), trivial⟩ (fun _ _ _ h_ => h_) (fun a13978q h13979q => ?_)
            clear h13977q a13976q
            refine WH.take 33 (listed' := #[true, true, true, true, true, true, true, true, true, true, true, true, true, true, true, true, true, true, true, true, true, true, true, true, true, true, true, true, true, true, true, true, true, true, false, false, false, false, false, false, false, false, false, false, false, false, false, false, false, false]) h13979q rfl rfl (by kernel_rfl) rfl rfl (.bool (decide (r13969q.f0 = 1) && decide (r13969q.f1 = 2))) (fun _ _ => by kernel_rfl) ⟨(hS13975q.cells (vs := ([.int .u8 1, .int .u32 2] : List Value)) rfl), trivial⟩ (fun _ _ _ h_ => h_) (fun a13980q h13981q => ?_)
            clear h13979q a13978q
            by_cases c13982q : (decide (r13969q.f0 = 1) && decide (r13969q.f1 = 2)) = true
            · rw [if_pos c13982q] at H
              have hb_ : (decide (r13969q.f0 = 1) && decide (r13969q.f1 = 2)) = true := c13982q
              try rw [hb_] at h13981q
              clear hb_
              refine WH.take 34 (listed' := #[true, true, true, true, true, true, true, true, true, true, true, true, true, true, true, true, true, true, true, true, true, true, true, true, true, true, true, true, true, true, true, true, true, true, true, false, false, false, false, false, false, false, false, false, false, false, false, false, false, false]) h13981q rfl rfl (by kernel_rfl) rfl rfl (.pointer none) (fun _ _ => by kernel_rfl) ⟨(hS13975q.cells (vs := ([.int .u8 1, .int .u32 2] : List Value)) rfl), trivial⟩ (fun _ _ _ h_ => h_) (fun a13983q h13984q => ?_)
              clear h13981q a13980q
              refine WH.take 35 (listed' := #[true, true, true, true, true, true, true, true, true, true, true, true, true, true, true, true, true, true, true, true, true, true, true, true, true, true, true, true, true, true, true, true, true, true, true, true, false, false, false, false, false, false, false, false, false, false, false, false, false, false]) h13984q rfl rfl (by kernel_rfl) rfl rfl (.int .i64 p0) (fun _ _ => by kernel_rfl) ⟨(hS13975q.cells (vs := ([.int .u8 1, .int .u32 2] : List Value)) rfl), trivial⟩ (fun _ _ _ h_ => h_) (fun a13985q h13986q => ?_)
              clear h13984q a13983q
              obtain ⟨r13988q, A13987q, H⟩ := bind1 H
              refine WH.op 36 (listed' := #[true, true, true, true, true, true, true, true, true, true, true, true, true, true, true, true, true, true, true, true, true, true, true, true, true, true, true, true, true, true, true, true, true, true, true, true, true, false, false, false, false, false, false, false, false, false, false, false, false, false]) h13986q rfl (by kernel_rfl) rfl rfl ?_
              refine owp_call [.pointer none, .int .i64 p0] h13986q rfl (by kernel_rfl) rfl Try.func15 (by kernel_rfl) rfl (by kernel_rfl) (window_Meter_Use_nil.calls  A13987q hS13975q) (fun e13990q W13989q hp13991q => ?_)
              obtain ⟨rfl, hS13994q⟩ := hp13991q
              refine ⟨_, rfl, fun a13992q h13993q => ?_⟩
              clear h13986q a13985q
              refine ⟨⟨(hS13994q.cells (vs := ([.int .u8 1, .int .u32 2] : List Value)) rfl), trivial⟩, ?_⟩
              refine WH.take 37 (listed' := #[true, true, true, true, true, true, true, true, true, true, true, true, true, true, true, true, true, true, true, true, true, true, true, true, true, true, true, true, true, true, true, true, true, true, true, true, true, true, false, false, false, false, false, false, false, false, false, false, false, false]) h13993q rfl rfl (by kernel_rfl) rfl rfl (.bool (decide (r13988q = 0))) (fun _ _ => by kernel_rfl) ⟨(hS13994q.cells (vs := ([.int .u8 1, .int .u32 2] : List Value)) rfl), trivial⟩ (fun _ _ _ h_ => h_) (fun a13995q h13996q => ?_)
              clear h13993q a13992q
              refine WH.take 38 (listed' := #[true, true, true, true, true, true, true, true, true, true, true, true, true, true, true, true, true, true, true, true, true, true, true, true, true, true, true, true, true, true, true, true, true, true, true, true, true, true, true, false, false, false, false, false, false, false, false, false, false, false]) h13996q rfl rfl (by kernel_rfl) rfl rfl (.bool (decide (r13988q = 0))) (fun _ _ => by kernel_rfl) ⟨(hS13994q.cells (vs := ([.int .u8 1, .int .u32 2] : List Value)) rfl), trivial⟩ (fun _ _ _ h_ => h_) (fun a13997q h13998q => ?_)
              clear h13996q a13995q
              refine WH.take 39 (listed' := #[true, true, true, true, true, true, true, true, true, true, true, true, true, true, true, true, true, true, true, true, true, true, true, true, true, true, true, true, true, true, true, true, true, true, true, true, true, true, true, true, false, false, false, false, false, false, false, false, false, false]) h13998q rfl rfl (by kernel_rfl) rfl rfl (.bool (decide (r13988q = 0))) (fun _ _ => by kernel_rfl) ⟨(hS13994q.cells (vs := ([.int .u8 1, .int .u32 2] : List Value)) rfl), trivial⟩ (fun _ _ _ h_ => h_) (fun a13999q h14000q => ?_)
              clear h13998q a13997q
              by_cases c14001q : r13988q = 0
              · rw [if_pos c14001q] at H
                have hb_ : (decide (r13988q = 0)) = true := decide_eq_true c14001q
                try rw [hb_] at h14000q
                clear hb_
                refine WH.take 40 (listed' := #[true, true, true, true, true, true, true, true, true, true, true, true, true, true, true, true, true, true, true, true, true, true, true, true, true, true, true, true, true, true, true, true, true, true, true, true, true, true, true, true, true, false, false, false, false, false, false, false, false, false]) h14000q rfl rfl (by kernel_rfl) rfl rfl (.pointer none) (fun _ _ => by kernel_rfl) ⟨(hS13994q.cells (vs := ([.int .u8 1, .int .u32 2] : List Value)) rfl), trivial⟩ (fun _ _ _ h_ => h_) (fun a14002q h14003q => ?_)
                clear h14000q a13999q
                obtain ⟨r14005q, A14004q, H⟩ := bind1 H
                refine WH.op 41 (listed' := #[true, true, true, true, true, true, true, true, true, true, true, true, true, true, true, true, true, true, true, true, true, true, true, true, true, true, true, true, true, true, true, true, true, true, true, true, true, true, true, true, true, true, false, false, false, false, false, false, false, false]) h14003q rfl (by kernel_rfl) rfl rfl ?_
                refine owp_call [.pointer none] h14003q rfl (by kernel_rfl) rfl Try.func16 (by kernel_rfl) rfl (by kernel_rfl) (window_Meter_Left_nil.calls  A14004q hS13994q) (fun e14007q W14006q hp14008q => ?_)
                obtain ⟨rfl, hS14011q⟩ := hp14008q
                refine ⟨_, rfl, fun a14009q h14010q => ?_⟩
                clear h14003q a14002q
                refine ⟨⟨(hS14011q.cells (vs := ([.int .u8 1, .int .u32 2] : List Value)) rfl), trivial⟩, ?_⟩
                refine WH.take 42 (listed' := #[true, true, true, true, true, true, true, true, true, true, true, true, true, true, true, true, true, true, true, true, true, true, true, true, true, true, true, true, true, true, true, true, true, true, true, true, true, true, true, true, true, true, true, false, false, false, false, false, false, false]) h14010q rfl rfl (by kernel_rfl) rfl rfl (.bool (decide (r14005q = 0))) (fun _ _ => by kernel_rfl) ⟨(hS14011q.cells (vs := ([.int .u8 1, .int .u32 2] : List Value)) rfl), trivial⟩ (fun _ _ _ h_ => h_) (fun a14012q h14013q => ?_)
                clear h14010q a14009q
                refine WH.take 43 (listed' := #[true, true, true, true, true, true, true, true, true, true, true, true, true, true, true, true, true, true, true, true, true, true, true, true, true, true, true, true, true, true, true, true, true, true, true, true, true, true, true, true, true, true, true, true, false, false, false, false, false, false]) h14013q rfl rfl (by kernel_rfl) rfl rfl (.bool (decide (r14005q = 0))) (fun _ _ => by kernel_rfl) ⟨(hS14011q.cells (vs := ([.int .u8 1, .int .u32 2] : List Value)) rfl), trivial⟩ (fun _ _ _ h_ => h_) (fun a14014q h14015q => ?_)
                clear h14013q a14012q
                refine WH.take 44 (listed' := #[true, true, true, true, true, true, true, true, true, true, true, true, true, true, true, true, true, true, true, true, true, true, true, true, true, true, true, true, true, true, true, true, true, true, true, true, true, true, true, true, true, true, true, true, true, false, false, false, false, false]) h14015q rfl rfl (by kernel_rfl) rfl rfl (.bool (decide (r14005q = 0))) (fun _ _ => by kernel_rfl) ⟨(hS14011q.cells (vs := ([.int .u8 1, .int .u32 2] : List Value)) rfl), trivial⟩ (fun _ _ _ h_ => h_) (fun a14016q h14017q => ?_)
                clear h14015q a14014q
                by_cases c14018q : r14005q = 0
                · rw [if_pos c14018q] at H
                  have hb_ : (decide (r14005q = 0)) = true := decide_eq_true c14018q
                  try rw [hb_] at h14017q
                  clear hb_
                  refine WH.take 45 (listed' := #[true, true, true, true, true, true, true, true, true, true, true, true, true, true, true, true, true, true, true, true, true, true, true, true, true, true, true, true, true, true, true, true, true, true, true, true, true, true, true, true, true, true, true, true, true, true, false, false, false, false]) h14017q rfl rfl (by kernel_rfl) rfl rfl (.pointer none) (fun _ _ => by kernel_rfl) ⟨(hS14011q.cells (vs := ([.int .u8 1, .int .u32 2] : List Value)) rfl), trivial⟩ (fun _ _ _ h_ => h_) (fun a14019q h14020q => ?_)
                  clear h14017q a14016q
                  obtain ⟨r14022q, A14021q, H⟩ := bind1 H
                  refine WH.op 46 (listed' := #[true, true, true, true, true, true, true, true, true, true, true, true, true, true, true, true, true, true, true, true, true, true, true, true, true, true, true, true, true, true, true, true, true, true, true, true, true, true, true, true, true, true, true, true, true, true, true, false, false, false]) h14020q rfl (by kernel_rfl) rfl rfl ?_
                  refine owp_call [.pointer none] h14020q rfl (by kernel_rfl) rfl Try.func17 (by kernel_rfl) rfl (by kernel_rfl) (window_Meter_Owed_nil.calls  A14021q hS14011q) (fun e14024q W14023q hp14025q => ?_)
                  obtain ⟨rfl, hS14028q⟩ := hp14025q
                  refine ⟨_, rfl, fun a14026q h14027q => ?_⟩
                  clear h14020q a14019q
                  refine ⟨⟨(hS14028q.cells (vs := ([.int .u8 1, .int .u32 2] : List Value)) rfl), trivial⟩, ?_⟩
                  refine WH.take 47 (listed' := #[true, true, true, true, true, true, true, true, true, true, true, true, true, true, true, true, true, true, true, true, true, true, true, true, true, true, true, true, true, true, true, true, true, true, true, true, true, true, true, true, true, true, true, true, true, true, true, true, false, false]) h14027q rfl rfl (by kernel_rfl) rfl rfl (.bool (decide (r14022q = 0))) (fun _ _ => by kernel_rfl) ⟨(hS14028q.cells (vs := ([.int .u8 1, .int .u32 2] : List Value)) rfl), trivial⟩ (fun _ _ _ h_ => h_) (fun a14029q h14030q => ?_)
                  clear h14027q a14026q
                  refine WH.take 48 (listed' := #[true, true, true, true, true, true, true, true, true, true, true, true, true, true, true, true, true, true, true, true, true, true, true, true, true, true, true, true, true, true, true, true, true, true, true, true, true, true, true, true, true, true, true, true, true, true, true, true, true, false]) h14030q rfl rfl (by kernel_rfl) rfl rfl (.bool (decide (r14022q = 0))) (fun _ _ => by kernel_rfl) ⟨(hS14028q.cells (vs := ([.int .u8 1, .int .u32 2] : List Value)) rfl), trivial⟩ (fun _ _ _ h_ => h_) (fun a14031q h14032q => ?_)
                  clear h14030q a14029q
                  refine WH.take 49 (listed' := #[true, true, true, true, true, true, true, true, true, true, true, true, true, true, true, true, true, true, true, true, true, true, true, true, true, true, true, true, true, true, true, true, true, true, true, true, true, true, true, true, true, true, true, true, true, true, true, true, true, true]) h14032q rfl rfl (by kernel_rfl) rfl rfl (.bool (decide (r14022q = 0))) (fun _ _ => by kernel_rfl) ⟨(hS14028q.cells (vs := ([.int .u8 1, .int .u32 2] : List Value)) rfl), trivial⟩ (fun _ _ _ h_ => h_) (fun a14033q h14034q => ?_)
                  clear h14032q a14031q
                  refine WH.done (by kernel_rfl) ?_
                  refine wp_ret ?_
                  have hS14035q : St b w0 W14023q R (Fs) := hS14028q.drop_
                  obtain rfl := Option.some.inj H
                  repeat (first | refine then_ret ?_ | refine inBlock_ret ?_ | refine inBlock_go ?_)
                  refine body_ret (v := .bool (decide (r14022q = 0))) h14034q (by kernel_rfl) (by kernel_rfl) ?_
                  exact ⟨rfl, hS14035q⟩
                · rw [if_neg c14018q] at H
                  have hb_ : (decide (r14005q = 0)) = false := decide_eq_false c14018q
                  try rw [hb_] at h14017q
                  clear hb_
                  refine WH.skip 45 (listed' := #[true, true, true, true, true, true, true, true, true, true, true, true, true, true, true, true, true, true, true, true, true, true, true, true, true, true, true, true, true, true, true, true, true, true, true, true, true, true, true, true, true, true, true, true, true, true, false, false, false, false]) h14017q rfl rfl (by kernel_rfl) rfl rfl ⟨(hS14011q.cells (vs := ([.int .u8 1, .int .u32 2] : List Value)) rfl), trivial⟩ (fun _ _ _ h_ => h_) (fun a14036q h14037q => ?_)
                  clear h14017q a14016q
                  refine WH.skip 46 (listed' := #[true, true, true, true, true, true, true, true, true, true, true, true, true, true, true, true, true, true, true, true, true, true, true, true, true, true, true, true, true, true, true, true, true, true, true, true, true, true, true, true, true, true, true, true, true, true, true, false, false, false]) h14037q rfl rfl (by kernel_rfl) rfl rfl ⟨(hS14011q.cells (vs := ([.int .u8 1, .int .u32 2] : List Value)) rfl), trivial⟩ (fun _ _ _ h_ => h_) (fun a14038q h14039q => ?_)
                  clear h14037q a14036q
                  refine WH.skip 47 (listed' := #[true, true, true, true, true, true, true, true, true, true, true, true, true, true, true, true, true, true, true, true, true, true, true, true, true, true, true, true, true, true, true, true, true, true, true, true, true, true, true, true, true, true, true, true, true, true, true, true, false, false]) h14039q rfl rfl (by kernel_rfl) rfl rfl ⟨(hS14011q.cells (vs := ([.int .u8 1, .int .u32 2] : List Value)) rfl), trivial⟩ (fun _ _ _ h_ => h_) (fun a14040q h14041q => ?_)
                  clear h14039q a14038q
                  refine WH.take 48 (listed' := #[true, true, true, true, true, true, true, true, true, true, true, true, true, true, true, true, true, true, true, true, true, true, true, true, true, true, true, true, true, true, true, true, true, true, true, true, true, true, true, true, true, true, true, true, true, true, true, true, true, false]) h14041q rfl rfl (by kernel_rfl) rfl rfl (.bool false) (fun _ _ => by kernel_rfl) ⟨(hS14011q.cells (vs := ([.int .u8 1, .int .u32 2] : List Value)) rfl), trivial⟩ (fun _ _ _ h_ => h_) (fun a14042q h14043q => ?_)
                  clear h14041q a14040q
                  refine WH.take 49 (listed' := #[true, true, true, true, true, true, true, true, true, true, true, true, true, true, true, true, true, true, true, true, true, true, true, true, true, true, true, true, true, true, true, true, true, true, true, true, true, true, true, true, true, true, true, true, true, true, true, true, true, true]) h14043q rfl rfl (by kernel_rfl) rfl rfl (.bool false) (fun _ _ => by kernel_rfl) ⟨(hS14011q.cells (vs := ([.int .u8 1, .int .u32 2] : List Value)) rfl), trivial⟩ (fun _ _ _ h_ => h_) (fun a14044q h14045q => ?_)
                  clear h14043q a14042q
                  refine WH.done (by kernel_rfl) ?_
                  refine wp_ret ?_
                  have hS14046q : St b w0 W14006q R (Fs) := hS14011q.drop_
                  obtain rfl := Option.some.inj H
                  repeat (first | refine then_ret ?_ | refine inBlock_ret ?_ | refine inBlock_go ?_)
                  refine body_ret (v := .bool false) h14045q (by kernel_rfl) (by kernel_rfl) ?_
                  exact ⟨rfl, hS14046q⟩
              · rw [if_neg c14001q] at H
                have hb_ : (decide (r13988q = 0)) = false := decide_eq_false c14001q
                try rw [hb_] at h14000q
                clear hb_
                refine WH.skip 40 (listed' := #[true, true, true, true, true, true, true, true, true, true, true, true, true, true, true, true, true, true, true, true, true, true, true, true, true, true, true, true, true, true, true, true, true, true, true, true, true, true, true, true, true, false, false, false, false, false, false, false, false, false]) h14000q rfl rfl (by kernel_rfl) rfl rfl ⟨(hS13994q.cells (vs := ([.int .u8 1, .int .u32 2] : List Value)) rfl), trivial⟩ (fun _ _ _ h_ => h_) (fun a14047q h14048q => ?_)
                clear h14000q a13999q
                refine WH.skip 41 (listed' := #[true, true, true, true, true, true, true, true, true, true, true, true, true, true, true, true, true, true, true, true, true, true, true, true, true, true, true, true, true, true, true, true, true, true, true, true, true, true, true, true, true, true, false, false, false, false, false, false, false, false]) h14048q rfl rfl (by kernel_rfl) rfl rfl ⟨(hS13994q.cells (vs := ([.int .u8 1, .int .u32 2] : List Value)) rfl), trivial⟩ (fun _ _ _ h_ => h_) (fun a14049q h14050q => ?_)
                clear h14048q a14047q
                refine WH.skip 42 (listed' := #[true, true, true, true, true, true, true, true, true, true, true, true, true, true, true, true, true, true, true, true, true, true, true, true, true, true, true, true, true, true, true, true, true, true, true, true, true, true, true, true, true, true, true, false, false, false, false, false, false, false]) h14050q rfl rfl (by kernel_rfl) rfl rfl ⟨(hS13994q.cells (vs := ([.int .u8 1, .int .u32 2] : List Value)) rfl), trivial⟩ (fun _ _ _ h_ => h_) (fun a14051q h14052q => ?_)
                clear h14050q a14049q
                refine WH.take 43 (listed' := #[true, true, true, true, true, true, true, true, true, true, true, true, true, true, true, true, true, true, true, true, true, true, true, true, true, true, true, true, true, true, true, true, true, true, true, true, true, true, true, true, true, true, true, true, false, false, false, false, false, false]) h14052q rfl rfl (by kernel_rfl) rfl rfl (.bool false) (fun _ _ => by kernel_rfl) ⟨(hS13994q.cells (vs := ([.int .u8 1, .int .u32 2] : List Value)) rfl), trivial⟩ (fun _ _ _ h_ => h_) (fun a14053q h14054q => ?_)
                clear h14052q a14051q
                refine WH.take 44 (listed' := #[true, true, true, true, true, true, true, true, true, true, true, true, true, true, true, true, true, true, true, true, true, true, true, true, true, true, true, true, true, true, true, true, true, true, true, true, true, true, true, true, true, true, true, true, true, false, false, false, false, false]) h14054q rfl rfl (by kernel_rfl) rfl rfl (.bool false) (fun _ _ => by kernel_rfl) ⟨(hS13994q.cells (vs := ([.int .u8 1, .int .u32 2] : List Value)) rfl), trivial⟩ (fun _ _ _ h_ => h_) (fun a14055q h14056q => ?_)
                clear h14054q a14053q
                refine WH.skip 45 (listed' := #[true, true, true, true, true, true, true, true, true, true, true, true, true, true, true, true, true, true, true, true, true, true, true, true, true, true, true, true, true, true, true, true, true, true, true, true, true, true, true, true, true, true, true, true, true, true, false, false, false, false]) h14056q rfl rfl (by kernel_rfl) rfl rfl ⟨(hS13994q.cells (vs := ([.int .u8 1, .int .u32 2] : List Value)) rfl), trivial⟩ (fun _ _ _ h_ => h_) (fun a14057q h14058q => ?_)
                clear h14056q a14055q
                refine WH.skip 46 (listed' := #[true, true, true, true, true, true, true, true, true, true, true, true, true, true, true, true, true, true, true, true, true, true, true, true, true, true, true, true, true, true, true, true, true, true, true, true, true, true, true, true, true, true, true, true, true, true, true, false, false, false]) h14058q rfl rfl (by kernel_rfl) rfl rfl ⟨(hS13994q.cells (vs := ([.int .u8 1, .int .u32 2] : List Value)) rfl), trivial⟩ (fun _ _ _ h_ => h_) (fun a14059q h14060q => ?_)
                clear h14058q a14057q
                refine WH.skip 47 (listed' := #[true, true, true, true, true, true, true, true, true, true, true, true, true, true, true, true, true, true, true, true, true, true, true, true, true, true, true, true, true, true, true, true, true, true, true, true, true, true, true, true, true, true, true, true, true, true, true, true, false, false]) h14060q rfl rfl (by kernel_rfl) rfl rfl ⟨(hS13994q.cells (vs := ([.int .u8 1, .int .u32 2] : List Value)) rfl), trivial⟩ (fun _ _ _ h_ => h_) (fun a14061q h14062q => ?_)
                clear h14060q a14059q
                refine WH.take 48 (listed' := #[true, true, true, true, true, true, true, true, true, true, true, true, true, true, true, true, true, true, true, true, true, true, true, true, true, true, true, true, true, true, true, true, true, true, true, true, true, true, true, true, true, true, true, true, true, true, true, true, true, false]) h14062q rfl rfl (by kernel_rfl) rfl rfl (.bool false) (fun _ _ => by kernel_rfl) ⟨(hS13994q.cells (vs := ([.int .u8 1, .int .u32 2] : List Value)) rfl), trivial⟩ (fun _ _ _ h_ => h_) (fun a14063q h14064q => ?_)
                clear h14062q a14061q
                refine WH.take 49 (listed' := #[true, true, true, true, true, true, true, true, true, true, true, true, true, true, true, true, true, true, true, true, true, true, true, true, true, true, true, true, true, true, true, true, true, true, true, true, true, true, true, true, true, true, true, true, true, true, true, true, true, true]) h14064q rfl rfl (by kernel_rfl) rfl rfl (.bool false) (fun _ _ => by kernel_rfl) ⟨(hS13994q.cells (vs := ([.int .u8 1, .int .u32 2] : List Value)) rfl), trivial⟩ (fun _ _ _ h_ => h_) (fun a14065q h14066q => ?_)
                clear h14064q a14063q
                refine WH.done (by kernel_rfl) ?_
                refine wp_ret ?_
                have hS14067q : St b w0 W13989q R (Fs) := hS13994q.drop_
                obtain rfl := Option.some.inj H
                repeat (first | refine then_ret ?_ | refine inBlock_ret ?_ | refine inBlock_go ?_)
                refine body_ret (v := .bool false) h14066q (by kernel_rfl) (by kernel_rfl) ?_
                exact ⟨rfl, hS14067q⟩
            · rw [if_neg c13982q] at H
              have hb_ : (decide (r13969q.f0 = 1) && decide (r13969q.f1 = 2)) = false := (Bool.eq_false_iff.2 c13982q)
              try rw [hb_] at h13981q
              clear hb_
              refine WH.skip 34 (listed' := #[true, true, true, true, true, true, true, true, true, true, true, true, true, true, true, true, true, true, true, true, true, true, true, true, true, true, true, true, true, true, true, true, true, true, true, false, false, false, false, false, false, false, false, false, false, false, false, false, false, false]) h13981q rfl rfl (by kernel_rfl) rfl rfl ⟨(hS13975q.cells (vs := ([.int .u8 1, .int .u32 2] : List Value)) rfl), trivial⟩ (fun _ _ _ h_ => h_) (fun a14068q h14069q => ?_)
              clear h13981q a13980q
              refine WH.skip 35 (listed' := #[true, true, true, true, true, true, true, true, true, true, true, true, true, true, true, true, true, true, true, true, true, true, true, true, true, true, true, true, true, true, true, true, true, true, true, true, false, false, false, false, false, false, false, false, false, false, false, false, false, false]) h14069q rfl rfl (by kernel_rfl) rfl rfl ⟨(hS13975q.cells (vs := ([.int .u8 1, .int .u32 2] : List Value)) rfl), trivial⟩ (fun _ _ _ h_ => h_) (fun a14070q h14071q => ?_)
              clear h14069q a14068q
              refine WH.skip 36 (listed' := #[true, true, true, true, true, true, true, true, true, true, true, true, true, true, true, true, true, true, true, true, true, true, true, true, true, true, true, true, true, true, true, true, true, true, true, true, true, false, false, false, false, false, false, false, false, false, false, false, false, false]) h14071q rfl rfl (by kernel_rfl) rfl rfl ⟨(hS13975q.cells (vs := ([.int .u8 1, .int .u32 2] : List Value)) rfl), trivial⟩ (fun _ _ _ h_ => h_) (fun a14072q h14073q => ?_)
              clear h14071q a14070q
              refine WH.skip 37 (listed' := #[true, true, true, true, true, true, true, true, true, true, true, true, true, true, true, true, true, true, true, true, true, true, true, true, true, true, true, true, true, true, true, true, true, true, true, true, true, true, false, false, false, false, false, false, false, false, false, false, false, false]) h14073q rfl rfl (by kernel_rfl) rfl rfl ⟨(hS13975q.cells (vs := ([.int .u8 1, .int .u32 2] : List Value)) rfl), trivial⟩ (fun _ _ _ h_ => h_) (fun a14074q h14075q => ?_)
              clear h14073q a14072q
              refine WH.take 38 (listed' := #[true, true, true, true, true, true, true, true, true, true, true, true, true, true, true, true, true, true, true, true, true, true, true, true, true, true, true, true, true, true, true, true, true, true, true, true, true, true, true, false, false, false, false, false, false, false, false, false, false, false]) h14075q rfl rfl (by kernel_rfl) rfl rfl (.bool false) (fun _ _ => by kernel_rfl) ⟨(hS13975q.cells (vs := ([.int .u8 1, .int .u32 2] : List Value)) rfl), trivial⟩ (fun _ _ _ h_ => h_) (fun a14076q h14077q => ?_)
              clear h14075q a14074q
              refine WH.take 39 (listed' := #[true, true, true, true, true, true, true, true, true, true, true, true, true, true, true, true, true, true, true, true, true, true, true, true, true, true, true, true, true, true, true, true, true, true, true, true, true, true, true, true, false, false, false, false, false, false, false, false, false, false]) h14077q rfl rfl (by kernel_rfl) rfl rfl (.bool false) (fun _ _ => by kernel_rfl) ⟨(hS13975q.cells (vs := ([.int .u8 1, .int .u32 2] : List Value)) rfl), trivial⟩ (fun _ _ _ h_ => h_) (fun a14078q h14079q => ?_)
              clear h14077q a14076q
              refine WH.skip 40 (listed' := #[true, true, true, true, true, true, true, true, true, true, true, true, true, true, true, true, true, true, true, true, true, true, true, true, true, true, true, true, true, true, true, true, true, true, true, true, true, true, true, true, true, false, false, false, false, false, false, false, false, false]) h14079q rfl rfl (by kernel_rfl) rfl rfl ⟨(hS13975q.cells (vs := ([.int .u8 1, .int .u32 2] : List Value)) rfl), trivial⟩ (fun _ _ _ h_ => h_) (fun a14080q h14081q => ?_)
              clear h14079q a14078q
              refine WH.skip 41 (listed' := #[true, true, true, true, true, true, true, true, true, true, true, true, true, true, true, true, true, true, true, true, true, true, true, true, true, true, true, true, true, true, true, true, true, true, true, true, true, true, true, true, true, true, false, false, false, false, false, false, false, false]) h14081q rfl rfl (by kernel_rfl) rfl rfl ⟨(hS13975q.cells (vs := ([.int .u8 1, .int .u32 2] : List Value)) rfl), trivial⟩ (fun _ _ _ h_ => h_) (fun a14082q h14083q => ?_)
              clear h14081q a14080q
              refine WH.skip 42 (listed' := #[true, true, true, true, true, true, true, true, true, true, true, true, true, true, true, true, true, true, true, true, true, true, true, true, true, true, true, true, true, true, true, true, true, true, true, true, true, true, true, true, true, true, true, false, false, false, false, false, false, false]) h14083q rfl rfl (by kernel_rfl) rfl rfl ⟨(hS13975q.cells (vs := ([.int .u8 1, .int .u32 2] : List Value)) rfl), trivial⟩ (fun _ _ _ h_ => h_) (fun a14084q h14085q => ?_)
              clear h14083q a14082q
              refine WH.take 43 (listed' := #[true, true, true, true, true, true, true, true, true, true, true, true, true, true, true, true, true, true, true, true, true, true, true, true, true, true, true, true, true, true, true, true, true, true, true, true, true, true, true, true, true, true, true, true, false, false, false, false, false, false]) h14085q rfl rfl (by kernel_rfl) rfl rfl (.bool false) (fun _ _ => by kernel_rfl) ⟨(hS13975q.cells (vs := ([.int .u8 1, .int .u32 2] : List Value)) rfl), trivial⟩ (fun _ _ _ h_ => h_) (fun a14086q h14087q => ?_)
              clear h14085q a14084q
              refine WH.take 44 (listed' := #[true, true, true, true, true, true, true, true, true, true, true, true, true, true, true, true, true, true, true, true, true, true, true, true, true, true, true, true, true, true, true, true, true, true, true, true, true, true, true, true, true, true, true, true, true, false, false, false, false, false]) h14087q rfl rfl (by kernel_rfl) rfl rfl (.bool false) (fun _ _ => by kernel_rfl) ⟨(hS13975q.cells (vs := ([.int .u8 1, .int .u32 2] : List Value)) rfl), trivial⟩ (fun _ _ _ h_ => h_) (fun a14088q h14089q => ?_)
              clear h14087q a14086q
              refine WH.skip 45 (listed' := #[true, true, true, true, true, true, true, true, true, true, true, true, true, true, true, true, true, true, true, true, true, true, true, true, true, true, true, true, true, true, true, true, true, true, true, true, true, true, true, true, true, true, true, true, true, true, false, false, false, false]) h14089q rfl rfl (by kernel_rfl) rfl rfl ⟨(hS13975q.cells (vs := ([.int .u8 1, .int .u32 2] : List Value)) rfl), trivial⟩ (fun _ _ _ h_ => h_) (fun a14090q h14091q => ?_)
              clear h14089q a14088q
              refine WH.skip 46 (listed' := #[true, true, true, true, true, true, true, true, true, true, true, true, true, true, true, true, true, true, true, true, true, true, true, true, true, true, true, true, true, true, true, true, true, true, true, true, true, true, true, true, true, true, true, true, true, true, true, false, false, false]) h14091q rfl rfl (by kernel_rfl) rfl rfl ⟨(hS13975q.cells (vs := ([.int .u8 1, .int .u32 2] : List Value)) rfl), trivial⟩ (fun _ _ _ h_ => h_) (fun a14092q h14093q => ?_)
              clear h14091q a14090q
              refine WH.skip 47 (listed' := #[true, true, true, true, true, true, true, true, true, true, true, true, true, true, true, true, true, true, true, true, true, true, true, true, true, true, true, true, true, true, true, true, true, true, true, true, true, true, true, true, true, true, true, true, true, true, true, true, false, false]) h14093q rfl rfl (by kernel_rfl) rfl rfl ⟨(hS13975q.cells (vs := ([.int .u8 1, .int .u32 2] : List Value)) rfl), trivial⟩ (fun _ _ _ h_ => h_) (fun a14094q h14095q => ?_)
              clear h14093q a14092q
              refine WH.take 48 (listed' := #[true, true, true, true, true, true, true, true, true, true, true, true, true, true, true, true, true, true, true, true, true, true, true, true, true, true, true, true, true, true, true, true, true, true, true, true, true, true, true, true, true, true, true, true, true, true, true, true, true, false]) h14095q rfl rfl (by kernel_rfl) rfl rfl (.bool false) (fun _ _ => by kernel_rfl) ⟨(hS13975q.cells (vs := ([.int .u8 1, .int .u32 2] : List Value)) rfl), trivial⟩ (fun _ _ _ h_ => h_) (fun a14096q h14097q => ?_)
              clear h14095q a14094q
              refine WH.take 49 (listed' := #[true, true, true, true, true, true, true, true, true, true, true, true, true, true, true, true, true, true, true, true, true, true, true, true, true, true, true, true, true, true, true, true, true, true, true, true, true, true, true, true, true, true, true, true, true, true, true, true, true, true]) h14097q rfl rfl (by kernel_rfl) rfl rfl (.bool false) (fun _ _ => by kernel_rfl) ⟨(hS13975q.cells (vs := ([.int .u8 1, .int .u32 2] : List Value)) rfl), trivial⟩ (fun _ _ _ h_ => h_) (fun a14098q h14099q => ?_)
              clear h14097q a14096q
              refine WH.done (by kernel_rfl) ?_
              refine wp_ret ?_
              have hS14100q : St b w0 W13970q R (Fs) := hS13975q.drop_
              obtain rfl := Option.some.inj H
              repeat (first | refine then_ret ?_ | refine inBlock_ret ?_ | refine inBlock_go ?_)
              refine body_ret (v := .bool false) h14099q (by kernel_rfl) (by kernel_rfl) ?_
              exact ⟨rfl, hS14100q⟩
          · rw [if_neg c13961q] at H
            have hb_ : (decide (r13948q.f0 = 1) && decide (r13948q.f1 = 2)) = false := (Bool.eq_false_iff.2 c13961q)
            try rw [hb_] at h13960q
            clear hb_
            refine WH.skip 27 (listed' := #[true, true, true, true, true, true, true, true, true, true, true, true, true, true, true, true, true, true, true, true, true, true, true, true, true, true, true, true, false, false, false, false, false, false, false, false, false, false, false, false, false, false, false, false, false, false, false, false, false, false]) h13960q rfl rfl (by kernel_rfl) rfl rfl ⟨(hS13954q.cells (vs := ([.int .u8 1, .int .u32 2] : List Value)) rfl), trivial⟩ (fun _ _ _ h_ => h_) (fun a14101q h14102q => ?_)
            clear h13960q a13959q
            refine WH.skip 28 (listed' := #[true, true, true, true, true, true, true, true, true, true, true, true, true, true, true, true, true, true, true, true, true, true, true, true, true, true, true, true, true, false, false, false, false, false, false, false, false, false, false, false, false, false, false, false, false, false, false, false, false, false]) h14102q rfl rfl (by kernel_rfl) rfl rfl ⟨(hS13954q.cells (vs := ([.int .u8 1, .int .u32 2] : List Value)) rfl), trivial⟩ (fun _ _ _ h_ => h_) (fun a14103q h14104q => ?_)
            clear h14102q a14101q
            refine WH.skip 29 (listed' := #[true, true, true, true, true, true, true, true, true, true, true, true, true, true, true, true, true, true, true, true, true, true, true, true, true, true, true, true, true, true, false, false, false, false, false, false, false, false, false, false, false, false, false, false, false, false, false, false, false, false]) h14104q rfl rfl (by kernel_rfl) rfl rfl ⟨(hS13954q.cells (vs := ([.int .u8 1, .int .u32 2] : List Value)) rfl), trivial⟩ (fun _ _ _ h_ => h_) (fun a14105q h14106q => ?_)
            clear h14104q a14103q
            refine WH.skip 30 (listed' := #[true, true, true, true, true, true, true, true, true, true, true, true, true, true, true, true, true, true, true, true, true, true, true, true, true, true, true, true, true, true, true, false, false, false, false, false, false, false, false, false, false, false, false, false, false, false, false, false, false, false]) h14106q rfl rfl (by kernel_rfl) rfl rfl ⟨(hS13954q.cells (vs := ([.int .u8 1, .int .u32 2] : List Value)) rfl), trivial⟩ (fun _ _ _ h_ => h_) (fun a14107q h14108q => ?_)
            clear h14106q a14105q
            refine WH.skip 31 (listed' := #[true, true, true, true, true, true, true, true, true, true, true, true, true, true, true, true, true, true, true, true, true, true, true, true, true, true, true, true, true, true, true, true, false, false, false, false, false, false, false, false, false, false, false, false, false, false, false, false, false, false]) h14108q rfl rfl (by kernel_rfl) rfl rfl ⟨(hS13954q.cells (vs := ([.int .u8 1, .int .u32 2] : List Value)) rfl), trivial⟩ (fun _ _ _ h_ => h_) (fun a14109q h14110q => ?_)
            clear h14108q a14107q
            refine WH.take 32 (listed' := #[true, true, true, true, true, true, true, true, true, true, true, true, true, true, true, true, true, true, true, true, true, true, true, true, true, true, true, true, true, true, true, true, true, false, false, false, false, false, false, false, false, false, false, false, false, false, false, false, false, false]) h14110q rfl rfl (by kernel_rfl) rfl rfl (.bool false) (fun _ _ => by kernel_rfl) ⟨(hS13954q.cells (vs := ([.int .u8 1, .int .u32 2] : List Value)) rfl), trivial⟩ (fun _ _ _ h_ => h_) (fun a14111q h14112q => ?_)
            clear h14110q a14109q
            refine WH.take 33 (listed' := #[true, true, true, true, true, true, true, true, true, true, true, true, true, true, true, true, true, true, true, true, true, true, true, true, true, true, true, true, true, true, true, true, true, true, false, false, false, false, false, false, false, false, false, false, false, false, false, false, false, false]) h14112q rfl rfl (by kernel_rfl) rfl rfl (.bool false) (fun _ _ => by kernel_rfl) ⟨(hS13954q.cells (vs := ([.int .u8 1, .int .u32 2] : List Value)) rfl), trivial⟩ (fun _ _ _ h_ => h_) (fun a14113q h14114q => ?_)
            clear h14112q a14111q
            refine WH.skip 34 (listed' := #[true, true, true, true, true, true, true, true, true, true, true, true, true, true, true, true, true, true, true, true, true, true, true, true, true, true, true, true, true, true, true, true, true, true, true, false, false, false, false, false, false, false, false, false, false, false, false, false, false, false]) h14114q rfl rfl (by kernel_rfl) rfl rfl ⟨(hS13954q.cells (vs := ([.int .u8 1, .int .u32 2] : List Value)) rfl), trivial⟩ (fun _ _ _ h_ => h_) (fun a14115q h14116q => ?_)
            clear h14114q a14113q
            refine WH.skip 35 (listed' := #[true, true, true, true, true, true, true, true, true, true, true, true, true, true, true, true, true, true, true, true, true, true, true, true, true, true, true, true, true, true, true, true, true, true, true, true, false, false, false, false, false, false, false, false, false, false, false, false, false, false]) h14116q rfl rfl (by kernel_rfl) rfl rfl ⟨(hS13954q.cells (vs := ([.int .u8 1, .int .u32 2] : List Value)) rfl), trivial⟩ (fun _ _ _ h_ => h_) (fun a14117q h14118q => ?_)
            clear h14116q a14115q
            refine WH.skip 36 (listed' := #[true, true, true, true, true, true, true, true, true, true, true, true, true, true, true, true, true, true, true, true, true, true, true, true, true, true, true, true, true, true, true, true, true, true, true, true, true, false, false, false, false, false, false, false, false, false, false, false, false, false]) h14118q rfl rfl (by kernel_rfl) rfl rfl ⟨(hS13954q.cells (vs := ([.int .u8 1, .int .u32 2] : List Value)) rfl), trivial⟩ (fun _ _ _ h_ => h_) (fun a14119q h14120q => ?_)
            clear h14118q a14117q
            refine WH.skip 37 (listed' := #[true, true, true, true, true, true, true, true, true, true, true, true, true, true, true, true, true, true, true, true, true, true, true, true, true, true, true, true, true, true, true, true, true, true, true, true, true, true, false, false, false, false, false, false, false, false, false, false, false, false]) h14120q rfl rfl (by kernel_rfl) rfl rfl ⟨(hS13954q.cells (vs := ([.int .u8 1, .int .u32 2] : List Value)) rfl), trivial⟩ (fun _ _ _ h_ => h_) (fun a14121q h14122q => ?_)
            clear h14120q a14119q
            refine WH.take 38 (listed' := #[true, true, true, true, true, true, true, true, true, true, true, true, true, true, true, true, true, true, true, true, true, true, true, true, true, true, true, true, true, true, true, true, true, true, true, true, true, true, true, false, false, false, false, false, false, false, false, false, false, false]) h14122q rfl rfl (by kernel_rfl) rfl rfl (.bool false) (fun _ _ => by kernel_rfl) ⟨(hS13954q.cells (vs := ([.int .u8 1, .int .u32 2] : List Value)) rfl), trivial⟩ (fun _ _ _ h_ => h_) (fun a14123q h14124q => ?_)
            clear h14122q a14121q
            refine WH.take 39 (listed' := #[true, true, true, true, true, true, true, true, true, true, true, true, true, true, true, true, true, true, true, true, true, true, true, true, true, true, true, true, true, true, true, true, true, true, true, true, true, true, true, true, false, false, false, false, false, false, false, false, false, false]) h14124q rfl rfl (by kernel_rfl) rfl rfl (.bool false) (fun _ _ => by kernel_rfl) ⟨(hS13954q.cells (vs := ([.int .u8 1, .int .u32 2] : List Value)) rfl), trivial⟩ (fun _ _ _ h_ => h_) (fun a14125q h14126q => ?_)
            clear h14124q a14123q
            refine WH.skip 40 (listed' := #[true, true, true, true, true, true, true, true, true, true, true, true, true, true, true, true, true, true, true, true, true, true, true, true, true, true, true, true, true, true, true, true, true, true, true, true, true, true, true, true, true, false, false, false, false, false, false, false, false, false]) h14126q rfl rfl (by kernel_rfl) rfl rfl ⟨(hS13954q.cells (vs := ([.int .u8 1, .int .u32 2] : List Value)) rfl), trivial⟩ (fun _ _ _ h_ => h_) (fun a14127q h14128q => ?_)
            clear h14126q a14125q
            refine WH.skip 41 (listed' := #[true, true, true, true, true, true, true, true, true, true, true, true, true, true, true, true, true, true, true, true, true, true, true, true, true, true, true, true, true, true, true, true, true, true, true, true, true, true, true, true, true, true, false, false, false, false, false, false, false, false]) h14128q rfl rfl (by kernel_rfl) rfl rfl ⟨(hS13954q.cells (vs := ([.int .u8 1, .int .u32 2] : List Value)) rfl), trivial⟩ (fun _ _ _ h_ => h_) (fun a14129q h14130q => ?_)
            clear h14128q a14127q
            refine WH.skip 42 (listed' := #[true, true, true, true, true, true, true, true, true, true, true, true, true, true, true, true, true, true, true, true, true, true, true, true, true, true, true, true, true, true, true, true, true, true, true, true, true, true, true, true, true, true, true, false, false, false, false, false, false, false]) h14130q rfl rfl (by kernel_rfl) rfl rfl ⟨(hS13954q.cells (vs := ([.int .u8 1, .int .u32 2] : List Value)) rfl), trivial⟩ (fun _ _ _ h_ => h_) (fun a14131q h14132q => ?_)
            clear h14130q a14129q
            refine WH.take 43 (listed' := #[true, true, true, true, true, true, true, true, true, true, true, true, true, true, true, true, true, true, true, true, true, true, true, true, true, true, true, true, true, true, true, true, true, true, true, true, true, true, true, true, true, true, true, true, false, false, false, false, false, false]) h14132q rfl rfl (by kernel_rfl) rfl rfl (.bool false) (fun _ _ => by kernel_rfl) ⟨(hS13954q.cells (vs := ([.int .u8 1, .int .u32 2] : List Value)) rfl), trivial⟩ (fun _ _ _ h_ => h_) (fun a14133q h14134q => ?_)
            clear h14132q a14131q
            refine WH.take 44 (listed' := #[true, true, true, true, true, true, true, true, true, true, true, true, true, true, true, true, true, true, true, true, true, true, true, true, true, true, true, true, true, true, true, true, true, true, true, true, true, true, true, true, true, true, true, true, true, false, false, false, false, false]) h14134q rfl rfl (by kernel_rfl) rfl rfl (.bool false) (fun _ _ => by kernel_rfl) ⟨(hS13954q.cells (vs := ([.int .u8 1, .int .u32 2] : List Value)) rfl), trivial⟩ (fun _ _ _ h_ => h_) (fun a14135q h14136q => ?_)
            clear h14134q a14133q
            refine WH.skip 45 (listed' := #[true, true, true, true, true, true, true, true, true, true, true, true, true, true, true, true, true, true, true, true, true, true, true, true, true, true, true, true, true, true, true, true, true, true, true, true, true, true, true, true, true, true, true, true, true, true, false, false, false, false]) h14136q rfl rfl (by kernel_rfl) rfl rfl ⟨(hS13954q.cells (vs := ([.int .u8 1, .int .u32 2] : List Value)) rfl), trivial⟩ (fun _ _ _ h_ => h_) (fun a14137q h14138q => ?_)
            clear h14136q a14135q
            refine WH.skip 46 (listed' := #[true, true, true, true, true, true, true, true, true, true, true, true, true, true, true, true, true, true, true, true, true, true, true, true, true, true, true, true, true, true, true, true, true, true, true, true, true, true, true, true, true, true, true, true, true, true, true, false, false, false]) h14138q rfl rfl (by kernel_rfl) rfl rfl ⟨(hS13954q.cells (vs := ([.int .u8 1, .int .u32 2] : List Value)) rfl), trivial⟩ (fun _ _ _ h_ => h_) (fun a14139q h14140q => ?_)
            clear h14138q a14137q
            refine WH.skip 47 (listed' := #[true, true, true, true, true, true, true, true, true, true, true, true, true, true, true, true, true, true, true, true, true, true, true, true, true, true, true, true, true, true, true, true, true, true, true, true, true, true, true, true, true, true, true, true, true, true, true, true, false, false]) h14140q rfl rfl (by kernel_rfl) rfl rfl ⟨(hS13954q.cells (vs := ([.int .u8 1, .int .u32 2] : List Value)) rfl), trivial⟩ (fun _ _ _ h_ => h_) (fun a14141q h14142q => ?_)
            clear h14140q a14139q
            refine WH.take 48 (listed' := #[true, true, true, true, true, true, true, true, true, true, true, true, true, true, true, true, true, true, true, true, true, true, true, true, true, true, true, true, true, true, true, true, true, true, true, true, true, true, true, true, true, true, true, true, true, true, true, true, true, false]) h14142q rfl rfl (by kernel_rfl) rfl rfl (.bool false) (fun _ _ => by kernel_rfl) ⟨(hS13954q.cells (vs := ([.int .u8 1, .int .u32 2] : List Value)) rfl), trivial⟩ (fun _ _ _ h_ => h_) (fun a14143q h14144q => ?_)
            clear h14142q a14141q
            refine WH.take 49 (listed' := #[true, true, true, true, true, true, true, true, true, true, true, true, true, true, true, true, true, true, true, true, true, true, true, true, true, true, true, true, true, true, true, true, true, true, true, true, true, true, true, true, true, true, true, true, true, true, true, true, true, true]) h14144q rfl rfl (by kernel_rfl) rfl rfl (.bool false) (fun _ _ => by kernel_rfl) ⟨(hS13954q.cells (vs := ([.int .u8 1, .int .u32 2] : List Value)) rfl), trivial⟩ (fun _ _ _ h_ => h_) (fun a14145q h14146q => ?_)
            clear h14144q a14143q
            refine WH.done (by kernel_rfl) ?_
            refine wp_ret ?_
            have hS14147q : St b w0 W13949q R (Fs) := hS13954q.drop_
            obtain rfl := Option.some.inj H
            repeat (first | refine then_ret ?_ | refine inBlock_ret ?_ | refine inBlock_go ?_)
            refine body_ret (v := .bool false) h14146q (by kernel_rfl) (by kernel_rfl) ?_
            exact ⟨rfl, hS14147q⟩
        · rw [if_neg c13940q] at H
          have hb_ : (decide (r13927q.f0 = 1) && decide (r13927q.f1 = 2)) = false := (Bool.eq_false_iff.2 c13940q)
          try rw [hb_] at h13939q
          clear hb_
          refine WH.skip 20 (listed' := #[true, true, true, true, true, true, true, true, true, true, true, true, true, true, true, true, true, true, true, true, true, false, false, false, false, false, false, false, false, false, false, false, false, false, false, false, false, false, false, false, false, false, false, false, false, false, false, false, false, false]) h13939q rfl rfl (by kernel_rfl) rfl rfl ⟨(hS13933q.cells (vs := ([.int .u8 1, .int .u32 2] : List Value)) rfl), trivial⟩ (fun _ _ _ h_ => h_) (fun a14148q h14149q => ?_)
          clear h13939q a13938q
          refine WH.skip 21 (listed' := #[true, true, true, true, true, true, true, true, true, true, true, true, true, true, true, true, true, true, true, true, true, true, false, false, false, false, false, false, false, false, false, false, false, false, false, false, false, false, false, false, false, false, false, false, false, false, false, false, false, false]) h14149q rfl rfl (by kernel_rfl) rfl rfl ⟨(hS13933q.cells (vs := ([.int .u8 1, .int .u32 2] : List Value)) rfl), trivial⟩ (fun _ _ _ h_ => h_) (fun a14150q h14151q => ?_)
          clear h14149q a14148q
          refine WH.skip 22 (listed' := #[true, true, true, true, true, true, true, true, true, true, true, true, true, true, true, true, true, true, true, true, true, true, true, false, false, false, false, false, false, false, false, false, false, false, false, false, false, false, false, false, false, false, false, false, false, false, false, false, false, false]) h14151q rfl rfl (by kernel_rfl) rfl rfl ⟨(hS13933q.cells (vs := ([.int .u8 1, .int .u32 2] : List Value)) rfl), trivial⟩ (fun _ _ _ h_ => h_) (fun a14152q h14153q => ?_)
          clear h14151q a14150q
          refine WH.skip 23 (listed' := #[true, true, true, true, true, true, true, true, true, true, true, true, true, true, true, true, true, true, true, true, true, true, true, true, false, false, false, false, false, false, false, false, false, false, false, false, false, false, false, false, false, false, false, false, false, false, false, false, false, false]) h14153q rfl rfl (by kernel_rfl) rfl rfl ⟨(hS13933q.cells (vs := ([.int .u8 1, .int .u32 2] : List Value)) rfl), trivial⟩ (fun _ _ _ h_ => h_) (fun a14154q h14155q => ?_)
          clear h14153q a14152q
          refine WH.skip 24 (listed' := #[true, true, true, true, true, true, true, true, true, true, true, true, true, true, true, true, true, true, true, true, true, true, true, true, true, false, false, false, false, false, false, false, false, false, false, false, false, false, false, false, false, false, false, false, false, false, false, false, false, false]) h14155q rfl rfl (by kernel_rfl) rfl rfl ⟨(hS13933q.cells (vs := ([.int .u8 1, .int .u32 2] : List Value)) rfl), trivial⟩ (fun _ _ _ h_ => h_) (fun a14156q h14157q => ?_)
          clear h14155q a14154q
          refine WH.take 25 (listed' := #[true, true, true, true, true, true, true, true, true, true, true, true, true, true, true, true, true, true, true, true, true, true, true, true, true, true, false, false, false, false, false, false, false, false, false, false, false, false, false, false, false, false, false, false, false, false, false, false, false, false]) h14157q rfl rfl (by kernel_rfl) rfl rfl (.bool false) (fun _ _ => by kernel_rfl) ⟨(hS13933q.cells (vs := ([.int .u8 1, .int .u32 2] : List Value)) rfl), trivial⟩ (fun _ _ _ h_ => h_) (fun a14158q h14159q => ?_)
          clear h14157q a14156q
          refine WH.take 26 (listed' := #[true, true, true, true, true, true, true, true, true, true, true, true, true, true, true, true, true, true, true, true, true, true, true, true, true, true, true, false, false, false, false, false, false, false, false, false, false, false, false, false, false, false, false, false, false, false, false, false, false, false]) h14159q rfl rfl (by kernel_rfl) rfl rfl (.bool false) (fun _ _ => by kernel_rfl) ⟨(hS13933q.cells (vs := ([.int .u8 1, .int .u32 2] : List Value)) rfl), trivial⟩ (fun _ _ _ h_ => h_) (fun a14160q h14161q => ?_)
          clear h14159q a14158q
          refine WH.skip 27 (listed' := #[true, true, true, true, true, true, true, true, true, true, true, true, true, true, true, true, true, true, true, true, true, true, true, true, true, true, true, true, false, false, false, false, false, false, false, false, false, false, false, false, false, false, false, false, false, false, false, false, false, false]) h14161q rfl rfl (by kernel_rfl) rfl rfl ⟨(hS13933q.cells (vs := ([.int .u8 1, .int .u32 2] : List Value)) rfl), trivial⟩ (fun _ _ _ h_ => h_) (fun a14162q h14163q => ?_)
          clear h14161q a14160q
          refine WH.skip 28 (listed' := #[true, true, true, true, true, true, true, true, true, true, true, true, true, true, true, true, true, true, true, true, true, true, true, true, true, true, true, true, true, false, false, false, false, false, false, false, false, false, false, false, false, false, false, false, false, false, false, false, false, false]) h14163q rfl rfl (by kernel_rfl) rfl rfl ⟨(hS13933q.cells (vs := ([.int .u8 1, .int .u32 2] : List Value)) rfl), trivial⟩ (fun _ _ _ h_ => h_) (fun a14164q h14165q => ?_)
          clear h14163q a14162q
          refine WH.skip 29 (listed' := #[true, true, true, true, true, true, true, true, true, true, true, true, true, true, true, true, true, true, true, true, true, true, true, true, true, true, true, true, true, true, false, false, false, false, false, false, false, false, false, false, false, false, false, false, false, false, false, false, false, false]) h14165q rfl rfl (by kernel_rfl) rfl rfl ⟨(hS13933q.cells (vs := ([.int .u8 1, .int .u32 2] : List Value)) rfl), trivial⟩ (fun _ _ _ h_ => h_) (fun a14166q h14167q => ?_)
          clear h14165q a14164q
          refine WH.skip 30 (listed' := #[true, true, true, true, true, true, true, true, true, true, true, true, true, true, true, true, true, true, true, true, true, true, true, true, true, true, true, true, true, true, true, false, false, false, false, false, false, false, false, false, false, false, false, false, false, false, false, false, false, false]) h14167q rfl rfl (by kernel_rfl) rfl rfl ⟨(hS13933q.cells (vs := ([.int .u8 1, .int .u32 2] : List Value)) rfl), trivial⟩ (fun _ _ _ h_ => h_) (fun a14168q h14169q => ?_)
          clear h14167q a14166q
          refine WH.skip 31 (listed' := #[true, true, true, true, true, true, true, true, true, true, true, true, true, true, true, true, true, true, true, true, true, true, true, true, true, true, true, true, true, true, true, true, false, false, false, false, false, false, false, false, false, false, false, false, false, false, false, false, false, false]) h14169q rfl rfl (by kernel_rfl) rfl rfl ⟨(hS13933q.cells (vs := ([.int .u8 1, .int .u32 2] : List Value)) rfl), trivial⟩ (fun _ _ _ h_ => h_) (fun a14170q h14171q => ?_)
          clear h14169q a14168q
          refine WH.take 32 (listed' := #[true, true, true, true, true, true, true, true, true, true, true, true, true, true, true, true, true, true, true, true, true, true, true, true, true, true, true, true, true, true, true, true, true, false, false, false, false, false, false, false, false, false, false, false, false, false, false, false, false, false]) h14171q rfl rfl (by kernel_rfl) rfl rfl (.bool false) (fun _ _ => by kernel_rfl) ⟨(hS13933q.cells (vs := ([.int .u8 1, .int .u32 2] : List Value)) rfl), trivial⟩ (fun _ _ _ h_ => h_) (fun a14172q h14173q => ?_)
          clear h14171q a14170q
          refine WH.take 33 (listed' := #[true, true, true, true, true, true, true, true, true, true, true, true, true, true, true, true, true, true, true, true, true, true, true, true, true, true, true, true, true, true, true, true, true, true, false, false, false, false, false, false, false, false, false, false, false, false, false, false, false, false]) h14173q rfl rfl (by kernel_rfl) rfl rfl (.bool false) (fun _ _ => by kernel_rfl) ⟨(hS13933q.cells (vs := ([.int .u8 1, .int .u32 2] : List Value)) rfl), trivial⟩ (fun _ _ _ h_ => h_) (fun a14174q h14175q => ?_)
          clear h14173q a14172q
          refine WH.skip 34 (listed' := #[true, true, true, true, true, true, true, true, true, true, true, true, true, true, true, true, true, true, true, true, true, true, true, true, true, true, true, true, true, true, true, true, true, true, true, false, false, false, false, false, false, false, false, false, false, false, false, false, false, false]) h14175q rfl rfl (by kernel_rfl) rfl rfl ⟨(hS13933q.cells (vs := ([.int .u8 1, .int .u32 2] : List Value)) rfl), trivial⟩ (fun _ _ _ h_ => h_) (fun a14176q h14177q => ?_)
          clear h14175q a14174q
          refine WH.skip 35 (listed' := #[true, true, true, true, true, true, true, true, true, true, true, true, true, true, true, true, true, true, true, true, true, true, true, true, true, true, true, true, true, true, true, true, true, true, true, true, false, false, false, false, false, false, false, false, false, false, false, false, false, false]) h14177q rfl rfl (by kernel_rfl) rfl rfl ⟨(hS13933q.cells (vs := ([.int .u8 1, .int .u32 2] : List Value)) rfl), trivial⟩ (fun _ _ _ h_ => h_) (fun a14178q h14179q => ?_)
          clear h14177q a14176q
          refine WH.skip 36 (listed' := #[true, true, true, true, true, true, true, true, true, true, true, true, true, true, true, true, true, true, true, true, true, true, true, true, true, true, true, true, true, true, true, true, true, true, true, true, true, false, false, false, false, false, false, false, false, false, false, false, false, false]) h14179q rfl rfl (by kernel_rfl) rfl rfl ⟨(hS13933q.cells (vs := ([.int .u8 1, .int .u32 2] : List Value)) rfl), trivial⟩ (fun _ _ _ h_ => h_) (fun a14180q h14181q => ?_)
          clear h14179q a14178q
          refine WH.skip 37 (listed' := #[true, true, true, true, true, true, true, true, true, true, true, true, true, true, true, true, true, true, true, true, true, true, true, true, true, true, true, true, true, true, true, true, true, true, true, true, true, true, false, false, false, false, false, false, false, false, false, false, false, false]) h14181q rfl rfl (by kernel_rfl) rfl rfl ⟨(hS13933q.cells (vs := ([.int .u8 1, .int .u32 2] : List Value)) rfl), trivial⟩ (fun _ _ _ h_ => h_) (fun a14182q h14183q => ?_)
          clear h14181q a14180q
          refine WH.take 38 (listed' := #[true, true, true, true, true, true, true, true, true, true, true, true, true, true, true, true, true, true, true, true, true, true, true, true, true, true, true, true, true, true, true, true, true, true, true, true, true, true, true, false, false, false, false, false, false, false, false, false, false, false]) h14183q rfl rfl (by kernel_rfl) rfl rfl (.bool false) (fun _ _ => by kernel_rfl) ⟨(hS13933q.cells (vs := ([.int .u8 1, .int .u32 2] : List Value)) rfl), trivial⟩ (fun _ _ _ h_ => h_) (fun a14184q h14185q => ?_)
          clear h14183q a14182q
          refine WH.take 39 (listed' := #[true, true, true, true, true, true, true, true, true, true, true, true, true, true, true, true, true, true, true, true, true, true, true, true, true, true, true, true, true, true, true, true, true, true, true, true, true, true, true, true, false, false, false, false, false, false, false, false, false, false]) h14185q rfl rfl (by kernel_rfl) rfl rfl (.bool false) (fun _ _ => by kernel_rfl) ⟨(hS13933q.cells (vs := ([.int .u8 1, .int .u32 2] : List Value)) rfl), trivial⟩ (fun _ _ _ h_ => h_) (fun a14186q h14187q => ?_)
          clear h14185q a14184q
          refine WH.skip 40 (listed' := #[true, true, true, true, true, true, true, true, true, true, true, true, true, true, true, true, true, true, true, true, true, true, true, true, true, true, true, true, true, true, true, true, true, true, true, true, true, true, true, true, true, false, false, false, false, false, false, false, false, false]) h14187q rfl rfl (by kernel_rfl) rfl rfl ⟨(hS13933q.cells (vs := ([.int .u8 1, .int .u32 2] : List Value)) rfl), trivial⟩ (fun _ _ _ h_ => h_) (fun a14188q h14189q => ?_)
          clear h14187q a14186q
          refine WH.skip 41 (listed' := #[true, true, true, true, true, true, true, true, true, true, true, true, true, true, true, true, true, true, true, true, true, true, true, true, true, true, true, true, true, true, true, true, true, true, true, true, true, true, true, true, true, true, false, false, false, false, false, false, false, false]) h14189q rfl rfl (by kernel_rfl) rfl rfl ⟨(hS13933q.cells (vs := ([.int .u8 1, .int .u32 2] : List Value)) rfl), trivial⟩ (fun _ _ _ h_ => h_) (fun a14190q h14191q => ?_)
          clear h14189q a14188q
          refine WH.skip 42 (listed' := #[true, true, true, true, true, true, true, true, true, true, true, true, true, true, true, true, true, true, true, true, true, true, true, true, true, true, true, true, true, true, true, true, true, true, true, true, true, true, true, true, true, true, true, false, false, false, false, false, false, false]) h14191q rfl rfl (by kernel_rfl) rfl rfl ⟨(hS13933q.cells (vs := ([.int .u8 1, .int .u32 2] : List Value)) rfl), trivial⟩ (fun _ _ _ h_ => h_) (fun a14192q h14193q => ?_)
          clear h14191q a14190q
          refine WH.take 43 (listed' := #[true, true, true, true, true, true, true, true, true, true, true, true, true, true, true, true, true, true, true, true, true, true, true, true, true, true, true, true, true, true, true, true, true, true, true, true, true, true, true, true, true, true, true, true, false, false, false, false, false, false]) h14193q rfl rfl (by kernel_rfl) rfl rfl (.bool false) (fun _ _ => by kernel_rfl) ⟨(hS13933q.cells (vs := ([.int .u8 1, .int .u32 2] : List Value)) rfl), trivial⟩ (fun _ _ _ h_ => h_) (fun a14194q h14195q => ?_)
          clear h14193q a14192q
          refine WH.take 44 (listed' := #[true, true, true, true, true, true, true, true, true, true, true, true, true, true, true, true, true, true, true, true, true, true, true, true, true, true, true, true, true, true, true, true, true, true, true, true, true, true, true, true, true, true, true, true, true, false, false, false, false, false]) h14195q rfl rfl (by kernel_rfl) rfl rfl (.bool false) (fun _ _ => by kernel_rfl) ⟨(hS13933q.cells (vs := ([.int .u8 1, .int .u32 2] : List Value)) rfl), trivial⟩ (fun _ _ _ h_ => h_) (fun a14196q h14197q => ?_)
          clear h14195q a14194q
          refine WH.skip 45 (listed' := #[true, true, true, true, true, true, true, true, true, true, true, true, true, true, true, true, true, true, true, true, true, true, true, true, true, true, true, true, true, true, true, true, true, true, true, true, true, true, true, true, true, true, true, true, true, true, false, false, false, false]) h14197q rfl rfl (by kernel_rfl) rfl rfl ⟨(hS13933q.cells (vs := ([.int .u8 1, .int .u32 2] : List Value)) rfl), trivial⟩ (fun _ _ _ h_ => h_) (fun a14198q h14199q => ?_)
          clear h14197q a14196q
          refine WH.skip 46 (listed' := #[true, true, true, true, true, true, true, true, true, true, true, true, true, true, true, true, true, true, true, true, true, true, true, true, true, true, true, true, true, true, true, true, true, true, true, true, true, true, true, true, true, true, true, true, true, true, true, false, false, false]) h14199q rfl rfl (by kernel_rfl) rfl rfl ⟨(hS13933q.cells (vs := ([.int .u8 1, .int .u32 2] : List Value)) rfl), trivial⟩ (fun _ _ _ h_ => h_) (fun a14200q h14201q => ?_)
          clear h14199q a14198q
          refine WH.skip 47 (listed' := #[true, true, true, true, true, true, true, true, true, true, true, true, true, true, true, true, true, true, true, true, true, true, true, true, true, true, true, true, true, true, true, true, true, true, true, true, true, true, true, true, true, true, true, true, true, true, true, true, false, false]) h14201q rfl rfl (by kernel_rfl) rfl rfl ⟨(hS13933q.cells (vs := ([.int .u8 1, .int .u32 2] : List Value)) rfl), trivial⟩ (fun _ _ _ h_ => h_) (fun a14202q h14203q => ?_)
          clear h14201q a14200q
          refine WH.take 48 (listed' := #[true, true, true, true, true, true, true, true, true, true, true, true, true, true, true, true, true, true, true, true, true, true, true, true, true, true, true, true, true, true, true, true, true, true, true, true, true, true, true, true, true, true, true, true, true, true, true, true, true, false]) h14203q rfl rfl (by kernel_rfl) rfl rfl (.bool false) (fun _ _ => by kernel_rfl) ⟨(hS13933q.cells (vs := ([.int .u8 1, .int .u32 2] : List Value)) rfl), trivial⟩ (fun _ _ _ h_ => h_) (fun a14204q h14205q => ?_)
          clear h14203q a14202q
          refine WH.take 49 (listed' := #[true, true, true, true, true, true, true, true, true, true, true, true, true, true, true, true, true, true, true, true, true, true, true, true, true, true, true, true, true, true, true, true, true, true, true, true, true, true, true, true, true, true, true, true, true, true, true, true, true, true]) h14205q rfl rfl (by kernel_rfl) rfl rfl (.bool false) (fun _ _ => by kernel_rfl) ⟨(hS13933q.cells (vs := ([.int .u8 1, .int .u32 2] : List Value)) rfl), trivial⟩ (fun _ _ _ h_ => h_) (fun a14206q h14207q => ?_)
          clear h14205q a14204q
          refine WH.done (by kernel_rfl) ?_
          refine wp_ret ?_
          have hS14208q : St b w0 W13928q R (Fs) := hS13933q.drop_
          obtain rfl := Option.some.inj H
          repeat (first | refine then_ret ?_ | refine inBlock_ret ?_ | refine inBlock_go ?_)
          refine body_ret (v := .bool false) h14207q (by kernel_rfl) (by kernel_rfl) ?_
          exact ⟨rfl, hS14208q⟩
    · rw [if_neg c13825q] at H
      have hb_ : (decide (r13812q = 0)) = false := decide_eq_false c13825q
      try rw [hb_] at h13824q
      clear hb_
      refine WH.skip 7 (listed' := #[true, true, true, true, true, true, true, true, false, false, false, false, false, false, false, false, false, false, false, false, false, false, false, false, false, false, false, false, false, false, false, false, false, false, false, false, false, false, false, false, false, false, false, false, false, false, false, false, false, false]) h13824q rfl rfl (by kernel_rfl) rfl rfl ⟨(hS13818q.cells (vs := ([.int .u8 1, .int .u32 2] : List Value)) rfl), trivial⟩ (fun _ _ _ h_ => h_) (fun a14209q h14210q => ?_)
      clear h13824q a13823q
      refine WH.skip 8 (listed' := #[true, true, true, true, true, true, true, true, true, false, false, false, false, false, false, false, false, false, false, false, false, false, false, false, false, false, false, false, false, false, false, false, false, false, false, false, false, false, false, false, false, false, false, false, false, false, false, false, false, false]) h14210q rfl rfl (by kernel_rfl) rfl rfl ⟨(hS13818q.cells (vs := ([.int .u8 1, .int .u32 2] : List Value)) rfl), trivial⟩ (fun _ _ _ h_ => h_) (fun a14211q h14212q => ?_)
      clear h14210q a14209q
      refine WH.skip 9 (listed' := #[true, true, true, true, true, true, true, true, true, true, false, false, false, false, false, false, false, false, false, false, false, false, false, false, false, false, false, false, false, false, false, false, false, false, false, false, false, false, false, false, false, false, false, false, false, false, false, false, false, false]) h14212q rfl rfl (by kernel_rfl) rfl rfl ⟨(hS13818q.cells (vs := ([.int .u8 1, .int .u32 2] : List Value)) rfl), trivial⟩ (fun _ _ _ h_ => h_) (fun a14213q h14214q => ?_)
      clear h14212q a14211q
      refine WH.skip 10 (listed' := #[true, true, true, true, true, true, true, true, true, true, true, false, false, false, false, false, false, false, false, false, false, false, false, false, false, false, false, false, false, false, false, false, false, false, false, false, false, false, false, false, false, false, false, false, false, false, false, false, false, false]) h14214q rfl rfl (by kernel_rfl) rfl rfl ⟨(hS13818q.cells (vs := ([.int .u8 1, .int .u32 2] : List Value)) rfl), trivial⟩ (fun _ _ _ h_ => h_) (fun a14215q h14216q => ?_)
      clear h14214q a14213q
      refine WH.take 11 (listed' := #[true, true, true, true, true, true, true, true, true, true, true, true, false, false, false, false, false, false, false, false, false, false, false, false, false, false, false, false, false, false, false, false, false, false, false, false, false, false, false, false, false, false, false, false, false, false, false, false, false, false]) h14216q rfl rfl (by kernel_rfl) rfl rfl (.bool false) (fun _ _ => by kernel_rfl) ⟨(hS13818q.cells (vs := ([.int .u8 1, .int .u32 2] : List Value)) rfl), trivial⟩ (fun _ _ _ h_ => h_) (fun a14217q h14218q => ?_)
      clear h14216q a14215q
      refine WH.take 12 (listed' := #[true, true, true, true, true, true, true, true, true, true, true, true, true, false, false, false, false, false, false, false, false, false, false, false, false, false, false, false, false, false, false, false, false, false, false, false, false, false, false, false, false, false, false, false, false, false, false, false, false, false]) h14218q rfl rfl (by kernel_rfl) rfl rfl (.bool false) (fun _ _ => by kernel_rfl) ⟨(hS13818q.cells (vs := ([.int .u8 1, .int .u32 2] : List Value)) rfl), trivial⟩ (fun _ _ _ h_ => h_) (fun a14219q h14220q => ?_)
      clear h14218q a14217q
      refine WH.skip 13 (listed' := #[true, true, true, true, true, true, true, true, true, true, true, true, true, true, false, false, false, false, false, false, false, false, false, false, false, false, false, false, false, false, false, false, false, false, false, false, false, false, false, false, false, false, false, false, false, false, false, false, false, false]) h14220q rfl rfl (by kernel_rfl) rfl rfl ⟨(hS13818q.cells (vs := ([.int .u8 1, .int .u32 2] : List Value)) rfl), trivial⟩ (fun _ _ _ h_ => h_) (fun a14221q h14222q => ?_)
      clear h14220q a14219q
      refine WH.skip 14 (listed' := #[true, true, true, true, true, true, true, true, true, true, true, true, true, true, true, false, false, false, false, false, false, false, false, false, false, false, false, false, false, false, false, false, false, false, false, false, false, false, false, false, false, false, false, false, false, false, false, false, false, false]) h14222q rfl rfl (by kernel_rfl) rfl rfl ⟨(hS13818q.cells (vs := ([.int .u8 1, .int .u32 2] : List Value)) rfl), trivial⟩ (fun _ _ _ h_ => h_) (fun a14223q h14224q => ?_)
      clear h14222q a14221q
      refine WH.skip 15 (listed' := #[true, true, true, true, true, true, true, true, true, true, true, true, true, true, true, true, false, false, false, false, false, false, false, false, false, false, false, false, false, false, false, false, false, false, false, false, false, false, false, false, false, false, false, false, false, false, false, false, false, false]) h14224q rfl rfl (by kernel_rfl) rfl rfl ⟨(hS13818q.cells (vs := ([.int .u8 1, .int .u32 2] : List Value)) rfl), trivial⟩ (fun _ _ _ h_ => h_) (fun a14225q h14226q => ?_)
      clear h14224q a14223q
      refine WH.skip 16 (listed' := #[true, true, true, true, true, true, true, true, true, true, true, true, true, true, true, true, true, false, false, false, false, false, false, false, false, false, false, false, false, false, false, false, false, false, false, false, false, false, false, false, false, false, false, false, false, false, false, false, false, false]) h14226q rfl rfl (by kernel_rfl) rfl rfl ⟨(hS13818q.cells (vs := ([.int .u8 1, .int .u32 2] : List Value)) rfl), trivial⟩ (fun _ _ _ h_ => h_) (fun a14227q h14228q => ?_)
      clear h14226q a14225q
      refine WH.skip 17 (listed' := #[true, true, true, true, true, true, true, true, true, true, true, true, true, true, true, true, true, true, false, false, false, false, false, false, false, false, false, false, false, false, false, false, false, false, false, false, false, false, false, false, false, false, false, false, false, false, false, false, false, false]) h14228q rfl rfl (by kernel_rfl) rfl rfl ⟨(hS13818q.cells (vs := ([.int .u8 1, .int .u32 2] : List Value)) rfl), trivial⟩ (fun _ _ _ h_ => h_) (fun a14229q h14230q => ?_)
      clear h14228q a14227q
      refine WH.take 18 (listed' := #[true, true, true, true, true, true, true, true, true, true, true, true, true, true, true, true, true, true, true, false, false, false, false, false, false, false, false, false, false, false, false, false, false, false, false, false, false, false, false, false, false, false, false, false, false, false, false, false, false, false]) h14230q rfl rfl (by kernel_rfl) rfl rfl (.bool false) (fun _ _ => by kernel_rfl) ⟨(hS13818q.cells (vs := ([.int .u8 1, .int .u32 2] : List Value)) rfl), trivial⟩ (fun _ _ _ h_ => h_) (fun a14231q h14232q => ?_)
      clear h14230q a14229q
      refine WH.take 19 (listed' := #[true, true, true, true, true, true, true, true, true, true, true, true, true, true, true, true, true, true, true, true, false, false, false, false, false, false, false, false, false, false, false, false, false, false, false, false, false, false, false, false, false, false, false, false, false, false, false, false, false, false]) h14232q rfl rfl (by kernel_rfl) rfl rfl (.bool false) (fun _ _ => by kernel_rfl) ⟨(hS13818q.cells (vs := ([.int .u8 1, .int .u32 2] : List Value)) rfl), trivial⟩ (fun _ _ _ h_ => h_) (fun a14233q h14234q => ?_)
      clear h14232q a14231q
      refine WH.skip 20 (listed' := #[true, true, true, true, true, true, true, true, true, true, true, true, true, true, true, true, true, true, true, true, true, false, false, false, false, false, false, false, false, false, false, false, false, false, false, false, false, false, false, false, false, false, false, false, false, false, false, false, false, false]) h14234q rfl rfl (by kernel_rfl) rfl rfl ⟨(hS13818q.cells (vs := ([.int .u8 1, .int .u32 2] : List Value)) rfl), trivial⟩ (fun _ _ _ h_ => h_) (fun a14235q h14236q => ?_)
      clear h14234q a14233q
      refine WH.skip 21 (listed' := #[true, true, true, true, true, true, true, true, true, true, true, true, true, true, true, true, true, true, true, true, true, true, false, false, false, false, false, false, false, false, false, false, false, false, false, false, false, false, false, false, false, false, false, false, false, false, false, false, false, false]) h14236q rfl rfl (by kernel_rfl) rfl rfl ⟨(hS13818q.cells (vs := ([.int .u8 1, .int .u32 2] : List Value)) rfl), trivial⟩ (fun _ _ _ h_ => h_) (fun a14237q h14238q => ?_)
      clear h14236q a14235q
      refine WH.skip 22 (listed' := #[true, true, true, true, true, true, true, true, true, true, true, true, true, true, true, true, true, true, true, true, true, true, true, false, false, false, false, false, false, false, false, false, false, false, false, false, false, false, false, false, false, false, false, false, false, false, false, false, false, false]) h14238q rfl rfl (by kernel_rfl) rfl rfl ⟨(hS13818q.cells (vs := ([.int .u8 1, .int .u32 2] : List Value)) rfl), trivial⟩ (fun _ _ _ h_ => h_) (fun a14239q h14240q => ?_)
      clear h14238q a14237q
      refine WH.skip 23 (listed' := #[true, true, true, true, true, true, true, true, true, true, true, true, true, true, true, true, true, true, true, true, true, true, true, true, false, false, false, false, false, false, false, false, false, false, false, false, false, false, false, false, false, false, false, false, false, false, false, false, false, false]) h14240q rfl rfl (by kernel_rfl) rfl rfl ⟨(hS13818q.cells (vs := ([.int .u8 1, .int .u32 2] : List Value)) rfl), trivial⟩ (fun _ _ _ h_ => h_) (fun a14241q h14242q => ?_)
      clear h14240q a14239q
      refine WH.skip 24 (listed' := #[true, true, true, true, true, true, true, true, true, true, true, true, true, true, true, true, true, true, true, true, true, true, true, true, true, false, false, false, false, false, false, false, false, false, false, false, false, false, false, false, false, false, false, false, false, false, false, false, false, false]) h14242q rfl rfl (by kernel_rfl) rfl rfl ⟨(hS13818q.cells (vs := ([.int .u8 1, .int .u32 2] : List Value)) rfl), trivial⟩ (fun _ _ _ h_ => h_) (fun a14243q h14244q => ?_)
      clear h14242q a14241q
      refine WH.take 25 (listed' := #[true, true, true, true, true, true, true, true, true, true, true, true, true, true, true, true, true, true, true, true, true, true, true, true, true, true, false, false, false, false, false, false, false, false, false, false, false, false, false, false, false, false, false, false, false, false, false, false, false, false]) h14244q rfl rfl (by kernel_rfl) rfl rfl (.bool false) (fun _ _ => by kernel_rfl) ⟨(hS13818q.cells (vs := ([.int .u8 1, .int .u32 2] : List Value)) rfl), trivial⟩ (fun _ _ _ h_ => h_) (fun a14245q h14246q => ?_)
      clear h14244q a14243q
      refine WH.take 26 (listed' := #[true, true, true, true, true, true, true, true, true, true, true, true, true, true, true, true, true, true, true, true, true, true, true, true, true, true, true, false, false, false, false, false, false, false, false, false, false, false, false, false, false, false, false, false, false, false, false, false, false, false]) h14246q rfl rfl (by kernel_rfl) rfl rfl (.bool false) (fun _ _ => by kernel_rfl) ⟨(hS13818q.cells (vs := ([.int .u8 1, .int .u32 2] : List Value)) rfl), trivial⟩ (fun _ _ _ h_ => h_) (fun a14247q h14248q => ?_)
      clear h14246q a14245q
      refine WH.skip 27 (listed' := #[true, true, true, true, true, true, true, true, true, true, true, true, true, true, true, true, true, true, true, true, true, true, true, true, true, true, true, true, false, false, false, false, false, false, false, false, false, false, false, false, false, false, false, false, false, false, false, false, false, false]) h14248q rfl rfl (by kernel_rfl) rfl rfl ⟨(hS13818q.cells (vs := ([.int .u8 1, .int .u32 2] : List Value)) rfl), trivial⟩ (fun _ _ _ h_ => h_) (fun a14249q h14250q => ?_)
      clear h14248q a14247q
      refine WH.skip 28 (listed' := #[true, true, true, true, true, true, true, true, true, true, true, true, true, true, true, true, true, true, true, true, true, true, true, true, true, true, true, true, true, false, false, false, false, false, false, false, false, false, false, false, false, false, false, false, false, false, false, false, false, false]) h14250q rfl rfl (by kernel_rfl) rfl rfl ⟨(hS13818q.cells (vs := ([.int .u8 1, .int .u32 2] : List Value)) rfl), trivial⟩ (fun _ _ _ h_ => h_) (fun a14251q h14252q => ?_)
      clear h14250q a14249q
      refine WH.skip 29 (listed' := #[true, true, true, true, true, true, true, true, true, true, true, true, true, true, true, true, true, true, true, true, true, true, true, true, true, true, true, true, true, true, false, false, false, false, false, false, false, false, false, false, false, false, false, false, false, false, false, false, false, false]) h14252q rfl rfl (by kernel_rfl) rfl rfl ⟨(hS13818q.cells (vs := ([.int .u8 1, .int .u32 2] : List Value)) rfl), trivial⟩ (fun _ _ _ h_ => h_) (fun a14253q h14254q => ?_)
      clear h14252q a14251q
      refine WH.skip 30 (listed' := #[true, true, true, true, true, true, true, true, true, true, true, true, true, true, true, true, true, true, true, true, true, true, true, true, true, true, true, true, true, true, true, false, false, false, false, false, false, false, false, false, false, false, false, false, false, false, false, false, false, false]) h14254q rfl rfl (by kernel_rfl) rfl rfl ⟨(hS13818q.cells (vs := ([.int .u8 1, .int .u32 2] : List Value)) rfl), trivial⟩ (fun _ _ _ h_ => h_) (fun a14255q h14256q => ?_)
      clear h14254q a14253q
      refine WH.skip 31 (listed' := #[true, true, true, true, true, true, true, true, true, true, true, true, true, true, true, true, true, true, true, true, true, true, true, true, true, true, true, true, true, true, true, true, false, false, false, false, false, false, false, false, false, false, false, false, false, false, false, false, false, false]) h14256q rfl rfl (by kernel_rfl) rfl rfl ⟨(hS13818q.cells (vs := ([.int .u8 1, .int .u32 2] : List Value)) rfl), trivial⟩ (fun _ _ _ h_ => h_) (fun a14257q h14258q => ?_)
      clear h14256q a14255q
      refine WH.take 32 (listed' := #[true, true, true, true, true, true, true, true, true, true, true, true, true, true, true, true, true, true, true, true, true, true, true, true, true, true, true, true, true, true, true, true, true, false, false, false, false, false, false, false, false, false, false, false, false, false, false, false, false, false]) h14258q rfl rfl (by kernel_rfl) rfl rfl (.bool false) (fun _ _ => by kernel_rfl) ⟨(hS13818q.cells (vs := ([.int .u8 1, .int .u32 2] : List Value)) rfl), trivial⟩ (fun _ _ _ h_ => h_) (fun a14259q h14260q => ?_)
      clear h14258q a14257q
      refine WH.take 33 (listed' := #[true, true, true, true, true, true, true, true, true, true, true, true, true, true, true, true, true, true, true, true, true, true, true, true, true, true, true, true, true, true, true, true, true, true, false, false, false, false, false, false, false, false, false, false, false, false, false, false, false, false]) h14260q rfl rfl (by kernel_rfl) rfl rfl (.bool false) (fun _ _ => by kernel_rfl) ⟨(hS13818q.cells (vs := ([.int .u8 1, .int .u32 2] : List Value)) rfl), trivial⟩ (fun _ _ _ h_ => h_) (fun a14261q h14262q => ?_)
      clear h14260q a14259q
      refine WH.skip 34 (listed' := #[true, true, true, true, true, true, true, true, true, true, true, true, true, true, true, true, true, true, true, true, true, true, true, true, true, true, true, true, true, true, true, true, true, true, true, false, false, false, false, false, false, false, false, false, false, false, false, false, false, false]) h14262q rfl rfl (by kernel_rfl) rfl rfl ⟨(hS13818q.cells (vs := ([.int .u8 1, .int .u32 2] : List Value)) rfl), trivial⟩ (fun _ _ _ h_ => h_) (fun a14263q h14264q => ?_)
      clear h14262q a14261q
      refine WH.skip 35 (listed' := #[true, true, true, true, true, true, true, true, true, true, true, true, true, true, true, true, true, true, true, true, true, true, true, true, true, true, true, true, true, true, true, true, true, true, true, true, false, false, false, false, false, false, false, false, false, false, false, false, false, false]) h14264q rfl rfl (by kernel_rfl) rfl rfl ⟨(hS13818q.cells (vs := ([.int .u8 1, .int .u32 2] : List Value)) rfl), trivial⟩ (fun _ _ _ h_ => h_) (fun a14265q h14266q => ?_)
      clear h14264q a14263q
      refine WH.skip 36 (listed' := #[true, true, true, true, true, true, true, true, true, true, true, true, true, true, true, true, true, true, true, true, true, true, true, true, true, true, true, true, true, true, true, true, true, true, true, true, true, false, false, false, false, false, false, false, false, false, false, false, false, false]) h14266q rfl rfl (by kernel_rfl) rfl rfl ⟨(hS13818q.cells (vs := ([.int .u8 1, .int .u32 2] : List Value)) rfl), trivial⟩ (fun _ _ _ h_ => h_) (fun a14267q h14268q => ?_)
      clear h14266q a14265q
      refine WH.skip 37 (listed' := #[true, true, true, true, true, true, true, true, true, true, true, true, true, true, true, true, true, true, true, true, true, true, true, true, true, true, true, true, true, true, true, true, true, true, true, true, true, true, false, false, false, false, false, false, false, false, false, false, false, false]) h14268q rfl rfl (by kernel_rfl) rfl rfl ⟨(hS13818q.cells (vs := ([.int .u8 1, .int .u32 2] : List Value)) rfl), trivial⟩ (fun _ _ _ h_ => h_) (fun a14269q h14270q => ?_)
      clear h14268q a14267q
      refine WH.take 38 (listed' := #[true, true, true, true, true, true, true, true, true, true, true, true, true, true, true, true, true, true, true, true, true, true, true, true, true, true, true, true, true, true, true, true, true, true, true, true, true, true, true, false, false, false, false, false, false, false, false, false, false, false]) h14270q rfl rfl (by kernel_rfl) rfl rfl (.bool false) (fun _ _ => by kernel_rfl) ⟨(hS13818q.cells (vs := ([.int .u8 1, .int .u32 2] : List Value)) rfl), trivial⟩ (fun _ _ _ h_ => h_) (fun a14271q h14272q => ?_)
      clear h14270q a14269q
      refine WH.take 39 (listed' := #[true, true, true, true, true, true, true, true, true, true, true, true, true, true, true, true, true, true, true, true, true, true, true, true, true, true, true, true, true, true, true, true, true, true, true, true, true, true, true, true, false, false, false, false, false, false, false, false, false, false]) h14272q rfl rfl (by kernel_rfl) rfl rfl (.bool false) (fun _ _ => by kernel_rfl) ⟨(hS13818q.cells (vs := ([.int .u8 1, .int .u32 2] : List Value)) rfl), trivial⟩ (fun _ _ _ h_ => h_) (fun a14273q h14274q => ?_)
      clear h14272q a14271q
      refine WH.skip 40 (listed' := #[true, true, true, true, true, true, true, true, true, true, true, true, true, true, true, true, true, true, true, true, true, true, true, true, true, true, true, true, true, true, true, true, true, true, true, true, true, true, true, true, true, false, false, false, false, false, false, false, false, false]) h14274q rfl rfl (by kernel_rfl) rfl rfl ⟨(hS13818q.cells (vs := ([.int .u8 1, .int .u32 2] : List Value)) rfl), trivial⟩ (fun _ _ _ h_ => h_) (fun a14275q h14276q => ?_)
      clear h14274q a14273q
      refine WH.skip 41 (listed' := #[true, true, true, true, true, true, true, true, true, true, true, true, true, true, true, true, true, true, true, true, true, true, true, true, true, true, true, true, true, true, true, true, true, true, true, true, true, true, true, true, true, true, false, false, false, false, false, false, false, false]) h14276q rfl rfl (by kernel_rfl) rfl rfl ⟨(hS13818q.cells (vs := ([.int .u8 1, .int .u32 2] : List Value)) rfl), trivial⟩ (fun _ _ _ h_ => h_) (fun a14277q h14278q => ?_)
      clear h14276q a14275q
      refine WH.skip 42 (listed' := #[true, true, true, true, true, true, true, true, true, true, true, true, true, true, true, true, true, true, true, true, true, true, true, true, true, true, true, true, true, true, true, true, true, true, true, true, true, true, true, true, true, true, true, false, false, false, false, false, false, false]) h14278q rfl rfl (by kernel_rfl) rfl rfl ⟨(hS13818q.cells (vs := ([.int .u8 1, .int .u32 2] : List Value)) rfl), trivial⟩ (fun _ _ _ h_ => h_) (fun a14279q h14280q => ?_)
      clear h14278q a14277q
      refine WH.take 43 (listed' := #[true, true, true, true, true, true, true, true, true, true, true, true, true, true, true, true, true, true, true, true, true, true, true, true, true, true, true, true, true, true, true, true, true, true, true, true, true, true, true, true, true, true, true, true, false, false, false, false, false, false]) h14280q rfl rfl (by kernel_rfl) rfl rfl (.bool false) (fun _ _ => by kernel_rfl) ⟨(hS13818q.cells (vs := ([.int .u8 1, .int .u32 2] : List Value)) rfl), trivial⟩ (fun _ _ _ h_ => h_) (fun a14281q h14282q => ?_)
      clear h14280q a14279q
      refine WH.take 44 (listed' := #[true, true, true, true, true, true, true, true, true, true, true, true, true, true, true, true, true, true, true, true, true, true, true, true, true, true, true, true, true, true, true, true, true, true, true, true, true, true, true, true, true, true, true, true, true, false, false, false, false, false]) h14282q rfl rfl (by kernel_rfl) rfl rfl (.bool false) (fun _ _ => by kernel_rfl) ⟨(hS13818q.cells (vs := ([.int .u8 1, .int .u32 2] : List Value)) rfl), trivial⟩ (fun _ _ _ h_ => h_) (fun a14283q h14284q => ?_)
      clear h14282q a14281q
      refine WH.skip 45 (listed' := #[true, true, true, true, true, true, true, true, true, true, true, true, true, true, true, true, true, true, true, true, true, true, true, true, true, true, true, true, true, true, true, true, true, true, true, true, true, true, true, true, true, true, true, true, true, true, false, false, false, false]) h14284q rfl rfl (by kernel_rfl) rfl rfl ⟨(hS13818q.cells (vs := ([.int .u8 1, .int .u32 2] : List Value)) rfl), trivial⟩ (fun _ _ _ h_ => h_) (fun a14285q h14286q => ?_)
      clear h14284q a14283q
      refine WH.skip 46 (listed' := #[true, true, true, true, true, true, true, true, true, true, true, true, true, true, true, true, true, true, true, true, true, true, true, true, true, true, true, true, true, true, true, true, true, true, true, true, true, true, true, true, true, true, true, true, true, true, true, false, false, false]) h14286q rfl rfl (by kernel_rfl) rfl rfl ⟨(hS13818q.cells (vs := ([.int .u8 1, .int .u32 2] : List Value)) rfl), trivial⟩ (fun _ _ _ h_ => h_) (fun a14287q h14288q => ?_)
      clear h14286q a14285q
      refine WH.skip 47 (listed' := #[true, true, true, true, true, true, true, true, true, true, true, true, true, true, true, true, true, true, true, true, true, true, true, true, true, true, true, true, true, true, true, true, true, true, true, true, true, true, true, true, true, true, true, true, true, true, true, true, false, false]) h14288q rfl rfl (by kernel_rfl) rfl rfl ⟨(hS13818q.cells (vs := ([.int .u8 1, .int .u32 2] : List Value)) rfl), trivial⟩ (fun _ _ _ h_ => h_) (fun a14289q h14290q => ?_)
      clear h14288q a14287q
      refine WH.take 48 (listed' := #[true, true, true, true, true, true, true, true, true, true, true, true, true, true, true, true, true, true, true, true, true, true, true, true, true, true, true, true, true, true, true, true, true, true, true, true, true, true, true, true, true, true, true, true, true, true, true, true, true, false]) h14290q rfl rfl (by kernel_rfl) rfl rfl (.bool false) (fun _ _ => by kernel_rfl) ⟨(hS13818q.cells (vs := ([.int .u8 1, .int .u32 2] : List Value)) rfl), trivial⟩ (fun _ _ _ h_ => h_) (fun a14291q h14292q => ?_)
      clear h14290q a14289q
      refine WH.take 49 (listed' := #[true, true, true, true, true, true, true, true, true, true, true, true, true, true, true, true, true, true, true, true, true, true, true, true, true, true, true, true, true, true, true, true, true, true, true, true, true, true, true, true, true, true, true, true, true, true, true, true, true, true]) h14292q rfl rfl (by kernel_rfl) rfl rfl (.bool false) (fun _ _ => by kernel_rfl) ⟨(hS13818q.cells (vs := ([.int .u8 1, .int .u32 2] : List Value)) rfl), trivial⟩ (fun _ _ _ h_ => h_) (fun a14293q h14294q => ?_)
      clear h14292q a14291q
      refine WH.done (by kernel_rfl) ?_
      refine wp_ret ?_
      have hS14295q : St b w0 W13813q R (Fs) := hS13818q.drop_
      obtain rfl := Option.some.inj H
      repeat (first | refine then_ret ?_ | refine inBlock_ret ?_ | refine inBlock_go ?_)
      refine body_ret (v := .bool false) h14294q (by kernel_rfl) (by kernel_rfl) ?_
      exact ⟨rfl, hS14295q⟩
  · rw [if_neg c13808q] at H
    have hb_ : r13799q = false := (Bool.eq_false_iff.2 c13808q)
    try rw [hb_] at h13807q
    clear hb_
    refine WH.skip 2 (listed' := #[true, true, true, false, false, false, false, false, false, false, false, false, false, false, false, false, false, false, false, false, false, false, false, false, false, false, false, false, false, false, false, false, false, false, false, false, false, false, false, false, false, false, false, false, false, false, false, false, false, false]) h13807q rfl rfl (by kernel_rfl) rfl rfl ⟨(hS13805q.cells (vs := ([.int .u8 1, .int .u32 2] : List Value)) rfl), trivial⟩ (fun _ _ _ h_ => h_) (fun a14296q h14297q => ?_)
    clear h13807q a13806q
    refine WH.skip 3 (listed' := #[true, true, true, true, false, false, false, false, false, false, false, false, false, false, false, false, false, false, false, false, false, false, false, false, false, false, false, false, false, false, false, false, false, false, false, false, false, false, false, false, false, false, false, false, false, false, false, false, false, false]) h14297q rfl rfl (by kernel_rfl) rfl rfl ⟨(hS13805q.cells (vs := ([.int .u8 1, .int .u32 2] : List Value)) rfl), trivial⟩ (fun _ _ _ h_ => h_) (fun a14298q h14299q => ?_)
    clear h14297q a14296q
    refine WH.skip 4 (listed' := #[true, true, true, true, true, false, false, false, false, false, false, false, false, false, false, false, false, false, false, false, false, false, false, false, false, false, false, false, false, false, false, false, false, false, false, false, false, false, false, false, false, false, false, false, false, false, false, false, false, false]) h14299q rfl rfl (by kernel_rfl) rfl rfl ⟨(hS13805q.cells (vs := ([.int .u8 1, .int .u32 2] : List Value)) rfl), trivial⟩ (fun _ _ _ h_ => h_) (fun a14300q h14301q => ?_)
    clear h14299q a14298q
    refine WH.take 5 (listed' := #[true, true, true, true, true, true, false, false, false, false, false, false, false, false, false, false, false, false, false, false, false, false, false, false, false, false, false, false, false, false, false, false, false, false, false, false, false, false, false, false, false, false, false, false, false, false, false, false, false, false]) h14301q rfl rfl (by kernel_rfl) rfl rfl (.bool false) (fun _ _ => by kernel_rfl) ⟨(hS13805q.cells (vs := ([.int .u8 1, .int .u32 2] : List Value)) rfl), trivial⟩ (fun _ _ _ h_ => h_) (fun a14302q h14303q => ?_)
    clear h14301q a14300q
    refine WH.take 6 (listed' := #[true, true, true, true, true, true, true, false, false, false, false, false, false, false, false, false, false, false, false, false, false, false, false, false, false, false, false, false, false, false, false, false, false, false, false, false, false, false, false, false, false, false, false, false, false, false, false, false, false, false]) h14303q rfl rfl (by kernel_rfl) rfl rfl (.bool false) (fun _ _ => by kernel_rfl) ⟨(hS13805q.cells (vs := ([.int .u8 1, .int .u32 2] : List Value)) rfl), trivial⟩ (fun _ _ _ h_ => h_) (fun a14304q h14305q => ?_)
    clear h14303q a14302q
    refine WH.skip 7 (listed' := #[true, true, true, true, true, true, true, true, false, false, false, false, false, false, false, false, false, false, false, false, false, false, false, false, false, false, false, false, false, false, false, false, false, false, false, false, false, false, false, false, false, false, false, false, false, false, false, false, false, false]) h14305q rfl rfl (by kernel_rfl) rfl rfl ⟨(hS13805q.cells (vs := ([.int .u8 1, .int .u32 2] : List Value)) rfl), trivial⟩ (fun _ _ _ h_ => h_) (fun a14306q h14307q => ?_)
    clear h14305q a14304q
    refine WH.skip 8 (listed' := #[true, true, true, true, true, true, true, true, true, false, false, false, false, false, false, false, false, false, false, false, false, false, false, false, false, false, false, false, false, false, false, false, false, false, false, false, false, false, false, false, false, false, false, false, false, false, false, false, false, false]) h14307q rfl rfl (by kernel_rfl) rfl rfl ⟨(hS13805q.cells (vs := ([.int .u8 1, .int .u32 2] : List Value)) rfl), trivial⟩ (fun _ _ _ h_ => h_) (fun a14308q h14309q => ?_)
    clear h14307q a14306q
    refine WH.skip 9 (listed' := #[true, true, true, true, true, true, true, true, true, true, false, false, false, false, false, false, false, false, false, false, false, false, false, false, false, false, false, false, false, false, false, false, false, false, false, false, false, false, false, false, false, false, false, false, false, false, false, false, false, false]) h14309q rfl rfl (by kernel_rfl) rfl rfl ⟨(hS13805q.cells (vs := ([.int .u8 1, .int .u32 2] : List Value)) rfl), trivial⟩ (fun _ _ _ h_ => h_) (fun a14310q h14311q => ?_)
    clear h14309q a14308q
    refine WH.skip 10 (listed' := #[true, true, true, true, true, true, true, true, true, true, true, false, false, false, false, false, false, false, false, false, false, false, false, false, false, false, false, false, false, false, false, false, false, false, false, false, false, false, false, false, false, false, false, false, false, false, false, false, false, false]) h14311q rfl rfl (by kernel_rfl) rfl rfl ⟨(hS13805q.cells (vs := ([.int .u8 1, .int .u32 2] : List Value)) rfl), trivial⟩ (fun _ _ _ h_ => h_) (fun a14312q h14313q => ?_)
    clear h14311q a14310q
    refine WH.take 11 (listed' := #[true, true, true, true, true, true, true, true, true, true, true, true, false, false, false, false, false, false, false, false, false, false, false, false, false, false, false, false, false, false, false, false, false, false, false, false, false, false, false, false, false, false, false, false, false, false, false, false, false, false]) h14313q rfl rfl (by kernel_rfl) rfl rfl (.bool false) (fun _ _ => by kernel_rfl) ⟨(hS13805q.cells (vs := ([.int .u8 1, .int .u32 2] : List Value)) rfl), trivial⟩ (fun _ _ _ h_ => h_) (fun a14314q h14315q => ?_)
    clear h14313q a14312q
    refine WH.take 12 (listed' := #[true, true, true, true, true, true, true, true, true, true, true, true, true, false, false, false, false, false, false, false, false, false, false, false, false, false, false, false, false, false, false, false, false, false, false, false, false, false, false, false, false, false, false, false, false, false, false, false, false, false]) h14315q rfl rfl (by kernel_rfl) rfl rfl (.bool false) (fun _ _ => by kernel_rfl) ⟨(hS13805q.cells (vs := ([.int .u8 1, .int .u32 2] : List Value)) rfl), trivial⟩ (fun _ _ _ h_ => h_) (fun a14316q h14317q => ?_)
    clear h14315q a14314q
    refine WH.skip 13 (listed' := #[true, true, true, true, true, true, true, true, true, true, true, true, true, true, false, false, false, false, false, false, false, false, false, false, false, false, false, false, false, false, false, false, false, false, false, false, false, false, false, false, false, false, false, false, false, false, false, false, false, false]) h14317q rfl rfl (by kernel_rfl) rfl rfl ⟨(hS13805q.cells (vs := ([.int .u8 1, .int .u32 2] : List Value)) rfl), trivial⟩ (fun _ _ _ h_ => h_) (fun a14318q h14319q => ?_)
    clear h14317q a14316q
    refine WH.skip 14 (listed' := #[true, true, true, true, true, true, true, true, true, true, true, true, true, true, true, false, false, false, false, false, false, false, false, false, false, false, false, false, false, false, false, false, false, false, false, false, false, false, false, false, false, false, false, false, false, false, false, false, false, false]) h14319q rfl rfl (by kernel_rfl) rfl rfl ⟨(hS13805q.cells (vs := ([.int .u8 1, .int .u32 2] : List Value)) rfl), trivial⟩ (fun _ _ _ h_ => h_) (fun a14320q h14321q => ?_)
    clear h14319q a14318q
    refine WH.skip 15 (listed' := #[true, true, true, true, true, true, true, true, true, true, true, true, true, true, true, true, false, false, false, false, false, false, false, false, false, false, false, false, false, false, false, false, false, false, false, false, false, false, false, false, false, false, false, false, false, false, false, false, false, false]) h14321q rfl rfl (by kernel_rfl) rfl rfl ⟨(hS13805q.cells (vs := ([.int .u8 1, .int .u32 2] : List Value)) rfl), trivial⟩ (fun _ _ _ h_ => h_) (fun a14322q h14323q => ?_)
    clear h14321q a14320q
    refine WH.skip 16 (listed' := #[true, true, true, true, true, true, true, true, true, true, true, true, true, true, true, true, true, false, false, false, false, false, false, false, false, false, false, false, false, false, false, false, false, false, false, false, false, false, false, false, false, false, false, false, false, false, false, false, false, false]) h14323q rfl rfl (by kernel_rfl) rfl rfl ⟨(hS13805q.cells (vs := ([.int .u8 1, .int .u32 2] : List Value)) rfl), trivial⟩ (fun _ _ _ h_ => h_) (fun a14324q h14325q => ?_)
    clear h14323q a14322q
    refine WH.skip 17 (listed' := #[true, true, true, true, true, true, true, true, true, true, true, true, true, true, true, true, true, true, false, false, false, false, false, false, false, false, false, false, false, false, false, false, false, false, false, false, false, false, false, false, false, false, false, false, false, false, false, false, false, false]) h14325q rfl rfl (by kernel_rfl) rfl rfl ⟨(hS13805q.cells (vs := ([.int .u8 1, .int .u32 2] : List Value)) rfl), trivial⟩ (fun _ _ _ h_ => h_) (fun a14326q h14327q => ?_)
    clear h14325q a14324q
    refine WH.take 18 (listed' := #[true, true, true, true, true, true, true, true, true, true, true, true, true, true, true, true, true, true, true, false, false, false, false, false, false, false, false, false, false, false, false, false, false, false, false, false, false, false, false, false, false, false, false, false, false, false, false, false, false, false]) h14327q rfl rfl (by kernel_rfl) rfl rfl (.bool false) (fun _ _ => by kernel_rfl) ⟨(hS13805q.cells (vs := ([.int .u8 1, .int .u32 2] : List Value)) rfl), trivial⟩ (fun _ _ _ h_ => h_) (fun a14328q h14329q => ?_)
    clear h14327q a14326q
    refine WH.take 19 (listed' := #[true, true, true, true, true, true, true, true, true, true, true, true, true, true, true, true, true, true, true, true, false, false, false, false, false, false, false, false, false, false, false, false, false, false, false, false, false, false, false, false, false, false, false, false, false, false, false, false, false, false]) h14329q rfl rfl (by kernel_rfl) rfl rfl (.bool false) (fun _ _ => by kernel_rfl) ⟨(hS13805q.cells (vs := ([.int .u8 1, .int .u32 2] : List Value)) rfl), trivial⟩ (fun _ _ _ h_ => h_) (fun a14330q h14331q => ?_)
    clear h14329q a14328q
    refine WH.skip 20 (listed' := #[true, true, true, true, true, true, true, true, true, true, true, true, true, true, true, true, true, true, true, true, true, false, false, false, false, false, false, false, false, false, false, false, false, false, false, false, false, false, false, false, false, false, false, false, false, false, false, false, false, false]) h14331q rfl rfl (by kernel_rfl) rfl rfl ⟨(hS13805q.cells (vs := ([.int .u8 1, .int .u32 2] : List Value)) rfl), trivial⟩ (fun _ _ _ h_ => h_) (fun a14332q h14333q => ?_)
    clear h14331q a14330q
    refine WH.skip 21 (listed' := #[true, true, true, true, true, true, true, true, true, true, true, true, true, true, true, true, true, true, true, true, true, true, false, false, false, false, false, false, false, false, false, false, false, false, false, false, false, false, false, false, false, false, false, false, false, false, false, false, false, false]) h14333q rfl rfl (by kernel_rfl) rfl rfl ⟨(hS13805q.cells (vs := ([.int .u8 1, .int .u32 2] : List Value)) rfl), trivial⟩ (fun _ _ _ h_ => h_) (fun a14334q h14335q => ?_)
    clear h14333q a14332q
    refine WH.skip 22 (listed' := #[true, true, true, true, true, true, true, true, true, true, true, true, true, true, true, true, true, true, true, true, true, true, true, false, false, false, false, false, false, false, false, false, false, false, false, false, false, false, false, false, false, false, false, false, false, false, false, false, false, false]) h14335q rfl rfl (by kernel_rfl) rfl rfl ⟨(hS13805q.cells (vs := ([.int .u8 1, .int .u32 2] : List Value)) rfl), trivial⟩ (fun _ _ _ h_ => h_) (fun a14336q h14337q => ?_)
    clear h14335q a14334q
    refine WH.skip 23 (listed' := #[true, true, true, true, true, true, true, true, true, true, true, true, true, true, true, true, true, true, true, true, true, true, true, true, false, false, false, false, false, false, false, false, false, false, false, false, false, false, false, false, false, false, false, false, false, false, false, false, false, false]) h14337q rfl rfl (by kernel_rfl) rfl rfl ⟨(hS13805q.cells (vs := ([.int .u8 1, .int .u32 2] : List Value)) rfl), trivial⟩ (fun _ _ _ h_ => h_) (fun a14338q h14339q => ?_)
    clear h14337q a14336q
    refine WH.skip 24 (listed' := #[true, true, true, true, true, true, true, true, true, true, true, true, true, true, true, true, true, true, true, true, true, true, true, true, true, false, false, false, false, false, false, false, false, false, false, false, false, false, false, false, false, false, false, false, false, false, false, false, false, false]) h14339q rfl rfl (by kernel_rfl) rfl rfl ⟨(hS13805q.cells (vs := ([.int .u8 1, .int .u32 2] : List Value)) rfl), trivial⟩ (fun _ _ _ h_ => h_) (fun a14340q h14341q => ?_)
    clear h14339q a14338q
    refine WH.take 25 (listed' := #[true, true, true, true, true, true, true, true, true, true, true, true, true, true, true, true, true, true, true, true, true, true, true, true, true, true, false, false, false, false, false, false, false, false, false, false, false, false, false, false, false, false, false, false, false, false, false, false, false, false]) h14341q rfl rfl (by kernel_rfl) rfl rfl (.bool false) (fun _ _ => by kernel_rfl) ⟨(hS13805q.cells (vs := ([.int .u8 1, .int .u32 2] : List Value)) rfl), trivial⟩ (fun _ _ _ h_ => h_) (fun a14342q h14343q => ?_)
    clear h14341q a14340q
    refine WH.take 26 (listed' := #[true, true, true, true, true, true, true, true, true, true, true, true, true, true, true, true, true, true, true, true, true, true, true, true, true, true, true, false, false, false, false, false, false, false, false, false, false, false, false, false, false, false, false, false, false, false, false, false, false, false]) h14343q rfl rfl (by kernel_rfl) rfl rfl (.bool false) (fun _ _ => by kernel_rfl) ⟨(hS13805q.cells (vs := ([.int .u8 1, .int .u32 2] : List Value)) rfl), trivial⟩ (fun _ _ _ h_ => h_) (fun a14344q h14345q => ?_)
    clear h14343q a14342q
    refine WH.skip 27 (listed' := #[true, true, true, true, true, true, true, true, true, true, true, true, true, true, true, true, true, true, true, true, true, true, true, true, true, true, true, true, false, false, false, false, false, false, false, false, false, false, false, false, false, false, false, false, false, false, false, false, false, false]) h14345q rfl rfl (by kernel_rfl) rfl rfl ⟨(hS13805q.cells (vs := ([.int .u8 1, .int .u32 2] : List Value)) rfl), trivial⟩ (fun _ _ _ h_ => h_) (fun a14346q h14347q => ?_)
    clear h14345q a14344q
    refine WH.skip 28 (listed' := #[true, true, true, true, true, true, true, true, true, true, true, true, true, true, true, true, true, true, true, true, true, true, true, true, true, true, true, true, true, false, false, false, false, false, false, false, false, false, false, false, false, false, false, false, false, false, false, false, false, false]) h14347q rfl rfl (by kernel_rfl) rfl rfl ⟨(hS13805q.cells (vs := ([.int .u8 1, .int .u32 2] : List Value)) rfl), trivial⟩ (fun _ _ _ h_ => h_) (fun a14348q h14349q => ?_)
    clear h14347q a14346q
    refine WH.skip 29 (listed' := #[true, true, true, true, true, true, true, true, true, true, true, true, true, true, true, true, true, true, true, true, true, true, true, true, true, true, true, true, true, true, false, false, false, false, false, false, false, false, false, false, false, false, false, false, false, false, false, false, false, false]) h14349q rfl rfl (by kernel_rfl) rfl rfl ⟨(hS13805q.cells (vs := ([.int .u8 1, .int .u32 2] : List Value)) rfl), trivial⟩ (fun _ _ _ h_ => h_) (fun a14350q h14351q => ?_)
    clear h14349q a14348q
    refine WH.skip 30 (listed' := #[true, true, true, true, true, true, true, true, true, true, true, true, true, true, true, true, true, true, true, true, true, true, true, true, true, true, true, true, true, true, true, false, false, false, false, false, false, false, false, false, false, false, false, false, false, false, false, false, false, false]) h14351q rfl rfl (by kernel_rfl) rfl rfl ⟨(hS13805q.cells (vs := ([.int .u8 1, .int .u32 2] : List Value)) rfl), trivial⟩ (fun _ _ _ h_ => h_) (fun a14352q h14353q => ?_)
    clear h14351q a14350q
    refine WH.skip 31 (listed' := #[true, true, true, true, true, true, true, true, true, true, true, true, true, true, true, true, true, true, true, true, true, true, true, true, true, true, true, true, true, true, true, true, false, false, false, false, false, false, false, false, false, false, false, false, false, false, false, false, false, false]) h14353q rfl rfl (by kernel_rfl) rfl rfl ⟨(hS13805q.cells (vs := ([.int .u8 1, .int .u32 2] : List Value)) rfl), trivial⟩ (fun _ _ _ h_ => h_) (fun a14354q h14355q => ?_)
    clear h14353q a14352q
    refine WH.take 32 (listed' := #[true, true, true, true, true, true, true, true, true, true, true, true, true, true, true, true, true, true, true, true, true, true, true, true, true, true, true, true, true, true, true, true, true, false, false, false, false, false, false, false, false, false, false, false, false, false, false, false, false, false]) h14355q rfl rfl (by kernel_rfl) rfl rfl (.bool false) (fun _ _ => by kernel_rfl) ⟨(hS13805q.cells (vs := ([.int .u8 1, .int .u32 2] : List Value)) rfl), trivial⟩ (fun _ _ _ h_ => h_) (fun a14356q h14357q => ?_)
    clear h14355q a14354q
    refine WH.take 33 (listed' := #[true, true, true, true, true, true, true, true, true, true, true, true, true, true, true, true, true, true, true, true, true, true, true, true, true, true, true, true, true, true, true, true, true, true, false, false, false, false, false, false, false, false, false, false, false, false, false, false, false, false]) h14357q rfl rfl (by kernel_rfl) rfl rfl (.bool false) (fun _ _ => by kernel_rfl) ⟨(hS13805q.cells (vs := ([.int .u8 1, .int .u32 2] : List Value)) rfl), trivial⟩ (fun _ _ _ h_ => h_) (fun a14358q h14359q => ?_)
    clear h14357q a14356q
    refine WH.skip 34 (listed' := #[true, true, true, true, true, true, true, true, true, true, true, true, true, true, true, true, true, true, true, true, true, true, true, true, true, true, true, true, true, true, true, true, true, true, true, false, false, false, false, false, false, false, false, false, false, false, false, false, false, false]) h14359q rfl rfl (by kernel_rfl) rfl rfl ⟨(hS13805q.cells (vs := ([.int .u8 1, .int .u32 2] : List Value)) rfl), trivial⟩ (fun _ _ _ h_ => h_) (fun a14360q h14361q => ?_)
    clear h14359q a14358q
    refine WH.skip 35 (listed' := #[true, true, true, true, true, true, true, true, true, true, true, true, true, true, true, true, true, true, true, true, true, true, true, true, true, true, true, true, true, true, true, true, true, true, true, true, false, false, false, false, false, false, false, false, false, false, false, false, false, false]) h14361q rfl rfl (by kernel_rfl) rfl rfl ⟨(hS13805q.cells (vs := ([.int .u8 1, .int .u32 2] : List Value)) rfl), trivial⟩ (fun _ _ _ h_ => h_) (fun a14362q h14363q => ?_)
    clear h14361q a14360q
    refine WH.skip 36 (listed' := #[true, true, true, true, true, true, true, true, true, true, true, true, true, true, true, true, true, true, true, true, true, true, true, true, true, true, true, true, true, true, true, true, true, true, true, true, true, false, false, false, false, false, false, false, false, false, false, false, false, false]) h14363q rfl rfl (by kernel_rfl) rfl rfl ⟨(hS13805q.cells (vs := ([.int .u8 1, .int .u32 2] : List Value)) rfl), trivial⟩ (fun _ _ _ h_ => h_) (fun a14364q h14365q => ?_)
    clear h14363q a14362q
    refine WH.skip 37 (listed' := #[true, true, true, true, true, true, true, true, true, true, true, true, true, true, true, true, true, true, true, true, true, true, true, true, true, true, true, true, true, true, true, true, true, true, true, true, true, true, false, false, false, false, false, false, false, false, false, false, false, false]) h14365q rfl rfl (by kernel_rfl) rfl rfl ⟨(hS13805q.cells (vs := ([.int .u8 1, .int .u32 2] : List Value)) rfl), trivial⟩ (fun _ _ _ h_ => h_) (fun a14366q h14367q => ?_)
    clear h14365q a14364q
    refine WH.take 38 (listed' := #[true, true, true, true, true, true, true, true, true, true, true, true, true, true, true, true, true, true, true, true, true, true, true, true, true, true, true, true, true, true, true, true, true, true, true, true, true, true, true, false, false, false, false, false, false, false, false, false, false, false]) h14367q rfl rfl (by kernel_rfl) rfl rfl (.bool false) (fun _ _ => by kernel_rfl) ⟨(hS13805q.cells (vs := ([.int .u8 1, .int .u32 2] : List Value)) rfl), trivial⟩ (fun _ _ _ h_ => h_) (fun a14368q h14369q => ?_)
    clear h14367q a14366q
    refine WH.take 39 (listed' := #[true, true, true, true, true, true, true, true, true, true, true, true, true, true, true, true, true, true, true, true, true, true, true, true, true, true, true, true, true, true, true, true, true, true, true, true, true, true, true, true, false, false, false, false, false, false, false, false, false, false]) h14369q rfl rfl (by kernel_rfl) rfl rfl (.bool false) (fun _ _ => by kernel_rfl) ⟨(hS13805q.cells (vs := ([.int .u8 1, .int .u32 2] : List Value)) rfl), trivial⟩ (fun _ _ _ h_ => h_) (fun a14370q h14371q => ?_)
    clear h14369q a14368q
    refine WH.skip 40 (listed' := #[true, true, true, true, true, true, true, true, true, true, true, true, true, true, true, true, true, true, true, true, true, true, true, true, true, true, true, true, true, true, true, true, true, true, true, true, true, true, true, true, true, false, false, false, false, false, false, false, false, false]) h14371q rfl rfl (by kernel_rfl) rfl rfl ⟨(hS13805q.cells (vs := ([.int .u8 1, .int .u32 2] : List Value)) rfl), trivial⟩ (fun _ _ _ h_ => h_) (fun a14372q h14373q => ?_)
    clear h14371q a14370q
    refine WH.skip 41 (listed' := #[true, true, true, true, true, true, true, true, true, true, true, true, true, true, true, true, true, true, true, true, true, true, true, true, true, true, true, true, true, true, true, true, true, true, true, true, true, true, true, true, true, true, false, false, false, false, false, false, false, false]) h14373q rfl rfl (by kernel_rfl) rfl rfl ⟨(hS13805q.cells (vs := ([.int .u8 1, .int .u32 2] : List Value)) rfl), trivial⟩ (fun _ _ _ h_ => h_) (fun a14374q h14375q => ?_)
    clear h14373q a14372q
    refine WH.skip 42 (listed' := #[true, true, true, true, true, true, true, true, true, true, true, true, true, true, true, true, true, true, true, true, true, true, true, true, true, true, true, true, true, true, true, true, true, true, true, true, true, true, true, true, true, true, true, false, false, false, false, false, false, false]) h14375q rfl rfl (by kernel_rfl) rfl rfl ⟨(hS13805q.cells (vs := ([.int .u8 1, .int .u32 2] : List Value)) rfl), trivial⟩ (fun _ _ _ h_ => h_) (fun a14376q h14377q => ?_)
    clear h14375q a14374q
    refine WH.take 43 (listed' := #[true, true, true, true, true, true, true, true, true, true, true, true, true, true, true, true, true, true, true, true, true, true, true, true, true, true, true, true, true, true, true, true, true, true, true, true, true, true, true, true, true, true, true, true, false, false, false, false, false, false]) h14377q rfl rfl (by kernel_rfl) rfl rfl (.bool false) (fun _ _ => by kernel_rfl) ⟨(hS13805q.cells (vs := ([.int .u8 1, .int .u32 2] : List Value)) rfl), trivial⟩ (fun _ _ _ h_ => h_) (fun a14378q h14379q => ?_)
    clear h14377q a14376q
    refine WH.take 44 (listed' := #[true, true, true, true, true, true, true, true, true, true, true, true, true, true, true, true, true, true, true, true, true, true, true, true, true, true, true, true, true, true, true, true, true, true, true, true, true, true, true, true, true, true, true, true, true, false, false, false, false, false]) h14379q rfl rfl (by kernel_rfl) rfl rfl (.bool false) (fun _ _ => by kernel_rfl) ⟨(hS13805q.cells (vs := ([.int .u8 1, .int .u32 2] : List Value)) rfl), trivial⟩ (fun _ _ _ h_ => h_) (fun a14380q h14381q => ?_)
    clear h14379q a14378q
    refine WH.skip 45 (listed' := #[true, true, true, true, true, true, true, true, true, true, true, true, true, true, true, true, true, true, true, true, true, true, true, true, true, true, true, true, true, true, true, true, true, true, true, true, true, true, true, true, true, true, true, true, true, true, false, false, false, false]) h14381q rfl rfl (by kernel_rfl) rfl rfl ⟨(hS13805q.cells (vs := ([.int .u8 1, .int .u32 2] : List Value)) rfl), trivial⟩ (fun _ _ _ h_ => h_) (fun a14382q h14383q => ?_)
    clear h14381q a14380q
    refine WH.skip 46 (listed' := #[true, true, true, true, true, true, true, true, true, true, true, true, true, true, true, true, true, true, true, true, true, true, true, true, true, true, true, true, true, true, true, true, true, true, true, true, true, true, true, true, true, true, true, true, true, true, true, false, false, false]) h14383q rfl rfl (by kernel_rfl) rfl rfl ⟨(hS13805q.cells (vs := ([.int .u8 1, .int .u32 2] : List Value)) rfl), trivial⟩ (fun _ _ _ h_ => h_) (fun a14384q h14385q => ?_)
    clear h14383q a14382q
    refine WH.skip 47 (listed' := #[true, true, true, true, true, true, true, true, true, true, true, true, true, true, true, true, true, true, true, true, true, true, true, true, true, true, true, true, true, true, true, true, true, true, true, true, true, true, true, true, true, true, true, true, true, true, true, true, false, false]) h14385q rfl rfl (by kernel_rfl) rfl rfl ⟨(hS13805q.cells (vs := ([.int .u8 1, .int .u32 2] : List Value)) rfl), trivial⟩ (fun _ _ _ h_ => h_) (fun a14386q h14387q => ?_)
    clear h14385q a14384q
    refine WH.take 48 (listed' := #[true, true, true, true, true, true, true, true, true, true, true, true, true, true, true, true, true, true, true, true, true, true, true, true, true, true, true, true, true, true, true, true, true, true, true, true, true, true, true, true, true, true, true, true, true, true, true, true, true, false]) h14387q rfl rfl (by kernel_rfl) rfl rfl (.bool false) (fun _ _ => by kernel_rfl) ⟨(hS13805q.cells (vs := ([.int .u8 1, .int .u32 2] : List Value)) rfl), trivial⟩ (fun _ _ _ h_ => h_) (fun a14388q h14389q => ?_)
    clear h14387q a14386q
    refine WH.take 49 (listed' := #[true, true, true, true, true, true, true, true, true, true, true, true, true, true, true, true, true, true, true, true, true, true, true, true, true, true, true, true, true, true, true, true, true, true, true, true, true, true, true, true, true, true, true, true, true, true, true, true, true, true]) h14389q rfl rfl (by kernel_rfl) rfl rfl (.bool false) (fun _ _ => by kernel_rfl) ⟨(hS13805q.cells (vs := ([.int .u8 1, .int .u32 2] : List Value)) rfl), trivial⟩ (fun _ _ _ h_ => h_) (fun a14390q h14391q => ?_)
    clear h14389q a14388q
    refine WH.done (by kernel_rfl) ?_
    refine wp_ret ?_
    have hS14392q : St b w0 W13800q R (Fs) := hS13805q.drop_
    obtain rfl := Option.some.inj H
    repeat (first | refine then_ret ?_ | refine inBlock_ret ?_ | refine inBlock_go ?_)
    refine body_ret (v := .bool false) h14391q (by kernel_rfl) (by kernel_rfl) ?_
    exact ⟨rfl, hS14392q⟩

structure S55 where
  f0 : Int
  f1 : Bool
  deriving DecidableEq
def z55 : S55 := ⟨(0 : Int), false⟩
def k55 : Kd S55 := kIso (kPair (kInt .i64) kBool) (fun x : S55 => (x.f0, x.f1))
theorem k55qflat : k55.Flat := kIso_flat (kPair_flat (kInt_flat _) kBool_flat)
theorem k55qrd {b : Nat} {w0 : World} {R : Frag} {x : S55} {cs : List Value} (h : k55.rd b w0 R x cs) : cs = [.int .i64 x.f0, .bool x.f1] := by
  obtain ⟨c14393q, c14394q, rfl, h14395q, h14396q⟩ := h
  obtain rfl := h14395q
  obtain rfl := h14396q
  exact rfl
theorem k55qrep {b : Nat} {w0 : World} {R : Frag} {x : S55} {cs : List Value} {M : Frag} (h : k55.rep b w0 R x cs M) : cs = [.int .i64 x.f0, .bool x.f1] ∧ M = [] := by
  obtain ⟨c14397q, c14398q, M14401q, M14402q, rfl, rfl, h14399q, h14400q⟩ := h
  obtain ⟨rfl, rfl⟩ := h14399q
  obtain ⟨rfl, rfl⟩ := h14400q
  exact ⟨rfl, by simp⟩
theorem k55qmk {b : Nat} {w0 : World} {R : Frag} {x : S55}  : ∃ M, k55.rep b w0 R x [.int .i64 x.f0, .bool x.f1] M ∧ M = [] := ⟨_, ⟨_, _, _, _, rfl, rfl, ⟨rfl, rfl⟩, ⟨rfl, rfl⟩⟩, by simp⟩
/-! ### louver/louverref10.New -/
def louverref10qNew.f (p0 : Int) (p1 : Bool) : Option (S55) := bnd1 (louverref10qbetween.f p0) fun r14433q => (some (⟨r14433q, p1⟩ : S55))
set_option maxHeartbeats 2000000 in
set_option maxRecDepth 100000 in
theorem louverref10qNew.calls {b : Nat} {w0 W : World} {R : Frag} {Fs : List Frag} {p0 : Int} {p1 : Bool}  {r0q : S55}  (H : louverref10qNew.f p0 p1 = some r0q) (hS : St b w0 W R (Fs)) :
    Calls Try.prog 23 ([.int .i64 p0, .bool p1] : List Value).toArray W (fun e W' => e = .returned (.agg #[.int .i64 r0q.f0, .bool r0q.f1]) ∧ St b w0 W' R (Fs)) := by
  unfold louverref10qNew.f at H
  refine calls_enter Try.func23 rfl 9 rfl (by kernel_rfl) (fun a h => ?_)
  refine wp_seq ?_
  refine WL.start ?_
  refine WL.op' (m := 0) h rfl rfl ?_
  refine owp_new (fun g_ => .pointer (some ⟨g_, 0, none⟩)) (.cells ([.int .i64 0, .bool false] : List Value).toArray 55 (0, 0)) h rfl (by kernel_rfl) (by kernel_rfl) hS (fun a14425q W14427q g14428q h14426q hS14429q => ?_)
  refine WL.done (by kernel_rfl) ?_
  refine wp_seq ?_
  refine WL.start ?_
  refine WL.block (c := 1) (m' := 1) h14426q rfl [(5, .int .i64 p0)] (by kernel_rfl) (fun a14430q h14431q => ?_)
  clear h14426q a14425q
  obtain ⟨r14433q, A14432q, H⟩ := bind1 H
  refine WL.op' (m := 1) h14431q rfl rfl ?_
  refine owp_call [.int .i64 p0] h14431q rfl (by kernel_rfl) rfl Try.func26 (by kernel_rfl) rfl (by kernel_rfl) (louverref10qbetween.calls  A14432q hS14429q) (fun e14435q W14434q hp14436q => ?_)
  obtain ⟨rfl, hS14439q⟩ := hp14436q
  refine ⟨_, rfl, fun a14437q h14438q => ?_⟩
  clear h14431q a14430q
  refine WL.block (c := 2) (m' := 4) h14438q rfl [(8, .agg #[.int .i64 r14433q, .bool p1]), (7, .bool p1)] (by kernel_rfl) (fun a14440q h14441q => ?_)
  clear h14438q a14437q
  refine WL.op' (m := 4) h14441q rfl rfl ?_
  refine owp_store (i := 0) (vs := ([.int .i64 r14433q, .bool p1] : List Value)) h14441q rfl (by kernel_rfl) rfl rfl rfl rfl (by simp [Value.oneCell']) (by kernel_rfl) hS14439q (by simp) (cs' := ([.int .i64 r14433q, .bool p1] : List Value)) rfl (fun a14442q W14444q h14443q hS14445q => ?_)
  clear h14441q a14440q
  refine WL.done (by kernel_rfl) ?_
  refine wp_ret ?_
  have hS14446q : St b w0 W14444q R (Fs) := hS14445q.drop_
  obtain rfl := Option.some.inj H
  repeat (first | refine then_ret ?_ | refine inBlock_ret ?_ | refine inBlock_go ?_)
  refine body_ret (v := .agg #[.int .i64 r14433q, .bool p1]) h14443q (by kernel_rfl) (res_one rfl ⟨_, rfl, loadVarN Try.underlying55 rfl (cs := ([.int .i64 r14433q, .bool p1] : List Value)) (by kernel_rfl) (hS14445q.cells (vs := ([.int .i64 r14433q, .bool p1] : List Value)) rfl)⟩) ?_
  exact ⟨rfl, hS14446q⟩
end Go.Proofs.Ytgbognkigcedbaa.Sl
