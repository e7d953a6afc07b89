/- What the functions of this program compute, told as plain functions, and that the calls come to just that. Printed by this session's program; part 4. -/
import Derived.Test.YtgbognkigcedbaaCode3
set_option linter.unusedVariables false
set_option linter.unusedSimpArgs false
set_option linter.unnecessarySimpa false
namespace Go.Proofs.Ytgbognkigcedbaa.Sl
open Go Go.RowKit Go.Proofs.Sl
/-! ### (louver/louverref10.W).Take -/
def louverref10qW_Take.f (p0 : S55) (p1 : Int) : Option (S55 × Bool) := if p1 < 0 then (some ((⟨p0.f0, p0.f1⟩ : S55), false)) else (if p1 > 0 then (if p1 > p0.f0 then (some ((⟨p0.f0, p0.f1⟩ : S55), false)) else (some ((⟨IntKind.i64.wrap (p0.f0 - p1), p0.f1⟩ : S55), true))) else (some ((⟨IntKind.i64.wrap (p0.f0 - p1), p0.f1⟩ : S55), true)))
set_option maxHeartbeats 2000000 in
set_option maxRecDepth 100000 in
theorem louverref10qW_Take.calls {b : Nat} {w0 W : World} {R : Frag} {Fs : List Frag} {p0 : S55} {p1 : Int}  {r0q : S55} {r1q : Bool}  (H : louverref10qW_Take.f p0 p1 = some (r0q, r1q)) (hS : St b w0 W R (Fs)) :
    Calls Try.prog 24 ([.agg #[.int .i64 p0.f0, .bool p0.f1], .int .i64 p1] : List Value).toArray W (fun e W' => e = .returned (.tuple #[.agg #[.int .i64 r0q.f0, .bool r0q.f1], .bool r1q]) ∧ St b w0 W' R (Fs)) := by
  unfold louverref10qW_Take.f at H
  refine calls_enter Try.func24 rfl 25 rfl (by kernel_rfl) (fun a h => ?_)
  refine wp_seq ?_
  refine WL.start ?_
  refine WL.op' (m := 0) h rfl rfl ?_
  refine owp_new (fun g_ => .pointer (some ⟨g_, 0, none⟩)) (.cells ([.int .i64 p0.f0, .bool p0.f1] : List Value).toArray 55 (0, 0)) h rfl (by kernel_rfl) (by kernel_rfl) hS (fun a14579q W14581q g14582q h14580q hS14583q => ?_)
  refine WL.op' (m := 1) h14580q rfl rfl ?_
  refine owp_new (fun g_ => .pointer (some ⟨g_, 0, none⟩)) (.cells ([.int .i64 0, .bool false] : List Value).toArray 55 (0, 0)) h14580q rfl (by kernel_rfl) (by kernel_rfl) hS14583q (fun a14584q W14586q g14587q h14585q hS14588q => ?_)
  clear h14580q a14579q
  refine WL.block (c := 1) (m' := 3) h14585q rfl [(5, .bool false)] (by kernel_rfl) (fun a14589q h14590q => ?_)
  clear h14585q a14584q
  refine WL.done (by kernel_rfl) ?_
  refine wp_seq ?_
  refine wp_seq ?_
  refine WL.start ?_
  refine WL.block (c := 3) (m' := 3) h14590q rfl [(8, .bool (decide (p1 < 0))), (7, .bool (decide (p1 < 0))), (6, .int .i64 p1)] (by kernel_rfl) (fun a14591q h14592q => ?_)
  clear h14590q a14589q
  by_cases c14593q : p1 < 0
  · rw [if_pos c14593q] at H
    have hb_ : (decide (p1 < 0)) = true := decide_eq_true c14593q
    try rw [hb_] at h14592q
    clear hb_
    refine WL.skipped (m := 3) h14592q rfl rfl (by kernel_rfl) rfl (fun a14594q h14595q => ?_)
    clear h14592q a14591q
    refine WL.skipped (m := 4) h14595q rfl rfl (by kernel_rfl) rfl (fun a14596q h14597q => ?_)
    clear h14595q a14594q
    refine WL.skipped (m := 5) h14597q rfl rfl (by kernel_rfl) rfl (fun a14598q h14599q => ?_)
    clear h14597q a14596q
    refine WL.skipped (m := 6) h14599q rfl rfl (by kernel_rfl) rfl (fun a14600q h14601q => ?_)
    clear h14599q a14598q
    refine WL.skipped (m := 7) h14601q rfl rfl (by kernel_rfl) rfl (fun a14602q h14603q => ?_)
    clear h14601q a14600q
    refine WL.skipped (m := 8) h14603q rfl rfl (by kernel_rfl) rfl (fun a14604q h14605q => ?_)
    clear h14603q a14602q
    refine WL.skipped (m := 9) h14605q rfl rfl (by kernel_rfl) rfl (fun a14606q h14607q => ?_)
    clear h14605q a14604q
    refine WL.skipped (m := 10) h14607q rfl rfl (by kernel_rfl) rfl (fun a14608q h14609q => ?_)
    clear h14607q a14606q
    refine WL.block (c := 1) (m' := 12) h14609q rfl [(17, .bool true)] (by kernel_rfl) (fun a14610q h14611q => ?_)
    clear h14609q a14608q
    refine WL.done (by kernel_rfl) ?_
    refine wp_then h14611q rfl ?_
    refine wp_seq ?_
    refine WL.start ?_
    have hS14612q : St b w0 W14586q R ([(g14582q, .cells ([.int .i64 p0.f0, .bool p0.f1] : List Value).toArray 55 (0, 0))] :: [(g14587q, .cells ([.int .i64 0, .bool false] : List Value).toArray 55 (0, 0))] :: Fs) := hS14588q.bring 1 rfl rfl
    refine WL.op' (m := 0) h14611q rfl rfl ?_
    refine owp_run (v := .agg #[.int .i64 p0.f0, .bool p0.f1]) h14611q rfl (by kernel_rfl) (run_loadN rfl rfl Try.underlying55 rfl (cs := ([.int .i64 p0.f0, .bool p0.f1] : List Value)) (by kernel_rfl) (hS14612q.cells (vs := ([.int .i64 p0.f0, .bool p0.f1] : List Value)) rfl)) (fun a14613q h14614q => ?_)
    clear h14611q a14610q
    have hS14615q : St b w0 W14586q R ([(g14587q, .cells ([.int .i64 0, .bool false] : List Value).toArray 55 (0, 0))] :: [(g14582q, .cells ([.int .i64 p0.f0, .bool p0.f1] : List Value).toArray 55 (0, 0))] :: Fs) := hS14612q.bring 1 rfl rfl
    refine WL.op' (m := 1) h14614q rfl rfl ?_
    refine owp_store (i := 0) (vs := ([.int .i64 p0.f0, .bool p0.f1] : List Value)) h14614q rfl (by kernel_rfl) rfl rfl rfl rfl (by simp [Value.oneCell']) (by kernel_rfl) hS14615q (by simp) (cs' := ([.int .i64 p0.f0, .bool p0.f1] : List Value)) rfl (fun a14616q W14618q h14617q hS14619q => ?_)
    clear h14614q a14613q
    refine WL.block (c := 1) (m' := 3) h14617q rfl [(5, .bool false)] (by kernel_rfl) (fun a14620q h14621q => ?_)
    clear h14617q a14616q
    refine WL.done (by kernel_rfl) ?_
    refine wp_ret ?_
    have hS14622q : St b w0 W14618q R ([(g14582q, .cells ([.int .i64 p0.f0, .bool p0.f1] : List Value).toArray 55 (0, 0))] :: Fs) := hS14619q.drop_
    have hS14623q : St b w0 W14618q R (Fs) := hS14622q.drop_
    obtain ⟨rfl, rfl⟩ := ret2 H
    repeat (first | refine then_ret ?_ | refine inBlock_ret ?_ | refine inBlock_go ?_)
    refine body_ret (v := .tuple #[.agg #[.int .i64 p0.f0, .bool p0.f1], .bool false]) h14621q (by kernel_rfl) (res_many (xs := [ResultVar.cell 4 55, ResultVar.tmp 5]) rfl ⟨⟨_, rfl, loadVarN Try.underlying55 rfl (cs := ([.int .i64 p0.f0, .bool p0.f1] : List Value)) (by kernel_rfl) (hS14619q.cells (vs := ([.int .i64 p0.f0, .bool p0.f1] : List Value)) rfl)⟩, rfl, trivial⟩ rfl) ?_
    exact ⟨rfl, hS14623q⟩
  · rw [if_neg c14593q] at H
    have hb_ : (decide (p1 < 0)) = false := decide_eq_false c14593q
    try rw [hb_] at h14592q
    clear hb_
    refine WL.op' (m := 3) h14592q rfl rfl (owp_run h14592q rfl (by kernel_rfl) (v := .int .i64 p1) (by kernel_rfl) (fun a14624q h14625q => ?_))
    clear h14592q a14591q
    refine WL.op' (m := 4) h14625q rfl rfl (owp_run h14625q rfl (by kernel_rfl) (v := .bool (decide (p1 > 0))) (by kernel_rfl) (fun a14626q h14627q => ?_))
    clear h14625q a14624q
    refine WL.op' (m := 5) h14627q rfl rfl (owp_run h14627q rfl (by kernel_rfl) (v := .bool (decide (p1 > 0))) (by kernel_rfl) (fun a14628q h14629q => ?_))
    clear h14627q a14626q
    by_cases c14630q : p1 > 0
    · rw [if_pos c14630q] at H
      have hb_ : (decide (p1 > 0)) = true := decide_eq_true c14630q
      try rw [hb_] at h14629q
      clear hb_
      refine WL.op' (m := 6) h14629q rfl rfl (owp_run h14629q rfl (by kernel_rfl) (v := .int .i64 p1) (by kernel_rfl) (fun a14631q h14632q => ?_))
      clear h14629q a14628q
      refine WL.op' (m := 7) h14632q rfl rfl (owp_run h14632q rfl (by kernel_rfl) (v := .pointer (some ⟨g14582q, 0, none⟩)) (by kernel_rfl) (fun a14633q h14634q => ?_))
      clear h14632q a14631q
      have hS14635q : St b w0 W14586q R ([(g14582q, .cells ([.int .i64 p0.f0, .bool p0.f1] : List Value).toArray 55 (0, 0))] :: [(g14587q, .cells ([.int .i64 0, .bool false] : List Value).toArray 55 (0, 0))] :: Fs) := hS14588q.bring 1 rfl rfl
      refine WL.op' (m := 8) h14634q rfl rfl ?_
      refine owp_run (v := .int .i64 p0.f0) h14634q rfl (by kernel_rfl) (run_load1 rfl rfl Try.underlying2 rfl (hS14635q.cell (i := 0) rfl)) (fun a14636q h14637q => ?_)
      clear h14634q a14633q
      refine WL.op' (m := 9) h14637q rfl rfl (owp_run h14637q rfl (by kernel_rfl) (v := .bool (decide (p1 > p0.f0))) (by kernel_rfl) (fun a14638q h14639q => ?_))
      clear h14637q a14636q
      refine WL.op' (m := 10) h14639q rfl rfl (owp_run h14639q rfl (by kernel_rfl) (v := .bool (decide (p1 > p0.f0))) (by kernel_rfl) (fun a14640q h14641q => ?_))
      clear h14639q a14638q
      refine WL.block (c := 1) (m' := 12) h14641q rfl [(17, .bool (decide (p1 > p0.f0)))] (by kernel_rfl) (fun a14642q h14643q => ?_)
      clear h14641q a14640q
      refine WL.done (by kernel_rfl) ?_
      by_cases c14644q : p1 > p0.f0
      · rw [if_pos c14644q] at H
        have hb_ : (decide (p1 > p0.f0)) = true := decide_eq_true c14644q
        try rw [hb_] at h14643q
        clear hb_
        refine wp_then h14643q rfl ?_
        refine wp_seq ?_
        refine WL.start ?_
        refine WL.op' (m := 0) h14643q rfl rfl ?_
        refine owp_run (v := .agg #[.int .i64 p0.f0, .bool p0.f1]) h14643q rfl (by kernel_rfl) (run_loadN rfl rfl Try.underlying55 rfl (cs := ([.int .i64 p0.f0, .bool p0.f1] : List Value)) (by kernel_rfl) (hS14635q.cells (vs := ([.int .i64 p0.f0, .bool p0.f1] : List Value)) rfl)) (fun a14645q h14646q => ?_)
        clear h14643q a14642q
        have hS14647q : St b w0 W14586q R ([(g14587q, .cells ([.int .i64 0, .bool false] : List Value).toArray 55 (0, 0))] :: [(g14582q, .cells ([.int .i64 p0.f0, .bool p0.f1] : List Value).toArray 55 (0, 0))] :: Fs) := hS14635q.bring 1 rfl rfl
        refine WL.op' (m := 1) h14646q rfl rfl ?_
        refine owp_store (i := 0) (vs := ([.int .i64 p0.f0, .bool p0.f1] : List Value)) h14646q rfl (by kernel_rfl) rfl rfl rfl rfl (by simp [Value.oneCell']) (by kernel_rfl) hS14647q (by simp) (cs' := ([.int .i64 p0.f0, .bool p0.f1] : List Value)) rfl (fun a14648q W14650q h14649q hS14651q => ?_)
        clear h14646q a14645q
        refine WL.block (c := 1) (m' := 3) h14649q rfl [(5, .bool false)] (by kernel_rfl) (fun a14652q h14653q => ?_)
        clear h14649q a14648q
        refine WL.done (by kernel_rfl) ?_
        refine wp_ret ?_
        have hS14654q : St b w0 W14650q R ([(g14582q, .cells ([.int .i64 p0.f0, .bool p0.f1] : List Value).toArray 55 (0, 0))] :: Fs) := hS14651q.drop_
        have hS14655q : St b w0 W14650q R (Fs) := hS14654q.drop_
        obtain ⟨rfl, rfl⟩ := ret2 H
        repeat (first | refine then_ret ?_ | refine inBlock_ret ?_ | refine inBlock_go ?_)
        refine body_ret (v := .tuple #[.agg #[.int .i64 p0.f0, .bool p0.f1], .bool false]) h14653q (by kernel_rfl) (res_many (xs := [ResultVar.cell 4 55, ResultVar.tmp 5]) rfl ⟨⟨_, rfl, loadVarN Try.underlying55 rfl (cs := ([.int .i64 p0.f0, .bool p0.f1] : List Value)) (by kernel_rfl) (hS14651q.cells (vs := ([.int .i64 p0.f0, .bool p0.f1] : List Value)) rfl)⟩, rfl, trivial⟩ rfl) ?_
        exact ⟨rfl, hS14655q⟩
      · rw [if_neg c14644q] at H
        have hb_ : (decide (p1 > p0.f0)) = false := decide_eq_false c14644q
        try rw [hb_] at h14643q
        clear hb_
        refine wp_else h14643q rfl ?_
        refine wp_skip ?_
        refine wp_seq ?_
        refine WL.start ?_
        refine WL.block (c := 1) (m' := 1) h14643q rfl [(19, .pointer (some ⟨g14582q, 0, none⟩))] (by kernel_rfl) (fun a14656q h14657q => ?_)
        clear h14643q a14642q
        refine WL.op' (m := 1) h14657q rfl rfl ?_
        refine owp_run (v := .int .i64 p0.f0) h14657q rfl (by kernel_rfl) (run_load1 rfl rfl Try.underlying2 rfl (hS14635q.cell (i := 0) rfl)) (fun a14658q h14659q => ?_)
        clear h14657q a14656q
        refine WL.block (c := 3) (m' := 5) h14659q rfl [(23, .pointer (some ⟨g14582q, 0, none⟩)), (22, .int .i64 (IntKind.i64.wrap (p0.f0 - p1))), (21, .int .i64 p1)] (by kernel_rfl) (fun a14660q h14661q => ?_)
        clear h14659q a14658q
        refine WL.op' (m := 5) h14661q rfl rfl ?_
        refine owp_store (i := 0) (vs := ([.int .i64 (IntKind.i64.wrap (p0.f0 - p1))] : List Value)) h14661q rfl (by kernel_rfl) rfl rfl rfl rfl (by simp [Value.oneCell']) (by kernel_rfl) hS14635q (by simp) (cs' := ([.int .i64 (IntKind.i64.wrap (p0.f0 - p1)), .bool p0.f1] : List Value)) rfl (fun a14662q W14664q h14663q hS14665q => ?_)
        clear h14661q a14660q
        refine WL.done (by kernel_rfl) ?_
        refine wp_seq ?_
        refine WL.start ?_
        refine WL.op' (m := 0) h14663q rfl rfl ?_
        refine owp_run (v := .agg #[.int .i64 (IntKind.i64.wrap (p0.f0 - p1)), .bool p0.f1]) h14663q rfl (by kernel_rfl) (run_loadN rfl rfl Try.underlying55 rfl (cs := ([.int .i64 (IntKind.i64.wrap (p0.f0 - p1)), .bool p0.f1] : List Value)) (by kernel_rfl) (hS14665q.cells (vs := ([.int .i64 (IntKind.i64.wrap (p0.f0 - p1)), .bool p0.f1] : List Value)) rfl)) (fun a14666q h14667q => ?_)
        clear h14663q a14662q
        have hS14668q : St b w0 W14664q R ([(g14587q, .cells ([.int .i64 0, .bool false] : List Value).toArray 55 (0, 0))] :: [(g14582q, .cells ([.int .i64 (IntKind.i64.wrap (p0.f0 - p1)), .bool p0.f1] : List Value).toArray 55 (0, 0))] :: Fs) := hS14665q.bring 1 rfl rfl
        refine WL.op' (m := 1) h14667q rfl rfl ?_
        refine owp_store (i := 0) (vs := ([.int .i64 (IntKind.i64.wrap (p0.f0 - p1)), .bool p0.f1] : List Value)) h14667q rfl (by kernel_rfl) rfl rfl rfl rfl (by simp [Value.oneCell']) (by kernel_rfl) hS14668q (by simp) (cs' := ([.int .i64 (IntKind.i64.wrap (p0.f0 - p1)), .bool p0.f1] : List Value)) rfl (fun a14669q W14671q h14670q hS14672q => ?_)
        clear h14667q a14666q
        refine WL.block (c := 1) (m' := 3) h14670q rfl [(5, .bool true)] (by kernel_rfl) (fun a14673q h14674q => ?_)
        clear h14670q a14669q
        refine WL.done (by kernel_rfl) ?_
        refine wp_ret ?_
        have hS14675q : St b w0 W14671q R ([(g14582q, .cells ([.int .i64 (IntKind.i64.wrap (p0.f0 - p1)), .bool p0.f1] : List Value).toArray 55 (0, 0))] :: Fs) := hS14672q.drop_
        have hS14676q : St b w0 W14671q R (Fs) := hS14675q.drop_
        obtain ⟨rfl, rfl⟩ := ret2 H
        repeat (first | refine then_ret ?_ | refine inBlock_ret ?_ | refine inBlock_go ?_)
        refine body_ret (v := .tuple #[.agg #[.int .i64 (IntKind.i64.wrap (p0.f0 - p1)), .bool p0.f1], .bool true]) h14674q (by kernel_rfl) (res_many (xs := [ResultVar.cell 4 55, ResultVar.tmp 5]) rfl ⟨⟨_, rfl, loadVarN Try.underlying55 rfl (cs := ([.int .i64 (IntKind.i64.wrap (p0.f0 - p1)), .bool p0.f1] : List Value)) (by kernel_rfl) (hS14672q.cells (vs := ([.int .i64 (IntKind.i64.wrap (p0.f0 - p1)), .bool p0.f1] : List Value)) rfl)⟩, rfl, trivial⟩ rfl) ?_
        exact ⟨rfl, hS14676q⟩
    · rw [if_neg c14630q] at H
      have hb_ : (decide (p1 > 0)) = false := decide_eq_false c14630q
      try rw [hb_] at h14629q
      clear hb_
      refine WL.skipped (m := 6) h14629q rfl rfl (by kernel_rfl) rfl (fun a14677q h14678q => ?_)
      clear h14629q a14628q
      refine WL.skipped (m := 7) h14678q rfl rfl (by kernel_rfl) rfl (fun a14679q h14680q => ?_)
      clear h14678q a14677q
      refine WL.skipped (m := 8) h14680q rfl rfl (by kernel_rfl) rfl (fun a14681q h14682q => ?_)
      clear h14680q a14679q
      refine WL.skipped (m := 9) h14682q rfl rfl (by kernel_rfl) rfl (fun a14683q h14684q => ?_)
      clear h14682q a14681q
      refine WL.op' (m := 10) h14684q rfl rfl (owp_run h14684q rfl (by kernel_rfl) (v := .bool false) (by kernel_rfl) (fun a14685q h14686q => ?_))
      clear h14684q a14683q
      refine WL.block (c := 1) (m' := 12) h14686q rfl [(17, .bool false)] (by kernel_rfl) (fun a14687q h14688q => ?_)
      clear h14686q a14685q
      refine WL.done (by kernel_rfl) ?_
      refine wp_else h14688q rfl ?_
      refine wp_skip ?_
      refine wp_seq ?_
      refine WL.start ?_
      refine WL.block (c := 1) (m' := 1) h14688q rfl [(19, .pointer (some ⟨g14582q, 0, none⟩))] (by kernel_rfl) (fun a14689q h14690q => ?_)
      clear h14688q a14687q
      have hS14691q : St b w0 W14586q R ([(g14582q, .cells ([.int .i64 p0.f0, .bool p0.f1] : List Value).toArray 55 (0, 0))] :: [(g14587q, .cells ([.int .i64 0, .bool false] : List Value).toArray 55 (0, 0))] :: Fs) := hS14588q.bring 1 rfl rfl
      refine WL.op' (m := 1) h14690q rfl rfl ?_
      refine owp_run (v := .int .i64 p0.f0) h14690q rfl (by kernel_rfl) (run_load1 rfl rfl Try.underlying2 rfl (hS14691q.cell (i := 0) rfl)) (fun a14692q h14693q => ?_)
      clear h14690q a14689q
      refine WL.block (c := 3) (m' := 5) h14693q rfl [(23, .pointer (some ⟨g14582q, 0, none⟩)), (22, .int .i64 (IntKind.i64.wrap (p0.f0 - p1))), (21, .int .i64 p1)] (by kernel_rfl) (fun a14694q h14695q => ?_)
      clear h14693q a14692q
      refine WL.op' (m := 5) h14695q rfl rfl ?_
      refine owp_store (i := 0) (vs := ([.int .i64 (IntKind.i64.wrap (p0.f0 - p1))] : List Value)) h14695q rfl (by kernel_rfl) rfl rfl rfl rfl (by simp [Value.oneCell']) (by kernel_rfl) hS14691q (by simp) (cs' := ([.int .i64 (IntKind.i64.wrap (p0.f0 - p1)), .bool p0.f1] : List Value)) rfl (fun a14696q W14698q h14697q hS14699q => ?_)
      clear h14695q a14694q
      refine WL.done (by kernel_rfl) ?_
      refine wp_seq ?_
      refine WL.start ?_
      refine WL.op' (m := 0) h14697q rfl rfl ?_
      refine owp_run (v := .agg #[.int .i64 (IntKind.i64.wrap (p0.f0 - p1)), .bool p0.f1]) h14697q rfl (by kernel_rfl) (run_loadN rfl rfl Try.underlying55 rfl (cs := ([.int .i64 (IntKind.i64.wrap (p0.f0 - p1)), .bool p0.f1] : List Value)) (by kernel_rfl) (hS14699q.cells (vs := ([.int .i64 (IntKind.i64.wrap (p0.f0 - p1)), .bool p0.f1] : List Value)) rfl)) (fun a14700q h14701q => ?_)
      clear h14697q a14696q
      have hS14702q : St b w0 W14698q R ([(g14587q, .cells ([.int .i64 0, .bool false] : List Value).toArray 55 (0, 0))] :: [(g14582q, .cells ([.int .i64 (IntKind.i64.wrap (p0.f0 - p1)), .bool p0.f1] : List Value).toArray 55 (0, 0))] :: Fs) := hS14699q.bring 1 rfl rfl
      refine WL.op' (m := 1) h14701q rfl rfl ?_
      refine owp_store (i := 0) (vs := ([.int .i64 (IntKind.i64.wrap (p0.f0 - p1)), .bool p0.f1] : List Value)) h14701q rfl (by kernel_rfl) rfl rfl rfl rfl (by simp [Value.oneCell']) (by kernel_rfl) hS14702q (by simp) (cs' := ([.int .i64 (IntKind.i64.wrap (p0.f0 - p1)), .bool p0.f1] : List Value)) rfl (fun a14703q W14705q h14704q hS14706q => ?_)
      clear h14701q a14700q
      refine WL.block (c := 1) (m' := 3) h14704q rfl [(5, .bool true)] (by kernel_rfl) (fun a14707q h14708q => ?_)
      clear h14704q a14703q
      refine WL.done (by kernel_rfl) ?_
      refine wp_ret ?_
      have hS14709q : St b w0 W14705q R ([(g14582q, .cells ([.int .i64 (IntKind.i64.wrap (p0.f0 - p1)), .bool p0.f1] : List Value).toArray 55 (0, 0))] :: Fs) := hS14706q.drop_
      have hS14710q : St b w0 W14705q R (Fs) := hS14709q.drop_
      obtain ⟨rfl, rfl⟩ := ret2 H
      repeat (first | refine then_ret ?_ | refine inBlock_ret ?_ | refine inBlock_go ?_)
      refine body_ret (v := .tuple #[.agg #[.int .i64 (IntKind.i64.wrap (p0.f0 - p1)), .bool p0.f1], .bool true]) h14708q (by kernel_rfl) (res_many (xs := [ResultVar.cell 4 55, ResultVar.tmp 5]) rfl ⟨⟨_, rfl, loadVarN Try.underlying55 rfl (cs := ([.int .i64 (IntKind.i64.wrap (p0.f0 - p1)), .bool p0.f1] : List Value)) (by kernel_rfl) (hS14706q.cells (vs := ([.int .i64 (IntKind.i64.wrap (p0.f0 - p1)), .bool p0.f1] : List Value)) rfl)⟩, rfl, trivial⟩ rfl) ?_
      exact ⟨rfl, hS14710q⟩

/-! ### (louver/louverref10.W).Grow -/
def louverref10qW_Grow.f (p0 : S55) (p1 : Int) (p2 : Bool) : Option (S55 × Int) := if (IntKind.i64.wrap (p0.f0 + p1)) > 2147483647 then (if p0.f1 = true then (if p2 = true then (some ((⟨p0.f0, p0.f1⟩ : S55), 1)) else (some ((⟨p0.f0, p0.f1⟩ : S55), 2))) else (some ((⟨p0.f0, p0.f1⟩ : S55), 1))) else (bnd1 (louverref10qbetween.f (IntKind.i64.wrap (p0.f0 + p1))) fun r14891q => (some ((⟨r14891q, p0.f1⟩ : S55), 0)))
set_option maxHeartbeats 2000000 in
set_option maxRecDepth 100000 in
theorem louverref10qW_Grow.calls {b : Nat} {w0 W : World} {R : Frag} {Fs : List Frag} {p0 : S55} {p1 : Int} {p2 : Bool}  {r0q : S55} {r1q : Int}  (H : louverref10qW_Grow.f p0 p1 p2 = some (r0q, r1q)) (hS : St b w0 W R (Fs)) :
    Calls Try.prog 25 ([.agg #[.int .i64 p0.f0, .bool p0.f1], .int .i64 p1, .bool p2] : List Value).toArray W (fun e W' => e = .returned (.tuple #[.agg #[.int .i64 r0q.f0, .bool r0q.f1], .int .i64 r1q]) ∧ St b w0 W' R (Fs)) := by
  unfold louverref10qW_Grow.f at H
  refine calls_enter Try.func25 rfl 27 rfl (by kernel_rfl) (fun a h => ?_)
  refine wp_seq ?_
  refine WL.start ?_
  refine WL.op' (m := 0) h rfl rfl ?_
  refine owp_new (fun g_ => .pointer (some ⟨g_, 0, none⟩)) (.cells ([.int .i64 p0.f0, .bool p0.f1] : List Value).toArray 55 (0, 0)) h rfl (by kernel_rfl) (by kernel_rfl) hS (fun a14813q W14815q g14816q h14814q hS14817q => ?_)
  refine WL.op' (m := 1) h14814q rfl rfl ?_
  refine owp_new (fun g_ => .pointer (some ⟨g_, 0, none⟩)) (.cells ([.int .i64 0, .bool false] : List Value).toArray 55 (0, 0)) h14814q rfl (by kernel_rfl) (by kernel_rfl) hS14817q (fun a14818q W14820q g14821q h14819q hS14822q => ?_)
  clear h14814q a14813q
  refine WL.block (c := 1) (m' := 3) h14819q rfl [(7, .int .i64 0)] (by kernel_rfl) (fun a14823q h14824q => ?_)
  clear h14819q a14818q
  refine WL.done (by kernel_rfl) ?_
  refine wp_seq ?_
  refine WL.start ?_
  refine WL.block (c := 1) (m' := 1) h14824q rfl [(9, .pointer (some ⟨g14816q, 0, none⟩))] (by kernel_rfl) (fun a14825q h14826q => ?_)
  clear h14824q a14823q
  have hS14827q : St b w0 W14820q R ([(g14816q, .cells ([.int .i64 p0.f0, .bool p0.f1] : List Value).toArray 55 (0, 0))] :: [(g14821q, .cells ([.int .i64 0, .bool false] : List Value).toArray 55 (0, 0))] :: Fs) := hS14822q.bring 1 rfl rfl
  refine WL.op' (m := 1) h14826q rfl rfl ?_
  refine owp_run (v := .int .i64 p0.f0) h14826q rfl (by kernel_rfl) (run_load1 rfl rfl Try.underlying2 rfl (hS14827q.cell (i := 0) rfl)) (fun a14828q h14829q => ?_)
  clear h14826q a14825q
  refine WL.block (c := 3) (m' := 5) h14829q rfl [(8, .int .i64 (IntKind.i64.wrap (p0.f0 + p1))), (12, .int .i64 (IntKind.i64.wrap (p0.f0 + p1))), (11, .int .i64 p1)] (by kernel_rfl) (fun a14830q h14831q => ?_)
  clear h14829q a14828q
  refine WL.done (by kernel_rfl) ?_
  refine wp_seq ?_
  refine wp_seq ?_
  refine WL.start ?_
  refine WL.block (c := 2) (m' := 2) h14831q rfl [(14, .bool (decide ((IntKind.i64.wrap (p0.f0 + p1)) > 2147483647))), (13, .int .i64 (IntKind.i64.wrap (p0.f0 + p1)))] (by kernel_rfl) (fun a14832q h14833q => ?_)
  clear h14831q a14830q
  refine WL.done (by kernel_rfl) ?_
  by_cases c14834q : (IntKind.i64.wrap (p0.f0 + p1)) > 2147483647
  · rw [if_pos c14834q] at H
    have hb_ : (decide ((IntKind.i64.wrap (p0.f0 + p1)) > 2147483647)) = true := decide_eq_true c14834q
    try rw [hb_] at h14833q
    clear hb_
    refine wp_then h14833q rfl ?_
    refine wp_seq ?_
    refine wp_seq ?_
    refine WL.start ?_
    refine WL.block (c := 1) (m' := 1) h14833q rfl [(15, .pointer (some ⟨g14816q, 1, none⟩))] (by kernel_rfl) (fun a14835q h14836q => ?_)
    clear h14833q a14832q
    refine WL.op' (m := 1) h14836q rfl rfl ?_
    refine owp_run (v := .bool p0.f1) h14836q rfl (by kernel_rfl) (run_load1 rfl rfl Try.underlying4 rfl (hS14827q.cell (i := 1) rfl)) (fun a14837q h14838q => ?_)
    clear h14836q a14835q
    refine WL.block (c := 1) (m' := 3) h14838q rfl [(17, .bool p0.f1)] (by kernel_rfl) (fun a14839q h14840q => ?_)
    clear h14838q a14837q
    by_cases c14841q : p0.f1 = true
    · rw [if_pos c14841q] at H
      have hb_ : p0.f1 = true := c14841q
      try rw [hb_] at h14840q
      clear hb_
      refine WL.op' (m := 3) h14840q rfl rfl (owp_run h14840q rfl (by kernel_rfl) (v := .bool p2) (by kernel_rfl) (fun a14842q h14843q => ?_))
      clear h14840q a14839q
      refine WL.op' (m := 4) h14843q rfl rfl (owp_run h14843q rfl (by kernel_rfl) (v := .bool (!p2)) (by kernel_rfl) (fun a14844q h14845q => ?_))
      clear h14843q a14842q
      refine WL.block (c := 1) (m' := 6) h14845q rfl [(20, .bool (!p2))] (by kernel_rfl) (fun a14846q h14847q => ?_)
      clear h14845q a14844q
      refine WL.done (by kernel_rfl) ?_
      by_cases c14848q : p2 = true
      · rw [if_pos c14848q] at H
        have hb_ : p2 = true := c14848q
        try rw [hb_] at h14847q
        clear hb_
        refine wp_else h14847q rfl ?_
        refine wp_skip ?_
        refine wp_seq ?_
        refine WL.start ?_
        refine WL.op' (m := 0) h14847q rfl rfl ?_
        refine owp_run (v := .agg #[.int .i64 p0.f0, .bool p0.f1]) h14847q rfl (by kernel_rfl) (run_loadN rfl rfl Try.underlying55 rfl (cs := ([.int .i64 p0.f0, .bool p0.f1] : List Value)) (by kernel_rfl) (hS14827q.cells (vs := ([.int .i64 p0.f0, .bool p0.f1] : List Value)) rfl)) (fun a14849q h14850q => ?_)
        clear h14847q a14846q
        have hS14851q : St b w0 W14820q R ([(g14821q, .cells ([.int .i64 0, .bool false] : List Value).toArray 55 (0, 0))] :: [(g14816q, .cells ([.int .i64 p0.f0, .bool p0.f1] : List Value).toArray 55 (0, 0))] :: Fs) := hS14827q.bring 1 rfl rfl
        refine WL.op' (m := 1) h14850q rfl rfl ?_
        refine owp_store (i := 0) (vs := ([.int .i64 p0.f0, .bool p0.f1] : List Value)) h14850q rfl (by kernel_rfl) rfl rfl rfl rfl (by simp [Value.oneCell']) (by kernel_rfl) hS14851q (by simp) (cs' := ([.int .i64 p0.f0, .bool p0.f1] : List Value)) rfl (fun a14852q W14854q h14853q hS14855q => ?_)
        clear h14850q a14849q
        refine WL.block (c := 1) (m' := 3) h14853q rfl [(7, .int .i64 1)] (by kernel_rfl) (fun a14856q h14857q => ?_)
        clear h14853q a14852q
        refine WL.done (by kernel_rfl) ?_
        refine wp_ret ?_
        have hS14858q : St b w0 W14854q R ([(g14816q, .cells ([.int .i64 p0.f0, .bool p0.f1] : List Value).toArray 55 (0, 0))] :: Fs) := hS14855q.drop_
        have hS14859q : St b w0 W14854q R (Fs) := hS14858q.drop_
        obtain ⟨rfl, rfl⟩ := ret2 H
        repeat (first | refine then_ret ?_ | refine inBlock_ret ?_ | refine inBlock_go ?_)
        refine body_ret (v := .tuple #[.agg #[.int .i64 p0.f0, .bool p0.f1], .int .i64 1]) h14857q (by kernel_rfl) (res_many (xs := [ResultVar.cell 6 55, ResultVar.tmp 7]) rfl ⟨⟨_, rfl, loadVarN Try.underlying55 rfl (cs := ([.int .i64 p0.f0, .bool p0.f1] : List Value)) (by kernel_rfl) (hS14855q.cells (vs := ([.int .i64 p0.f0, .bool p0.f1] : List Value)) rfl)⟩, rfl, trivial⟩ rfl) ?_
        exact ⟨rfl, hS14859q⟩
      · rw [if_neg c14848q] at H
        have hb_ : p2 = false := (Bool.eq_false_iff.2 c14848q)
        try rw [hb_] at h14847q
        clear hb_
        refine wp_then h14847q rfl ?_
        refine wp_seq ?_
        refine WL.start ?_
        refine WL.op' (m := 0) h14847q rfl rfl ?_
        refine owp_run (v := .agg #[.int .i64 p0.f0, .bool p0.f1]) h14847q rfl (by kernel_rfl) (run_loadN rfl rfl Try.underlying55 rfl (cs := ([.int .i64 p0.f0, .bool p0.f1] : List Value)) (by kernel_rfl) (hS14827q.cells (vs := ([.int .i64 p0.f0, .bool p0.f1] : List Value)) rfl)) (fun a14860q h14861q => ?_)
        clear h14847q a14846q
        have hS14862q : St b w0 W14820q R ([(g14821q, .cells ([.int .i64 0, .bool false] : List Value).toArray 55 (0, 0))] :: [(g14816q, .cells ([.int .i64 p0.f0, .bool p0.f1] : List Value).toArray 55 (0, 0))] :: Fs) := hS14827q.bring 1 rfl rfl
        refine WL.op' (m := 1) h14861q rfl rfl ?_
        refine owp_store (i := 0) (vs := ([.int .i64 p0.f0, .bool p0.f1] : List Value)) h14861q rfl (by kernel_rfl) rfl rfl rfl rfl (by simp [Value.oneCell']) (by kernel_rfl) hS14862q (by simp) (cs' := ([.int .i64 p0.f0, .bool p0.f1] : List Value)) rfl (fun a14863q W14865q h14864q hS14866q => ?_)
        clear h14861q a14860q
        refine WL.block (c := 1) (m' := 3) h14864q rfl [(7, .int .i64 2)] (by kernel_rfl) (fun a14867q h14868q => ?_)
        clear h14864q a14863q
        refine WL.done (by kernel_rfl) ?_
        refine wp_ret ?_
        have hS14869q : St b w0 W14865q R ([(g14816q, .cells ([.int .i64 p0.f0, .bool p0.f1] : List Value).toArray 55 (0, 0))] :: Fs) := hS14866q.drop_
        have hS14870q : St b w0 W14865q R (Fs) := hS14869q.drop_
        obtain ⟨rfl, rfl⟩ := ret2 H
        repeat (first | refine then_ret ?_ | refine inBlock_ret ?_ | refine inBlock_go ?_)
        refine body_ret (v := .tuple #[.agg #[.int .i64 p0.f0, .bool p0.f1], .int .i64 2]) h14868q (by kernel_rfl) (res_many (xs := [ResultVar.cell 6 55, ResultVar.tmp 7]) rfl ⟨⟨_, rfl, loadVarN Try.underlying55 rfl (cs := ([.int .i64 p0.f0, .bool p0.f1] : List Value)) (by kernel_rfl) (hS14866q.cells (vs := ([.int .i64 p0.f0, .bool p0.f1] : List Value)) rfl)⟩, rfl, trivial⟩ rfl) ?_
        exact ⟨rfl, hS14870q⟩
    · rw [if_neg c14841q] at H
      have hb_ : p0.f1 = false := (Bool.eq_false_iff.2 c14841q)
      try rw [hb_] at h14840q
      clear hb_
      refine WL.skipped (m := 3) h14840q rfl rfl (by kernel_rfl) rfl (fun a14871q h14872q => ?_)
      clear h14840q a14839q
      refine WL.skipped (m := 4) h14872q rfl rfl (by kernel_rfl) rfl (fun a14873q h14874q => ?_)
      clear h14872q a14871q
      refine WL.block (c := 1) (m' := 6) h14874q rfl [(20, .bool false)] (by kernel_rfl) (fun a14875q h14876q => ?_)
      clear h14874q a14873q
      refine WL.done (by kernel_rfl) ?_
      refine wp_else h14876q rfl ?_
      refine wp_skip ?_
      refine wp_seq ?_
      refine WL.start ?_
      refine WL.op' (m := 0) h14876q rfl rfl ?_
      refine owp_run (v := .agg #[.int .i64 p0.f0, .bool p0.f1]) h14876q rfl (by kernel_rfl) (run_loadN rfl rfl Try.underlying55 rfl (cs := ([.int .i64 p0.f0, .bool p0.f1] : List Value)) (by kernel_rfl) (hS14827q.cells (vs := ([.int .i64 p0.f0, .bool p0.f1] : List Value)) rfl)) (fun a14877q h14878q => ?_)
      clear h14876q a14875q
      have hS14879q : St b w0 W14820q R ([(g14821q, .cells ([.int .i64 0, .bool false] : List Value).toArray 55 (0, 0))] :: [(g14816q, .cells ([.int .i64 p0.f0, .bool p0.f1] : List Value).toArray 55 (0, 0))] :: Fs) := hS14827q.bring 1 rfl rfl
      refine WL.op' (m := 1) h14878q rfl rfl ?_
      refine owp_store (i := 0) (vs := ([.int .i64 p0.f0, .bool p0.f1] : List Value)) h14878q rfl (by kernel_rfl) rfl rfl rfl rfl (by simp [Value.oneCell']) (by kernel_rfl) hS14879q (by simp) (cs' := ([.int .i64 p0.f0, .bool p0.f1] : List Value)) rfl (fun a14880q W14882q h14881q hS14883q => ?_)
      clear h14878q a14877q
      refine WL.block (c := 1) (m' := 3) h14881q rfl [(7, .int .i64 1)] (by kernel_rfl) (fun a14884q h14885q => ?_)
      clear h14881q a14880q
      refine WL.done (by kernel_rfl) ?_
      refine wp_ret ?_
      have hS14886q : St b w0 W14882q R ([(g14816q, .cells ([.int .i64 p0.f0, .bool p0.f1] : List Value).toArray 55 (0, 0))] :: Fs) := hS14883q.drop_
      have hS14887q : St b w0 W14882q R (Fs) := hS14886q.drop_
      obtain ⟨rfl, rfl⟩ := ret2 H
      repeat (first | refine then_ret ?_ | refine inBlock_ret ?_ | refine inBlock_go ?_)
      refine body_ret (v := .tuple #[.agg #[.int .i64 p0.f0, .bool p0.f1], .int .i64 1]) h14885q (by kernel_rfl) (res_many (xs := [ResultVar.cell 6 55, ResultVar.tmp 7]) rfl ⟨⟨_, rfl, loadVarN Try.underlying55 rfl (cs := ([.int .i64 p0.f0, .bool p0.f1] : List Value)) (by kernel_rfl) (hS14883q.cells (vs := ([.int .i64 p0.f0, .bool p0.f1] : List Value)) rfl)⟩, rfl, trivial⟩ rfl) ?_
      exact ⟨rfl, hS14887q⟩
  · rw [if_neg c14834q] at H
    have hb_ : (decide ((IntKind.i64.wrap (p0.f0 + p1)) > 2147483647)) = false := decide_eq_false c14834q
    try rw [hb_] at h14833q
    clear hb_
    refine wp_else h14833q rfl ?_
    refine wp_skip ?_
    refine wp_seq ?_
    refine WL.start ?_
    refine WL.block (c := 1) (m' := 1) h14833q rfl [(23, .int .i64 (IntKind.i64.wrap (p0.f0 + p1)))] (by kernel_rfl) (fun a14888q h14889q => ?_)
    clear h14833q a14832q
    obtain ⟨r14891q, A14890q, H⟩ := bind1 H
    refine WL.op' (m := 1) h14889q rfl rfl ?_
    refine owp_call [.int .i64 (IntKind.i64.wrap (p0.f0 + p1))] h14889q rfl (by kernel_rfl) rfl Try.func26 (by kernel_rfl) rfl (by kernel_rfl) (louverref10qbetween.calls  A14890q hS14827q) (fun e14893q W14892q hp14894q => ?_)
    obtain ⟨rfl, hS14897q⟩ := hp14894q
    refine ⟨_, rfl, fun a14895q h14896q => ?_⟩
    clear h14889q a14888q
    refine WL.block (c := 1) (m' := 3) h14896q rfl [(25, .pointer (some ⟨g14816q, 0, none⟩))] (by kernel_rfl) (fun a14898q h14899q => ?_)
    clear h14896q a14895q
    refine WL.op' (m := 3) h14899q rfl rfl ?_
    refine owp_store (i := 0) (vs := ([.int .i64 r14891q] : List Value)) h14899q rfl (by kernel_rfl) rfl rfl rfl rfl (by simp [Value.oneCell']) (by kernel_rfl) hS14897q (by simp) (cs' := ([.int .i64 r14891q, .bool p0.f1] : List Value)) rfl (fun a14900q W14902q h14901q hS14903q => ?_)
    clear h14899q a14898q
    refine WL.done (by kernel_rfl) ?_
    refine wp_seq ?_
    refine WL.start ?_
    refine WL.op' (m := 0) h14901q rfl rfl ?_
    refine owp_run (v := .agg #[.int .i64 r14891q, .bool p0.f1]) h14901q rfl (by kernel_rfl) (run_loadN rfl rfl Try.underlying55 rfl (cs := ([.int .i64 r14891q, .bool p0.f1] : List Value)) (by kernel_rfl) (hS14903q.cells (vs := ([.int .i64 r14891q, .bool p0.f1] : List Value)) rfl)) (fun a14904q h14905q => ?_)
    clear h14901q a14900q
    have hS14906q : St b w0 W14902q R ([(g14821q, .cells ([.int .i64 0, .bool false] : List Value).toArray 55 (0, 0))] :: [(g14816q, .cells ([.int .i64 r14891q, .bool p0.f1] : List Value).toArray 55 (0, 0))] :: Fs) := hS14903q.bring 1 rfl rfl
    refine WL.op' (m := 1) h14905q rfl rfl ?_
    refine owp_store (i := 0) (vs := ([.int .i64 r14891q, .bool p0.f1] : List Value)) h14905q rfl (by kernel_rfl) rfl rfl rfl rfl (by simp [Value.oneCell']) (by kernel_rfl) hS14906q (by simp) (cs' := ([.int .i64 r14891q, .bool p0.f1] : List Value)) rfl (fun a14907q W14909q h14908q hS14910q => ?_)
    clear h14905q a14904q
    refine WL.block (c := 1) (m' := 3) h14908q rfl [(7, .int .i64 0)] (by kernel_rfl) (fun a14911q h14912q => ?_)
    clear h14908q a14907q
    refine WL.done (by kernel_rfl) ?_
    refine wp_ret ?_
    have hS14913q : St b w0 W14909q R ([(g14816q, .cells ([.int .i64 r14891q, .bool p0.f1] : List Value).toArray 55 (0, 0))] :: Fs) := hS14910q.drop_
    have hS14914q : St b w0 W14909q R (Fs) := hS14913q.drop_
    obtain ⟨rfl, rfl⟩ := ret2 H
    repeat (first | refine then_ret ?_ | refine inBlock_ret ?_ | refine inBlock_go ?_)
    refine body_ret (v := .tuple #[.agg #[.int .i64 r14891q, .bool p0.f1], .int .i64 0]) h14912q (by kernel_rfl) (res_many (xs := [ResultVar.cell 6 55, ResultVar.tmp 7]) rfl ⟨⟨_, rfl, loadVarN Try.underlying55 rfl (cs := ([.int .i64 r14891q, .bool p0.f1] : List Value)) (by kernel_rfl) (hS14910q.cells (vs := ([.int .i64 r14891q, .bool p0.f1] : List Value)) rfl)⟩, rfl, trivial⟩ rfl) ?_
    exact ⟨rfl, hS14914q⟩

/-! ### louver/louverlaw10.WindowPlays -/
mutual
def louverlaw10qWindowPlays.l0 : Nat → S68 → Int → Bool → Int → (List S33) → Option (Bool)
  | 0, _, _, _, _, _ => none
  | k + 1, x17335q, x17338q, x17339q, x17340q, p2 => if x17340q < (p2.length : Int) then (if 0 ≤ x17340q then (if ((gt z33 p2 x17340q).f0) = 0 then (bnd2 (louverref10qW_Take.f (⟨x17338q, x17339q⟩ : S55) ((gt z33 p2 x17340q).f1)) fun r17610q r17611q => (bnd2 (window_Window_Take.f x17335q ((gt z33 p2 x17340q).f1)) fun r17645q r17646q => (if (r17645q != r17611q) = true then (some false) else (louverlaw10qWindowPlays.j1 k r17646q r17610q.f0 r17610q.f1 0 0 0 p2 x17340q)))) else (if ((gt z33 p2 x17340q).f0) = 1 then (bnd2 (louverref10qW_Grow.f (⟨x17338q, x17339q⟩ : S55) (IntKind.i64.wrap ((gt z33 p2 x17340q).f2)) false) fun r17683q r17684q => (bnd2 (window_Window_Grow.f x17335q ((gt z33 p2 x17340q).f2)) fun r17720q r17721q => (louverlaw10qWindowPlays.j1 k r17721q r17683q.f0 r17683q.f1 r17684q r17720q.f0 r17720q.f1 p2 x17340q))) else (bnd2 (louverref10qW_Grow.f (⟨x17338q, x17339q⟩ : S55) (IntKind.i64.wrap ((IntKind.i64.wrap ((gt z33 p2 x17340q).f3)) - (IntKind.i64.wrap ((gt z33 p2 x17340q).f2)))) true) fun r17756q r17757q => (bnd2 (window_Window_Shift.f x17335q ((gt z33 p2 x17340q).f2) ((gt z33 p2 x17340q).f3)) fun r17797q r17798q => (louverlaw10qWindowPlays.j1 k r17798q r17756q.f0 r17756q.f1 r17757q r17797q.f0 r17797q.f1 p2 x17340q))))) else (none)) else (bnd1 (louverlaw10qfixed.f) fun r18227q => (if r18227q = true then (bnd1 (window_Window_Left.f x17335q) fun r18244q => (some (decide (r18244q = x17338q)))) else (some false)))
def louverlaw10qWindowPlays.j1 : Nat → S68 → Int → Bool → Int → Int → Int → (List S33) → Int → Option (Bool)
  | 0, _, _, _, _, _, _, _, _ => none
  | k + 1, x17590q, x17593q, x17594q, x17595q, x17596q, x17597q, p2, x17340q => if x17595q > 0 then (if (decide (x17596q = (IntKind.u8.wrap x17595q)) && decide (x17597q = 3)) = true then (bnd1 (window_Window_Left.f x17590q) fun r17941q => (if r17941q = x17593q then (louverlaw10qWindowPlays.l0 k x17590q x17593q x17594q (IntKind.i64.wrap (x17340q + 1)) p2) else (some false))) else (some false)) else (if (decide (x17596q = 0) && decide (x17597q = 0)) = true then (bnd1 (window_Window_Left.f x17590q) fun r18087q => (if r18087q = x17593q then (louverlaw10qWindowPlays.l0 k x17590q x17593q x17594q (IntKind.i64.wrap (x17340q + 1)) p2) else (some false))) else (some false))
end
def louverlaw10qWindowPlays.f (k : Nat) (p0 : Int) (p1 : Bool) (p2 : (List S33)) : Option (Bool) := if (p2.length : Int) > 500 then (bnd1 (louverlaw10qfixed.f) fun r17285q => (some r17285q)) else (bnd1 (window_New.f p0 p1) fun r17297q => (bnd1 (louverref10qNew.f p0 p1) fun r17312q => (louverlaw10qWindowPlays.l0 k r17297q r17312q.f0 r17312q.f1 0 p2)))
set_option maxHeartbeats 2000000 in
set_option maxRecDepth 100000 in
theorem louverlaw10qWindowPlays.calls (k : Nat) {b : Nat} {w0 W : World} {R : Frag} {Fs : List Frag} {p0 : Int} {p1 : Bool} {p2 : (List S33)} {v2 : Value} {r0q : Bool} (hp2 : Rds k33 b w0 R v2 p2) (H : louverlaw10qWindowPlays.f k p0 p1 p2 = some r0q) (hS : St b w0 W R (Fs)) :
    Calls Try.prog 8 ([.int .i64 p0, .bool p1, v2] : List Value).toArray W (fun e W' => e = .returned (.bool r0q) ∧ St b w0 W' R (Fs)) := by
  obtain ⟨A2, c2, rfl⟩ := hp2.form
  unfold louverlaw10qWindowPlays.f at H
  refine calls_enter Try.func8 rfl 115 rfl (by kernel_rfl) (fun a h => ?_)
  refine wp_seq ?_
  refine WL.start ?_
  refine WL.block (c := 1) (m' := 1) h rfl [(6, .bool false)] (by kernel_rfl) (fun a17279q h17280q => ?_)
  refine WL.done (by kernel_rfl) ?_
  refine wp_seq ?_
  refine wp_seq ?_
  refine WL.start ?_
  refine WL.block (c := 3) (m' := 3) h17280q rfl [(22, .bool (decide ((p2.length : Int) > 500))), (21, .int .i64 (p2.length : Int)), (20, .slice A2 p2.length c2)] (by kernel_rfl) (fun a17281q h17282q => ?_)
  clear h17280q a17279q
  refine WL.done (by kernel_rfl) ?_
  by_cases c17283q : (p2.length : Int) > 500
  · rw [if_pos c17283q] at H
    have hb_ : (decide ((p2.length : Int) > 500)) = true := decide_eq_true c17283q
    try rw [hb_] at h17282q
    clear hb_
    refine wp_then h17282q rfl ?_
    refine wp_seq ?_
    refine WL.start ?_
    obtain ⟨r17285q, A17284q, H⟩ := bind1 H
    refine WL.op' (m := 0) h17282q rfl rfl ?_
    refine owp_call [] h17282q rfl (by kernel_rfl) rfl Try.func9 (by kernel_rfl) rfl (by kernel_rfl) (louverlaw10qfixed.calls  A17284q hS) (fun e17287q W17286q hp17288q => ?_)
    obtain ⟨rfl, hS17291q⟩ := hp17288q
    refine ⟨_, rfl, fun a17289q h17290q => ?_⟩
    clear h17282q a17281q
    refine WL.block (c := 1) (m' := 2) h17290q rfl [(6, .bool r17285q)] (by kernel_rfl) (fun a17292q h17293q => ?_)
    clear h17290q a17289q
    refine WL.done (by kernel_rfl) ?_
    refine wp_ret ?_
    obtain rfl := Option.some.inj H
    repeat (first | refine then_ret ?_ | refine inBlock_ret ?_ | refine inBlock_go ?_)
    refine body_ret (v := .bool r17285q) h17293q (by kernel_rfl) (by kernel_rfl) ?_
    exact ⟨rfl, hS17291q⟩
  · rw [if_neg c17283q] at H
    have hb_ : (decide ((p2.length : Int) > 500)) = false := decide_eq_false c17283q
    try rw [hb_] at h17282q
    clear hb_
    refine wp_else h17282q rfl ?_
    refine wp_skip ?_
    refine wp_seq ?_
    refine WL.start ?_
    refine WL.block (c := 2) (m' := 2) h17282q rfl [(25, .bool p1), (24, .int .i64 p0)] (by kernel_rfl) (fun a17294q h17295q => ?_)
    clear h17282q a17281q
    obtain ⟨r17297q, A17296q, H⟩ := bind1 H
    refine WL.op' (m := 2) h17295q rfl rfl ?_
    refine owp_call [.int .i64 p0, .bool p1] h17295q rfl (by kernel_rfl) rfl Try.func18 (by kernel_rfl) rfl (by kernel_rfl) (window_New.calls  A17296q hS) (fun e17299q W17298q hp17300q => ?_)
    obtain ⟨v17303q, M17304q, rfl, hr17305q, hS17306q⟩ := hp17300q
    refine ⟨_, rfl, fun a17301q h17302q => ?_⟩
    clear h17295q a17294q
    refine WL.block (c := 1) (m' := 4) h17302q rfl [(7, v17303q)] (by kernel_rfl) (fun a17307q h17308q => ?_)
    clear h17302q a17301q
    refine WL.done (by kernel_rfl) ?_
    refine wp_seq ?_
    refine WL.start ?_
    refine WL.block (c := 2) (m' := 2) h17308q rfl [(28, .bool p1), (27, .int .i64 p0)] (by kernel_rfl) (fun a17309q h17310q => ?_)
    clear h17308q a17307q
    obtain ⟨r17312q, A17311q, H⟩ := bind1 H
    refine WL.op' (m := 2) h17310q rfl rfl ?_
    refine owp_call [.int .i64 p0, .bool p1] h17310q rfl (by kernel_rfl) rfl Try.func23 (by kernel_rfl) rfl (by kernel_rfl) (louverref10qNew.calls  A17311q hS17306q) (fun e17314q W17313q hp17315q => ?_)
    obtain ⟨rfl, hS17318q⟩ := hp17315q
    refine ⟨_, rfl, fun a17316q h17317q => ?_⟩
    clear h17310q a17309q
    refine WL.op' (m := 3) h17317q rfl rfl ?_
    refine owp_new (fun g_ => .pointer (some ⟨g_, 0, none⟩)) (.cells ([.int .i64 0, .bool false] : List Value).toArray 55 (0, 0)) h17317q rfl (by kernel_rfl) (by kernel_rfl) hS17318q (fun a17319q W17321q g17322q h17320q hS17323q => ?_)
    clear h17317q a17316q
    refine WL.op' (m := 4) h17320q rfl rfl ?_
    refine owp_store (i := 0) (vs := ([.int .i64 r17312q.f0, .bool r17312q.f1] : List Value)) h17320q rfl (by kernel_rfl) rfl rfl rfl rfl (by simp [Value.oneCell']) (by kernel_rfl) hS17323q (by simp) (cs' := ([.int .i64 r17312q.f0, .bool r17312q.f1] : List Value)) rfl (fun a17324q W17326q h17325q hS17327q => ?_)
    clear h17320q a17319q
    refine WL.done (by kernel_rfl) ?_
    refine wp_seq ?_
    refine wp_seq ?_
    refine WL.start ?_
    refine WL.block (c := 3) (m' := 3) h17325q rfl [(32, .int .i64 0), (31, .int .i64 (p2.length : Int)), (30, .slice A2 p2.length c2)] (by kernel_rfl) (fun a17328q h17329q => ?_)
    clear h17325q a17324q
    refine WL.done (by kernel_rfl) ?_
    refine wp_block ?_
    have hS17341q : St b w0 W17326q R (M17304q :: [(g17322q, .cells ([.int .i64 r17312q.f0, .bool r17312q.f1] : List Value).toArray 55 (0, 0))] :: Fs) := hS17327q.bring 1 rfl rfl
    refine wp_loop_ghost (fun kq_ a_ W_ => ∃ (x17335q : S68), ∃ (M17336q : Frag), ∃ (x17338q : Int), ∃ (x17339q : Bool), ∃ (x17340q : Int), Hd a_ 115 [(7, v17303q), (8, .pointer (some ⟨g17322q, 0, none⟩)), (30, .slice A2 p2.length c2), (31, .int .i64 (p2.length : Int)), (32, .int .i64 x17340q)] ∧ Asd (louverlaw10qWindowPlays.l0 kq_ x17335q x17338q x17339q x17340q p2 = some r0q) ∧ Asd (kq_ ≤ k) ∧ Asd (St b w0 W_ R (M17336q :: [(g17322q, .cells ([.int .i64 x17338q, .bool x17339q] : List Value).toArray 55 (0, 0))] :: Fs)) ∧ Asd (Ptr k68 68 b w0 R v17303q x17335q M17336q)) k ⟨r17297q, M17304q, r17312q.f0, r17312q.f1, 0, h17329q.keep ⟨rfl, rfl, rfl, rfl, rfl, trivial⟩, ⟨H⟩, ⟨Nat.le_refl _⟩, ⟨hS17341q⟩, ⟨hr17305q⟩⟩ ?_
    clear H hS17341q
    rintro k17334q a17331q W17332q ⟨x17335q, M17336q, x17338q, x17339q, x17340q, h17330q, ⟨H⟩, ⟨hkk17334q⟩, ⟨hS17333q⟩, ⟨hr17337q⟩⟩
    obtain _ | k17342q := k17334q
    · exact absurd H (by simp [louverlaw10qWindowPlays.l0])
    simp only [louverlaw10qWindowPlays.l0] at H
    refine wp_seq ?_
    refine WL.start ?_
    refine WL.block (c := 1) (m' := 1) h17330q rfl [(33, .bool (decide (x17340q < (p2.length : Int))))] (by kernel_rfl) (fun a17343q h17344q => ?_)
    clear h17330q a17331q
    refine WL.done (by kernel_rfl) ?_
    refine wp_seq ?_
    by_cases c17345q : x17340q < (p2.length : Int)
    · rw [if_pos c17345q] at H
      have hb_ : (decide (x17340q < (p2.length : Int))) = true := decide_eq_true c17345q
      try rw [hb_] at h17344q
      clear hb_
      refine wp_then h17344q rfl ?_
      refine wp_skip ?_
      refine wp_seq ?_
      refine wp_block ?_
      refine wp_seq ?_
      refine WL.start ?_
      by_cases c17346q : 0 ≤ x17340q
      · rw [if_pos c17346q] at H
        have hi17349q : 0 ≤ x17340q := by first | assumption | omega
        have hi17350q : x17340q < (p2.length : Int) := by first | assumption | omega
        obtain ⟨ad17347q, _, ha17348q, -, -⟩ := Rds.elemAny hp2 hi17349q (gt_get (z := z33) hi17349q hi17350q)
        refine WL.op' (m := 0) h17344q rfl rfl ?_
        refine owp_run (v := .pointer (some (ad17347q.add (x17340q.toNat * 4)))) h17344q rfl (by kernel_rfl) (run_idx (ad := ad17347q) (sz := 4) rfl (by rw [← ha17348q]; rfl) rfl Try.underlying23 (by kernel_rfl) hi17349q hi17350q) (fun a17351q h17352q => ?_)
        clear h17344q a17343q
        obtain ⟨ad17353q, cs17354q, ha17355q, hr17357q, hc17356q⟩ := Rds.elemAny hp2 hi17349q (gt_get (z := z33) hi17349q hi17350q)
        rw [ha17348q] at ha17355q; obtain rfl := Option.some.inj ha17355q
        obtain rfl := k33qrd hr17357q
        refine WL.op' (m := 1) h17352q rfl rfl ?_
        refine owp_run (v := .agg #[.int .i64 ((gt z33 p2 x17340q).f0), .int .i64 ((gt z33 p2 x17340q).f1), .int .u32 ((gt z33 p2 x17340q).f2), .int .u32 ((gt z33 p2 x17340q).f3)]) h17352q rfl (by kernel_rfl) (run_loadN rfl rfl Try.underlying33 rfl (cs := ([.int .i64 ((gt z33 p2 x17340q).f0), .int .i64 ((gt z33 p2 x17340q).f1), .int .u32 ((gt z33 p2 x17340q).f2), .int .u32 ((gt z33 p2 x17340q).f3)] : List Value)) (by kernel_rfl) (hc17356q _ (fun _ _ hk_ => hS17333q.kn hk_))) (fun a17358q h17359q => ?_)
        clear h17352q a17351q
        refine WL.op' (m := 2) h17359q rfl rfl ?_
        refine owp_new (fun g_ => .pointer (some ⟨g_, 0, none⟩)) (.cells ([.int .i64 0, .int .i64 0, .int .u32 0, .int .u32 0] : List Value).toArray 33 (0, 0)) h17359q rfl (by kernel_rfl) (by kernel_rfl) hS17333q (fun a17360q W17362q g17363q h17361q hS17364q => ?_)
        clear h17359q a17358q
        refine WL.op' (m := 3) h17361q rfl rfl ?_
        refine owp_store (i := 0) (vs := ([.int .i64 ((gt z33 p2 x17340q).f0), .int .i64 ((gt z33 p2 x17340q).f1), .int .u32 ((gt z33 p2 x17340q).f2), .int .u32 ((gt z33 p2 x17340q).f3)] : List Value)) h17361q rfl (by kernel_rfl) rfl rfl rfl rfl (by simp [Value.oneCell']) (by kernel_rfl) hS17364q (by simp) (cs' := ([.int .i64 ((gt z33 p2 x17340q).f0), .int .i64 ((gt z33 p2 x17340q).f1), .int .u32 ((gt z33 p2 x17340q).f2), .int .u32 ((gt z33 p2 x17340q).f3)] : List Value)) rfl (fun a17365q W17367q h17366q hS17368q => ?_)
        clear h17361q a17360q
        refine WL.done (by kernel_rfl) ?_
        refine wp_seq ?_
        refine WL.start ?_
        refine WL.block (c := 1) (m' := 1) h17366q rfl [(11, .int .i64 0)] (by kernel_rfl) (fun a17369q h17370q => ?_)
        clear h17366q a17365q
        refine WL.done (by kernel_rfl) ?_
        refine wp_seq ?_
        refine WL.start ?_
        refine WL.op' (m := 0) h17370q rfl rfl ?_
        refine owp_new (fun g_ => .pointer (some ⟨g_, 0, none⟩)) (.cells ([.int .u8 0, .int .u32 0] : List Value).toArray 31 (0, 0)) h17370q rfl (by kernel_rfl) (by kernel_rfl) hS17368q (fun a17371q W17373q g17374q h17372q hS17375q => ?_)
        clear h17370q a17369q
        refine WL.done (by kernel_rfl) ?_
        refine wp_seq ?_
        refine wp_seq ?_
        refine WL.start ?_
        refine WL.block (c := 1) (m' := 1) h17372q rfl [(36, .pointer (some ⟨g17363q, 0, none⟩))] (by kernel_rfl) (fun a17376q h17377q => ?_)
        clear h17372q a17371q
        have hS17378q : St b w0 W17373q R ([(g17363q, .cells ([.int .i64 ((gt z33 p2 x17340q).f0), .int .i64 ((gt z33 p2 x17340q).f1), .int .u32 ((gt z33 p2 x17340q).f2), .int .u32 ((gt z33 p2 x17340q).f3)] : List Value).toArray 33 (0, 0))] :: [(g17374q, .cells ([.int .u8 0, .int .u32 0] : List Value).toArray 31 (0, 0))] :: M17336q :: [(g17322q, .cells ([.int .i64 x17338q, .bool x17339q] : List Value).toArray 55 (0, 0))] :: Fs) := hS17375q.bring 1 rfl rfl
        refine WL.op' (m := 1) h17377q rfl rfl ?_
        refine owp_run (v := .int .i64 ((gt z33 p2 x17340q).f0)) h17377q rfl (by kernel_rfl) (run_load1 rfl rfl Try.underlying3 rfl (hS17378q.cell (i := 0) rfl)) (fun a17379q h17380q => ?_)
        clear h17377q a17376q
        refine WL.done (by kernel_rfl) ?_
        refine wp_meet (I := fun a_ W_ => ∃ kq_, ∃ (x17590q : S68), ∃ (M17591q : Frag), ∃ (x17593q : Int), ∃ (x17594q : Bool), ∃ (x17595q : Int), ∃ (x17596q : Int), ∃ (x17597q : Int), Hd a_ 115 [(7, v17303q), (8, .pointer (some ⟨g17322q, 0, none⟩)), (11, .int .i64 x17595q), (12, .pointer (some ⟨g17374q, 0, none⟩)), (30, .slice A2 p2.length c2), (31, .int .i64 (p2.length : Int)), (32, .int .i64 x17340q)] ∧ Asd (louverlaw10qWindowPlays.j1 kq_ x17590q x17593q x17594q x17595q x17596q x17597q p2 x17340q = some r0q) ∧ Asd (kq_ ≤ k17342q) ∧ Asd (St b w0 W_ R (M17591q :: [(g17322q, .cells ([.int .i64 x17593q, .bool x17594q] : List Value).toArray 55 (0, 0))] :: [(g17374q, .cells ([.int .u8 x17596q, .int .u32 x17597q] : List Value).toArray 31 (0, 0))] :: Fs)) ∧ Asd (Ptr k68 68 b w0 R v17303q x17590q M17591q)) ?_ ?_
        · refine wp_block ?_
          refine wp_seq ?_
          refine WL.start ?_
          refine WL.block (c := 2) (m' := 2) h17380q rfl [(58, .bool (decide (((gt z33 p2 x17340q).f0) = 0))), (59, .bool (decide (((gt z33 p2 x17340q).f0) = 0)))] (by kernel_rfl) (fun a17598q h17599q => ?_)
          clear h17380q a17379q
          refine WL.done (by kernel_rfl) ?_
          by_cases c17600q : ((gt z33 p2 x17340q).f0) = 0
          · rw [if_pos c17600q] at H
            have hb_ : (decide (((gt z33 p2 x17340q).f0) = 0)) = true := decide_eq_true c17600q
            try rw [hb_] at h17599q
            clear hb_
            refine wp_then h17599q rfl ?_
            refine wp_seq ?_
            refine WL.start ?_
            have hS17601q : St b w0 W17373q R ([(g17322q, .cells ([.int .i64 x17338q, .bool x17339q] : List Value).toArray 55 (0, 0))] :: [(g17363q, .cells ([.int .i64 ((gt z33 p2 x17340q).f0), .int .i64 ((gt z33 p2 x17340q).f1), .int .u32 ((gt z33 p2 x17340q).f2), .int .u32 ((gt z33 p2 x17340q).f3)] : List Value).toArray 33 (0, 0))] :: [(g17374q, .cells ([.int .u8 0, .int .u32 0] : List Value).toArray 31 (0, 0))] :: M17336q :: Fs) := hS17378q.bring 3 rfl rfl
            refine WL.op' (m := 0) h17599q rfl rfl ?_
            refine owp_run (v := .agg #[.int .i64 x17338q, .bool x17339q]) h17599q rfl (by kernel_rfl) (run_loadN rfl rfl Try.underlying55 rfl (cs := ([.int .i64 x17338q, .bool x17339q] : List Value)) (by kernel_rfl) (hS17601q.cells (vs := ([.int .i64 x17338q, .bool x17339q] : List Value)) rfl)) (fun a17602q h17603q => ?_)
            clear h17599q a17598q
            refine WL.block (c := 1) (m' := 2) h17603q rfl [(62, .pointer (some ⟨g17363q, 1, none⟩))] (by kernel_rfl) (fun a17604q h17605q => ?_)
            clear h17603q a17602q
            have hS17606q : St b w0 W17373q R ([(g17363q, .cells ([.int .i64 ((gt z33 p2 x17340q).f0), .int .i64 ((gt z33 p2 x17340q).f1), .int .u32 ((gt z33 p2 x17340q).f2), .int .u32 ((gt z33 p2 x17340q).f3)] : List Value).toArray 33 (0, 0))] :: [(g17322q, .cells ([.int .i64 x17338q, .bool x17339q] : List Value).toArray 55 (0, 0))] :: [(g17374q, .cells ([.int .u8 0, .int .u32 0] : List Value).toArray 31 (0, 0))] :: M17336q :: Fs) := hS17601q.bring 1 rfl rfl
            refine WL.op' (m := 2) h17605q rfl rfl ?_
            refine owp_run (v := .int .i64 ((gt z33 p2 x17340q).f1)) h17605q rfl (by kernel_rfl) (run_load1 rfl rfl Try.underlying3 rfl (hS17606q.cell (i := 1) rfl)) (fun a17607q h17608q => ?_)
            clear h17605q a17604q
            obtain ⟨r17610q, r17611q, A17609q, H⟩ := bind2 H
            refine WL.op' (m := 3) h17608q rfl rfl ?_
            refine owp_call [.agg #[.int .i64 x17338q, .bool x17339q], .int .i64 ((gt z33 p2 x17340q).f1)] h17608q rfl (by kernel_rfl) rfl Try.func24 (by kernel_rfl) rfl (by kernel_rfl) (louverref10qW_Take.calls (p0 := (⟨x17338q, x17339q⟩ : S55))  A17609q hS17606q) (fun e17613q W17612q hp17614q => ?_)
            obtain ⟨rfl, hS17617q⟩ := hp17614q
            refine ⟨_, rfl, fun a17615q h17616q => ?_⟩
            clear h17608q a17607q
            refine WL.block (c := 3) (m' := 7) h17616q rfl [(66, .bool r17611q), (65, .agg #[.int .i64 r17610q.f0, .bool r17610q.f1]), (60, .tuple #[.agg #[.int .i64 r17610q.f0, .bool r17610q.f1], .bool r17611q])] (by kernel_rfl) (fun a17618q h17619q => ?_)
            clear h17616q a17615q
            refine WL.op' (m := 7) h17619q rfl rfl ?_
            refine owp_new (fun g_ => .pointer (some ⟨g_, 0, none⟩)) (.cells ([.int .i64 0, .bool false] : List Value).toArray 55 (0, 0)) h17619q rfl (by kernel_rfl) (by kernel_rfl) hS17617q (fun a17620q W17622q g17623q h17621q hS17624q => ?_)
            clear h17619q a17618q
            refine WL.op' (m := 8) h17621q rfl rfl ?_
            refine owp_store (i := 0) (vs := ([.int .i64 r17610q.f0, .bool r17610q.f1] : List Value)) h17621q rfl (by kernel_rfl) rfl rfl rfl rfl (by simp [Value.oneCell']) (by kernel_rfl) hS17624q (by simp) (cs' := ([.int .i64 r17610q.f0, .bool r17610q.f1] : List Value)) rfl (fun a17625q W17627q h17626q hS17628q => ?_)
            clear h17621q a17620q
            refine WL.block (c := 1) (m' := 10) h17626q rfl [(14, .bool r17611q)] (by kernel_rfl) (fun a17629q h17630q => ?_)
            clear h17626q a17625q
            refine WL.done (by kernel_rfl) ?_
            refine wp_seq ?_
            refine WL.start ?_
            refine WL.op' (m := 0) h17630q rfl rfl ?_
            refine owp_run (v := .agg #[.int .i64 r17610q.f0, .bool r17610q.f1]) h17630q rfl (by kernel_rfl) (run_loadN rfl rfl Try.underlying55 rfl (cs := ([.int .i64 r17610q.f0, .bool r17610q.f1] : List Value)) (by kernel_rfl) (hS17628q.cells (vs := ([.int .i64 r17610q.f0, .bool r17610q.f1] : List Value)) rfl)) (fun a17631q h17632q => ?_)
            clear h17630q a17629q
            have hS17633q : St b w0 W17627q R ([(g17322q, .cells ([.int .i64 x17338q, .bool x17339q] : List Value).toArray 55 (0, 0))] :: [(g17623q, .cells ([.int .i64 r17610q.f0, .bool r17610q.f1] : List Value).toArray 55 (0, 0))] :: [(g17363q, .cells ([.int .i64 ((gt z33 p2 x17340q).f0), .int .i64 ((gt z33 p2 x17340q).f1), .int .u32 ((gt z33 p2 x17340q).f2), .int .u32 ((gt z33 p2 x17340q).f3)] : List Value).toArray 33 (0, 0))] :: [(g17374q, .cells ([.int .u8 0, .int .u32 0] : List Value).toArray 31 (0, 0))] :: M17336q :: Fs) := hS17628q.bring 2 rfl rfl
            refine WL.op' (m := 1) h17632q rfl rfl ?_
            refine owp_store (i := 0) (vs := ([.int .i64 r17610q.f0, .bool r17610q.f1] : List Value)) h17632q rfl (by kernel_rfl) rfl rfl rfl rfl (by simp [Value.oneCell']) (by kernel_rfl) hS17633q (by simp) (cs' := ([.int .i64 r17610q.f0, .bool r17610q.f1] : List Value)) rfl (fun a17634q W17636q h17635q hS17637q => ?_)
            clear h17632q a17631q
            refine WL.done (by kernel_rfl) ?_
            refine wp_seq ?_
            refine WL.start ?_
            refine WL.block (c := 2) (m' := 2) h17635q rfl [(69, .pointer (some ⟨g17363q, 1, none⟩)), (68, v17303q)] (by kernel_rfl) (fun a17638q h17639q => ?_)
            clear h17635q a17634q
            have hS17640q : St b w0 W17636q R ([(g17363q, .cells ([.int .i64 ((gt z33 p2 x17340q).f0), .int .i64 ((gt z33 p2 x17340q).f1), .int .u32 ((gt z33 p2 x17340q).f2), .int .u32 ((gt z33 p2 x17340q).f3)] : List Value).toArray 33 (0, 0))] :: [(g17322q, .cells ([.int .i64 r17610q.f0, .bool r17610q.f1] : List Value).toArray 55 (0, 0))] :: [(g17623q, .cells ([.int .i64 r17610q.f0, .bool r17610q.f1] : List Value).toArray 55 (0, 0))] :: [(g17374q, .cells ([.int .u8 0, .int .u32 0] : List Value).toArray 31 (0, 0))] :: M17336q :: Fs) := hS17637q.bring 2 rfl rfl
            refine WL.op' (m := 2) h17639q rfl rfl ?_
            refine owp_run (v := .int .i64 ((gt z33 p2 x17340q).f1)) h17639q rfl (by kernel_rfl) (run_load1 rfl rfl Try.underlying3 rfl (hS17640q.cell (i := 1) rfl)) (fun a17641q h17642q => ?_)
            clear h17639q a17638q
            have hS17643q : St b w0 W17636q R (M17336q :: [(g17363q, .cells ([.int .i64 ((gt z33 p2 x17340q).f0), .int .i64 ((gt z33 p2 x17340q).f1), .int .u32 ((gt z33 p2 x17340q).f2), .int .u32 ((gt z33 p2 x17340q).f3)] : List Value).toArray 33 (0, 0))] :: [(g17322q, .cells ([.int .i64 r17610q.f0, .bool r17610q.f1] : List Value).toArray 55 (0, 0))] :: [(g17623q, .cells ([.int .i64 r17610q.f0, .bool r17610q.f1] : List Value).toArray 55 (0, 0))] :: [(g17374q, .cells ([.int .u8 0, .int .u32 0] : List Value).toArray 31 (0, 0))] :: Fs) := hS17640q.bring 4 rfl rfl
            obtain ⟨r17645q, r17646q, A17644q, H⟩ := bind2 H
            refine WL.op' (m := 3) h17642q rfl rfl ?_
            refine owp_call [v17303q, .int .i64 ((gt z33 p2 x17340q).f1)] h17642q rfl (by kernel_rfl) rfl Try.func21 (by kernel_rfl) rfl (by kernel_rfl) (window_Window_Take.calls hr17337q A17644q hS17643q) (fun e17648q W17647q hp17649q => ?_)
            obtain ⟨M17652q, rfl, hr17653q, hS17654q⟩ := hp17649q
            refine ⟨_, rfl, fun a17650q h17651q => ?_⟩
            clear h17642q a17641q
            refine WL.block (c := 2) (m' := 6) h17651q rfl [(73, .bool (r17645q != r17611q)), (72, .bool r17611q)] (by kernel_rfl) (fun a17655q h17656q => ?_)
            clear h17651q a17650q
            refine WL.done (by kernel_rfl) ?_
            by_cases c17657q : (r17645q != r17611q) = true
            · rw [if_pos c17657q] at H
              have hb_ : (r17645q != r17611q) = true := c17657q
              try rw [hb_] at h17656q
              clear hb_
              refine wp_then h17656q rfl ?_
              refine wp_seq ?_
              refine WL.start ?_
              refine WL.block (c := 1) (m' := 1) h17656q rfl [(6, .bool false)] (by kernel_rfl) (fun a17658q h17659q => ?_)
              clear h17656q a17655q
              refine WL.done (by kernel_rfl) ?_
              refine wp_ret ?_
              have hS17660q : St b w0 W17647q R ([(g17363q, .cells ([.int .i64 ((gt z33 p2 x17340q).f0), .int .i64 ((gt z33 p2 x17340q).f1), .int .u32 ((gt z33 p2 x17340q).f2), .int .u32 ((gt z33 p2 x17340q).f3)] : List Value).toArray 33 (0, 0))] :: [(g17322q, .cells ([.int .i64 r17610q.f0, .bool r17610q.f1] : List Value).toArray 55 (0, 0))] :: [(g17623q, .cells ([.int .i64 r17610q.f0, .bool r17610q.f1] : List Value).toArray 55 (0, 0))] :: [(g17374q, .cells ([.int .u8 0, .int .u32 0] : List Value).toArray 31 (0, 0))] :: Fs) := hS17654q.drop_
              have hS17661q : St b w0 W17647q R ([(g17322q, .cells ([.int .i64 r17610q.f0, .bool r17610q.f1] : List Value).toArray 55 (0, 0))] :: [(g17623q, .cells ([.int .i64 r17610q.f0, .bool r17610q.f1] : List Value).toArray 55 (0, 0))] :: [(g17374q, .cells ([.int .u8 0, .int .u32 0] : List Value).toArray 31 (0, 0))] :: Fs) := hS17660q.drop_
              have hS17662q : St b w0 W17647q R ([(g17623q, .cells ([.int .i64 r17610q.f0, .bool r17610q.f1] : List Value).toArray 55 (0, 0))] :: [(g17374q, .cells ([.int .u8 0, .int .u32 0] : List Value).toArray 31 (0, 0))] :: Fs) := hS17661q.drop_
              have hS17663q : St b w0 W17647q R ([(g17374q, .cells ([.int .u8 0, .int .u32 0] : List Value).toArray 31 (0, 0))] :: Fs) := hS17662q.drop_
              have hS17664q : St b w0 W17647q R (Fs) := hS17663q.drop_
              obtain rfl := Option.some.inj H
              repeat (first | refine then_ret ?_ | refine inBlock_ret ?_ | refine inBlock_go ?_)
              refine body_ret (v := .bool false) h17659q (by kernel_rfl) (by kernel_rfl) ?_
              exact ⟨rfl, hS17664q⟩
            · rw [if_neg c17657q] at H
              have hb_ : (r17645q != r17611q) = false := (Bool.eq_false_iff.2 c17657q)
              try rw [hb_] at h17656q
              clear hb_
              refine wp_else h17656q rfl ?_
              refine wp_skip ?_
              have hS17665q : St b w0 W17647q R ([(g17363q, .cells ([.int .i64 ((gt z33 p2 x17340q).f0), .int .i64 ((gt z33 p2 x17340q).f1), .int .u32 ((gt z33 p2 x17340q).f2), .int .u32 ((gt z33 p2 x17340q).f3)] : List Value).toArray 33 (0, 0))] :: M17652q :: [(g17322q, .cells ([.int .i64 r17610q.f0, .bool r17610q.f1] : List Value).toArray 55 (0, 0))] :: [(g17623q, .cells ([.int .i64 r17610q.f0, .bool r17610q.f1] : List Value).toArray 55 (0, 0))] :: [(g17374q, .cells ([.int .u8 0, .int .u32 0] : List Value).toArray 31 (0, 0))] :: Fs) := hS17654q.bring 1 rfl rfl
              have hS17666q : St b w0 W17647q R (M17652q :: [(g17322q, .cells ([.int .i64 r17610q.f0, .bool r17610q.f1] : List Value).toArray 55 (0, 0))] :: [(g17623q, .cells ([.int .i64 r17610q.f0, .bool r17610q.f1] : List Value).toArray 55 (0, 0))] :: [(g17374q, .cells ([.int .u8 0, .int .u32 0] : List Value).toArray 31 (0, 0))] :: Fs) := hS17665q.drop_
              have hS17667q : St b w0 W17647q R ([(g17623q, .cells ([.int .i64 r17610q.f0, .bool r17610q.f1] : List Value).toArray 55 (0, 0))] :: M17652q :: [(g17322q, .cells ([.int .i64 r17610q.f0, .bool r17610q.f1] : List Value).toArray 55 (0, 0))] :: [(g17374q, .cells ([.int .u8 0, .int .u32 0] : List Value).toArray 31 (0, 0))] :: Fs) := hS17666q.bring 2 rfl rfl
              have hS17668q : St b w0 W17647q R (M17652q :: [(g17322q, .cells ([.int .i64 r17610q.f0, .bool r17610q.f1] : List Value).toArray 55 (0, 0))] :: [(g17374q, .cells ([.int .u8 0, .int .u32 0] : List Value).toArray 31 (0, 0))] :: Fs) := hS17667q.drop_
              exact ⟨k17342q, r17646q, M17652q, r17610q.f0, r17610q.f1, 0, 0, 0, h17656q.keep ⟨rfl, rfl, rfl, rfl, rfl, rfl, rfl, trivial⟩, ⟨H⟩, ⟨Nat.le_refl _⟩, ⟨hS17668q⟩, ⟨hr17653q⟩⟩
          · rw [if_neg c17600q] at H
            have hb_ : (decide (((gt z33 p2 x17340q).f0) = 0)) = false := decide_eq_false c17600q
            try rw [hb_] at h17599q
            clear hb_
            refine wp_else h17599q rfl ?_
            refine wp_seq ?_
            refine WL.start ?_
            refine WL.block (c := 2) (m' := 2) h17599q rfl [(74, .bool (decide (((gt z33 p2 x17340q).f0) = 1))), (75, .bool (decide (((gt z33 p2 x17340q).f0) = 1)))] (by kernel_rfl) (fun a17669q h17670q => ?_)
            clear h17599q a17598q
            refine WL.done (by kernel_rfl) ?_
            by_cases c17671q : ((gt z33 p2 x17340q).f0) = 1
            · rw [if_pos c17671q] at H
              have hb_ : (decide (((gt z33 p2 x17340q).f0) = 1)) = true := decide_eq_true c17671q
              try rw [hb_] at h17670q
              clear hb_
              refine wp_then h17670q rfl ?_
              refine wp_seq ?_
              refine WL.start ?_
              have hS17672q : St b w0 W17373q R ([(g17322q, .cells ([.int .i64 x17338q, .bool x17339q] : List Value).toArray 55 (0, 0))] :: [(g17363q, .cells ([.int .i64 ((gt z33 p2 x17340q).f0), .int .i64 ((gt z33 p2 x17340q).f1), .int .u32 ((gt z33 p2 x17340q).f2), .int .u32 ((gt z33 p2 x17340q).f3)] : List Value).toArray 33 (0, 0))] :: [(g17374q, .cells ([.int .u8 0, .int .u32 0] : List Value).toArray 31 (0, 0))] :: M17336q :: Fs) := hS17378q.bring 3 rfl rfl
              refine WL.op' (m := 0) h17670q rfl rfl ?_
              refine owp_run (v := .agg #[.int .i64 x17338q, .bool x17339q]) h17670q rfl (by kernel_rfl) (run_loadN rfl rfl Try.underlying55 rfl (cs := ([.int .i64 x17338q, .bool x17339q] : List Value)) (by kernel_rfl) (hS17672q.cells (vs := ([.int .i64 x17338q, .bool x17339q] : List Value)) rfl)) (fun a17673q h17674q => ?_)
              clear h17670q a17669q
              refine WL.block (c := 1) (m' := 2) h17674q rfl [(78, .pointer (some ⟨g17363q, 2, none⟩))] (by kernel_rfl) (fun a17675q h17676q => ?_)
              clear h17674q a17673q
              have hS17677q : St b w0 W17373q R ([(g17363q, .cells ([.int .i64 ((gt z33 p2 x17340q).f0), .int .i64 ((gt z33 p2 x17340q).f1), .int .u32 ((gt z33 p2 x17340q).f2), .int .u32 ((gt z33 p2 x17340q).f3)] : List Value).toArray 33 (0, 0))] :: [(g17322q, .cells ([.int .i64 x17338q, .bool x17339q] : List Value).toArray 55 (0, 0))] :: [(g17374q, .cells ([.int .u8 0, .int .u32 0] : List Value).toArray 31 (0, 0))] :: M17336q :: Fs) := hS17672q.bring 1 rfl rfl
              refine WL.op' (m := 2) h17676q rfl rfl ?_
              refine owp_run (v := .int .u32 ((gt z33 p2 x17340q).f2)) h17676q rfl (by kernel_rfl) (run_load1 rfl rfl Try.underlying22 rfl (hS17677q.cell (i := 2) rfl)) (fun a17678q h17679q => ?_)
              clear h17676q a17675q
              refine WL.block (c := 1) (m' := 4) h17679q rfl [(80, .int .i64 (IntKind.i64.wrap ((gt z33 p2 x17340q).f2)))] (by kernel_rfl) (fun a17680q h17681q => ?_)
              clear h17679q a17678q
              obtain ⟨r17683q, r17684q, A17682q, H⟩ := bind2 H
              refine WL.op' (m := 4) h17681q rfl rfl ?_
              refine owp_call [.agg #[.int .i64 x17338q, .bool x17339q], .int .i64 (IntKind.i64.wrap ((gt z33 p2 x17340q).f2)), .bool false] h17681q rfl (by kernel_rfl) rfl Try.func25 (by kernel_rfl) rfl (by kernel_rfl) (louverref10qW_Grow.calls (p0 := (⟨x17338q, x17339q⟩ : S55))  A17682q hS17677q) (fun e17686q W17685q hp17687q => ?_)
              obtain ⟨rfl, hS17690q⟩ := hp17687q
              refine ⟨_, rfl, fun a17688q h17689q => ?_⟩
              clear h17681q a17680q
              refine WL.block (c := 3) (m' := 8) h17689q rfl [(83, .int .i64 r17684q), (82, .agg #[.int .i64 r17683q.f0, .bool r17683q.f1]), (76, .tuple #[.agg #[.int .i64 r17683q.f0, .bool r17683q.f1], .int .i64 r17684q])] (by kernel_rfl) (fun a17691q h17692q => ?_)
              clear h17689q a17688q
              refine WL.op' (m := 8) h17692q rfl rfl ?_
              refine owp_new (fun g_ => .pointer (some ⟨g_, 0, none⟩)) (.cells ([.int .i64 0, .bool false] : List Value).toArray 55 (0, 0)) h17692q rfl (by kernel_rfl) (by kernel_rfl) hS17690q (fun a17693q W17695q g17696q h17694q hS17697q => ?_)
              clear h17692q a17691q
              refine WL.op' (m := 9) h17694q rfl rfl ?_
              refine owp_store (i := 0) (vs := ([.int .i64 r17683q.f0, .bool r17683q.f1] : List Value)) h17694q rfl (by kernel_rfl) rfl rfl rfl rfl (by simp [Value.oneCell']) (by kernel_rfl) hS17697q (by simp) (cs' := ([.int .i64 r17683q.f0, .bool r17683q.f1] : List Value)) rfl (fun a17698q W17700q h17699q hS17701q => ?_)
              clear h17694q a17693q
              refine WL.block (c := 1) (m' := 11) h17699q rfl [(16, .int .i64 r17684q)] (by kernel_rfl) (fun a17702q h17703q => ?_)
              clear h17699q a17698q
              refine WL.done (by kernel_rfl) ?_
              refine wp_seq ?_
              refine WL.start ?_
              refine WL.op' (m := 0) h17703q rfl rfl ?_
              refine owp_run (v := .agg #[.int .i64 r17683q.f0, .bool r17683q.f1]) h17703q rfl (by kernel_rfl) (run_loadN rfl rfl Try.underlying55 rfl (cs := ([.int .i64 r17683q.f0, .bool r17683q.f1] : List Value)) (by kernel_rfl) (hS17701q.cells (vs := ([.int .i64 r17683q.f0, .bool r17683q.f1] : List Value)) rfl)) (fun a17704q h17705q => ?_)
              clear h17703q a17702q
              have hS17706q : St b w0 W17700q R ([(g17322q, .cells ([.int .i64 x17338q, .bool x17339q] : List Value).toArray 55 (0, 0))] :: [(g17696q, .cells ([.int .i64 r17683q.f0, .bool r17683q.f1] : List Value).toArray 55 (0, 0))] :: [(g17363q, .cells ([.int .i64 ((gt z33 p2 x17340q).f0), .int .i64 ((gt z33 p2 x17340q).f1), .int .u32 ((gt z33 p2 x17340q).f2), .int .u32 ((gt z33 p2 x17340q).f3)] : List Value).toArray 33 (0, 0))] :: [(g17374q, .cells ([.int .u8 0, .int .u32 0] : List Value).toArray 31 (0, 0))] :: M17336q :: Fs) := hS17701q.bring 2 rfl rfl
              refine WL.op' (m := 1) h17705q rfl rfl ?_
              refine owp_store (i := 0) (vs := ([.int .i64 r17683q.f0, .bool r17683q.f1] : List Value)) h17705q rfl (by kernel_rfl) rfl rfl rfl rfl (by simp [Value.oneCell']) (by kernel_rfl) hS17706q (by simp) (cs' := ([.int .i64 r17683q.f0, .bool r17683q.f1] : List Value)) rfl (fun a17707q W17709q h17708q hS17710q => ?_)
              clear h17705q a17704q
              refine WL.done (by kernel_rfl) ?_
              refine wp_seq ?_
              refine WL.start ?_
              refine WL.block (c := 2) (m' := 2) h17708q rfl [(11, .int .i64 r17684q), (85, .int .i64 r17684q)] (by kernel_rfl) (fun a17711q h17712q => ?_)
              clear h17708q a17707q
              refine WL.done (by kernel_rfl) ?_
              refine WL.start ?_
              refine WL.block (c := 2) (m' := 2) h17712q rfl [(87, .pointer (some ⟨g17363q, 2, none⟩)), (86, v17303q)] (by kernel_rfl) (fun a17713q h17714q => ?_)
              clear h17712q a17711q
              have hS17715q : St b w0 W17709q R ([(g17363q, .cells ([.int .i64 ((gt z33 p2 x17340q).f0), .int .i64 ((gt z33 p2 x17340q).f1), .int .u32 ((gt z33 p2 x17340q).f2), .int .u32 ((gt z33 p2 x17340q).f3)] : List Value).toArray 33 (0, 0))] :: [(g17322q, .cells ([.int .i64 r17683q.f0, .bool r17683q.f1] : List Value).toArray 55 (0, 0))] :: [(g17696q, .cells ([.int .i64 r17683q.f0, .bool r17683q.f1] : List Value).toArray 55 (0, 0))] :: [(g17374q, .cells ([.int .u8 0, .int .u32 0] : List Value).toArray 31 (0, 0))] :: M17336q :: Fs) := hS17710q.bring 2 rfl rfl
              refine WL.op' (m := 2) h17714q rfl rfl ?_
              refine owp_run (v := .int .u32 ((gt z33 p2 x17340q).f2)) h17714q rfl (by kernel_rfl) (run_load1 rfl rfl Try.underlying22 rfl (hS17715q.cell (i := 2) rfl)) (fun a17716q h17717q => ?_)
              clear h17714q a17713q
              have hS17718q : St b w0 W17709q R (M17336q :: [(g17363q, .cells ([.int .i64 ((gt z33 p2 x17340q).f0), .int .i64 ((gt z33 p2 x17340q).f1), .int .u32 ((gt z33 p2 x17340q).f2), .int .u32 ((gt z33 p2 x17340q).f3)] : List Value).toArray 33 (0, 0))] :: [(g17322q, .cells ([.int .i64 r17683q.f0, .bool r17683q.f1] : List Value).toArray 55 (0, 0))] :: [(g17696q, .cells ([.int .i64 r17683q.f0, .bool r17683q.f1] : List Value).toArray 55 (0, 0))] :: [(g17374q, .cells ([.int .u8 0, .int .u32 0] : List Value).toArray 31 (0, 0))] :: Fs) := hS17715q.bring 4 rfl rfl
              obtain ⟨r17720q, r17721q, A17719q, H⟩ := bind2 H
              refine WL.op' (m := 3) h17717q rfl rfl ?_
              refine owp_call [v17303q, .int .u32 ((gt z33 p2 x17340q).f2)] h17717q rfl (by kernel_rfl) rfl Try.func22 (by kernel_rfl) rfl (by kernel_rfl) (window_Window_Grow.calls hr17337q A17719q hS17718q) (fun e17723q W17722q hp17724q => ?_)
              obtain ⟨M17727q, rfl, hr17728q, hS17729q⟩ := hp17724q
              refine ⟨_, rfl, fun a17725q h17726q => ?_⟩
              clear h17717q a17716q
              have hS17730q : St b w0 W17722q R ([(g17374q, .cells ([.int .u8 0, .int .u32 0] : List Value).toArray 31 (0, 0))] :: M17727q :: [(g17363q, .cells ([.int .i64 ((gt z33 p2 x17340q).f0), .int .i64 ((gt z33 p2 x17340q).f1), .int .u32 ((gt z33 p2 x17340q).f2), .int .u32 ((gt z33 p2 x17340q).f3)] : List Value).toArray 33 (0, 0))] :: [(g17322q, .cells ([.int .i64 r17683q.f0, .bool r17683q.f1] : List Value).toArray 55 (0, 0))] :: [(g17696q, .cells ([.int .i64 r17683q.f0, .bool r17683q.f1] : List Value).toArray 55 (0, 0))] :: Fs) := hS17729q.bring 4 rfl rfl
              refine WL.op' (m := 4) h17726q rfl rfl ?_
              refine owp_store (i := 0) (vs := ([.int .u8 r17720q.f0, .int .u32 r17720q.f1] : List Value)) h17726q rfl (by kernel_rfl) rfl rfl rfl rfl (by simp [Value.oneCell']) (by kernel_rfl) hS17730q (by simp) (cs' := ([.int .u8 r17720q.f0, .int .u32 r17720q.f1] : List Value)) rfl (fun a17731q W17733q h17732q hS17734q => ?_)
              clear h17726q a17725q
              refine WL.done (by kernel_rfl) ?_
              have hS17735q : St b w0 W17733q R ([(g17363q, .cells ([.int .i64 ((gt z33 p2 x17340q).f0), .int .i64 ((gt z33 p2 x17340q).f1), .int .u32 ((gt z33 p2 x17340q).f2), .int .u32 ((gt z33 p2 x17340q).f3)] : List Value).toArray 33 (0, 0))] :: [(g17374q, .cells ([.int .u8 r17720q.f0, .int .u32 r17720q.f1] : List Value).toArray 31 (0, 0))] :: M17727q :: [(g17322q, .cells ([.int .i64 r17683q.f0, .bool r17683q.f1] : List Value).toArray 55 (0, 0))] :: [(g17696q, .cells ([.int .i64 r17683q.f0, .bool r17683q.f1] : List Value).toArray 55 (0, 0))] :: Fs) := hS17734q.bring 2 rfl rfl
              have hS17736q : St b w0 W17733q R ([(g17374q, .cells ([.int .u8 r17720q.f0, .int .u32 r17720q.f1] : List Value).toArray 31 (0, 0))] :: M17727q :: [(g17322q, .cells ([.int .i64 r17683q.f0, .bool r17683q.f1] : List Value).toArray 55 (0, 0))] :: [(g17696q, .cells ([.int .i64 r17683q.f0, .bool r17683q.f1] : List Value).toArray 55 (0, 0))] :: Fs) := hS17735q.drop_
              have hS17737q : St b w0 W17733q R ([(g17696q, .cells ([.int .i64 r17683q.f0, .bool r17683q.f1] : List Value).toArray 55 (0, 0))] :: [(g17374q, .cells ([.int .u8 r17720q.f0, .int .u32 r17720q.f1] : List Value).toArray 31 (0, 0))] :: M17727q :: [(g17322q, .cells ([.int .i64 r17683q.f0, .bool r17683q.f1] : List Value).toArray 55 (0, 0))] :: Fs) := hS17736q.bring 3 rfl rfl
              have hS17738q : St b w0 W17733q R ([(g17374q, .cells ([.int .u8 r17720q.f0, .int .u32 r17720q.f1] : List Value).toArray 31 (0, 0))] :: M17727q :: [(g17322q, .cells ([.int .i64 r17683q.f0, .bool r17683q.f1] : List Value).toArray 55 (0, 0))] :: Fs) := hS17737q.drop_
              have hS17739q : St b w0 W17733q R ([(g17322q, .cells ([.int .i64 r17683q.f0, .bool r17683q.f1] : List Value).toArray 55 (0, 0))] :: [(g17374q, .cells ([.int .u8 r17720q.f0, .int .u32 r17720q.f1] : List Value).toArray 31 (0, 0))] :: M17727q :: Fs) := hS17738q.bring 2 rfl rfl
              have hS17740q : St b w0 W17733q R (M17727q :: [(g17322q, .cells ([.int .i64 r17683q.f0, .bool r17683q.f1] : List Value).toArray 55 (0, 0))] :: [(g17374q, .cells ([.int .u8 r17720q.f0, .int .u32 r17720q.f1] : List Value).toArray 31 (0, 0))] :: Fs) := hS17739q.bring 2 rfl rfl
              exact ⟨k17342q, r17721q, M17727q, r17683q.f0, r17683q.f1, r17684q, r17720q.f0, r17720q.f1, h17732q.keep ⟨rfl, rfl, rfl, rfl, rfl, rfl, rfl, trivial⟩, ⟨H⟩, ⟨Nat.le_refl _⟩, ⟨hS17740q⟩, ⟨hr17728q⟩⟩
            · rw [if_neg c17671q] at H
              have hb_ : (decide (((gt z33 p2 x17340q).f0) = 1)) = false := decide_eq_false c17671q
              try rw [hb_] at h17670q
              clear hb_
              refine wp_else h17670q rfl ?_
              refine wp_seq ?_
              refine WL.start ?_
              have hS17741q : St b w0 W17373q R ([(g17322q, .cells ([.int .i64 x17338q, .bool x17339q] : List Value).toArray 55 (0, 0))] :: [(g17363q, .cells ([.int .i64 ((gt z33 p2 x17340q).f0), .int .i64 ((gt z33 p2 x17340q).f1), .int .u32 ((gt z33 p2 x17340q).f2), .int .u32 ((gt z33 p2 x17340q).f3)] : List Value).toArray 33 (0, 0))] :: [(g17374q, .cells ([.int .u8 0, .int .u32 0] : List Value).toArray 31 (0, 0))] :: M17336q :: Fs) := hS17378q.bring 3 rfl rfl
              refine WL.op' (m := 0) h17670q rfl rfl ?_
              refine owp_run (v := .agg #[.int .i64 x17338q, .bool x17339q]) h17670q rfl (by kernel_rfl) (run_loadN rfl rfl Try.underlying55 rfl (cs := ([.int .i64 x17338q, .bool x17339q] : List Value)) (by kernel_rfl) (hS17741q.cells (vs := ([.int .i64 x17338q, .bool x17339q] : List Value)) rfl)) (fun a17742q h17743q => ?_)
              clear h17670q a17669q
              refine WL.block (c := 1) (m' := 2) h17743q rfl [(40, .pointer (some ⟨g17363q, 3, none⟩))] (by kernel_rfl) (fun a17744q h17745q => ?_)
              clear h17743q a17742q
              have hS17746q : St b w0 W17373q R ([(g17363q, .cells ([.int .i64 ((gt z33 p2 x17340q).f0), .int .i64 ((gt z33 p2 x17340q).f1), .int .u32 ((gt z33 p2 x17340q).f2), .int .u32 ((gt z33 p2 x17340q).f3)] : List Value).toArray 33 (0, 0))] :: [(g17322q, .cells ([.int .i64 x17338q, .bool x17339q] : List Value).toArray 55 (0, 0))] :: [(g17374q, .cells ([.int .u8 0, .int .u32 0] : List Value).toArray 31 (0, 0))] :: M17336q :: Fs) := hS17741q.bring 1 rfl rfl
              refine WL.op' (m := 2) h17745q rfl rfl ?_
              refine owp_run (v := .int .u32 ((gt z33 p2 x17340q).f3)) h17745q rfl (by kernel_rfl) (run_load1 rfl rfl Try.underlying22 rfl (hS17746q.cell (i := 3) rfl)) (fun a17747q h17748q => ?_)
              clear h17745q a17744q
              refine WL.block (c := 2) (m' := 5) h17748q rfl [(43, .pointer (some ⟨g17363q, 2, none⟩)), (42, .int .i64 (IntKind.i64.wrap ((gt z33 p2 x17340q).f3)))] (by kernel_rfl) (fun a17749q h17750q => ?_)
              clear h17748q a17747q
              refine WL.op' (m := 5) h17750q rfl rfl ?_
              refine owp_run (v := .int .u32 ((gt z33 p2 x17340q).f2)) h17750q rfl (by kernel_rfl) (run_load1 rfl rfl Try.underlying22 rfl (hS17746q.cell (i := 2) rfl)) (fun a17751q h17752q => ?_)
              clear h17750q a17749q
              refine WL.block (c := 2) (m' := 8) h17752q rfl [(46, .int .i64 (IntKind.i64.wrap ((IntKind.i64.wrap ((gt z33 p2 x17340q).f3)) - (IntKind.i64.wrap ((gt z33 p2 x17340q).f2))))), (45, .int .i64 (IntKind.i64.wrap ((gt z33 p2 x17340q).f2)))] (by kernel_rfl) (fun a17753q h17754q => ?_)
              clear h17752q a17751q
              obtain ⟨r17756q, r17757q, A17755q, H⟩ := bind2 H
              refine WL.op' (m := 8) h17754q rfl rfl ?_
              refine owp_call [.agg #[.int .i64 x17338q, .bool x17339q], .int .i64 (IntKind.i64.wrap ((IntKind.i64.wrap ((gt z33 p2 x17340q).f3)) - (IntKind.i64.wrap ((gt z33 p2 x17340q).f2)))), .bool true] h17754q rfl (by kernel_rfl) rfl Try.func25 (by kernel_rfl) rfl (by kernel_rfl) (louverref10qW_Grow.calls (p0 := (⟨x17338q, x17339q⟩ : S55))  A17755q hS17746q) (fun e17759q W17758q hp17760q => ?_)
              obtain ⟨rfl, hS17763q⟩ := hp17760q
              refine ⟨_, rfl, fun a17761q h17762q => ?_⟩
              clear h17754q a17753q
              refine WL.block (c := 3) (m' := 12) h17762q rfl [(49, .int .i64 r17757q), (48, .agg #[.int .i64 r17756q.f0, .bool r17756q.f1]), (38, .tuple #[.agg #[.int .i64 r17756q.f0, .bool r17756q.f1], .int .i64 r17757q])] (by kernel_rfl) (fun a17764q h17765q => ?_)
              clear h17762q a17761q
              refine WL.op' (m := 12) h17765q rfl rfl ?_
              refine owp_new (fun g_ => .pointer (some ⟨g_, 0, none⟩)) (.cells ([.int .i64 0, .bool false] : List Value).toArray 55 (0, 0)) h17765q rfl (by kernel_rfl) (by kernel_rfl) hS17763q (fun a17766q W17768q g17769q h17767q hS17770q => ?_)
              clear h17765q a17764q
              refine WL.op' (m := 13) h17767q rfl rfl ?_
              refine owp_store (i := 0) (vs := ([.int .i64 r17756q.f0, .bool r17756q.f1] : List Value)) h17767q rfl (by kernel_rfl) rfl rfl rfl rfl (by simp [Value.oneCell']) (by kernel_rfl) hS17770q (by simp) (cs' := ([.int .i64 r17756q.f0, .bool r17756q.f1] : List Value)) rfl (fun a17771q W17773q h17772q hS17774q => ?_)
              clear h17767q a17766q
              refine WL.block (c := 1) (m' := 15) h17772q rfl [(18, .int .i64 r17757q)] (by kernel_rfl) (fun a17775q h17776q => ?_)
              clear h17772q a17771q
              refine WL.done (by kernel_rfl) ?_
              refine wp_seq ?_
              refine WL.start ?_
              refine WL.op' (m := 0) h17776q rfl rfl ?_
              refine owp_run (v := .agg #[.int .i64 r17756q.f0, .bool r17756q.f1]) h17776q rfl (by kernel_rfl) (run_loadN rfl rfl Try.underlying55 rfl (cs := ([.int .i64 r17756q.f0, .bool r17756q.f1] : List Value)) (by kernel_rfl) (hS17774q.cells (vs := ([.int .i64 r17756q.f0, .bool r17756q.f1] : List Value)) rfl)) (fun a17777q h17778q => ?_)
              clear h17776q a17775q
              have hS17779q : St b w0 W17773q R ([(g17322q, .cells ([.int .i64 x17338q, .bool x17339q] : List Value).toArray 55 (0, 0))] :: [(g17769q, .cells ([.int .i64 r17756q.f0, .bool r17756q.f1] : List Value).toArray 55 (0, 0))] :: [(g17363q, .cells ([.int .i64 ((gt z33 p2 x17340q).f0), .int .i64 ((gt z33 p2 x17340q).f1), .int .u32 ((gt z33 p2 x17340q).f2), .int .u32 ((gt z33 p2 x17340q).f3)] : List Value).toArray 33 (0, 0))] :: [(g17374q, .cells ([.int .u8 0, .int .u32 0] : List Value).toArray 31 (0, 0))] :: M17336q :: Fs) := hS17774q.bring 2 rfl rfl
              refine WL.op' (m := 1) h17778q rfl rfl ?_
              refine owp_store (i := 0) (vs := ([.int .i64 r17756q.f0, .bool r17756q.f1] : List Value)) h17778q rfl (by kernel_rfl) rfl rfl rfl rfl (by simp [Value.oneCell']) (by kernel_rfl) hS17779q (by simp) (cs' := ([.int .i64 r17756q.f0, .bool r17756q.f1] : List Value)) rfl (fun a17780q W17782q h17781q hS17783q => ?_)
              clear h17778q a17777q
              refine WL.done (by kernel_rfl) ?_
              refine wp_seq ?_
              refine WL.start ?_
              refine WL.block (c := 2) (m' := 2) h17781q rfl [(11, .int .i64 r17757q), (51, .int .i64 r17757q)] (by kernel_rfl) (fun a17784q h17785q => ?_)
              clear h17781q a17780q
              refine WL.done (by kernel_rfl) ?_
              refine WL.start ?_
              refine WL.block (c := 2) (m' := 2) h17785q rfl [(53, .pointer (some ⟨g17363q, 2, none⟩)), (52, v17303q)] (by kernel_rfl) (fun a17786q h17787q => ?_)
              clear h17785q a17784q
              have hS17788q : St b w0 W17782q R ([(g17363q, .cells ([.int .i64 ((gt z33 p2 x17340q).f0), .int .i64 ((gt z33 p2 x17340q).f1), .int .u32 ((gt z33 p2 x17340q).f2), .int .u32 ((gt z33 p2 x17340q).f3)] : List Value).toArray 33 (0, 0))] :: [(g17322q, .cells ([.int .i64 r17756q.f0, .bool r17756q.f1] : List Value).toArray 55 (0, 0))] :: [(g17769q, .cells ([.int .i64 r17756q.f0, .bool r17756q.f1] : List Value).toArray 55 (0, 0))] :: [(g17374q, .cells ([.int .u8 0, .int .u32 0] : List Value).toArray 31 (0, 0))] :: M17336q :: Fs) := hS17783q.bring 2 rfl rfl
              refine WL.op' (m := 2) h17787q rfl rfl ?_
              refine owp_run (v := .int .u32 ((gt z33 p2 x17340q).f2)) h17787q rfl (by kernel_rfl) (run_load1 rfl rfl Try.underlying22 rfl (hS17788q.cell (i := 2) rfl)) (fun a17789q h17790q => ?_)
              clear h17787q a17786q
              refine WL.block (c := 1) (m' := 4) h17790q rfl [(55, .pointer (some ⟨g17363q, 3, none⟩))] (by kernel_rfl) (fun a17791q h17792q => ?_)
              clear h17790q a17789q
              refine WL.op' (m := 4) h17792q rfl rfl ?_
              refine owp_run (v := .int .u32 ((gt z33 p2 x17340q).f3)) h17792q rfl (by kernel_rfl) (run_load1 rfl rfl Try.underlying22 rfl (hS17788q.cell (i := 3) rfl)) (fun a17793q h17794q => ?_)
              clear h17792q a17791q
              have hS17795q : St b w0 W17782q R (M17336q :: [(g17363q, .cells ([.int .i64 ((gt z33 p2 x17340q).f0), .int .i64 ((gt z33 p2 x17340q).f1), .int .u32 ((gt z33 p2 x17340q).f2), .int .u32 ((gt z33 p2 x17340q).f3)] : List Value).toArray 33 (0, 0))] :: [(g17322q, .cells ([.int .i64 r17756q.f0, .bool r17756q.f1] : List Value).toArray 55 (0, 0))] :: [(g17769q, .cells ([.int .i64 r17756q.f0, .bool r17756q.f1] : List Value).toArray 55 (0, 0))] :: [(g17374q, .cells ([.int .u8 0, .int .u32 0] : List Value).toArray 31 (0, 0))] :: Fs) := hS17788q.bring 4 rfl rfl
              obtain ⟨r17797q, r17798q, A17796q, H⟩ := bind2 H
              refine WL.op' (m := 5) h17794q rfl rfl ?_
              refine owp_call [v17303q, .int .u32 ((gt z33 p2 x17340q).f2), .int .u32 ((gt z33 p2 x17340q).f3)] h17794q rfl (by kernel_rfl) rfl Try.func20 (by kernel_rfl) rfl (by kernel_rfl) (window_Window_Shift.calls hr17337q A17796q hS17795q) (fun e17800q W17799q hp17801q => ?_)
              obtain ⟨M17804q, rfl, hr17805q, hS17806q⟩ := hp17801q
              refine ⟨_, rfl, fun a17802q h17803q => ?_⟩
              clear h17794q a17793q
              have hS17807q : St b w0 W17799q R ([(g17374q, .cells ([.int .u8 0, .int .u32 0] : List Value).toArray 31 (0, 0))] :: M17804q :: [(g17363q, .cells ([.int .i64 ((gt z33 p2 x17340q).f0), .int .i64 ((gt z33 p2 x17340q).f1), .int .u32 ((gt z33 p2 x17340q).f2), .int .u32 ((gt z33 p2 x17340q).f3)] : List Value).toArray 33 (0, 0))] :: [(g17322q, .cells ([.int .i64 r17756q.f0, .bool r17756q.f1] : List Value).toArray 55 (0, 0))] :: [(g17769q, .cells ([.int .i64 r17756q.f0, .bool r17756q.f1] : List Value).toArray 55 (0, 0))] :: Fs) := hS17806q.bring 4 rfl rfl
              refine WL.op' (m := 6) h17803q rfl rfl ?_
              refine owp_store (i := 0) (vs := ([.int .u8 r17797q.f0, .int .u32 r17797q.f1] : List Value)) h17803q rfl (by kernel_rfl) rfl rfl rfl rfl (by simp [Value.oneCell']) (by kernel_rfl) hS17807q (by simp) (cs' := ([.int .u8 r17797q.f0, .int .u32 r17797q.f1] : List Value)) rfl (fun a17808q W17810q h17809q hS17811q => ?_)
              clear h17803q a17802q
              refine WL.done (by kernel_rfl) ?_
              have hS17812q : St b w0 W17810q R ([(g17363q, .cells ([.int .i64 ((gt z33 p2 x17340q).f0), .int .i64 ((gt z33 p2 x17340q).f1), .int .u32 ((gt z33 p2 x17340q).f2), .int .u32 ((gt z33 p2 x17340q).f3)] : List Value).toArray 33 (0, 0))] :: [(g17374q, .cells ([.int .u8 r17797q.f0, .int .u32 r17797q.f1] : List Value).toArray 31 (0, 0))] :: M17804q :: [(g17322q, .cells ([.int .i64 r17756q.f0, .bool r17756q.f1] : List Value).toArray 55 (0, 0))] :: [(g17769q, .cells ([.int .i64 r17756q.f0, .bool r17756q.f1] : List Value).toArray 55 (0, 0))] :: Fs) := hS17811q.bring 2 rfl rfl
              have hS17813q : St b w0 W17810q R ([(g17374q, .cells ([.int .u8 r17797q.f0, .int .u32 r17797q.f1] : List Value).toArray 31 (0, 0))] :: M17804q :: [(g17322q, .cells ([.int .i64 r17756q.f0, .bool r17756q.f1] : List Value).toArray 55 (0, 0))] :: [(g17769q, .cells ([.int .i64 r17756q.f0, .bool r17756q.f1] : List Value).toArray 55 (0, 0))] :: Fs) := hS17812q.drop_
              have hS17814q : St b w0 W17810q R ([(g17769q, .cells ([.int .i64 r17756q.f0, .bool r17756q.f1] : List Value).toArray 55 (0, 0))] :: [(g17374q, .cells ([.int .u8 r17797q.f0, .int .u32 r17797q.f1] : List Value).toArray 31 (0, 0))] :: M17804q :: [(g17322q, .cells ([.int .i64 r17756q.f0, .bool r17756q.f1] : List Value).toArray 55 (0, 0))] :: Fs) := hS17813q.bring 3 rfl rfl
              have hS17815q : St b w0 W17810q R ([(g17374q, .cells ([.int .u8 r17797q.f0, .int .u32 r17797q.f1] : List Value).toArray 31 (0, 0))] :: M17804q :: [(g17322q, .cells ([.int .i64 r17756q.f0, .bool r17756q.f1] : List Value).toArray 55 (0, 0))] :: Fs) := hS17814q.drop_
              have hS17816q : St b w0 W17810q R ([(g17322q, .cells ([.int .i64 r17756q.f0, .bool r17756q.f1] : List Value).toArray 55 (0, 0))] :: [(g17374q, .cells ([.int .u8 r17797q.f0, .int .u32 r17797q.f1] : List Value).toArray 31 (0, 0))] :: M17804q :: Fs) := hS17815q.bring 2 rfl rfl
              have hS17817q : St b w0 W17810q R (M17804q :: [(g17322q, .cells ([.int .i64 r17756q.f0, .bool r17756q.f1] : List Value).toArray 55 (0, 0))] :: [(g17374q, .cells ([.int .u8 r17797q.f0, .int .u32 r17797q.f1] : List Value).toArray 31 (0, 0))] :: Fs) := hS17816q.bring 2 rfl rfl
              exact ⟨k17342q, r17798q, M17804q, r17756q.f0, r17756q.f1, r17757q, r17797q.f0, r17797q.f1, h17809q.keep ⟨rfl, rfl, rfl, rfl, rfl, rfl, rfl, trivial⟩, ⟨H⟩, ⟨Nat.le_refl _⟩, ⟨hS17817q⟩, ⟨hr17805q⟩⟩
        · clear H hS17378q
          rintro a17586q W17587q ⟨k17589q, x17590q, M17591q, x17593q, x17594q, x17595q, x17596q, x17597q, h17585q, ⟨H⟩, ⟨hkk17589q⟩, ⟨hS17588q⟩, ⟨hr17592q⟩⟩
          obtain _ | k17818q := k17589q
          · exact absurd H (by simp [louverlaw10qWindowPlays.j1])
          simp only [louverlaw10qWindowPlays.j1] at H
          refine wp_seq ?_
          refine WL.start ?_
          refine WL.block (c := 1) (m' := 1) h17585q rfl [(90, .agg #[.int .u8 0, .int .u32 0])] (by kernel_rfl) (fun a17819q h17820q => ?_)
          clear h17585q a17586q
          refine WL.op' (m := 1) h17820q rfl rfl ?_
          refine owp_new (fun g_ => .pointer (some ⟨g_, 0, none⟩)) (.cells ([.int .u8 0, .int .u32 0] : List Value).toArray 31 (0, 0)) h17820q rfl (by kernel_rfl) (by kernel_rfl) hS17588q (fun a17821q W17823q g17824q h17822q hS17825q => ?_)
          clear h17820q a17819q
          refine WL.op' (m := 2) h17822q rfl rfl ?_
          refine owp_store (i := 0) (vs := ([.int .u8 0, .int .u32 0] : List Value)) h17822q rfl (by kernel_rfl) rfl rfl rfl rfl (by simp [Value.oneCell']) (by kernel_rfl) hS17825q (by simp) (cs' := ([.int .u8 0, .int .u32 0] : List Value)) rfl (fun a17826q W17828q h17827q hS17829q => ?_)
          clear h17822q a17821q
          refine WL.done (by kernel_rfl) ?_
          refine wp_seq ?_
          refine wp_seq ?_
          refine WL.start ?_
          refine WL.block (c := 2) (m' := 2) h17827q rfl [(92, .bool (decide (x17595q > 0))), (91, .int .i64 x17595q)] (by kernel_rfl) (fun a17830q h17831q => ?_)
          clear h17827q a17826q
          refine WL.done (by kernel_rfl) ?_
          by_cases c17832q : x17595q > 0
          · rw [if_pos c17832q] at H
            have hb_ : (decide (x17595q > 0)) = true := decide_eq_true c17832q
            try rw [hb_] at h17831q
            clear hb_
            refine wp_then h17831q rfl ?_
            refine WL.start ?_
            refine WL.block (c := 3) (m' := 3) h17831q rfl [(95, .agg #[.int .u8 (IntKind.u8.wrap x17595q), .int .u32 3]), (94, .int .u8 (IntKind.u8.wrap x17595q)), (93, .int .i64 x17595q)] (by kernel_rfl) (fun a17833q h17834q => ?_)
            clear h17831q a17830q
            refine WL.op' (m := 3) h17834q rfl rfl ?_
            refine owp_store (i := 0) (vs := ([.int .u8 (IntKind.u8.wrap x17595q), .int .u32 3] : List Value)) h17834q rfl (by kernel_rfl) rfl rfl rfl rfl (by simp [Value.oneCell']) (by kernel_rfl) hS17829q (by simp) (cs' := ([.int .u8 (IntKind.u8.wrap x17595q), .int .u32 3] : List Value)) rfl (fun a17835q W17837q h17836q hS17838q => ?_)
            clear h17834q a17833q
            refine WL.done (by kernel_rfl) ?_
            refine wp_seq ?_
            refine WH.start (fun w_ => (∀ j_ u_, ([.int .u8 x17596q, .int .u32 x17597q] : List Value)[j_]? = some u_ → w_.cell? ((⟨g17374q, 0, none⟩ : Addr).add j_) = some u_) ∧ (∀ j_ u_, ([.int .u8 (IntKind.u8.wrap x17595q), .int .u32 3] : List Value)[j_]? = some u_ → w_.cell? ((⟨g17824q, 0, none⟩ : Addr).add j_) = some u_) ∧ (w_.cell? ⟨g17322q, 0, none⟩ = some (.int .i64 x17593q)) ∧ True) (by kernel_rfl) #[false, false, false, false, false, false, false, false, false, false] 10 rfl rfl ?_
            have hS17923q := hS17838q.drew
            refine WH.take 0 (listed' := #[true, false, false, false, false, false, false, false, false, false]) h17836q rfl rfl (by kernel_rfl) rfl rfl (.agg #[.int .u8 x17596q, .int .u32 x17597q]) (fun w_ hs_ => (run_loadN rfl rfl Try.underlying31 rfl (cs := ([.int .u8 x17596q, .int .u32 x17597q] : List Value)) (by kernel_rfl) hs_.1)) ⟨((hS17923q.bring 3 rfl rfl).cells (vs := ([.int .u8 x17596q, .int .u32 x17597q] : List Value)) rfl), (hS17923q.cells (vs := ([.int .u8 (IntKind.u8.wrap x17595q), .int .u32 3] : List Value)) rfl), ((hS17923q.bring 2 rfl rfl).cell (i := 0) rfl), trivial⟩ (fun _ _ _ h_ => h_) (fun a17924q h17925q => ?_)
            clear h17836q a17835q
            refine WH.take 1 (listed' := #[true, true, false, false, false, false, false, false, false, false]) h17925q rfl rfl (by kernel_rfl) rfl rfl (.agg #[.int .u8 (IntKind.u8.wrap x17595q), .int .u32 3]) (fun w_ hs_ => (run_loadN rfl rfl Try.underlying31 rfl (cs := ([.int .u8 (IntKind.u8.wrap x17595q), .int .u32 3] : List Value)) (by kernel_rfl) hs_.2.1)) ⟨((hS17923q.bring 3 rfl rfl).cells (vs := ([.int .u8 x17596q, .int .u32 x17597q] : List Value)) rfl), (hS17923q.cells (vs := ([.int .u8 (IntKind.u8.wrap x17595q), .int .u32 3] : List Value)) rfl), ((hS17923q.bring 2 rfl rfl).cell (i := 0) rfl), trivial⟩ (fun _ _ _ h_ => h_) (fun a17926q h17927q => ?_)
            clear h17925q a17924q
            refine WH.take 2 (listed' := #[true, true, true, false, false, false, false, false, false, false]) h17927q rfl rfl (by kernel_rfl) rfl rfl (.bool (!(decide (x17596q = (IntKind.u8.wrap x17595q)) && decide (x17597q = 3)))) (fun w_ hs_ => (run_stne (xs := [.int .u8 x17596q, .int .u32 x17597q]) (ys := [.int .u8 (IntKind.u8.wrap x17595q), .int .u32 3]) rfl rfl rfl (by kernel_rfl) (eqs_of Try.underlying31 (by kernel_rfl) (eqf_cons rfl (by kernel_rfl) rfl rfl (eqi_int Try.underlying5) (eqf_last rfl (by kernel_rfl) rfl rfl (eqi_int Try.underlying22)))))) ⟨((hS17923q.bring 3 rfl rfl).cells (vs := ([.int .u8 x17596q, .int .u32 x17597q] : List Value)) rfl), (hS17923q.cells (vs := ([.int .u8 (IntKind.u8.wrap x17595q), .int .u32 3] : List Value)) rfl), ((hS17923q.bring 2 rfl rfl).cell (i := 0) rfl), trivial⟩ (fun _ _ _ h_ => h_) (fun a17928q h17929q => ?_)
            clear h17927q a17926q
            refine WH.take 3 (listed' := #[true, true, true, true, false, false, false, false, false, false]) h17929q rfl rfl (by kernel_rfl) rfl rfl (.bool (!(decide (x17596q = (IntKind.u8.wrap x17595q)) && decide (x17597q = 3)))) (fun _ _ => by kernel_rfl) ⟨((hS17923q.bring 3 rfl rfl).cells (vs := ([.int .u8 x17596q, .int .u32 x17597q] : List Value)) rfl), (hS17923q.cells (vs := ([.int .u8 (IntKind.u8.wrap x17595q), .int .u32 3] : List Value)) rfl), ((hS17923q.bring 2 rfl rfl).cell (i := 0) rfl), trivial⟩ (fun _ _ _ h_ => h_) (fun a17930q h17931q => ?_)
            clear h17929q a17928q
            by_cases c17932q : (decide (x17596q = (IntKind.u8.wrap x17595q)) && decide (x17597q = 3)) = true
            · rw [if_pos c17932q] at H
              have hb_ : (decide (x17596q = (IntKind.u8.wrap x17595q)) && decide (x17597q = 3)) = true := c17932q
              try rw [hb_] at h17931q
              clear hb_
              refine WH.take 4 (listed' := #[true, true, true, true, true, false, false, false, false, false]) h17931q rfl rfl (by kernel_rfl) rfl rfl (v17303q) (fun _ _ => by kernel_rfl) ⟨((hS17923q.bring 3 rfl rfl).cells (vs := ([.int .u8 x17596q, .int .u32 x17597q] : List Value)) rfl), (hS17923q.cells (vs := ([.int .u8 (IntKind.u8.wrap x17595q), .int .u32 3] : List Value)) rfl), ((hS17923q.bring 2 rfl rfl).cell (i := 0) rfl), trivial⟩ (fun _ _ _ h_ => h_) (fun a17933q h17934q => ?_)
              clear h17931q a17930q
              refine WH.take 6 (listed' := #[true, true, true, true, true, false, true, false, false, false]) h17934q rfl rfl (by kernel_rfl) rfl rfl (.pointer (some ⟨g17322q, 0, none⟩)) (fun _ _ => by kernel_rfl) ⟨((hS17923q.bring 3 rfl rfl).cells (vs := ([.int .u8 x17596q, .int .u32 x17597q] : List Value)) rfl), (hS17923q.cells (vs := ([.int .u8 (IntKind.u8.wrap x17595q), .int .u32 3] : List Value)) rfl), ((hS17923q.bring 2 rfl rfl).cell (i := 0) rfl), trivial⟩ (fun _ _ _ h_ => h_) (fun a17935q h17936q => ?_)
              clear h17934q a17933q
              refine WH.take 7 (listed' := #[true, true, true, true, true, false, true, true, false, false]) h17936q rfl rfl (by kernel_rfl) rfl rfl (.int .i64 x17593q) (fun w_ hs_ => (run_load1 rfl rfl Try.underlying2 rfl hs_.2.2.1)) ⟨((hS17923q.bring 3 rfl rfl).cells (vs := ([.int .u8 x17596q, .int .u32 x17597q] : List Value)) rfl), (hS17923q.cells (vs := ([.int .u8 (IntKind.u8.wrap x17595q), .int .u32 3] : List Value)) rfl), ((hS17923q.bring 2 rfl rfl).cell (i := 0) rfl), trivial⟩ (fun _ _ _ h_ => h_) (fun a17937q h17938q => ?_)
              clear h17936q a17935q
              have hS17939q : St b w0 W17837q.drew R (M17591q :: [(g17824q, .cells ([.int .u8 (IntKind.u8.wrap x17595q), .int .u32 3] : List Value).toArray 31 (0, 0))] :: [(g17322q, .cells ([.int .i64 x17593q, .bool x17594q] : List Value).toArray 55 (0, 0))] :: [(g17374q, .cells ([.int .u8 x17596q, .int .u32 x17597q] : List Value).toArray 31 (0, 0))] :: Fs) := hS17923q.bring 1 rfl rfl
              obtain ⟨r17941q, A17940q, H⟩ := bind1 H
              refine WH.op 5 (listed' := #[true, true, true, true, true, true, true, true, false, false]) h17938q rfl (by kernel_rfl) rfl rfl ?_
              refine owp_call [v17303q] h17938q rfl (by kernel_rfl) rfl Try.func19 (by kernel_rfl) rfl (by kernel_rfl) (window_Window_Left.calls hr17592q A17940q hS17939q) (fun e17943q W17942q hp17944q => ?_)
              obtain ⟨M17947q, rfl, hr17948q, hS17949q⟩ := hp17944q
              refine ⟨_, rfl, fun a17945q h17946q => ?_⟩
              clear h17938q a17937q
              refine ⟨⟨((hS17949q.bring 3 rfl rfl).cells (vs := ([.int .u8 x17596q, .int .u32 x17597q] : List Value)) rfl), ((hS17949q.bring 1 rfl rfl).cells (vs := ([.int .u8 (IntKind.u8.wrap x17595q), .int .u32 3] : List Value)) rfl), ((hS17949q.bring 2 rfl rfl).cell (i := 0) rfl), trivial⟩, ?_⟩
              refine WH.take 8 (listed' := #[true, true, true, true, true, true, true, true, true, false]) h17946q rfl rfl (by kernel_rfl) rfl rfl (.bool (!decide (r17941q = x17593q))) (fun _ _ => by kernel_rfl) ⟨((hS17949q.bring 3 rfl rfl).cells (vs := ([.int .u8 x17596q, .int .u32 x17597q] : List Value)) rfl), ((hS17949q.bring 1 rfl rfl).cells (vs := ([.int .u8 (IntKind.u8.wrap x17595q), .int .u32 3] : List Value)) rfl), ((hS17949q.bring 2 rfl rfl).cell (i := 0) rfl), trivial⟩ (fun _ _ _ h_ => h_) (fun a17950q h17951q => ?_)
              clear h17946q a17945q
              refine WH.take 9 (listed' := #[true, true, true, true, true, true, true, true, true, true]) h17951q rfl rfl (by kernel_rfl) rfl rfl (.bool (!decide (r17941q = x17593q))) (fun _ _ => by kernel_rfl) ⟨((hS17949q.bring 3 rfl rfl).cells (vs := ([.int .u8 x17596q, .int .u32 x17597q] : List Value)) rfl), ((hS17949q.bring 1 rfl rfl).cells (vs := ([.int .u8 (IntKind.u8.wrap x17595q), .int .u32 3] : List Value)) rfl), ((hS17949q.bring 2 rfl rfl).cell (i := 0) rfl), trivial⟩ (fun _ _ _ h_ => h_) (fun a17952q h17953q => ?_)
              clear h17951q a17950q
              refine WH.done (by kernel_rfl) ?_
              by_cases c17954q : r17941q = x17593q
              · rw [if_pos c17954q] at H
                have hb_ : (decide (r17941q = x17593q)) = true := decide_eq_true c17954q
                try rw [hb_] at h17953q
                clear hb_
                refine wp_else h17953q rfl ?_
                refine wp_skip ?_
                refine WL.start ?_
                refine WL.block (c := 2) (m' := 2) h17953q rfl [(32, .int .i64 (IntKind.i64.wrap (x17340q + 1))), (106, .int .i64 (IntKind.i64.wrap (x17340q + 1)))] (by kernel_rfl) (fun a17955q h17956q => ?_)
                clear h17953q a17952q
                refine WL.done (by kernel_rfl) ?_
                have hS17957q : St b w0 W17942q R ([(g17824q, .cells ([.int .u8 (IntKind.u8.wrap x17595q), .int .u32 3] : List Value).toArray 31 (0, 0))] :: M17947q :: [(g17322q, .cells ([.int .i64 x17593q, .bool x17594q] : List Value).toArray 55 (0, 0))] :: [(g17374q, .cells ([.int .u8 x17596q, .int .u32 x17597q] : List Value).toArray 31 (0, 0))] :: Fs) := hS17949q.bring 1 rfl rfl
                have hS17958q : St b w0 W17942q R (M17947q :: [(g17322q, .cells ([.int .i64 x17593q, .bool x17594q] : List Value).toArray 55 (0, 0))] :: [(g17374q, .cells ([.int .u8 x17596q, .int .u32 x17597q] : List Value).toArray 31 (0, 0))] :: Fs) := hS17957q.drop_
                have hS17959q : St b w0 W17942q R ([(g17374q, .cells ([.int .u8 x17596q, .int .u32 x17597q] : List Value).toArray 31 (0, 0))] :: M17947q :: [(g17322q, .cells ([.int .i64 x17593q, .bool x17594q] : List Value).toArray 55 (0, 0))] :: Fs) := hS17958q.bring 2 rfl rfl
                have hS17960q : St b w0 W17942q R (M17947q :: [(g17322q, .cells ([.int .i64 x17593q, .bool x17594q] : List Value).toArray 55 (0, 0))] :: Fs) := hS17959q.drop_
                exact ⟨k17818q, by omega, x17590q, M17947q, x17593q, x17594q, IntKind.i64.wrap (x17340q + 1), h17956q.keep ⟨rfl, rfl, rfl, rfl, rfl, trivial⟩, ⟨H⟩, ⟨by omega⟩, ⟨hS17960q⟩, ⟨hr17948q⟩⟩
              · rw [if_neg c17954q] at H
                have hb_ : (decide (r17941q = x17593q)) = false := decide_eq_false c17954q
                try rw [hb_] at h17953q
                clear hb_
                refine wp_then h17953q rfl ?_
                refine wp_seq ?_
                refine WL.start ?_
                refine WL.block (c := 1) (m' := 1) h17953q rfl [(6, .bool false)] (by kernel_rfl) (fun a17961q h17962q => ?_)
                clear h17953q a17952q
                refine WL.done (by kernel_rfl) ?_
                refine wp_ret ?_
                have hS17963q : St b w0 W17942q R ([(g17824q, .cells ([.int .u8 (IntKind.u8.wrap x17595q), .int .u32 3] : List Value).toArray 31 (0, 0))] :: [(g17322q, .cells ([.int .i64 x17593q, .bool x17594q] : List Value).toArray 55 (0, 0))] :: [(g17374q, .cells ([.int .u8 x17596q, .int .u32 x17597q] : List Value).toArray 31 (0, 0))] :: Fs) := hS17949q.drop_
                have hS17964q : St b w0 W17942q R ([(g17322q, .cells ([.int .i64 x17593q, .bool x17594q] : List Value).toArray 55 (0, 0))] :: [(g17374q, .cells ([.int .u8 x17596q, .int .u32 x17597q] : List Value).toArray 31 (0, 0))] :: Fs) := hS17963q.drop_
                have hS17965q : St b w0 W17942q R ([(g17374q, .cells ([.int .u8 x17596q, .int .u32 x17597q] : List Value).toArray 31 (0, 0))] :: Fs) := hS17964q.drop_
                have hS17966q : St b w0 W17942q R (Fs) := hS17965q.drop_
                obtain rfl := Option.some.inj H
                repeat (first | refine then_ret ?_ | refine inBlock_ret ?_ | refine inBlock_go ?_)
                refine body_ret (v := .bool false) h17962q (by kernel_rfl) (by kernel_rfl) ?_
                exact ⟨rfl, hS17966q⟩
            · rw [if_neg c17932q] at H
              have hb_ : (decide (x17596q = (IntKind.u8.wrap x17595q)) && decide (x17597q = 3)) = false := (Bool.eq_false_iff.2 c17932q)
              try rw [hb_] at h17931q
              clear hb_
              refine WH.skip 4 (listed' := #[true, true, true, true, true, false, false, false, false, false]) h17931q rfl rfl (by kernel_rfl) rfl rfl ⟨((hS17923q.bring 3 rfl rfl).cells (vs := ([.int .u8 x17596q, .int .u32 x17597q] : List Value)) rfl), (hS17923q.cells (vs := ([.int .u8 (IntKind.u8.wrap x17595q), .int .u32 3] : List Value)) rfl), ((hS17923q.bring 2 rfl rfl).cell (i := 0) rfl), trivial⟩ (fun _ _ _ h_ => h_) (fun a17967q h17968q => ?_)
              clear h17931q a17930q
              refine WH.skip 5 (listed' := #[true, true, true, true, true, true, false, false, false, false]) h17968q rfl rfl (by kernel_rfl) rfl rfl ⟨((hS17923q.bring 3 rfl rfl).cells (vs := ([.int .u8 x17596q, .int .u32 x17597q] : List Value)) rfl), (hS17923q.cells (vs := ([.int .u8 (IntKind.u8.wrap x17595q), .int .u32 3] : List Value)) rfl), ((hS17923q.bring 2 rfl rfl).cell (i := 0) rfl), trivial⟩ (fun _ _ _ h_ => h_) (fun a17969q h17970q => ?_)
              clear h17968q a17967q
              refine WH.skip 6 (listed' := #[true, true, true, true, true, true, true, false, false, false]) h17970q rfl rfl (by kernel_rfl) rfl rfl ⟨((hS17923q.bring 3 rfl rfl).cells (vs := ([.int .u8 x17596q, .int .u32 x17597q] : List Value)) rfl), (hS17923q.cells (vs := ([.int .u8 (IntKind.u8.wrap x17595q), .int .u32 3] : List Value)) rfl), ((hS17923q.bring 2 rfl rfl).cell (i := 0) rfl), trivial⟩ (fun _ _ _ h_ => h_) (fun a17971q h17972q => ?_)
              clear h17970q a17969q
              refine WH.skip 7 (listed' := #[true, true, true, true, true, true, true, true, false, false]) h17972q rfl rfl (by kernel_rfl) rfl rfl ⟨((hS17923q.bring 3 rfl rfl).cells (vs := ([.int .u8 x17596q, .int .u32 x17597q] : List Value)) rfl), (hS17923q.cells (vs := ([.int .u8 (IntKind.u8.wrap x17595q), .int .u32 3] : List Value)) rfl), ((hS17923q.bring 2 rfl rfl).cell (i := 0) rfl), trivial⟩ (fun _ _ _ h_ => h_) (fun a17973q h17974q => ?_)
              clear h17972q a17971q
              refine WH.skip 8 (listed' := #[true, true, true, true, true, true, true, true, true, false]) h17974q rfl rfl (by kernel_rfl) rfl rfl ⟨((hS17923q.bring 3 rfl rfl).cells (vs := ([.int .u8 x17596q, .int .u32 x17597q] : List Value)) rfl), (hS17923q.cells (vs := ([.int .u8 (IntKind.u8.wrap x17595q), .int .u32 3] : List Value)) rfl), ((hS17923q.bring 2 rfl rfl).cell (i := 0) rfl), trivial⟩ (fun _ _ _ h_ => h_) (fun a17975q h17976q => ?_)
              clear h17974q a17973q
              refine WH.take 9 (listed' := #[true, true, true, true, true, true, true, true, true, true]) h17976q rfl rfl (by kernel_rfl) rfl rfl (.bool true) (fun _ _ => by kernel_rfl) ⟨((hS17923q.bring 3 rfl rfl).cells (vs := ([.int .u8 x17596q, .int .u32 x17597q] : List Value)) rfl), (hS17923q.cells (vs := ([.int .u8 (IntKind.u8.wrap x17595q), .int .u32 3] : List Value)) rfl), ((hS17923q.bring 2 rfl rfl).cell (i := 0) rfl), trivial⟩ (fun _ _ _ h_ => h_) (fun a17977q h17978q => ?_)
              clear h17976q a17975q
              refine WH.done (by kernel_rfl) ?_
              refine wp_then h17978q rfl ?_
              refine wp_seq ?_
              refine WL.start ?_
              refine WL.block (c := 1) (m' := 1) h17978q rfl [(6, .bool false)] (by kernel_rfl) (fun a17979q h17980q => ?_)
              clear h17978q a17977q
              refine WL.done (by kernel_rfl) ?_
              refine wp_ret ?_
              have hS17981q : St b w0 W17837q.drew R (M17591q :: [(g17322q, .cells ([.int .i64 x17593q, .bool x17594q] : List Value).toArray 55 (0, 0))] :: [(g17374q, .cells ([.int .u8 x17596q, .int .u32 x17597q] : List Value).toArray 31 (0, 0))] :: Fs) := hS17923q.drop_
              have hS17982q : St b w0 W17837q.drew R ([(g17322q, .cells ([.int .i64 x17593q, .bool x17594q] : List Value).toArray 55 (0, 0))] :: [(g17374q, .cells ([.int .u8 x17596q, .int .u32 x17597q] : List Value).toArray 31 (0, 0))] :: Fs) := hS17981q.drop_
              have hS17983q : St b w0 W17837q.drew R ([(g17374q, .cells ([.int .u8 x17596q, .int .u32 x17597q] : List Value).toArray 31 (0, 0))] :: Fs) := hS17982q.drop_
              have hS17984q : St b w0 W17837q.drew R (Fs) := hS17983q.drop_
              obtain rfl := Option.some.inj H
              repeat (first | refine then_ret ?_ | refine inBlock_ret ?_ | refine inBlock_go ?_)
              refine body_ret (v := .bool false) h17980q (by kernel_rfl) (by kernel_rfl) ?_
              exact ⟨rfl, hS17984q⟩
          · rw [if_neg c17832q] at H
            have hb_ : (decide (x17595q > 0)) = false := decide_eq_false c17832q
            try rw [hb_] at h17831q
            clear hb_
            refine wp_else h17831q rfl ?_
            refine wp_skip ?_
            refine wp_seq ?_
            refine WH.start (fun w_ => (∀ j_ u_, ([.int .u8 x17596q, .int .u32 x17597q] : List Value)[j_]? = some u_ → w_.cell? ((⟨g17374q, 0, none⟩ : Addr).add j_) = some u_) ∧ (∀ j_ u_, ([.int .u8 0, .int .u32 0] : List Value)[j_]? = some u_ → w_.cell? ((⟨g17824q, 0, none⟩ : Addr).add j_) = some u_) ∧ (w_.cell? ⟨g17322q, 0, none⟩ = some (.int .i64 x17593q)) ∧ True) (by kernel_rfl) #[false, false, false, false, false, false, false, false, false, false] 10 rfl rfl ?_
            have hS18069q := hS17829q.drew
            refine WH.take 0 (listed' := #[true, false, false, false, false, false, false, false, false, false]) h17831q rfl rfl (by kernel_rfl) rfl rfl (.agg #[.int .u8 x17596q, .int .u32 x17597q]) (fun w_ hs_ => (run_loadN rfl rfl Try.underlying31 rfl (cs := ([.int .u8 x17596q, .int .u32 x17597q] : List Value)) (by kernel_rfl) hs_.1)) ⟨((hS18069q.bring 3 rfl rfl).cells (vs := ([.int .u8 x17596q, .int .u32 x17597q] : List Value)) rfl), (hS18069q.cells (vs := ([.int .u8 0, .int .u32 0] : List Value)) rfl), ((hS18069q.bring 2 rfl rfl).cell (i := 0) rfl), trivial⟩ (fun _ _ _ h_ => h_) (fun a18070q h18071q => ?_)
            clear h17831q a17830q
            refine WH.take 1 (listed' := #[true, true, false, false, false, false, false, false, false, false]) h18071q rfl rfl (by kernel_rfl) rfl rfl (.agg #[.int .u8 0, .int .u32 0]) (fun w_ hs_ => (run_loadN rfl rfl Try.underlying31 rfl (cs := ([.int .u8 0, .int .u32 0] : List Value)) (by kernel_rfl) hs_.2.1)) ⟨((hS18069q.bring 3 rfl rfl).cells (vs := ([.int .u8 x17596q, .int .u32 x17597q] : List Value)) rfl), (hS18069q.cells (vs := ([.int .u8 0, .int .u32 0] : List Value)) rfl), ((hS18069q.bring 2 rfl rfl).cell (i := 0) rfl), trivial⟩ (fun _ _ _ h_ => h_) (fun a18072q h18073q => ?_)
            clear h18071q a18070q
            refine WH.take 2 (listed' := #[true, true, true, false, false, false, false, false, false, false]) h18073q rfl rfl (by kernel_rfl) rfl rfl (.bool (!(decide (x17596q = 0) && decide (x17597q = 0)))) (fun w_ hs_ => (run_stne (xs := [.int .u8 x17596q, .int .u32 x17597q]) (ys := [.int .u8 0, .int .u32 0]) rfl rfl rfl (by kernel_rfl) (eqs_of Try.underlying31 (by kernel_rfl) (eqf_cons rfl (by kernel_rfl) rfl rfl (eqi_int Try.underlying5) (eqf_last rfl (by kernel_rfl) rfl rfl (eqi_int Try.underlying22)))))) ⟨((hS18069q.bring 3 rfl rfl).cells (vs := ([.int .u8 x17596q, .int .u32 x17597q] : List Value)) rfl), (hS18069q.cells (vs := ([.int .u8 0, .int .u32 0] : List Value)) rfl), ((hS18069q.bring 2 rfl rfl).cell (i := 0) rfl), trivial⟩ (fun _ _ _ h_ => h_) (fun a18074q h18075q => ?_)
            clear h18073q a18072q
            refine WH.take 3 (listed' := #[true, true, true, true, false, false, false, false, false, false]) h18075q rfl rfl (by kernel_rfl) rfl rfl (.bool (!(decide (x17596q = 0) && decide (x17597q = 0)))) (fun _ _ => by kernel_rfl) ⟨((hS18069q.bring 3 rfl rfl).cells (vs := ([.int .u8 x17596q, .int .u32 x17597q] : List Value)) rfl), (hS18069q.cells (vs := ([.int .u8 0, .int .u32 0] : List Value)) rfl), ((hS18069q.bring 2 rfl rfl).cell (i := 0) rfl), trivial⟩ (fun _ _ _ h_ => h_) (fun a18076q h18077q => ?_)
            clear h18075q a18074q
            by_cases c18078q : (decide (x17596q = 0) && decide (x17597q = 0)) = true
            · rw [if_pos c18078q] at H
              have hb_ : (decide (x17596q = 0) && decide (x17597q = 0)) = true := c18078q
              try rw [hb_] at h18077q
              clear hb_
              refine WH.take 4 (listed' := #[true, true, true, true, true, false, false, false, false, false]) h18077q rfl rfl (by kernel_rfl) rfl rfl (v17303q) (fun _ _ => by kernel_rfl) ⟨((hS18069q.bring 3 rfl rfl).cells (vs := ([.int .u8 x17596q, .int .u32 x17597q] : List Value)) rfl), (hS18069q.cells (vs := ([.int .u8 0, .int .u32 0] : List Value)) rfl), ((hS18069q.bring 2 rfl rfl).cell (i := 0) rfl), trivial⟩ (fun _ _ _ h_ => h_) (fun a18079q h18080q => ?_)
              clear h18077q a18076q
              refine WH.take 6 (listed' := #[true, true, true, true, true, false, true, false, false, false]) h18080q rfl rfl (by kernel_rfl) rfl rfl (.pointer (some ⟨g17322q, 0, none⟩)) (fun _ _ => by kernel_rfl) ⟨((hS18069q.bring 3 rfl rfl).cells (vs := ([.int .u8 x17596q, .int .u32 x17597q] : List Value)) rfl), (hS18069q.cells (vs := ([.int .u8 0, .int .u32 0] : List Value)) rfl), ((hS18069q.bring 2 rfl rfl).cell (i := 0) rfl), trivial⟩ (fun _ _ _ h_ => h_) (fun a18081q h18082q => ?_)
              clear h18080q a18079q
              refine WH.take 7 (listed' := #[true, true, true, true, true, false, true, true, false, false]) h18082q rfl rfl (by kernel_rfl) rfl rfl (.int .i64 x17593q) (fun w_ hs_ => (run_load1 rfl rfl Try.underlying2 rfl hs_.2.2.1)) ⟨((hS18069q.bring 3 rfl rfl).cells (vs := ([.int .u8 x17596q, .int .u32 x17597q] : List Value)) rfl), (hS18069q.cells (vs := ([.int .u8 0, .int .u32 0] : List Value)) rfl), ((hS18069q.bring 2 rfl rfl).cell (i := 0) rfl), trivial⟩ (fun _ _ _ h_ => h_) (fun a18083q h18084q => ?_)
              clear h18082q a18081q
              have hS18085q : St b w0 W17828q.drew R (M17591q :: [(g17824q, .cells ([.int .u8 0, .int .u32 0] : List Value).toArray 31 (0, 0))] :: [(g17322q, .cells ([.int .i64 x17593q, .bool x17594q] : List Value).toArray 55 (0, 0))] :: [(g17374q, .cells ([.int .u8 x17596q, .int .u32 x17597q] : List Value).toArray 31 (0, 0))] :: Fs) := hS18069q.bring 1 rfl rfl
              obtain ⟨r18087q, A18086q, H⟩ := bind1 H
              refine WH.op 5 (listed' := #[true, true, true, true, true, true, true, true, false, false]) h18084q rfl (by kernel_rfl) rfl rfl ?_
              refine owp_call [v17303q] h18084q rfl (by kernel_rfl) rfl Try.func19 (by kernel_rfl) rfl (by kernel_rfl) (window_Window_Left.calls hr17592q A18086q hS18085q) (fun e18089q W18088q hp18090q => ?_)
              obtain ⟨M18093q, rfl, hr18094q, hS18095q⟩ := hp18090q
              refine ⟨_, rfl, fun a18091q h18092q => ?_⟩
              clear h18084q a18083q
              refine ⟨⟨((hS18095q.bring 3 rfl rfl).cells (vs := ([.int .u8 x17596q, .int .u32 x17597q] : List Value)) rfl), ((hS18095q.bring 1 rfl rfl).cells (vs := ([.int .u8 0, .int .u32 0] : List Value)) rfl), ((hS18095q.bring 2 rfl rfl).cell (i := 0) rfl), trivial⟩, ?_⟩
              refine WH.take 8 (listed' := #[true, true, true, true, true, true, true, true, true, false]) h18092q rfl rfl (by kernel_rfl) rfl rfl (.bool (!decide (r18087q = x17593q))) (fun _ _ => by kernel_rfl) ⟨((hS18095q.bring 3 rfl rfl).cells (vs := ([.int .u8 x17596q, .int .u32 x17597q] : List Value)) rfl), ((hS18095q.bring 1 rfl rfl).cells (vs := ([.int .u8 0, .int .u32 0] : List Value)) rfl), ((hS18095q.bring 2 rfl rfl).cell (i := 0) rfl), trivial⟩ (fun _ _ _ h_ => h_) (fun a18096q h18097q => ?_)
              clear h18092q a18091q
              refine WH.take 9 (listed' := #[true, true, true, true, true, true, true, true, true, true]) h18097q rfl rfl (by kernel_rfl) rfl rfl (.bool (!decide (r18087q = x17593q))) (fun _ _ => by kernel_rfl) ⟨((hS18095q.bring 3 rfl rfl).cells (vs := ([.int .u8 x17596q, .int .u32 x17597q] : List Value)) rfl), ((hS18095q.bring 1 rfl rfl).cells (vs := ([.int .u8 0, .int .u32 0] : List Value)) rfl), ((hS18095q.bring 2 rfl rfl).cell (i := 0) rfl), trivial⟩ (fun _ _ _ h_ => h_) (fun a18098q h18099q => ?_)
              clear h18097q a18096q
              refine WH.done (by kernel_rfl) ?_
              by_cases c18100q : r18087q = x17593q
              · rw [if_pos c18100q] at H
                have hb_ : (decide (r18087q = x17593q)) = true := decide_eq_true c18100q
                try rw [hb_] at h18099q
                clear hb_
                refine wp_else h18099q rfl ?_
                refine wp_skip ?_
                refine WL.start ?_
                refine WL.block (c := 2) (m' := 2) h18099q rfl [(32, .int .i64 (IntKind.i64.wrap (x17340q + 1))), (106, .int .i64 (IntKind.i64.wrap (x17340q + 1)))] (by kernel_rfl) (fun a18101q h18102q => ?_)
                clear h18099q a18098q
                refine WL.done (by kernel_rfl) ?_
                have hS18103q : St b w0 W18088q R ([(g17824q, .cells ([.int .u8 0, .int .u32 0] : List Value).toArray 31 (0, 0))] :: M18093q :: [(g17322q, .cells ([.int .i64 x17593q, .bool x17594q] : List Value).toArray 55 (0, 0))] :: [(g17374q, .cells ([.int .u8 x17596q, .int .u32 x17597q] : List Value).toArray 31 (0, 0))] :: Fs) := hS18095q.bring 1 rfl rfl
                have hS18104q : St b w0 W18088q R (M18093q :: [(g17322q, .cells ([.int .i64 x17593q, .bool x17594q] : List Value).toArray 55 (0, 0))] :: [(g17374q, .cells ([.int .u8 x17596q, .int .u32 x17597q] : List Value).toArray 31 (0, 0))] :: Fs) := hS18103q.drop_
                have hS18105q : St b w0 W18088q R ([(g17374q, .cells ([.int .u8 x17596q, .int .u32 x17597q] : List Value).toArray 31 (0, 0))] :: M18093q :: [(g17322q, .cells ([.int .i64 x17593q, .bool x17594q] : List Value).toArray 55 (0, 0))] :: Fs) := hS18104q.bring 2 rfl rfl
                have hS18106q : St b w0 W18088q R (M18093q :: [(g17322q, .cells ([.int .i64 x17593q, .bool x17594q] : List Value).toArray 55 (0, 0))] :: Fs) := hS18105q.drop_
                exact ⟨k17818q, by omega, x17590q, M18093q, x17593q, x17594q, IntKind.i64.wrap (x17340q + 1), h18102q.keep ⟨rfl, rfl, rfl, rfl, rfl, trivial⟩, ⟨H⟩, ⟨by omega⟩, ⟨hS18106q⟩, ⟨hr18094q⟩⟩
              · rw [if_neg c18100q] at H
                have hb_ : (decide (r18087q = x17593q)) = false := decide_eq_false c18100q
                try rw [hb_] at h18099q
                clear hb_
                refine wp_then h18099q rfl ?_
                refine wp_seq ?_
                refine WL.start ?_
                refine WL.block (c := 1) (m' := 1) h18099q rfl [(6, .bool false)] (by kernel_rfl) (fun a18107q h18108q => ?_)
                clear h18099q a18098q
                refine WL.done (by kernel_rfl) ?_
                refine wp_ret ?_
                have hS18109q : St b w0 W18088q R ([(g17824q, .cells ([.int .u8 0, .int .u32 0] : List Value).toArray 31 (0, 0))] :: [(g17322q, .cells ([.int .i64 x17593q, .bool x17594q] : List Value).toArray 55 (0, 0))] :: [(g17374q, .cells ([.int .u8 x17596q, .int .u32 x17597q] : List Value).toArray 31 (0, 0))] :: Fs) := hS18095q.drop_
                have hS18110q : St b w0 W18088q R ([(g17322q, .cells ([.int .i64 x17593q, .bool x17594q] : List Value).toArray 55 (0, 0))] :: [(g17374q, .cells ([.int .u8 x17596q, .int .u32 x17597q] : List Value).toArray 31 (0, 0))] :: Fs) := hS18109q.drop_
                have hS18111q : St b w0 W18088q R ([(g17374q, .cells ([.int .u8 x17596q, .int .u32 x17597q] : List Value).toArray 31 (0, 0))] :: Fs) := hS18110q.drop_
                have hS18112q : St b w0 W18088q R (Fs) := hS18111q.drop_
                obtain rfl := Option.some.inj H
                repeat (first | refine then_ret ?_ | refine inBlock_ret ?_ | refine inBlock_go ?_)
                refine body_ret (v := .bool false) h18108q (by kernel_rfl) (by kernel_rfl) ?_
                exact ⟨rfl, hS18112q⟩
            · rw [if_neg c18078q] at H
              have hb_ : (decide (x17596q = 0) && decide (x17597q = 0)) = false := (Bool.eq_false_iff.2 c18078q)
              try rw [hb_] at h18077q
              clear hb_
              refine WH.skip 4 (listed' := #[true, true, true, true, true, false, false, false, false, false]) h18077q rfl rfl (by kernel_rfl) rfl rfl ⟨((hS18069q.bring 3 rfl rfl).cells (vs := ([.int .u8 x17596q, .int .u32 x17597q] : List Value)) rfl), (hS18069q.cells (vs := ([.int .u8 0, .int .u32 0] : List Value)) rfl), ((hS18069q.bring 2 rfl rfl).cell (i := 0) rfl), trivial⟩ (fun _ _ _ h_ => h_) (fun a18113q h18114q => ?_)
              clear h18077q a18076q
              refine WH.skip 5 (listed' := #[true, true, true, true, true, true, false, false, false, false]) h18114q rfl rfl (by kernel_rfl) rfl rfl ⟨((hS18069q.bring 3 rfl rfl).cells (vs := ([.int .u8 x17596q, .int .u32 x17597q] : List Value)) rfl), (hS18069q.cells (vs := ([.int .u8 0, .int .u32 0] : List Value)) rfl), ((hS18069q.bring 2 rfl rfl).cell (i := 0) rfl), trivial⟩ (fun _ _ _ h_ => h_) (fun a18115q h18116q => ?_)
              clear h18114q a18113q
              refine WH.skip 6 (listed' := #[true, true, true, true, true, true, true, false, false, false]) h18116q rfl rfl (by kernel_rfl) rfl rfl ⟨((hS18069q.bring 3 rfl rfl).cells (vs := ([.int .u8 x17596q, .int .u32 x17597q] : List Value)) rfl), (hS18069q.cells (vs := ([.int .u8 0, .int .u32 0] : List Value)) rfl), ((hS18069q.bring 2 rfl rfl).cell (i := 0) rfl), trivial⟩ (fun _ _ _ h_ => h_) (fun a18117q h18118q => ?_)
              clear h18116q a18115q
              refine WH.skip 7 (listed' := #[true, true, true, true, true, true, true, true, false, false]) h18118q rfl rfl (by kernel_rfl) rfl rfl ⟨((hS18069q.bring 3 rfl rfl).cells (vs := ([.int .u8 x17596q, .int .u32 x17597q] : List Value)) rfl), (hS18069q.cells (vs := ([.int .u8 0, .int .u32 0] : List Value)) rfl), ((hS18069q.bring 2 rfl rfl).cell (i := 0) rfl), trivial⟩ (fun _ _ _ h_ => h_) (fun a18119q h18120q => ?_)
              clear h18118q a18117q
              refine WH.skip 8 (listed' := #[true, true, true, true, true, true, true, true, true, false]) h18120q rfl rfl (by kernel_rfl) rfl rfl ⟨((hS18069q.bring 3 rfl rfl).cells (vs := ([.int .u8 x17596q, .int .u32 x17597q] : List Value)) rfl), (hS18069q.cells (vs := ([.int .u8 0, .int .u32 0] : List Value)) rfl), ((hS18069q.bring 2 rfl rfl).cell (i := 0) rfl), trivial⟩ (fun _ _ _ h_ => h_) (fun a18121q h18122q => ?_)
              clear h18120q a18119q
              refine WH.take 9 (listed' := #[true, true, true, true, true, true, true, true, true, true]) h18122q rfl rfl (by kernel_rfl) rfl rfl (.bool true) (fun _ _ => by kernel_rfl) ⟨((hS18069q.bring 3 rfl rfl).cells (vs := ([.int .u8 x17596q, .int .u32 x17597q] : List Value)) rfl), (hS18069q.cells (vs := ([.int .u8 0, .int .u32 0] : List Value)) rfl), ((hS18069q.bring 2 rfl rfl).cell (i := 0) rfl), trivial⟩ (fun _ _ _ h_ => h_) (fun a18123q h18124q => ?_)
              clear h18122q a18121q
              refine WH.done (by kernel_rfl) ?_
              refine wp_then h18124q rfl ?_
              refine wp_seq ?_
              refine WL.start ?_
              refine WL.block (c := 1) (m' := 1) h18124q rfl [(6, .bool false)] (by kernel_rfl) (fun a18125q h18126q => ?_)
              clear h18124q a18123q
              refine WL.done (by kernel_rfl) ?_
              refine wp_ret ?_
              have hS18127q : St b w0 W17828q.drew R (M17591q :: [(g17322q, .cells ([.int .i64 x17593q, .bool x17594q] : List Value).toArray 55 (0, 0))] :: [(g17374q, .cells ([.int .u8 x17596q, .int .u32 x17597q] : List Value).toArray 31 (0, 0))] :: Fs) := hS18069q.drop_
              have hS18128q : St b w0 W17828q.drew R ([(g17322q, .cells ([.int .i64 x17593q, .bool x17594q] : List Value).toArray 55 (0, 0))] :: [(g17374q, .cells ([.int .u8 x17596q, .int .u32 x17597q] : List Value).toArray 31 (0, 0))] :: Fs) := hS18127q.drop_
              have hS18129q : St b w0 W17828q.drew R ([(g17374q, .cells ([.int .u8 x17596q, .int .u32 x17597q] : List Value).toArray 31 (0, 0))] :: Fs) := hS18128q.drop_
              have hS18130q : St b w0 W17828q.drew R (Fs) := hS18129q.drop_
              obtain rfl := Option.some.inj H
              repeat (first | refine then_ret ?_ | refine inBlock_ret ?_ | refine inBlock_go ?_)
              refine body_ret (v := .bool false) h18126q (by kernel_rfl) (by kernel_rfl) ?_
              exact ⟨rfl, hS18130q⟩
      · rw [if_neg c17346q] at H
        cases H
    · rw [if_neg c17345q] at H
      have hb_ : (decide (x17340q < (p2.length : Int))) = false := decide_eq_false c17345q
      try rw [hb_] at h17344q
      clear hb_
      refine wp_else h17344q rfl ?_
      refine wp_exit ?_
      refine wp_seq ?_
      refine WH.start (fun w_ => (w_.cell? ⟨g17322q, 0, none⟩ = some (.int .i64 x17338q)) ∧ True) (by kernel_rfl) #[false, false, false, false, false, false, false, false, false] 9 rfl rfl ?_
      have hS18225q := hS17333q.drew
      obtain ⟨r18227q, A18226q, H⟩ := bind1 H
      refine WH.op 0 (listed' := #[true, false, false, false, false, false, false, false, false]) h17344q rfl (by kernel_rfl) rfl rfl ?_
      refine owp_call [] h17344q rfl (by kernel_rfl) rfl Try.func9 (by kernel_rfl) rfl (by kernel_rfl) (louverlaw10qfixed.calls  A18226q hS18225q) (fun e18229q W18228q hp18230q => ?_)
      obtain ⟨rfl, hS18233q⟩ := hp18230q
      refine ⟨_, rfl, fun a18231q h18232q => ?_⟩
      clear h17344q a17343q
      refine ⟨⟨((hS18233q.bring 1 rfl rfl).cell (i := 0) rfl), trivial⟩, ?_⟩
      refine WH.take 1 (listed' := #[true, true, false, false, false, false, false, false, false]) h18232q rfl rfl (by kernel_rfl) rfl rfl (.bool r18227q) (fun _ _ => by kernel_rfl) ⟨((hS18233q.bring 1 rfl rfl).cell (i := 0) rfl), trivial⟩ (fun _ _ _ h_ => h_) (fun a18234q h18235q => ?_)
      clear h18232q a18231q
      by_cases c18236q : r18227q = true
      · rw [if_pos c18236q] at H
        have hb_ : r18227q = true := c18236q
        try rw [hb_] at h18235q
        clear hb_
        refine WH.take 2 (listed' := #[true, true, true, false, false, false, false, false, false]) h18235q rfl rfl (by kernel_rfl) rfl rfl (v17303q) (fun _ _ => by kernel_rfl) ⟨((hS18233q.bring 1 rfl rfl).cell (i := 0) rfl), trivial⟩ (fun _ _ _ h_ => h_) (fun a18237q h18238q => ?_)
        clear h18235q a18234q
        refine WH.take 4 (listed' := #[true, true, true, false, true, false, false, false, false]) h18238q rfl rfl (by kernel_rfl) rfl rfl (.pointer (some ⟨g17322q, 0, none⟩)) (fun _ _ => by kernel_rfl) ⟨((hS18233q.bring 1 rfl rfl).cell (i := 0) rfl), trivial⟩ (fun _ _ _ h_ => h_) (fun a18239q h18240q => ?_)
        clear h18238q a18237q
        refine WH.take 5 (listed' := #[true, true, true, false, true, true, false, false, false]) h18240q rfl rfl (by kernel_rfl) rfl rfl (.int .i64 x17338q) (fun w_ hs_ => (run_load1 rfl rfl Try.underlying2 rfl hs_.1)) ⟨((hS18233q.bring 1 rfl rfl).cell (i := 0) rfl), trivial⟩ (fun _ _ _ h_ => h_) (fun a18241q h18242q => ?_)
        clear h18240q a18239q
        obtain ⟨r18244q, A18243q, H⟩ := bind1 H
        refine WH.op 3 (listed' := #[true, true, true, true, true, true, false, false, false]) h18242q rfl (by kernel_rfl) rfl rfl ?_
        refine owp_call [v17303q] h18242q rfl (by kernel_rfl) rfl Try.func19 (by kernel_rfl) rfl (by kernel_rfl) (window_Window_Left.calls hr17337q A18243q hS18233q) (fun e18246q W18245q hp18247q => ?_)
        obtain ⟨M18250q, rfl, hr18251q, hS18252q⟩ := hp18247q
        refine ⟨_, rfl, fun a18248q h18249q => ?_⟩
        clear h18242q a18241q
        refine ⟨⟨((hS18252q.bring 1 rfl rfl).cell (i := 0) rfl), trivial⟩, ?_⟩
        refine WH.take 6 (listed' := #[true, true, true, true, true, true, true, false, false]) h18249q rfl rfl (by kernel_rfl) rfl rfl (.bool (decide (r18244q = x17338q))) (fun _ _ => by kernel_rfl) ⟨((hS18252q.bring 1 rfl rfl).cell (i := 0) rfl), trivial⟩ (fun _ _ _ h_ => h_) (fun a18253q h18254q => ?_)
        clear h18249q a18248q
        refine WH.take 7 (listed' := #[true, true, true, true, true, true, true, true, false]) h18254q rfl rfl (by kernel_rfl) rfl rfl (.bool (decide (r18244q = x17338q))) (fun _ _ => by kernel_rfl) ⟨((hS18252q.bring 1 rfl rfl).cell (i := 0) rfl), trivial⟩ (fun _ _ _ h_ => h_) (fun a18255q h18256q => ?_)
        clear h18254q a18253q
        refine WH.take 8 (listed' := #[true, true, true, true, true, true, true, true, true]) h18256q rfl rfl (by kernel_rfl) rfl rfl (.bool (decide (r18244q = x17338q))) (fun _ _ => by kernel_rfl) ⟨((hS18252q.bring 1 rfl rfl).cell (i := 0) rfl), trivial⟩ (fun _ _ _ h_ => h_) (fun a18257q h18258q => ?_)
        clear h18256q a18255q
        refine WH.done (by kernel_rfl) ?_
        refine wp_ret ?_
        have hS18259q : St b w0 W18245q R ([(g17322q, .cells ([.int .i64 x17338q, .bool x17339q] : List Value).toArray 55 (0, 0))] :: Fs) := hS18252q.drop_
        have hS18260q : St b w0 W18245q R (Fs) := hS18259q.drop_
        obtain rfl := Option.some.inj H
        repeat (first | refine then_ret ?_ | refine inBlock_ret ?_ | refine inBlock_go ?_)
        refine body_ret (v := .bool (decide (r18244q = x17338q))) h18258q (by kernel_rfl) (by kernel_rfl) ?_
        exact ⟨rfl, hS18260q⟩
      · rw [if_neg c18236q] at H
        have hb_ : r18227q = false := (Bool.eq_false_iff.2 c18236q)
        try rw [hb_] at h18235q
        clear hb_
        refine WH.skip 2 (listed' := #[true, true, true, false, false, false, false, false, false]) h18235q rfl rfl (by kernel_rfl) rfl rfl ⟨((hS18233q.bring 1 rfl rfl).cell (i := 0) rfl), trivial⟩ (fun _ _ _ h_ => h_) (fun a18261q h18262q => ?_)
        clear h18235q a18234q
        refine WH.skip 3 (listed' := #[true, true, true, true, false, false, false, false, false]) h18262q rfl rfl (by kernel_rfl) rfl rfl ⟨((hS18233q.bring 1 rfl rfl).cell (i := 0) rfl), trivial⟩ (fun _ _ _ h_ => h_) (fun a18263q h18264q => ?_)
        clear h18262q a18261q
        refine WH.skip 4 (listed' := #[true, true, true, true, true, false, false, false, false]) h18264q rfl rfl (by kernel_rfl) rfl rfl ⟨((hS18233q.bring 1 rfl rfl).cell (i := 0) rfl), trivial⟩ (fun _ _ _ h_ => h_) (fun a18265q h18266q => ?_)
        clear h18264q a18263q
        refine WH.skip 5 (listed' := #[true, true, true, true, true, true, false, false, false]) h18266q rfl rfl (by kernel_rfl) rfl rfl ⟨((hS18233q.bring 1 rfl rfl).cell (i := 0) rfl), trivial⟩ (fun _ _ _ h_ => h_) (fun a18267q h18268q => ?_)
        clear h18266q a18265q
        refine WH.skip 6 (listed' := #[true, true, true, true, true, true, true, false, false]) h18268q rfl rfl (by kernel_rfl) rfl rfl ⟨((hS18233q.bring 1 rfl rfl).cell (i := 0) rfl), trivial⟩ (fun _ _ _ h_ => h_) (fun a18269q h18270q => ?_)
        clear h18268q a18267q
        refine WH.take 7 (listed' := #[true, true, true, true, true, true, true, true, false]) h18270q rfl rfl (by kernel_rfl) rfl rfl (.bool false) (fun _ _ => by kernel_rfl) ⟨((hS18233q.bring 1 rfl rfl).cell (i := 0) rfl), trivial⟩ (fun _ _ _ h_ => h_) (fun a18271q h18272q => ?_)
        clear h18270q a18269q
        refine WH.take 8 (listed' := #[true, true, true, true, true, true, true, true, true]) h18272q rfl rfl (by kernel_rfl) rfl rfl (.bool false) (fun _ _ => by kernel_rfl) ⟨((hS18233q.bring 1 rfl rfl).cell (i := 0) rfl), trivial⟩ (fun _ _ _ h_ => h_) (fun a18273q h18274q => ?_)
        clear h18272q a18271q
        refine WH.done (by kernel_rfl) ?_
        refine wp_ret ?_
        have hS18275q : St b w0 W18228q R ([(g17322q, .cells ([.int .i64 x17338q, .bool x17339q] : List Value).toArray 55 (0, 0))] :: Fs) := hS18233q.drop_
        have hS18276q : St b w0 W18228q R (Fs) := hS18275q.drop_
        obtain rfl := Option.some.inj H
        repeat (first | refine then_ret ?_ | refine inBlock_ret ?_ | refine inBlock_go ?_)
        refine body_ret (v := .bool false) h18274q (by kernel_rfl) (by kernel_rfl) ?_
        exact ⟨rfl, hS18276q⟩
end Go.Proofs.Ytgbognkigcedbaa.Sl
