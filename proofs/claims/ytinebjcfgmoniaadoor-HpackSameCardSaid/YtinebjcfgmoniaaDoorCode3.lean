/- What the functions of this program compute, told as plain functions, and that the calls come to just that. Printed by this session's program; part 3. -/
import Derived.Test.YtinebjcfgmoniaaDoorCode2
set_option linter.unusedVariables false
set_option linter.unusedSimpArgs false
set_option linter.unnecessarySimpa false
namespace Go.Proofs.YtinebjcfgmoniaaDoor.Sl
open Go Go.RowKit Go.Proofs.Sl
/-! ### (*louver/dyntable.Table).At -/
def dyntable_Table_At.f (p0 : S79) (p1 : Int) : Option (S52 × Bool) := bnd2 (statics_At.f p1) fun r321q r322q => (if r322q = true then (some ((⟨r321q.f0, r321q.f1, r321q.f2⟩ : S52), true)) else (bnd1 (statics_Len.f) fun r359q => (if p1 ≤ r359q then (some ((⟨([] : List UInt8), ([] : List UInt8), false⟩ : S52), false)) else (bnd1 (statics_Len.f) fun r397q => (bnd1 (dyntable_Table_Len.f p0) fun r410q => (if (IntKind.i64.wrap (p1 - r397q)) > r410q then (some ((⟨([] : List UInt8), ([] : List UInt8), false⟩ : S52), false)) else (bnd1 (statics_Len.f) fun r576q => (if 0 ≤ (IntKind.i64.wrap ((p0.f0.length : Int) - (IntKind.i64.wrap (p1 - r576q)))) then (if (IntKind.i64.wrap ((p0.f0.length : Int) - (IntKind.i64.wrap (p1 - r576q)))) < (p0.f0.length : Int) then (some ((⟨(gt z52 p0.f0 (IntKind.i64.wrap ((p0.f0.length : Int) - (IntKind.i64.wrap (p1 - r576q))))).f0, (gt z52 p0.f0 (IntKind.i64.wrap ((p0.f0.length : Int) - (IntKind.i64.wrap (p1 - r576q))))).f1, (gt z52 p0.f0 (IntKind.i64.wrap ((p0.f0.length : Int) - (IntKind.i64.wrap (p1 - r576q))))).f2⟩ : S52), true)) else (none)) else (none)))))))))
set_option maxHeartbeats 2000000 in
set_option maxRecDepth 100000 in
theorem dyntable_Table_At.calls {b : Nat} {w0 W : World} {R : Frag} {Fs : List Frag} {p0 : S79} {p1 : Int}  {v0 : Value} {M0 : Frag} {r0q : S52} {r1q : Bool} (hp0 : Ptr k79 79 b w0 R v0 p0 M0) (hg0 : Rds k52 b w0 [] (.slice (some ⟨0, 0, none⟩) 61 61) G0) (H : dyntable_Table_At.f p0 p1 = some (r0q, r1q)) (hS : St b w0 W R (M0 :: Fs)) :
    Calls Tryd.prog 36 ([v0, .int .i64 p1] : List Value).toArray W (fun e W' => ∃ (O0q : Frag), e = .returned (.tuple #[.agg #[.string (mkS r0q.f0), .string (mkS r0q.f1), .bool r0q.f2], .bool r1q]) ∧ Ptr k79 79 b w0 R v0 p0 O0q ∧ St b w0 W' R (O0q :: Fs)) := by
  unfold dyntable_Table_At.f at H
  refine calls_enter Tryd.func36 rfl 42 rfl (by kernel_rfl) (fun a h => ?_)
  refine wp_seq ?_
  refine WL.start ?_
  refine WL.op' (m := 0) h rfl rfl ?_
  refine owp_new (fun g_ => .pointer (some ⟨g_, 0, none⟩)) (.cells ([.string (mkS ([] : List UInt8)), .string (mkS ([] : List UInt8)), .bool false] : List Value).toArray 52 (0, 0)) h rfl (by kernel_rfl) (by kernel_rfl) hS (fun a311q W313q g314q h312q hS315q => ?_)
  refine WL.block (c := 1) (m' := 2) h312q rfl [(5, .bool false)] (by kernel_rfl) (fun a316q h317q => ?_)
  clear h312q a311q
  refine WL.done (by kernel_rfl) ?_
  refine wp_seq ?_
  refine wp_seq ?_
  refine WL.start ?_
  refine WL.block (c := 1) (m' := 1) h317q rfl [(9, .int .i64 p1)] (by kernel_rfl) (fun a318q h319q => ?_)
  clear h317q a316q
  obtain ⟨r321q, r322q, A320q, H⟩ := bind2 H
  refine WL.op' (m := 1) h319q rfl rfl ?_
  refine owp_call [.int .i64 p1] h319q rfl (by kernel_rfl) rfl Tryd.func50 (by kernel_rfl) rfl (by kernel_rfl) (statics_At.calls hg0 A320q hS315q) (fun e324q W323q hp325q => ?_)
  obtain ⟨rfl, hS328q⟩ := hp325q
  refine ⟨_, rfl, fun a326q h327q => ?_⟩
  clear h319q a318q
  refine WL.block (c := 3) (m' := 5) h327q rfl [(12, .bool r322q), (11, .agg #[.string (mkS r321q.f0), .string (mkS r321q.f1), .bool r321q.f2]), (8, .tuple #[.agg #[.string (mkS r321q.f0), .string (mkS r321q.f1), .bool r321q.f2], .bool r322q])] (by kernel_rfl) (fun a329q h330q => ?_)
  clear h327q a326q
  refine WL.op' (m := 5) h330q rfl rfl ?_
  refine owp_new (fun g_ => .pointer (some ⟨g_, 0, none⟩)) (.cells ([.string (mkS ([] : List UInt8)), .string (mkS ([] : List UInt8)), .bool false] : List Value).toArray 52 (0, 0)) h330q rfl (by kernel_rfl) (by kernel_rfl) hS328q (fun a331q W333q g334q h332q hS335q => ?_)
  clear h330q a329q
  refine WL.op' (m := 6) h332q rfl rfl ?_
  refine owp_store (i := 0) (vs := ([.string (mkS r321q.f0), .string (mkS r321q.f1), .bool r321q.f2] : List Value)) h332q rfl (by kernel_rfl) rfl rfl rfl rfl (by simp [Value.oneCell']) (by kernel_rfl) hS335q (by simp) (cs' := ([.string (mkS r321q.f0), .string (mkS r321q.f1), .bool r321q.f2] : List Value)) rfl (fun a336q W338q h337q hS339q => ?_)
  clear h332q a331q
  refine WL.block (c := 1) (m' := 8) h337q rfl [(7, .bool r322q)] (by kernel_rfl) (fun a340q h341q => ?_)
  clear h337q a336q
  refine WL.done (by kernel_rfl) ?_
  refine wp_seq ?_
  refine WL.start ?_
  refine WL.block (c := 1) (m' := 1) h341q rfl [(13, .bool r322q)] (by kernel_rfl) (fun a342q h343q => ?_)
  clear h341q a340q
  refine WL.done (by kernel_rfl) ?_
  by_cases c344q : r322q = true
  · rw [if_pos c344q] at H
    have hb_ : r322q = true := c344q
    try rw [hb_] at h343q
    clear hb_
    refine wp_then h343q rfl ?_
    refine wp_seq ?_
    refine WL.start ?_
    refine WL.op' (m := 0) h343q rfl rfl ?_
    refine owp_run (v := .agg #[.string (mkS r321q.f0), .string (mkS r321q.f1), .bool r321q.f2]) h343q rfl (by kernel_rfl) (run_loadN rfl rfl Tryd.underlying52 rfl (cs := ([.string (mkS r321q.f0), .string (mkS r321q.f1), .bool r321q.f2] : List Value)) (by kernel_rfl) (hS339q.cells (vs := ([.string (mkS r321q.f0), .string (mkS r321q.f1), .bool r321q.f2] : List Value)) rfl)) (fun a345q h346q => ?_)
    clear h343q a342q
    have hS347q : St b w0 W338q R ([(g314q, .cells ([.string (mkS ([] : List UInt8)), .string (mkS ([] : List UInt8)), .bool false] : List Value).toArray 52 (0, 0))] :: [(g334q, .cells ([.string (mkS r321q.f0), .string (mkS r321q.f1), .bool r321q.f2] : List Value).toArray 52 (0, 0))] :: M0 :: Fs) := hS339q.bring 1 rfl rfl
    refine WL.op' (m := 1) h346q rfl rfl ?_
    refine owp_store (i := 0) (vs := ([.string (mkS r321q.f0), .string (mkS r321q.f1), .bool r321q.f2] : List Value)) h346q rfl (by kernel_rfl) rfl rfl rfl rfl (by simp [Value.oneCell']) (by kernel_rfl) hS347q (by simp) (cs' := ([.string (mkS r321q.f0), .string (mkS r321q.f1), .bool r321q.f2] : List Value)) rfl (fun a348q W350q h349q hS351q => ?_)
    clear h346q a345q
    refine WL.block (c := 1) (m' := 3) h349q rfl [(5, .bool true)] (by kernel_rfl) (fun a352q h353q => ?_)
    clear h349q a348q
    refine WL.done (by kernel_rfl) ?_
    refine wp_ret ?_
    have hS354q : St b w0 W350q R ([(g334q, .cells ([.string (mkS r321q.f0), .string (mkS r321q.f1), .bool r321q.f2] : List Value).toArray 52 (0, 0))] :: M0 :: Fs) := hS351q.drop_
    have hS355q : St b w0 W350q R (M0 :: Fs) := hS354q.drop_
    obtain ⟨rfl, rfl⟩ := ret2 H
    repeat (first | refine then_ret ?_ | refine inBlock_ret ?_ | refine inBlock_go ?_)
    refine body_ret (v := .tuple #[.agg #[.string (mkS r321q.f0), .string (mkS r321q.f1), .bool r321q.f2], .bool true]) h353q (by kernel_rfl) (res_many (xs := [ResultVar.cell 4 52, ResultVar.tmp 5]) rfl ⟨⟨_, rfl, loadVarN Tryd.underlying52 rfl (cs := ([.string (mkS r321q.f0), .string (mkS r321q.f1), .bool r321q.f2] : List Value)) (by kernel_rfl) (hS351q.cells (vs := ([.string (mkS r321q.f0), .string (mkS r321q.f1), .bool r321q.f2] : List Value)) rfl)⟩, rfl, trivial⟩ rfl) ?_
    exact ⟨M0, rfl, hp0, hS355q⟩
  · rw [if_neg c344q] at H
    have hb_ : r322q = false := (Bool.eq_false_iff.2 c344q)
    try rw [hb_] at h343q
    clear hb_
    refine wp_else h343q rfl ?_
    refine wp_skip ?_
    refine wp_seq ?_
    refine wp_seq ?_
    refine WL.start ?_
    refine WL.block (c := 1) (m' := 1) h343q rfl [(15, .int .i64 p1)] (by kernel_rfl) (fun a356q h357q => ?_)
    clear h343q a342q
    obtain ⟨r359q, A358q, H⟩ := bind1 H
    refine WL.op' (m := 1) h357q rfl rfl ?_
    refine owp_call [] h357q rfl (by kernel_rfl) rfl Tryd.func51 (by kernel_rfl) rfl (by kernel_rfl) (statics_Len.calls  A358q hS339q) (fun e361q W360q hp362q => ?_)
    obtain ⟨rfl, hS365q⟩ := hp362q
    refine ⟨_, rfl, fun a363q h364q => ?_⟩
    clear h357q a356q
    refine WL.block (c := 2) (m' := 4) h364q rfl [(18, .bool (decide (p1 ≤ r359q))), (17, .bool (decide (p1 ≤ r359q)))] (by kernel_rfl) (fun a366q h367q => ?_)
    clear h364q a363q
    by_cases c368q : p1 ≤ r359q
    · rw [if_pos c368q] at H
      have hb_ : (decide (p1 ≤ r359q)) = true := decide_eq_true c368q
      try rw [hb_] at h367q
      clear hb_
      refine WL.skipped (m := 4) h367q rfl rfl (by kernel_rfl) rfl (fun a369q h370q => ?_)
      clear h367q a366q
      refine WL.skipped (m := 5) h370q rfl rfl (by kernel_rfl) rfl (fun a371q h372q => ?_)
      clear h370q a369q
      refine WL.skipped (m := 6) h372q rfl rfl (by kernel_rfl) rfl (fun a373q h374q => ?_)
      clear h372q a371q
      refine WL.skipped (m := 7) h374q rfl rfl (by kernel_rfl) rfl (fun a375q h376q => ?_)
      clear h374q a373q
      refine WL.skipped (m := 8) h376q rfl rfl (by kernel_rfl) rfl (fun a377q h378q => ?_)
      clear h376q a375q
      refine WL.skipped (m := 9) h378q rfl rfl (by kernel_rfl) rfl (fun a379q h380q => ?_)
      clear h378q a377q
      refine WL.block (c := 1) (m' := 11) h380q rfl [(25, .bool true)] (by kernel_rfl) (fun a381q h382q => ?_)
      clear h380q a379q
      refine WL.done (by kernel_rfl) ?_
      refine wp_then h382q rfl ?_
      refine wp_seq ?_
      refine WL.start ?_
      refine WL.block (c := 1) (m' := 1) h382q rfl [(26, .agg #[.string (mkS ([] : List UInt8)), .string (mkS ([] : List UInt8)), .bool false])] (by kernel_rfl) (fun a383q h384q => ?_)
      clear h382q a381q
      have hS385q : St b w0 W360q R ([(g314q, .cells ([.string (mkS ([] : List UInt8)), .string (mkS ([] : List UInt8)), .bool false] : List Value).toArray 52 (0, 0))] :: [(g334q, .cells ([.string (mkS r321q.f0), .string (mkS r321q.f1), .bool r321q.f2] : List Value).toArray 52 (0, 0))] :: M0 :: Fs) := hS365q.bring 1 rfl rfl
      refine WL.op' (m := 1) h384q rfl rfl ?_
      refine owp_store (i := 0) (vs := ([.string (mkS ([] : List UInt8)), .string (mkS ([] : List UInt8)), .bool false] : List Value)) h384q rfl (by kernel_rfl) rfl rfl rfl rfl (by simp [Value.oneCell']) (by kernel_rfl) hS385q (by simp) (cs' := ([.string (mkS ([] : List UInt8)), .string (mkS ([] : List UInt8)), .bool false] : List Value)) rfl (fun a386q W388q h387q hS389q => ?_)
      clear h384q a383q
      refine WL.block (c := 1) (m' := 3) h387q rfl [(5, .bool false)] (by kernel_rfl) (fun a390q h391q => ?_)
      clear h387q a386q
      refine WL.done (by kernel_rfl) ?_
      refine wp_ret ?_
      have hS392q : St b w0 W388q R ([(g334q, .cells ([.string (mkS r321q.f0), .string (mkS r321q.f1), .bool r321q.f2] : List Value).toArray 52 (0, 0))] :: M0 :: Fs) := hS389q.drop_
      have hS393q : St b w0 W388q R (M0 :: Fs) := hS392q.drop_
      obtain ⟨rfl, rfl⟩ := ret2 H
      repeat (first | refine then_ret ?_ | refine inBlock_ret ?_ | refine inBlock_go ?_)
      refine body_ret (v := .tuple #[.agg #[.string (mkS ([] : List UInt8)), .string (mkS ([] : List UInt8)), .bool false], .bool false]) h391q (by kernel_rfl) (res_many (xs := [ResultVar.cell 4 52, ResultVar.tmp 5]) rfl ⟨⟨_, rfl, loadVarN Tryd.underlying52 rfl (cs := ([.string (mkS ([] : List UInt8)), .string (mkS ([] : List UInt8)), .bool false] : List Value)) (by kernel_rfl) (hS389q.cells (vs := ([.string (mkS ([] : List UInt8)), .string (mkS ([] : List UInt8)), .bool false] : List Value)) rfl)⟩, rfl, trivial⟩ rfl) ?_
      exact ⟨M0, rfl, hp0, hS393q⟩
    · rw [if_neg c368q] at H
      have hb_ : (decide (p1 ≤ r359q)) = false := decide_eq_false c368q
      try rw [hb_] at h367q
      clear hb_
      refine WL.op' (m := 4) h367q rfl rfl (owp_run h367q rfl (by kernel_rfl) (v := .int .i64 p1) (by kernel_rfl) (fun a394q h395q => ?_))
      clear h367q a366q
      obtain ⟨r397q, A396q, H⟩ := bind1 H
      refine WL.op' (m := 5) h395q rfl rfl ?_
      refine owp_call [] h395q rfl (by kernel_rfl) rfl Tryd.func51 (by kernel_rfl) rfl (by kernel_rfl) (statics_Len.calls  A396q hS365q) (fun e399q W398q hp400q => ?_)
      obtain ⟨rfl, hS403q⟩ := hp400q
      refine ⟨_, rfl, fun a401q h402q => ?_⟩
      clear h395q a394q
      refine WL.op' (m := 6) h402q rfl rfl (owp_run h402q rfl (by kernel_rfl) (v := .int .i64 (IntKind.i64.wrap (p1 - r397q))) (by kernel_rfl) (fun a404q h405q => ?_))
      clear h402q a401q
      refine WL.op' (m := 7) h405q rfl rfl (owp_run h405q rfl (by kernel_rfl) (v := v0) (by kernel_rfl) (fun a406q h407q => ?_))
      clear h405q a404q
      have hS408q : St b w0 W398q R (M0 :: [(g334q, .cells ([.string (mkS r321q.f0), .string (mkS r321q.f1), .bool r321q.f2] : List Value).toArray 52 (0, 0))] :: [(g314q, .cells ([.string (mkS ([] : List UInt8)), .string (mkS ([] : List UInt8)), .bool false] : List Value).toArray 52 (0, 0))] :: Fs) := hS403q.bring 2 rfl rfl
      obtain ⟨r410q, A409q, H⟩ := bind1 H
      refine WL.op' (m := 8) h407q rfl rfl ?_
      refine owp_call [v0] h407q rfl (by kernel_rfl) rfl Tryd.func52 (by kernel_rfl) rfl (by kernel_rfl) (dyntable_Table_Len.calls hp0 A409q hS408q) (fun e412q W411q hp413q => ?_)
      obtain ⟨M416q, rfl, hr417q, hS418q⟩ := hp413q
      refine ⟨_, rfl, fun a414q h415q => ?_⟩
      clear h407q a406q
      refine WL.op' (m := 9) h415q rfl rfl (owp_run h415q rfl (by kernel_rfl) (v := .bool (decide ((IntKind.i64.wrap (p1 - r397q)) > r410q))) (by kernel_rfl) (fun a419q h420q => ?_))
      clear h415q a414q
      refine WL.block (c := 1) (m' := 11) h420q rfl [(25, .bool (decide ((IntKind.i64.wrap (p1 - r397q)) > r410q)))] (by kernel_rfl) (fun a421q h422q => ?_)
      clear h420q a419q
      refine WL.done (by kernel_rfl) ?_
      by_cases c423q : (IntKind.i64.wrap (p1 - r397q)) > r410q
      · rw [if_pos c423q] at H
        have hb_ : (decide ((IntKind.i64.wrap (p1 - r397q)) > r410q)) = true := decide_eq_true c423q
        try rw [hb_] at h422q
        clear hb_
        refine wp_then h422q rfl ?_
        refine wp_seq ?_
        refine WL.start ?_
        refine WL.block (c := 1) (m' := 1) h422q rfl [(26, .agg #[.string (mkS ([] : List UInt8)), .string (mkS ([] : List UInt8)), .bool false])] (by kernel_rfl) (fun a424q h425q => ?_)
        clear h422q a421q
        have hS426q : St b w0 W411q R ([(g314q, .cells ([.string (mkS ([] : List UInt8)), .string (mkS ([] : List UInt8)), .bool false] : List Value).toArray 52 (0, 0))] :: M416q :: [(g334q, .cells ([.string (mkS r321q.f0), .string (mkS r321q.f1), .bool r321q.f2] : List Value).toArray 52 (0, 0))] :: Fs) := hS418q.bring 2 rfl rfl
        refine WL.op' (m := 1) h425q rfl rfl ?_
        refine owp_store (i := 0) (vs := ([.string (mkS ([] : List UInt8)), .string (mkS ([] : List UInt8)), .bool false] : List Value)) h425q rfl (by kernel_rfl) rfl rfl rfl rfl (by simp [Value.oneCell']) (by kernel_rfl) hS426q (by simp) (cs' := ([.string (mkS ([] : List UInt8)), .string (mkS ([] : List UInt8)), .bool false] : List Value)) rfl (fun a427q W429q h428q hS430q => ?_)
        clear h425q a424q
        refine WL.block (c := 1) (m' := 3) h428q rfl [(5, .bool false)] (by kernel_rfl) (fun a431q h432q => ?_)
        clear h428q a427q
        refine WL.done (by kernel_rfl) ?_
        refine wp_ret ?_
        have hS433q : St b w0 W429q R (M416q :: [(g334q, .cells ([.string (mkS r321q.f0), .string (mkS r321q.f1), .bool r321q.f2] : List Value).toArray 52 (0, 0))] :: Fs) := hS430q.drop_
        have hS434q : St b w0 W429q R ([(g334q, .cells ([.string (mkS r321q.f0), .string (mkS r321q.f1), .bool r321q.f2] : List Value).toArray 52 (0, 0))] :: M416q :: Fs) := hS433q.bring 1 rfl rfl
        have hS435q : St b w0 W429q R (M416q :: Fs) := hS434q.drop_
        obtain ⟨rfl, rfl⟩ := ret2 H
        repeat (first | refine then_ret ?_ | refine inBlock_ret ?_ | refine inBlock_go ?_)
        refine body_ret (v := .tuple #[.agg #[.string (mkS ([] : List UInt8)), .string (mkS ([] : List UInt8)), .bool false], .bool false]) h432q (by kernel_rfl) (res_many (xs := [ResultVar.cell 4 52, ResultVar.tmp 5]) rfl ⟨⟨_, rfl, loadVarN Tryd.underlying52 rfl (cs := ([.string (mkS ([] : List UInt8)), .string (mkS ([] : List UInt8)), .bool false] : List Value)) (by kernel_rfl) (hS430q.cells (vs := ([.string (mkS ([] : List UInt8)), .string (mkS ([] : List UInt8)), .bool false] : List Value)) rfl)⟩, rfl, trivial⟩ rfl) ?_
        exact ⟨M416q, rfl, hr417q, hS435q⟩
      · rw [if_neg c423q] at H
        have hb_ : (decide ((IntKind.i64.wrap (p1 - r397q)) > r410q)) = false := decide_eq_false c423q
        try rw [hb_] at h422q
        clear hb_
        refine wp_else h422q rfl ?_
        refine wp_skip ?_
        refine wp_seq ?_
        obtain ⟨g436q, cs437q, M438q, hv_, hM_, hr439q⟩ := hr417q
        obtain ⟨v440q, M441q, rfl, hM2q, hr442q⟩ := k79qrep hr439q
        subst hM2q
        subst hM_
        subst hv_
        replace hr442q : Row k52 52 b w0 R v440q p0.f0 M438q := hr442q
        obtain ⟨A443q, c444q, rfl⟩ := hr442q.form
        have hS445q : St b w0 W411q R ([(g436q, .cells ([.slice A443q p0.f0.length c444q, .int .i64 p0.f1, .int .i64 p0.f2] : List Value).toArray 79 (0, 0))] :: M438q :: [(g334q, .cells ([.string (mkS r321q.f0), .string (mkS r321q.f1), .bool r321q.f2] : List Value).toArray 52 (0, 0))] :: [(g314q, .cells ([.string (mkS ([] : List UInt8)), .string (mkS ([] : List UInt8)), .bool false] : List Value).toArray 52 (0, 0))] :: Fs) := hS418q.assoc (by simp only [List.flatten_cons, List.append_assoc, List.cons_append, List.nil_append, List.append_nil])
        refine WT.start 15 (fun w_ => (w_.cell? ⟨g436q, 0, none⟩ = some (.slice A443q p0.f0.length c444q)) ∧ (∀ a_ u_, Kn b w0 (M438q ++ R) a_ u_ → w_.cell? a_ = some u_) ∧ True) (by kernel_rfl) #[false, false, false, false, false, false, false, false, false, false, false, false, false, false, false, false, false] 17 rfl rfl ?_
        have hS554q := hS445q.drew
        refine WT.take 0 (listed' := #[true, false, false, false, false, false, false, false, false, false, false, false, false, false, false, false, false]) h422q rfl rfl (by kernel_rfl) rfl rfl (.pointer (some ⟨g436q, 0, none⟩)) (fun _ _ => by kernel_rfl) ⟨(hS554q.cell (i := 0) rfl), (fun _ _ hk_ => (hS554q.bring 1 rfl rfl).pool.kn hk_), trivial⟩ (fun _ _ _ h_ => h_) (fun a555q h556q => ?_)
        clear h422q a421q
        refine WT.take 1 (listed' := #[true, true, false, false, false, false, false, false, false, false, false, false, false, false, false, false, false]) h556q rfl rfl (by kernel_rfl) rfl rfl (.pointer (some ⟨g436q, 0, none⟩)) (fun _ _ => by kernel_rfl) ⟨(hS554q.cell (i := 0) rfl), (fun _ _ hk_ => (hS554q.bring 1 rfl rfl).pool.kn hk_), trivial⟩ (fun _ _ _ h_ => h_) (fun a557q h558q => ?_)
        clear h556q a555q
        refine WT.take 2 (listed' := #[true, true, true, false, false, false, false, false, false, false, false, false, false, false, false, false, false]) h558q rfl rfl (by kernel_rfl) rfl rfl (.pointer (some ⟨g436q, 0, none⟩)) (fun _ _ => by kernel_rfl) ⟨(hS554q.cell (i := 0) rfl), (fun _ _ hk_ => (hS554q.bring 1 rfl rfl).pool.kn hk_), trivial⟩ (fun _ _ _ h_ => h_) (fun a559q h560q => ?_)
        clear h558q a557q
        refine WT.take 4 (listed' := #[true, true, true, false, true, false, false, false, false, false, false, false, false, false, false, false, false]) h560q rfl rfl (by kernel_rfl) rfl rfl (.pointer (some ⟨g436q, 0, none⟩)) (fun _ _ => by kernel_rfl) ⟨(hS554q.cell (i := 0) rfl), (fun _ _ hk_ => (hS554q.bring 1 rfl rfl).pool.kn hk_), trivial⟩ (fun _ _ _ h_ => h_) (fun a561q h562q => ?_)
        clear h560q a559q
        refine WT.take 5 (listed' := #[true, true, true, false, true, true, false, false, false, false, false, false, false, false, false, false, false]) h562q rfl rfl (by kernel_rfl) rfl rfl (.pointer (some ⟨g436q, 0, none⟩)) (fun _ _ => by kernel_rfl) ⟨(hS554q.cell (i := 0) rfl), (fun _ _ hk_ => (hS554q.bring 1 rfl rfl).pool.kn hk_), trivial⟩ (fun _ _ _ h_ => h_) (fun a563q h564q => ?_)
        clear h562q a561q
        refine WT.take 6 (listed' := #[true, true, true, false, true, true, true, false, false, false, false, false, false, false, false, false, false]) h564q rfl rfl (by kernel_rfl) rfl rfl (.pointer (some ⟨g436q, 0, none⟩)) (fun _ _ => by kernel_rfl) ⟨(hS554q.cell (i := 0) rfl), (fun _ _ hk_ => (hS554q.bring 1 rfl rfl).pool.kn hk_), trivial⟩ (fun _ _ _ h_ => h_) (fun a565q h566q => ?_)
        clear h564q a563q
        refine WT.take 9 (listed' := #[true, true, true, false, true, true, true, false, false, true, false, false, false, false, false, false, false]) h566q rfl rfl (by kernel_rfl) rfl rfl (.int .i64 p1) (fun _ _ => by kernel_rfl) ⟨(hS554q.cell (i := 0) rfl), (fun _ _ hk_ => (hS554q.bring 1 rfl rfl).pool.kn hk_), trivial⟩ (fun _ _ _ h_ => h_) (fun a567q h568q => ?_)
        clear h566q a565q
        refine WT.take 3 (listed' := #[true, true, true, true, true, true, true, false, false, true, false, false, false, false, false, false, false]) h568q rfl rfl (by kernel_rfl) rfl rfl (.slice A443q p0.f0.length c444q) (fun w_ hs_ => (run_load1 rfl rfl Tryd.underlying23 rfl hs_.1)) ⟨(hS554q.cell (i := 0) rfl), (fun _ _ hk_ => (hS554q.bring 1 rfl rfl).pool.kn hk_), trivial⟩ (fun _ _ _ h_ => h_) (fun a569q h570q => ?_)
        clear h568q a567q
        refine WT.take 7 (listed' := #[true, true, true, true, true, true, true, true, false, true, false, false, false, false, false, false, false]) h570q rfl rfl (by kernel_rfl) rfl rfl (.slice A443q p0.f0.length c444q) (fun w_ hs_ => (run_load1 rfl rfl Tryd.underlying23 rfl hs_.1)) ⟨(hS554q.cell (i := 0) rfl), (fun _ _ hk_ => (hS554q.bring 1 rfl rfl).pool.kn hk_), trivial⟩ (fun _ _ _ h_ => h_) (fun a571q h572q => ?_)
        clear h570q a569q
        refine WT.take 8 (listed' := #[true, true, true, true, true, true, true, true, true, true, false, false, false, false, false, false, false]) h572q rfl rfl (by kernel_rfl) rfl rfl (.int .i64 (p0.f0.length : Int)) (fun _ _ => by kernel_rfl) ⟨(hS554q.cell (i := 0) rfl), (fun _ _ hk_ => (hS554q.bring 1 rfl rfl).pool.kn hk_), trivial⟩ (fun _ _ _ h_ => h_) (fun a573q h574q => ?_)
        clear h572q a571q
        obtain ⟨r576q, A575q, H⟩ := bind1 H
        refine WT.op 10 (listed' := #[true, true, true, true, true, true, true, true, true, true, true, false, false, false, false, false, false]) h574q rfl (by kernel_rfl) rfl rfl ?_
        refine owp_call [] h574q rfl (by kernel_rfl) rfl Tryd.func51 (by kernel_rfl) rfl (by kernel_rfl) (statics_Len.calls  A575q hS554q) (fun e578q W577q hp579q => ?_)
        obtain ⟨rfl, hS582q⟩ := hp579q
        refine ⟨_, rfl, fun a580q h581q => ?_⟩
        clear h574q a573q
        refine ⟨.inr ⟨(hS582q.cell (i := 0) rfl), (fun _ _ hk_ => (hS582q.bring 1 rfl rfl).pool.kn hk_), trivial⟩, ?_⟩
        refine WT.take 11 (listed' := #[true, true, true, true, true, true, true, true, true, true, true, true, false, false, false, false, false]) h581q rfl rfl (by kernel_rfl) rfl rfl (.int .i64 (IntKind.i64.wrap (p1 - r576q))) (fun _ _ => by kernel_rfl) ⟨(hS582q.cell (i := 0) rfl), (fun _ _ hk_ => (hS582q.bring 1 rfl rfl).pool.kn hk_), trivial⟩ (fun _ _ _ h_ => h_) (fun a583q h584q => ?_)
        clear h581q a580q
        refine WT.take 12 (listed' := #[true, true, true, true, true, true, true, true, true, true, true, true, true, false, false, false, false]) h584q rfl rfl (by kernel_rfl) rfl rfl (.int .i64 (IntKind.i64.wrap ((p0.f0.length : Int) - (IntKind.i64.wrap (p1 - r576q))))) (fun _ _ => by kernel_rfl) ⟨(hS582q.cell (i := 0) rfl), (fun _ _ hk_ => (hS582q.bring 1 rfl rfl).pool.kn hk_), trivial⟩ (fun _ _ _ h_ => h_) (fun a585q h586q => ?_)
        clear h584q a583q
        by_cases c587q : 0 ≤ (IntKind.i64.wrap ((p0.f0.length : Int) - (IntKind.i64.wrap (p1 - r576q))))
        · rw [if_pos c587q] at H
          by_cases c588q : (IntKind.i64.wrap ((p0.f0.length : Int) - (IntKind.i64.wrap (p1 - r576q)))) < (p0.f0.length : Int)
          · rw [if_pos c588q] at H
            have hi591q : 0 ≤ IntKind.i64.wrap ((p0.f0.length : Int) - (IntKind.i64.wrap (p1 - r576q))) := by first | assumption | omega
            have hi592q : (IntKind.i64.wrap ((p0.f0.length : Int) - (IntKind.i64.wrap (p1 - r576q)))) < (p0.f0.length : Int) := by first | assumption | omega
            obtain ⟨ad589q, _, ha590q, -, -⟩ := Rds.elemAny hr442q.rds hi591q (gt_get (z := z52) hi591q hi592q)
            refine WT.take 13 (listed' := #[true, true, true, true, true, true, true, true, true, true, true, true, true, true, false, false, false]) h586q rfl rfl (by kernel_rfl) rfl rfl (.pointer (some (ad589q.add ((IntKind.i64.wrap ((p0.f0.length : Int) - (IntKind.i64.wrap (p1 - r576q)))).toNat * 3)))) (fun w_ hs_ => (run_idx (ad := ad589q) (sz := 3) rfl (by rw [← ha590q]; rfl) rfl Tryd.underlying23 (by kernel_rfl) hi591q hi592q)) ⟨(hS582q.cell (i := 0) rfl), (fun _ _ hk_ => (hS582q.bring 1 rfl rfl).pool.kn hk_), trivial⟩ (fun _ _ _ h_ => h_) (fun a593q h594q => ?_)
            clear h586q a585q
            obtain ⟨ad595q, cs596q, ha597q, hr599q, hc598q⟩ := Rds.elemAny hr442q.rds hi591q (gt_get (z := z52) hi591q hi592q)
            rw [ha590q] at ha597q; obtain rfl := Option.some.inj ha597q
            obtain rfl := k52qrd hr599q
            refine WT.take 14 (listed' := #[true, true, true, true, true, true, true, true, true, true, true, true, true, true, true, false, false]) h594q rfl rfl (by kernel_rfl) rfl rfl (.agg #[.string (mkS ((gt z52 p0.f0 (IntKind.i64.wrap ((p0.f0.length : Int) - (IntKind.i64.wrap (p1 - r576q))))).f0)), .string (mkS ((gt z52 p0.f0 (IntKind.i64.wrap ((p0.f0.length : Int) - (IntKind.i64.wrap (p1 - r576q))))).f1)), .bool ((gt z52 p0.f0 (IntKind.i64.wrap ((p0.f0.length : Int) - (IntKind.i64.wrap (p1 - r576q))))).f2)]) (fun w_ hs_ => (run_loadN rfl rfl Tryd.underlying52 rfl (cs := ([.string (mkS ((gt z52 p0.f0 (IntKind.i64.wrap ((p0.f0.length : Int) - (IntKind.i64.wrap (p1 - r576q))))).f0)), .string (mkS ((gt z52 p0.f0 (IntKind.i64.wrap ((p0.f0.length : Int) - (IntKind.i64.wrap (p1 - r576q))))).f1)), .bool ((gt z52 p0.f0 (IntKind.i64.wrap ((p0.f0.length : Int) - (IntKind.i64.wrap (p1 - r576q))))).f2)] : List Value)) (by kernel_rfl) (hc598q _ hs_.2.1))) ⟨(hS582q.cell (i := 0) rfl), (fun _ _ hk_ => (hS582q.bring 1 rfl rfl).pool.kn hk_), trivial⟩ (fun _ _ _ h_ => h_) (fun a600q h601q => ?_)
            clear h594q a593q
            have hS602q : St b w0 W577q R ([(g314q, .cells ([.string (mkS ([] : List UInt8)), .string (mkS ([] : List UInt8)), .bool false] : List Value).toArray 52 (0, 0))] :: [(g436q, .cells ([.slice A443q p0.f0.length c444q, .int .i64 p0.f1, .int .i64 p0.f2] : List Value).toArray 79 (0, 0))] :: M438q :: [(g334q, .cells ([.string (mkS r321q.f0), .string (mkS r321q.f1), .bool r321q.f2] : List Value).toArray 52 (0, 0))] :: Fs) := hS582q.bring 3 rfl rfl
            refine WT.op 15 (listed' := #[true, true, true, true, true, true, true, true, true, true, true, true, true, true, true, true, false]) h601q rfl (by kernel_rfl) rfl rfl ?_
            refine owp_store (i := 0) (vs := ([.string (mkS ((gt z52 p0.f0 (IntKind.i64.wrap ((p0.f0.length : Int) - (IntKind.i64.wrap (p1 - r576q))))).f0)), .string (mkS ((gt z52 p0.f0 (IntKind.i64.wrap ((p0.f0.length : Int) - (IntKind.i64.wrap (p1 - r576q))))).f1)), .bool ((gt z52 p0.f0 (IntKind.i64.wrap ((p0.f0.length : Int) - (IntKind.i64.wrap (p1 - r576q))))).f2)] : List Value)) h601q rfl (by kernel_rfl) rfl rfl rfl rfl (by simp [Value.oneCell']) (by kernel_rfl) hS602q (by simp) (cs' := ([.string (mkS ((gt z52 p0.f0 (IntKind.i64.wrap ((p0.f0.length : Int) - (IntKind.i64.wrap (p1 - r576q))))).f0)), .string (mkS ((gt z52 p0.f0 (IntKind.i64.wrap ((p0.f0.length : Int) - (IntKind.i64.wrap (p1 - r576q))))).f1)), .bool ((gt z52 p0.f0 (IntKind.i64.wrap ((p0.f0.length : Int) - (IntKind.i64.wrap (p1 - r576q))))).f2)] : List Value)) rfl (fun a603q W605q h604q hS606q => ?_)
            clear h601q a600q
            refine ⟨.inl (by decide), ?_⟩
            refine WT.late 16 (listed' := #[true, true, true, true, true, true, true, true, true, true, true, true, true, true, true, true, true]) h604q rfl rfl (by kernel_rfl) rfl rfl (.bool true) (fun _ => by kernel_rfl) (fun _ _ _ h_ => h_) (fun a607q h608q => ?_)
            clear h604q a603q
            refine WT.done (by kernel_rfl) ?_
            refine wp_ret ?_
            have hS609q : St b w0 W605q R (M438q :: [(g314q, .cells ([.string (mkS ((gt z52 p0.f0 (IntKind.i64.wrap ((p0.f0.length : Int) - (IntKind.i64.wrap (p1 - r576q))))).f0)), .string (mkS ((gt z52 p0.f0 (IntKind.i64.wrap ((p0.f0.length : Int) - (IntKind.i64.wrap (p1 - r576q))))).f1)), .bool ((gt z52 p0.f0 (IntKind.i64.wrap ((p0.f0.length : Int) - (IntKind.i64.wrap (p1 - r576q))))).f2)] : List Value).toArray 52 (0, 0))] :: [(g436q, .cells ([.slice A443q p0.f0.length c444q, .int .i64 p0.f1, .int .i64 p0.f2] : List Value).toArray 79 (0, 0))] :: [(g334q, .cells ([.string (mkS r321q.f0), .string (mkS r321q.f1), .bool r321q.f2] : List Value).toArray 52 (0, 0))] :: Fs) := hS606q.bring 2 rfl rfl
            have hS610q : St b w0 W605q R ([(g436q, .cells ([.slice A443q p0.f0.length c444q, .int .i64 p0.f1, .int .i64 p0.f2] : List Value).toArray 79 (0, 0))] :: M438q :: [(g314q, .cells ([.string (mkS ((gt z52 p0.f0 (IntKind.i64.wrap ((p0.f0.length : Int) - (IntKind.i64.wrap (p1 - r576q))))).f0)), .string (mkS ((gt z52 p0.f0 (IntKind.i64.wrap ((p0.f0.length : Int) - (IntKind.i64.wrap (p1 - r576q))))).f1)), .bool ((gt z52 p0.f0 (IntKind.i64.wrap ((p0.f0.length : Int) - (IntKind.i64.wrap (p1 - r576q))))).f2)] : List Value).toArray 52 (0, 0))] :: [(g334q, .cells ([.string (mkS r321q.f0), .string (mkS r321q.f1), .bool r321q.f2] : List Value).toArray 52 (0, 0))] :: Fs) := hS609q.bring 2 rfl rfl
            obtain ⟨M612q, hr611q, hM_⟩ := k79qmk (b := b) (w0 := w0) (R := R) (x := p0) (gvf0 := hr442q)
            have hp613q : Ptr k79 79 b w0 R (.pointer (some ⟨g436q, 0, none⟩)) p0 ((g436q, .cells ([.slice A443q p0.f0.length c444q, .int .i64 p0.f1, .int .i64 p0.f2] : List Value).toArray 79 (0, 0)) :: M612q) := ⟨_, _, _, rfl, rfl, hr611q⟩
            rw [hM_] at hp613q
            have hS615q : St b w0 W605q R (((g436q, .cells ([.slice A443q p0.f0.length c444q, .int .i64 p0.f1, .int .i64 p0.f2] : List Value).toArray 79 (0, 0)) :: (M438q)) :: [(g314q, .cells ([.string (mkS ((gt z52 p0.f0 (IntKind.i64.wrap ((p0.f0.length : Int) - (IntKind.i64.wrap (p1 - r576q))))).f0)), .string (mkS ((gt z52 p0.f0 (IntKind.i64.wrap ((p0.f0.length : Int) - (IntKind.i64.wrap (p1 - r576q))))).f1)), .bool ((gt z52 p0.f0 (IntKind.i64.wrap ((p0.f0.length : Int) - (IntKind.i64.wrap (p1 - r576q))))).f2)] : List Value).toArray 52 (0, 0))] :: [(g334q, .cells ([.string (mkS r321q.f0), .string (mkS r321q.f1), .bool r321q.f2] : List Value).toArray 52 (0, 0))] :: Fs) := hS610q.assoc (by simp only [List.flatten_cons, List.append_assoc, List.cons_append, List.nil_append, List.append_nil])
            obtain ⟨M616q, hM_⟩ : ∃ y : Frag, y = ((g436q, .cells ([.slice A443q p0.f0.length c444q, .int .i64 p0.f1, .int .i64 p0.f2] : List Value).toArray 79 (0, 0)) :: (M438q)) := ⟨_, rfl⟩
            rw [← hM_] at hp613q hS615q
            clear hM_
            have hS617q : St b w0 W605q R ([(g314q, .cells ([.string (mkS ((gt z52 p0.f0 (IntKind.i64.wrap ((p0.f0.length : Int) - (IntKind.i64.wrap (p1 - r576q))))).f0)), .string (mkS ((gt z52 p0.f0 (IntKind.i64.wrap ((p0.f0.length : Int) - (IntKind.i64.wrap (p1 - r576q))))).f1)), .bool ((gt z52 p0.f0 (IntKind.i64.wrap ((p0.f0.length : Int) - (IntKind.i64.wrap (p1 - r576q))))).f2)] : List Value).toArray 52 (0, 0))] :: M616q :: [(g334q, .cells ([.string (mkS r321q.f0), .string (mkS r321q.f1), .bool r321q.f2] : List Value).toArray 52 (0, 0))] :: Fs) := hS615q.bring 1 rfl rfl
            have hS618q : St b w0 W605q R (M616q :: [(g334q, .cells ([.string (mkS r321q.f0), .string (mkS r321q.f1), .bool r321q.f2] : List Value).toArray 52 (0, 0))] :: Fs) := hS617q.drop_
            have hS619q : St b w0 W605q R ([(g334q, .cells ([.string (mkS r321q.f0), .string (mkS r321q.f1), .bool r321q.f2] : List Value).toArray 52 (0, 0))] :: M616q :: Fs) := hS618q.bring 1 rfl rfl
            have hS620q : St b w0 W605q R (M616q :: Fs) := hS619q.drop_
            obtain ⟨rfl, rfl⟩ := ret2 H
            repeat (first | refine then_ret ?_ | refine inBlock_ret ?_ | refine inBlock_go ?_)
            refine body_ret (v := .tuple #[.agg #[.string (mkS ((gt z52 p0.f0 (IntKind.i64.wrap ((p0.f0.length : Int) - (IntKind.i64.wrap (p1 - r576q))))).f0)), .string (mkS ((gt z52 p0.f0 (IntKind.i64.wrap ((p0.f0.length : Int) - (IntKind.i64.wrap (p1 - r576q))))).f1)), .bool ((gt z52 p0.f0 (IntKind.i64.wrap ((p0.f0.length : Int) - (IntKind.i64.wrap (p1 - r576q))))).f2)], .bool true]) h608q (by kernel_rfl) (res_many (xs := [ResultVar.cell 4 52, ResultVar.tmp 5]) rfl ⟨⟨_, rfl, loadVarN Tryd.underlying52 rfl (cs := ([.string (mkS ((gt z52 p0.f0 (IntKind.i64.wrap ((p0.f0.length : Int) - (IntKind.i64.wrap (p1 - r576q))))).f0)), .string (mkS ((gt z52 p0.f0 (IntKind.i64.wrap ((p0.f0.length : Int) - (IntKind.i64.wrap (p1 - r576q))))).f1)), .bool ((gt z52 p0.f0 (IntKind.i64.wrap ((p0.f0.length : Int) - (IntKind.i64.wrap (p1 - r576q))))).f2)] : List Value)) (by kernel_rfl) (hS606q.cells (vs := ([.string (mkS ((gt z52 p0.f0 (IntKind.i64.wrap ((p0.f0.length : Int) - (IntKind.i64.wrap (p1 - r576q))))).f0)), .string (mkS ((gt z52 p0.f0 (IntKind.i64.wrap ((p0.f0.length : Int) - (IntKind.i64.wrap (p1 - r576q))))).f1)), .bool ((gt z52 p0.f0 (IntKind.i64.wrap ((p0.f0.length : Int) - (IntKind.i64.wrap (p1 - r576q))))).f2)] : List Value)) rfl)⟩, rfl, trivial⟩ rfl) ?_
            exact ⟨M616q, rfl, hp613q, hS620q⟩
          · rw [if_neg c588q] at H
            cases H
        · rw [if_neg c587q] at H
          cases H

structure S31 where
  f0 : Int
  f1 : Int
  deriving DecidableEq
def z31 : S31 := ⟨(0 : Int), (0 : Int)⟩
def k31 : Kd S31 := kIso (kPair (kInt .u8) (kInt .u32)) (fun x : S31 => (x.f0, x.f1))
theorem k31qflat : k31.Flat := kIso_flat (kPair_flat (kInt_flat _) (kInt_flat _))
theorem k31qind : k31.Ind := kIso_ind (kPair_ind (kInt_ind _) (kInt_ind _))
theorem k31qrd {b : Nat} {w0 : World} {R : Frag} {x : S31} {cs : List Value} (h : k31.rd b w0 R x cs) : cs = [.int .u8 x.f0, .int .u32 x.f1] := by
  obtain ⟨c1q, c2q, rfl, h3q, h4q⟩ := h
  obtain rfl := h3q
  obtain rfl := h4q
  exact rfl
theorem k31qrep {b : Nat} {w0 : World} {R : Frag} {x : S31} {cs : List Value} {M : Frag} (h : k31.rep b w0 R x cs M) : cs = [.int .u8 x.f0, .int .u32 x.f1] ∧ M = [] := by
  obtain ⟨c5q, c6q, M9q, M10q, rfl, rfl, h7q, h8q⟩ := h
  obtain ⟨rfl, rfl⟩ := h7q
  obtain ⟨rfl, rfl⟩ := h8q
  exact ⟨rfl, by simp⟩
theorem k31qno {b : Nat} {w0 : World} {R : Frag} {x : S31} {cs : List Value} {M : Frag} (h : k31.rep b w0 R x cs M) : M = [] := by
  obtain ⟨_, hM_⟩ := k31qrep h
  exact hM_
theorem k31qmk {b : Nat} {w0 : World} {R : Frag} {x : S31}  : ∃ M, k31.rep b w0 R x [.int .u8 x.f0, .int .u32 x.f1] M ∧ M = [] := ⟨_, ⟨_, _, _, _, rfl, rfl, ⟨rfl, rfl⟩, ⟨rfl, rfl⟩⟩, by simp⟩
structure S64 where
  f0 : S79
  f1 : Int
  deriving DecidableEq
def z64 : S64 := ⟨z79, (0 : Int)⟩
def k64 : Kd S64 := kIso (kPair (kPtr k79 79) (kInt .u32)) (fun x : S64 => (x.f0, x.f1))
theorem k64qind : k64.Ind := kIso_ind (kPair_ind (kPtr_ind k79qind) (kInt_ind _))
theorem k64qrep {b : Nat} {w0 : World} {R : Frag} {x : S64} {cs : List Value} {M : Frag} (h : k64.rep b w0 R x cs M) : ∃ (vf0 : Value), ∃ (Mvf0 : Frag), cs = [vf0, .int .u32 x.f1] ∧ M = Mvf0 ∧ Ptr k79 79 b w0 R vf0 x.f0 Mvf0 := by
  obtain ⟨c11q, c12q, M15q, M16q, rfl, rfl, h13q, h14q⟩ := h
  obtain ⟨v17q, rfl, g18q⟩ := h13q
  obtain ⟨rfl, rfl⟩ := h14q
  exact ⟨v17q, _, rfl, by simp, g18q⟩
theorem k64qmk {b : Nat} {w0 : World} {R : Frag} {x : S64} {vf0 : Value} {Mvf0 : Frag} (gvf0 : Ptr k79 79 b w0 R vf0 x.f0 Mvf0) : ∃ M, k64.rep b w0 R x [vf0, .int .u32 x.f1] M ∧ M = Mvf0 := ⟨_, ⟨_, _, _, _, rfl, rfl, ⟨vf0, rfl, gvf0⟩, ⟨rfl, rfl⟩⟩, by simp⟩
/-! ### (*louver/hpack.Decoder).Get -/
def hpack_Decoder_Get_nil.f (p1 : (List Int)) : Option ((List S52) × S31) := some (([] : List S52), (⟨1, 2⟩ : S31))
set_option maxHeartbeats 2000000 in
set_option maxRecDepth 100000 in
theorem hpack_Decoder_Get_nil.calls {b : Nat} {w0 W : World} {R : Frag} {Fs : List Frag} {p1 : (List Int)} {v1 : Value} {r0q : (List S52)} {r1q : S31} (hp1 : Rds (kInt .u8) b w0 R v1 p1) (H : hpack_Decoder_Get_nil.f p1 = some (r0q, r1q)) (hS : St b w0 W R (Fs)) :
    Calls Tryd.prog 12 ([.pointer none, v1] : List Value).toArray W (fun e W' => ∃ (u0q : Value) (N0q : Frag), e = .returned (.tuple #[u0q, .agg #[.int .u8 r1q.f0, .int .u32 r1q.f1]]) ∧ Row k52 52 b w0 R u0q r0q N0q ∧ St b w0 W' R (N0q :: Fs)) := by
  obtain ⟨A1, c1, rfl⟩ := hp1.form
  unfold hpack_Decoder_Get_nil.f at H
  refine calls_enter Tryd.func12 rfl 58 rfl (by kernel_rfl) (fun a h => ?_)
  refine wp_seq ?_
  refine WL.start ?_
  refine WL.block (c := 1) (m' := 1) h rfl [(4, .slice none 0 0)] (by kernel_rfl) (fun a17q h18q => ?_)
  refine WL.op' (m := 1) h18q rfl rfl ?_
  refine owp_new (fun g_ => .pointer (some ⟨g_, 0, none⟩)) (.cells ([.int .u8 0, .int .u32 0] : List Value).toArray 31 (0, 0)) h18q rfl (by kernel_rfl) (by kernel_rfl) hS (fun a19q W21q g22q h20q hS23q => ?_)
  clear h18q a17q
  refine WL.done (by kernel_rfl) ?_
  refine wp_seq ?_
  refine wp_seq ?_
  refine WL.start ?_
  refine WL.block (c := 2) (m' := 2) h20q rfl [(12, .bool true), (11, .pointer none)] (by kernel_rfl) (fun a24q h25q => ?_)
  clear h20q a19q
  refine WL.done (by kernel_rfl) ?_
  refine wp_then h25q rfl ?_
  refine wp_seq ?_
  refine WL.start ?_
  refine WL.block (c := 2) (m' := 2) h25q rfl [(4, .slice none 0 0), (13, .agg #[.int .u8 1, .int .u32 2])] (by kernel_rfl) (fun a26q h27q => ?_)
  clear h25q a24q
  refine WL.op' (m := 2) h27q rfl rfl ?_
  refine owp_store (i := 0) (vs := ([.int .u8 1, .int .u32 2] : List Value)) h27q rfl (by kernel_rfl) rfl rfl rfl rfl (by simp [Value.oneCell']) (by kernel_rfl) hS23q (by simp) (cs' := ([.int .u8 1, .int .u32 2] : List Value)) rfl (fun a28q W30q h29q hS31q => ?_)
  clear h27q a26q
  refine WL.done (by kernel_rfl) ?_
  refine wp_ret ?_
  have hS32q : St b w0 W30q R (Fs) := hS31q.drop_
  obtain ⟨rfl, rfl⟩ := ret2 H
  repeat (first | refine then_ret ?_ | refine inBlock_ret ?_ | refine inBlock_go ?_)
  refine body_ret (v := .tuple #[.slice none 0 0, .agg #[.int .u8 1, .int .u32 2]]) h29q (by kernel_rfl) (res_many (xs := [ResultVar.tmp 4, ResultVar.cell 5 31]) rfl ⟨rfl, ⟨_, rfl, loadVarN Tryd.underlying31 rfl (cs := ([.int .u8 1, .int .u32 2] : List Value)) (by kernel_rfl) (hS31q.cells (vs := ([.int .u8 1, .int .u32 2] : List Value)) rfl)⟩, trivial⟩ rfl) ?_
  exact ⟨.slice none 0 0, [], rfl, Row.nil, hS32q.nil_⟩

/-! ### (*louver/dyntable.Table).Size -/
def dyntable_Table_Size.f (p0 : S79) : Option (Int) := some p0.f1
set_option maxHeartbeats 2000000 in
set_option maxRecDepth 100000 in
theorem dyntable_Table_Size.calls {b : Nat} {w0 W : World} {R : Frag} {Fs : List Frag} {p0 : S79}  {v0 : Value} {M0 : Frag} {r0q : Int} (hp0 : Ptr k79 79 b w0 R v0 p0 M0) (H : dyntable_Table_Size.f p0 = some r0q) (hS : St b w0 W R (M0 :: Fs)) :
    Calls Tryd.prog 29 ([v0] : List Value).toArray W (fun e W' => ∃ (O0q : Frag), e = .returned (.int .i64 r0q) ∧ Ptr k79 79 b w0 R v0 p0 O0q ∧ St b w0 W' R (O0q :: Fs)) := by
  unfold dyntable_Table_Size.f at H
  refine calls_enter Tryd.func29 rfl 9 rfl (by kernel_rfl) (fun a h => ?_)
  refine wp_seq ?_
  refine WL.start ?_
  refine WL.block (c := 1) (m' := 1) h rfl [(2, .int .i64 0)] (by kernel_rfl) (fun a31q h32q => ?_)
  refine WL.done (by kernel_rfl) ?_
  refine wp_seq ?_
  refine wp_seq ?_
  refine WL.start ?_
  refine WL.block (c := 1) (m' := 1) h32q rfl [(3, v0)] (by kernel_rfl) (fun a33q h34q => ?_)
  clear h32q a31q
  obtain ⟨g35q, cs36q, M37q, hv_, hM_, hr38q⟩ := hp0
  obtain ⟨v39q, M40q, rfl, hM2q, hr41q⟩ := k79qrep hr38q
  subst hM2q
  subst hM_
  subst hv_
  replace hr41q : Row k52 52 b w0 R v39q p0.f0 M37q := hr41q
  obtain ⟨A42q, c43q, rfl⟩ := hr41q.form
  have hS44q : St b w0 W R ([(g35q, .cells ([.slice A42q p0.f0.length c43q, .int .i64 p0.f1, .int .i64 p0.f2] : List Value).toArray 79 (0, 0))] :: M37q :: Fs) := hS.assoc (by simp only [List.flatten_cons, List.append_assoc, List.cons_append, List.nil_append, List.append_nil])
  refine WL.block (c := 1) (m' := 2) h34q rfl [(4, .bool false)] (by kernel_rfl) (fun a45q h46q => ?_)
  clear h34q a33q
  refine WL.done (by kernel_rfl) ?_
  refine wp_else h46q rfl ?_
  refine wp_skip ?_
  refine wp_seq ?_
  refine WL.start ?_
  refine WL.block (c := 3) (m' := 3) h46q rfl [(7, .pointer (some ⟨g35q, 1, none⟩)), (6, .pointer (some ⟨g35q, 0, none⟩)), (5, .pointer (some ⟨g35q, 0, none⟩))] (by kernel_rfl) (fun a47q h48q => ?_)
  clear h46q a45q
  refine WL.op' (m := 3) h48q rfl rfl ?_
  refine owp_run (v := .int .i64 p0.f1) h48q rfl (by kernel_rfl) (run_load1 rfl rfl Tryd.underlying3 rfl (hS44q.cell (i := 1) rfl)) (fun a49q h50q => ?_)
  clear h48q a47q
  refine WL.block (c := 1) (m' := 5) h50q rfl [(2, .int .i64 p0.f1)] (by kernel_rfl) (fun a51q h52q => ?_)
  clear h50q a49q
  refine WL.done (by kernel_rfl) ?_
  refine wp_ret ?_
  have hS53q : St b w0 W R (M37q :: [(g35q, .cells ([.slice A42q p0.f0.length c43q, .int .i64 p0.f1, .int .i64 p0.f2] : List Value).toArray 79 (0, 0))] :: Fs) := hS44q.bring 1 rfl rfl
  have hS54q : St b w0 W R ([(g35q, .cells ([.slice A42q p0.f0.length c43q, .int .i64 p0.f1, .int .i64 p0.f2] : List Value).toArray 79 (0, 0))] :: M37q :: Fs) := hS53q.bring 1 rfl rfl
  obtain ⟨M56q, hr55q, hM_⟩ := k79qmk (b := b) (w0 := w0) (R := R) (x := p0) (gvf0 := hr41q)
  have hp57q : Ptr k79 79 b w0 R (.pointer (some ⟨g35q, 0, none⟩)) p0 ((g35q, .cells ([.slice A42q p0.f0.length c43q, .int .i64 p0.f1, .int .i64 p0.f2] : List Value).toArray 79 (0, 0)) :: M56q) := ⟨_, _, _, rfl, rfl, hr55q⟩
  rw [hM_] at hp57q
  have hS59q : St b w0 W R (((g35q, .cells ([.slice A42q p0.f0.length c43q, .int .i64 p0.f1, .int .i64 p0.f2] : List Value).toArray 79 (0, 0)) :: (M37q)) :: Fs) := hS54q.assoc (by simp only [List.flatten_cons, List.append_assoc, List.cons_append, List.nil_append, List.append_nil])
  obtain ⟨M60q, hM_⟩ : ∃ y : Frag, y = ((g35q, .cells ([.slice A42q p0.f0.length c43q, .int .i64 p0.f1, .int .i64 p0.f2] : List Value).toArray 79 (0, 0)) :: (M37q)) := ⟨_, rfl⟩
  rw [← hM_] at hp57q hS59q
  clear hM_
  obtain rfl := Option.some.inj H
  repeat (first | refine then_ret ?_ | refine inBlock_ret ?_ | refine inBlock_go ?_)
  refine body_ret (v := .int .i64 p0.f1) h52q (by kernel_rfl) (by kernel_rfl) ?_
  exact ⟨M60q, rfl, hp57q, hS59q⟩

/-! ### (*louver/hpack.Encoder).Table -/
def hpack_Encoder_Table.f (p0 : S61) : Option (Int) := bnd1 (dyntable_Table_Size.f p0.f0) fun r59q => (some r59q)
set_option maxHeartbeats 2000000 in
set_option maxRecDepth 100000 in
theorem hpack_Encoder_Table.calls {b : Nat} {w0 W : World} {R : Frag} {Fs : List Frag} {p0 : S61}  {v0 : Value} {M0 : Frag} {r0q : Int} (hp0 : Ptr k61 61 b w0 R v0 p0 M0) (H : hpack_Encoder_Table.f p0 = some r0q) (hS : St b w0 W R (M0 :: Fs)) :
    Calls Tryd.prog 14 ([v0] : List Value).toArray W (fun e W' => ∃ (O0q : Frag), e = .returned (.int .i64 r0q) ∧ Ptr k61 61 b w0 R v0 p0 O0q ∧ St b w0 W' R (O0q :: Fs)) := by
  unfold hpack_Encoder_Table.f at H
  refine calls_enter Tryd.func14 rfl 10 rfl (by kernel_rfl) (fun a h => ?_)
  refine wp_seq ?_
  refine WL.start ?_
  refine WL.block (c := 1) (m' := 1) h rfl [(2, .int .i64 0)] (by kernel_rfl) (fun a39q h40q => ?_)
  refine WL.done (by kernel_rfl) ?_
  refine wp_seq ?_
  refine wp_seq ?_
  refine WL.start ?_
  refine WL.block (c := 1) (m' := 1) h40q rfl [(3, v0)] (by kernel_rfl) (fun a41q h42q => ?_)
  clear h40q a39q
  obtain ⟨g43q, cs44q, M45q, hv_, hM_, hr46q⟩ := hp0
  obtain ⟨v47q, M48q, rfl, hM2q, hr49q⟩ := k61qrep hr46q
  subst hM2q
  subst hM_
  subst hv_
  have hS50q : St b w0 W R ([(g43q, .cells ([v47q, .bool p0.f1, .int .u32 p0.f2, .int .u32 p0.f3] : List Value).toArray 61 (0, 0))] :: M45q :: Fs) := hS.assoc (by simp only [List.flatten_cons, List.append_assoc, List.cons_append, List.nil_append, List.append_nil])
  refine WL.block (c := 1) (m' := 2) h42q rfl [(4, .bool false)] (by kernel_rfl) (fun a51q h52q => ?_)
  clear h42q a41q
  refine WL.done (by kernel_rfl) ?_
  refine wp_else h52q rfl ?_
  refine wp_skip ?_
  refine wp_seq ?_
  refine WL.start ?_
  refine WL.block (c := 3) (m' := 3) h52q rfl [(7, .pointer (some ⟨g43q, 0, none⟩)), (6, .pointer (some ⟨g43q, 0, none⟩)), (5, .pointer (some ⟨g43q, 0, none⟩))] (by kernel_rfl) (fun a53q h54q => ?_)
  clear h52q a51q
  refine WL.op' (m := 3) h54q rfl rfl ?_
  refine owp_run (v := v47q) h54q rfl (by kernel_rfl) (run_load1 rfl rfl Tryd.underlying59 rfl (hS50q.cell (i := 0) rfl)) (fun a55q h56q => ?_)
  clear h54q a53q
  have hS57q : St b w0 W R (M45q :: [(g43q, .cells ([v47q, .bool p0.f1, .int .u32 p0.f2, .int .u32 p0.f3] : List Value).toArray 61 (0, 0))] :: Fs) := hS50q.bring 1 rfl rfl
  obtain ⟨r59q, A58q, H⟩ := bind1 H
  refine WL.op' (m := 4) h56q rfl rfl ?_
  refine owp_call [v47q] h56q rfl (by kernel_rfl) rfl Tryd.func29 (by kernel_rfl) rfl (by kernel_rfl) (dyntable_Table_Size.calls hr49q A58q hS57q) (fun e61q W60q hp62q => ?_)
  obtain ⟨M65q, rfl, hr66q, hS67q⟩ := hp62q
  refine ⟨_, rfl, fun a63q h64q => ?_⟩
  clear h56q a55q
  refine WL.block (c := 1) (m' := 6) h64q rfl [(2, .int .i64 r59q)] (by kernel_rfl) (fun a68q h69q => ?_)
  clear h64q a63q
  refine WL.done (by kernel_rfl) ?_
  refine wp_ret ?_
  have hS70q : St b w0 W60q R ([(g43q, .cells ([v47q, .bool p0.f1, .int .u32 p0.f2, .int .u32 p0.f3] : List Value).toArray 61 (0, 0))] :: M65q :: Fs) := hS67q.bring 1 rfl rfl
  obtain ⟨M72q, hr71q, hM_⟩ := k61qmk (b := b) (w0 := w0) (R := R) (x := p0) (gvf0 := hr66q)
  have hp73q : Ptr k61 61 b w0 R (.pointer (some ⟨g43q, 0, none⟩)) p0 ((g43q, .cells ([v47q, .bool p0.f1, .int .u32 p0.f2, .int .u32 p0.f3] : List Value).toArray 61 (0, 0)) :: M72q) := ⟨_, _, _, rfl, rfl, hr71q⟩
  rw [hM_] at hp73q
  have hS75q : St b w0 W60q R (((g43q, .cells ([v47q, .bool p0.f1, .int .u32 p0.f2, .int .u32 p0.f3] : List Value).toArray 61 (0, 0)) :: (M65q)) :: Fs) := hS70q.assoc (by simp only [List.flatten_cons, List.append_assoc, List.cons_append, List.nil_append, List.append_nil])
  obtain ⟨M76q, hM_⟩ : ∃ y : Frag, y = ((g43q, .cells ([v47q, .bool p0.f1, .int .u32 p0.f2, .int .u32 p0.f3] : List Value).toArray 61 (0, 0)) :: (M65q)) := ⟨_, rfl⟩
  rw [← hM_] at hp73q hS75q
  clear hM_
  obtain rfl := Option.some.inj H
  repeat (first | refine then_ret ?_ | refine inBlock_ret ?_ | refine inBlock_go ?_)
  refine body_ret (v := .int .i64 r59q) h69q (by kernel_rfl) (by kernel_rfl) ?_
  exact ⟨M76q, rfl, hp73q, hS75q⟩

/-! ### (*louver/hpack.Encoder).Table -/
def hpack_Encoder_Table_nil.f  : Option (Int) := some 0
set_option maxHeartbeats 2000000 in
set_option maxRecDepth 100000 in
theorem hpack_Encoder_Table_nil.calls {b : Nat} {w0 W : World} {R : Frag} {Fs : List Frag}   {r0q : Int}  (H : hpack_Encoder_Table_nil.f = some r0q) (hS : St b w0 W R (Fs)) :
    Calls Tryd.prog 14 ([.pointer none] : List Value).toArray W (fun e W' => e = .returned (.int .i64 r0q) ∧ St b w0 W' R (Fs)) := by
  unfold hpack_Encoder_Table_nil.f at H
  refine calls_enter Tryd.func14 rfl 10 rfl (by kernel_rfl) (fun a h => ?_)
  refine wp_seq ?_
  refine WL.start ?_
  refine WL.block (c := 1) (m' := 1) h rfl [(2, .int .i64 0)] (by kernel_rfl) (fun a7q h8q => ?_)
  refine WL.done (by kernel_rfl) ?_
  refine wp_seq ?_
  refine wp_seq ?_
  refine WL.start ?_
  refine WL.block (c := 2) (m' := 2) h8q rfl [(4, .bool true), (3, .pointer none)] (by kernel_rfl) (fun a9q h10q => ?_)
  clear h8q a7q
  refine WL.done (by kernel_rfl) ?_
  refine wp_then h10q rfl ?_
  refine wp_seq ?_
  refine WL.start ?_
  refine WL.block (c := 1) (m' := 1) h10q rfl [(2, .int .i64 0)] (by kernel_rfl) (fun a11q h12q => ?_)
  clear h10q a9q
  refine WL.done (by kernel_rfl) ?_
  refine wp_ret ?_
  obtain rfl := Option.some.inj H
  repeat (first | refine then_ret ?_ | refine inBlock_ret ?_ | refine inBlock_go ?_)
  refine body_ret (v := .int .i64 0) h12q (by kernel_rfl) (by kernel_rfl) ?_
  exact ⟨rfl, hS⟩

/-! ### (*louver/hpack.Decoder).Table -/
def hpack_Decoder_Table.f (p0 : S64) : Option (Int) := bnd1 (dyntable_Table_Size.f p0.f0) fun r59q => (some r59q)
set_option maxHeartbeats 2000000 in
set_option maxRecDepth 100000 in
theorem hpack_Decoder_Table.calls {b : Nat} {w0 W : World} {R : Frag} {Fs : List Frag} {p0 : S64}  {v0 : Value} {M0 : Frag} {r0q : Int} (hp0 : Ptr k64 64 b w0 R v0 p0 M0) (H : hpack_Decoder_Table.f p0 = some r0q) (hS : St b w0 W R (M0 :: Fs)) :
    Calls Tryd.prog 15 ([v0] : List Value).toArray W (fun e W' => ∃ (O0q : Frag), e = .returned (.int .i64 r0q) ∧ Ptr k64 64 b w0 R v0 p0 O0q ∧ St b w0 W' R (O0q :: Fs)) := by
  unfold hpack_Decoder_Table.f at H
  refine calls_enter Tryd.func15 rfl 10 rfl (by kernel_rfl) (fun a h => ?_)
  refine wp_seq ?_
  refine WL.start ?_
  refine WL.block (c := 1) (m' := 1) h rfl [(2, .int .i64 0)] (by kernel_rfl) (fun a39q h40q => ?_)
  refine WL.done (by kernel_rfl) ?_
  refine wp_seq ?_
  refine wp_seq ?_
  refine WL.start ?_
  refine WL.block (c := 1) (m' := 1) h40q rfl [(3, v0)] (by kernel_rfl) (fun a41q h42q => ?_)
  clear h40q a39q
  obtain ⟨g43q, cs44q, M45q, hv_, hM_, hr46q⟩ := hp0
  obtain ⟨v47q, M48q, rfl, hM2q, hr49q⟩ := k64qrep hr46q
  subst hM2q
  subst hM_
  subst hv_
  have hS50q : St b w0 W R ([(g43q, .cells ([v47q, .int .u32 p0.f1] : List Value).toArray 64 (0, 0))] :: M45q :: Fs) := hS.assoc (by simp only [List.flatten_cons, List.append_assoc, List.cons_append, List.nil_append, List.append_nil])
  refine WL.block (c := 1) (m' := 2) h42q rfl [(4, .bool false)] (by kernel_rfl) (fun a51q h52q => ?_)
  clear h42q a41q
  refine WL.done (by kernel_rfl) ?_
  refine wp_else h52q rfl ?_
  refine wp_skip ?_
  refine wp_seq ?_
  refine WL.start ?_
  refine WL.block (c := 3) (m' := 3) h52q rfl [(7, .pointer (some ⟨g43q, 0, none⟩)), (6, .pointer (some ⟨g43q, 0, none⟩)), (5, .pointer (some ⟨g43q, 0, none⟩))] (by kernel_rfl) (fun a53q h54q => ?_)
  clear h52q a51q
  refine WL.op' (m := 3) h54q rfl rfl ?_
  refine owp_run (v := v47q) h54q rfl (by kernel_rfl) (run_load1 rfl rfl Tryd.underlying59 rfl (hS50q.cell (i := 0) rfl)) (fun a55q h56q => ?_)
  clear h54q a53q
  have hS57q : St b w0 W R (M45q :: [(g43q, .cells ([v47q, .int .u32 p0.f1] : List Value).toArray 64 (0, 0))] :: Fs) := hS50q.bring 1 rfl rfl
  obtain ⟨r59q, A58q, H⟩ := bind1 H
  refine WL.op' (m := 4) h56q rfl rfl ?_
  refine owp_call [v47q] h56q rfl (by kernel_rfl) rfl Tryd.func29 (by kernel_rfl) rfl (by kernel_rfl) (dyntable_Table_Size.calls hr49q A58q hS57q) (fun e61q W60q hp62q => ?_)
  obtain ⟨M65q, rfl, hr66q, hS67q⟩ := hp62q
  refine ⟨_, rfl, fun a63q h64q => ?_⟩
  clear h56q a55q
  refine WL.block (c := 1) (m' := 6) h64q rfl [(2, .int .i64 r59q)] (by kernel_rfl) (fun a68q h69q => ?_)
  clear h64q a63q
  refine WL.done (by kernel_rfl) ?_
  refine wp_ret ?_
  have hS70q : St b w0 W60q R ([(g43q, .cells ([v47q, .int .u32 p0.f1] : List Value).toArray 64 (0, 0))] :: M65q :: Fs) := hS67q.bring 1 rfl rfl
  obtain ⟨M72q, hr71q, hM_⟩ := k64qmk (b := b) (w0 := w0) (R := R) (x := p0) (gvf0 := hr66q)
  have hp73q : Ptr k64 64 b w0 R (.pointer (some ⟨g43q, 0, none⟩)) p0 ((g43q, .cells ([v47q, .int .u32 p0.f1] : List Value).toArray 64 (0, 0)) :: M72q) := ⟨_, _, _, rfl, rfl, hr71q⟩
  rw [hM_] at hp73q
  have hS75q : St b w0 W60q R (((g43q, .cells ([v47q, .int .u32 p0.f1] : List Value).toArray 64 (0, 0)) :: (M65q)) :: Fs) := hS70q.assoc (by simp only [List.flatten_cons, List.append_assoc, List.cons_append, List.nil_append, List.append_nil])
  obtain ⟨M76q, hM_⟩ : ∃ y : Frag, y = ((g43q, .cells ([v47q, .int .u32 p0.f1] : List Value).toArray 64 (0, 0)) :: (M65q)) := ⟨_, rfl⟩
  rw [← hM_] at hp73q hS75q
  clear hM_
  obtain rfl := Option.some.inj H
  repeat (first | refine then_ret ?_ | refine inBlock_ret ?_ | refine inBlock_go ?_)
  refine body_ret (v := .int .i64 r59q) h69q (by kernel_rfl) (by kernel_rfl) ?_
  exact ⟨M76q, rfl, hp73q, hS75q⟩

/-! ### (*louver/hpack.Decoder).Table -/
def hpack_Decoder_Table_nil.f  : Option (Int) := some 0
set_option maxHeartbeats 2000000 in
set_option maxRecDepth 100000 in
theorem hpack_Decoder_Table_nil.calls {b : Nat} {w0 W : World} {R : Frag} {Fs : List Frag}   {r0q : Int}  (H : hpack_Decoder_Table_nil.f = some r0q) (hS : St b w0 W R (Fs)) :
    Calls Tryd.prog 15 ([.pointer none] : List Value).toArray W (fun e W' => e = .returned (.int .i64 r0q) ∧ St b w0 W' R (Fs)) := by
  unfold hpack_Decoder_Table_nil.f at H
  refine calls_enter Tryd.func15 rfl 10 rfl (by kernel_rfl) (fun a h => ?_)
  refine wp_seq ?_
  refine WL.start ?_
  refine WL.block (c := 1) (m' := 1) h rfl [(2, .int .i64 0)] (by kernel_rfl) (fun a7q h8q => ?_)
  refine WL.done (by kernel_rfl) ?_
  refine wp_seq ?_
  refine wp_seq ?_
  refine WL.start ?_
  refine WL.block (c := 2) (m' := 2) h8q rfl [(4, .bool true), (3, .pointer none)] (by kernel_rfl) (fun a9q h10q => ?_)
  clear h8q a7q
  refine WL.done (by kernel_rfl) ?_
  refine wp_then h10q rfl ?_
  refine wp_seq ?_
  refine WL.start ?_
  refine WL.block (c := 1) (m' := 1) h10q rfl [(2, .int .i64 0)] (by kernel_rfl) (fun a11q h12q => ?_)
  clear h10q a9q
  refine WL.done (by kernel_rfl) ?_
  refine wp_ret ?_
  obtain rfl := Option.some.inj H
  repeat (first | refine then_ret ?_ | refine inBlock_ret ?_ | refine inBlock_go ?_)
  refine body_ret (v := .int .i64 0) h12q (by kernel_rfl) (by kernel_rfl) ?_
  exact ⟨rfl, hS⟩

/-! ### louver/louverlaw06.HpackNil -/
def louverlaw06qHpackNil.f (k : Nat) (p0 : (List Int)) (p1 : (List S52)) : Option (Bool) := bnd1 (louverref05qGreat.f k p1) fun r324q => (if r324q = true then (bnd1 (louverlaw06qfixed.f k) fun r343q => (some r343q)) else (if (p0.length : Int) > 600 then (bnd1 (louverlaw06qfixed.f k) fun r362q => (some r362q)) else (bnd1 (hpack_Encoder_Limit_nil.f 5) fun _ => (bnd2 (hpack_Decoder_Get_nil.f p0) fun r387q r388q => (bnd1 (louverlaw06qfixed.f k) fun r414q => (if r414q = true then (bnd1 (hpack_Encoder_Put_nil.f p1) fun r429q => (if (r429q.length : Int) = 0 then (bnd1 (hpack_Encoder_Table_nil.f) fun r451q => (if r451q = 0 then (bnd1 (hpack_Decoder_Table_nil.f) fun r466q => (if r466q = 0 then (if (r387q.length : Int) = 0 then (some (decide (r388q.f0 = 1) && decide (r388q.f1 = 2))) else (some false)) else (some false))) else (some false))) else (some false))) else (some false)))))))
set_option maxHeartbeats 2000000 in
set_option maxRecDepth 100000 in
theorem louverlaw06qHpackNil.calls (k : Nat) {b : Nat} {w0 W : World} {R : Frag} {Fs : List Frag} {p0 : (List Int)} {p1 : (List S52)} {v0 : Value} {v1 : Value} {r0q : Bool} (hp0 : Rds (kInt .u8) b w0 R v0 p0) (hp1 : Rds k52 b w0 R v1 p1) (hg0 : Rds k52 b w0 [] (.slice (some ⟨0, 0, none⟩) 61 61) G0) (hg1 : Rds (kInt .u8) b w0 [] (.slice (some ⟨1, 0, none⟩) 257 257) G1) (H : louverlaw06qHpackNil.f k p0 p1 = some r0q) (hS : St b w0 W R (Fs)) :
    Calls Tryd.prog 3 ([v0, v1] : List Value).toArray W (fun e W' => e = .returned (.bool r0q) ∧ St b w0 W' R (Fs)) := by
  obtain ⟨A0, c0, rfl⟩ := hp0.form
  obtain ⟨A1, c1, rfl⟩ := hp1.form
  unfold louverlaw06qHpackNil.f at H
  refine calls_enter Tryd.func3 rfl 53 rfl (by kernel_rfl) (fun a h => ?_)
  refine wp_seq ?_
  refine WL.start ?_
  refine WL.block (c := 1) (m' := 1) h rfl [(4, .bool false)] (by kernel_rfl) (fun a319q h320q => ?_)
  refine WL.done (by kernel_rfl) ?_
  refine wp_seq ?_
  refine wp_seq ?_
  refine WL.start ?_
  refine WL.block (c := 1) (m' := 1) h320q rfl [(9, .slice A1 p1.length c1)] (by kernel_rfl) (fun a321q h322q => ?_)
  clear h320q a319q
  obtain ⟨r324q, A323q, H⟩ := bind1 H
  refine WL.op' (m := 1) h322q rfl rfl ?_
  refine owp_call [.slice A1 p1.length c1] h322q rfl (by kernel_rfl) rfl Tryd.func9 (by kernel_rfl) rfl (by kernel_rfl) (louverref05qGreat.calls k hp1 A323q hS) (fun e326q W325q hp327q => ?_)
  obtain ⟨rfl, hS330q⟩ := hp327q
  refine ⟨_, rfl, fun a328q h329q => ?_⟩
  clear h322q a321q
  refine WL.block (c := 1) (m' := 3) h329q rfl [(11, .bool r324q)] (by kernel_rfl) (fun a331q h332q => ?_)
  clear h329q a328q
  by_cases c333q : r324q = true
  · rw [if_pos c333q] at H
    have hb_ : r324q = true := c333q
    try rw [hb_] at h332q
    clear hb_
    refine WL.skipped (m := 3) h332q rfl rfl (by kernel_rfl) rfl (fun a334q h335q => ?_)
    clear h332q a331q
    refine WL.skipped (m := 4) h335q rfl rfl (by kernel_rfl) rfl (fun a336q h337q => ?_)
    clear h335q a334q
    refine WL.skipped (m := 5) h337q rfl rfl (by kernel_rfl) rfl (fun a338q h339q => ?_)
    clear h337q a336q
    refine WL.block (c := 1) (m' := 7) h339q rfl [(15, .bool true)] (by kernel_rfl) (fun a340q h341q => ?_)
    clear h339q a338q
    refine WL.done (by kernel_rfl) ?_
    refine wp_then h341q rfl ?_
    refine wp_seq ?_
    refine WL.start ?_
    obtain ⟨r343q, A342q, H⟩ := bind1 H
    refine WL.op' (m := 0) h341q rfl rfl ?_
    refine owp_call [] h341q rfl (by kernel_rfl) rfl Tryd.func10 (by kernel_rfl) rfl (by kernel_rfl) (louverlaw06qfixed.calls k hg0 hg1 A342q hS330q) (fun e345q W344q hp346q => ?_)
    obtain ⟨rfl, hS349q⟩ := hp346q
    refine ⟨_, rfl, fun a347q h348q => ?_⟩
    clear h341q a340q
    refine WL.block (c := 1) (m' := 2) h348q rfl [(4, .bool r343q)] (by kernel_rfl) (fun a350q h351q => ?_)
    clear h348q a347q
    refine WL.done (by kernel_rfl) ?_
    refine wp_ret ?_
    obtain rfl := Option.some.inj H
    repeat (first | refine then_ret ?_ | refine inBlock_ret ?_ | refine inBlock_go ?_)
    refine body_ret (v := .bool r343q) h351q (by kernel_rfl) (by kernel_rfl) ?_
    exact ⟨rfl, hS349q⟩
  · rw [if_neg c333q] at H
    have hb_ : r324q = false := (Bool.eq_false_iff.2 c333q)
    try rw [hb_] at h332q
    clear hb_
    refine WL.op' (m := 3) h332q rfl rfl (owp_run h332q rfl (by kernel_rfl) (v := .slice A0 p0.length c0) (by kernel_rfl) (fun a352q h353q => ?_))
    clear h332q a331q
    refine WL.op' (m := 4) h353q rfl rfl (owp_run h353q rfl (by kernel_rfl) (v := .int .i64 (p0.length : Int)) (by kernel_rfl) (fun a354q h355q => ?_))
    clear h353q a352q
    refine WL.op' (m := 5) h355q rfl rfl (owp_run h355q rfl (by kernel_rfl) (v := .bool (decide ((p0.length : Int) > 600))) (by kernel_rfl) (fun a356q h357q => ?_))
    clear h355q a354q
    refine WL.block (c := 1) (m' := 7) h357q rfl [(15, .bool (decide ((p0.length : Int) > 600)))] (by kernel_rfl) (fun a358q h359q => ?_)
    clear h357q a356q
    refine WL.done (by kernel_rfl) ?_
    by_cases c360q : (p0.length : Int) > 600
    · rw [if_pos c360q] at H
      have hb_ : (decide ((p0.length : Int) > 600)) = true := decide_eq_true c360q
      try rw [hb_] at h359q
      clear hb_
      refine wp_then h359q rfl ?_
      refine wp_seq ?_
      refine WL.start ?_
      obtain ⟨r362q, A361q, H⟩ := bind1 H
      refine WL.op' (m := 0) h359q rfl rfl ?_
      refine owp_call [] h359q rfl (by kernel_rfl) rfl Tryd.func10 (by kernel_rfl) rfl (by kernel_rfl) (louverlaw06qfixed.calls k hg0 hg1 A361q hS330q) (fun e364q W363q hp365q => ?_)
      obtain ⟨rfl, hS368q⟩ := hp365q
      refine ⟨_, rfl, fun a366q h367q => ?_⟩
      clear h359q a358q
      refine WL.block (c := 1) (m' := 2) h367q rfl [(4, .bool r362q)] (by kernel_rfl) (fun a369q h370q => ?_)
      clear h367q a366q
      refine WL.done (by kernel_rfl) ?_
      refine wp_ret ?_
      obtain rfl := Option.some.inj H
      repeat (first | refine then_ret ?_ | refine inBlock_ret ?_ | refine inBlock_go ?_)
      refine body_ret (v := .bool r362q) h370q (by kernel_rfl) (by kernel_rfl) ?_
      exact ⟨rfl, hS368q⟩
    · rw [if_neg c360q] at H
      have hb_ : (decide ((p0.length : Int) > 600)) = false := decide_eq_false c360q
      try rw [hb_] at h359q
      clear hb_
      refine wp_else h359q rfl ?_
      refine wp_skip ?_
      refine wp_seq ?_
      refine WL.start ?_
      refine WL.block (c := 1) (m' := 1) h359q rfl [(5, .pointer none)] (by kernel_rfl) (fun a371q h372q => ?_)
      clear h359q a358q
      refine WL.done (by kernel_rfl) ?_
      refine wp_seq ?_
      refine WL.start ?_
      refine WL.block (c := 1) (m' := 1) h372q rfl [(6, .pointer none)] (by kernel_rfl) (fun a373q h374q => ?_)
      clear h372q a371q
      refine WL.done (by kernel_rfl) ?_
      refine wp_seq ?_
      refine WL.start ?_
      refine WL.block (c := 1) (m' := 1) h374q rfl [(17, .pointer none)] (by kernel_rfl) (fun a375q h376q => ?_)
      clear h374q a373q
      obtain ⟨_, A377q, H⟩ := bind1 H
      refine WL.op' (m := 1) h376q rfl rfl ?_
      refine owp_call [.pointer none, .int .u32 5] h376q rfl (by kernel_rfl) rfl Tryd.func11 (by kernel_rfl) rfl (by kernel_rfl) (hpack_Encoder_Limit_nil.calls  A377q hS330q) (fun e379q W378q hp380q => ?_)
      obtain ⟨rfl, hS383q⟩ := hp380q
      refine ⟨_, rfl, fun a381q h382q => ?_⟩
      clear h376q a375q
      refine WL.done (by kernel_rfl) ?_
      refine wp_seq ?_
      refine WL.start ?_
      refine WL.block (c := 2) (m' := 2) h382q rfl [(21, .slice A0 p0.length c0), (20, .pointer none)] (by kernel_rfl) (fun a384q h385q => ?_)
      clear h382q a381q
      obtain ⟨r387q, r388q, A386q, H⟩ := bind2 H
      refine WL.op' (m := 2) h385q rfl rfl ?_
      refine owp_call [.pointer none, .slice A0 p0.length c0] h385q rfl (by kernel_rfl) rfl Tryd.func12 (by kernel_rfl) rfl (by kernel_rfl) (hpack_Decoder_Get_nil.calls hp0 A386q hS383q) (fun e390q W389q hp391q => ?_)
      obtain ⟨v394q, M395q, rfl, hr396q, hS397q⟩ := hp391q
      refine ⟨_, rfl, fun a392q h393q => ?_⟩
      clear h385q a384q
      obtain ⟨A398q, c399q, rfl⟩ := hr396q.form
      refine WL.block (c := 3) (m' := 6) h393q rfl [(24, .agg #[.int .u8 r388q.f0, .int .u32 r388q.f1]), (23, .slice A398q r387q.length c399q), (19, .tuple #[.slice A398q r387q.length c399q, .agg #[.int .u8 r388q.f0, .int .u32 r388q.f1]])] (by kernel_rfl) (fun a400q h401q => ?_)
      clear h393q a392q
      refine WL.op' (m := 6) h401q rfl rfl ?_
      refine owp_new (fun g_ => .pointer (some ⟨g_, 0, none⟩)) (.cells ([.int .u8 0, .int .u32 0] : List Value).toArray 31 (0, 0)) h401q rfl (by kernel_rfl) (by kernel_rfl) hS397q (fun a402q W404q g405q h403q hS406q => ?_)
      clear h401q a400q
      refine WL.block (c := 1) (m' := 8) h403q rfl [(7, .slice A398q r387q.length c399q)] (by kernel_rfl) (fun a407q h408q => ?_)
      clear h403q a402q
      refine WL.op' (m := 8) h408q rfl rfl ?_
      refine owp_store (i := 0) (vs := ([.int .u8 r388q.f0, .int .u32 r388q.f1] : List Value)) h408q rfl (by kernel_rfl) rfl rfl rfl rfl (by simp [Value.oneCell']) (by kernel_rfl) hS406q (by simp) (cs' := ([.int .u8 r388q.f0, .int .u32 r388q.f1] : List Value)) rfl (fun a409q W411q h410q hS412q => ?_)
      clear h408q a407q
      refine WL.done (by kernel_rfl) ?_
      refine wp_seq ?_
      refine WL.start ?_
      obtain ⟨r414q, A413q, H⟩ := bind1 H
      refine WL.op' (m := 0) h410q rfl rfl ?_
      refine owp_call [] h410q rfl (by kernel_rfl) rfl Tryd.func10 (by kernel_rfl) rfl (by kernel_rfl) (louverlaw06qfixed.calls k hg0 hg1 A413q hS412q) (fun e416q W415q hp417q => ?_)
      obtain ⟨rfl, hS420q⟩ := hp417q
      refine ⟨_, rfl, fun a418q h419q => ?_⟩
      clear h410q a409q
      refine WL.block (c := 1) (m' := 2) h419q rfl [(26, .bool r414q)] (by kernel_rfl) (fun a421q h422q => ?_)
      clear h419q a418q
      by_cases c423q : r414q = true
      · rw [if_pos c423q] at H
        have hb_ : r414q = true := c423q
        try rw [hb_] at h422q
        clear hb_
        refine WL.op' (m := 2) h422q rfl rfl (owp_run h422q rfl (by kernel_rfl) (v := .pointer none) (by kernel_rfl) (fun a424q h425q => ?_))
        clear h422q a421q
        refine WL.op' (m := 3) h425q rfl rfl (owp_run h425q rfl (by kernel_rfl) (v := .slice A1 p1.length c1) (by kernel_rfl) (fun a426q h427q => ?_))
        clear h425q a424q
        obtain ⟨r429q, A428q, H⟩ := bind1 H
        refine WL.op' (m := 4) h427q rfl rfl ?_
        refine owp_call [.pointer none, .slice A1 p1.length c1] h427q rfl (by kernel_rfl) rfl Tryd.func13 (by kernel_rfl) rfl (by kernel_rfl) (hpack_Encoder_Put_nil.calls hp1 hg0 hg1 A428q hS420q) (fun e431q W430q hp432q => ?_)
        obtain ⟨v435q, M436q, rfl, hr437q, hS438q⟩ := hp432q
        refine ⟨_, rfl, fun a433q h434q => ?_⟩
        clear h427q a426q
        obtain ⟨A439q, c440q, rfl⟩ := hr437q.form
        refine WL.op' (m := 5) h434q rfl rfl (owp_run h434q rfl (by kernel_rfl) (v := .int .i64 (r429q.length : Int)) (by kernel_rfl) (fun a441q h442q => ?_))
        clear h434q a433q
        refine WL.op' (m := 6) h442q rfl rfl (owp_run h442q rfl (by kernel_rfl) (v := .bool (decide ((r429q.length : Int) = 0))) (by kernel_rfl) (fun a443q h444q => ?_))
        clear h442q a441q
        refine WL.block (c := 2) (m' := 9) h444q rfl [(33, .bool (decide ((r429q.length : Int) = 0))), (32, .bool (decide ((r429q.length : Int) = 0)))] (by kernel_rfl) (fun a445q h446q => ?_)
        clear h444q a443q
        by_cases c447q : (r429q.length : Int) = 0
        · rw [if_pos c447q] at H
          have hb_ : (decide ((r429q.length : Int) = 0)) = true := decide_eq_true c447q
          try rw [hb_] at h446q
          clear hb_
          refine WL.op' (m := 9) h446q rfl rfl (owp_run h446q rfl (by kernel_rfl) (v := .pointer none) (by kernel_rfl) (fun a448q h449q => ?_))
          clear h446q a445q
          obtain ⟨r451q, A450q, H⟩ := bind1 H
          refine WL.op' (m := 10) h449q rfl rfl ?_
          refine owp_call [.pointer none] h449q rfl (by kernel_rfl) rfl Tryd.func14 (by kernel_rfl) rfl (by kernel_rfl) (hpack_Encoder_Table_nil.calls  A450q hS438q) (fun e453q W452q hp454q => ?_)
          obtain ⟨rfl, hS457q⟩ := hp454q
          refine ⟨_, rfl, fun a455q h456q => ?_⟩
          clear h449q a448q
          refine WL.op' (m := 11) h456q rfl rfl (owp_run h456q rfl (by kernel_rfl) (v := .bool (decide (r451q = 0))) (by kernel_rfl) (fun a458q h459q => ?_))
          clear h456q a455q
          refine WL.block (c := 2) (m' := 14) h459q rfl [(38, .bool (decide (r451q = 0))), (37, .bool (decide (r451q = 0)))] (by kernel_rfl) (fun a460q h461q => ?_)
          clear h459q a458q
          by_cases c462q : r451q = 0
          · rw [if_pos c462q] at H
            have hb_ : (decide (r451q = 0)) = true := decide_eq_true c462q
            try rw [hb_] at h461q
            clear hb_
            refine WL.op' (m := 14) h461q rfl rfl (owp_run h461q rfl (by kernel_rfl) (v := .pointer none) (by kernel_rfl) (fun a463q h464q => ?_))
            clear h461q a460q
            obtain ⟨r466q, A465q, H⟩ := bind1 H
            refine WL.op' (m := 15) h464q rfl rfl ?_
            refine owp_call [.pointer none] h464q rfl (by kernel_rfl) rfl Tryd.func15 (by kernel_rfl) rfl (by kernel_rfl) (hpack_Decoder_Table_nil.calls  A465q hS457q) (fun e468q W467q hp469q => ?_)
            obtain ⟨rfl, hS472q⟩ := hp469q
            refine ⟨_, rfl, fun a470q h471q => ?_⟩
            clear h464q a463q
            refine WL.op' (m := 16) h471q rfl rfl (owp_run h471q rfl (by kernel_rfl) (v := .bool (decide (r466q = 0))) (by kernel_rfl) (fun a473q h474q => ?_))
            clear h471q a470q
            refine WL.block (c := 2) (m' := 19) h474q rfl [(43, .bool (decide (r466q = 0))), (42, .bool (decide (r466q = 0)))] (by kernel_rfl) (fun a475q h476q => ?_)
            clear h474q a473q
            by_cases c477q : r466q = 0
            · rw [if_pos c477q] at H
              have hb_ : (decide (r466q = 0)) = true := decide_eq_true c477q
              try rw [hb_] at h476q
              clear hb_
              refine WL.op' (m := 19) h476q rfl rfl (owp_run h476q rfl (by kernel_rfl) (v := .slice A398q r387q.length c399q) (by kernel_rfl) (fun a478q h479q => ?_))
              clear h476q a475q
              refine WL.op' (m := 20) h479q rfl rfl (owp_run h479q rfl (by kernel_rfl) (v := .int .i64 (r387q.length : Int)) (by kernel_rfl) (fun a480q h481q => ?_))
              clear h479q a478q
              refine WL.op' (m := 21) h481q rfl rfl (owp_run h481q rfl (by kernel_rfl) (v := .bool (decide ((r387q.length : Int) = 0))) (by kernel_rfl) (fun a482q h483q => ?_))
              clear h481q a480q
              refine WL.block (c := 2) (m' := 24) h483q rfl [(48, .bool (decide ((r387q.length : Int) = 0))), (47, .bool (decide ((r387q.length : Int) = 0)))] (by kernel_rfl) (fun a484q h485q => ?_)
              clear h483q a482q
              by_cases c486q : (r387q.length : Int) = 0
              · rw [if_pos c486q] at H
                have hb_ : (decide ((r387q.length : Int) = 0)) = true := decide_eq_true c486q
                try rw [hb_] at h485q
                clear hb_
                have hS487q : St b w0 W467q R ([(g405q, .cells ([.int .u8 r388q.f0, .int .u32 r388q.f1] : List Value).toArray 31 (0, 0))] :: M436q :: M395q :: Fs) := hS472q.bring 1 rfl rfl
                refine WL.op' (m := 24) h485q rfl rfl ?_
                refine owp_run (v := .agg #[.int .u8 r388q.f0, .int .u32 r388q.f1]) h485q rfl (by kernel_rfl) (run_loadN rfl rfl Tryd.underlying31 rfl (cs := ([.int .u8 r388q.f0, .int .u32 r388q.f1] : List Value)) (by kernel_rfl) (hS487q.cells (vs := ([.int .u8 r388q.f0, .int .u32 r388q.f1] : List Value)) rfl)) (fun a488q h489q => ?_)
                clear h485q a484q
                refine WL.op' (m := 25) h489q rfl rfl (owp_run h489q rfl (by kernel_rfl) (v := .agg #[.int .u8 1, .int .u32 2]) (by kernel_rfl) (fun a490q h491q => ?_))
                clear h489q a488q
                refine WL.op' (m := 26) h491q rfl rfl ?_
                refine owp_run (v := .bool (decide (r388q.f0 = 1) && decide (r388q.f1 = 2))) h491q rfl (by kernel_rfl) (run_steq (xs := [.int .u8 r388q.f0, .int .u32 r388q.f1]) (ys := [.int .u8 1, .int .u32 2]) rfl rfl rfl (by kernel_rfl) (eqs_of Tryd.underlying31 (by kernel_rfl) (eqf_cons rfl (by kernel_rfl) rfl rfl (eqi_int Tryd.underlying5) (eqf_last rfl (by kernel_rfl) rfl rfl (eqi_int Tryd.underlying29))))) (fun a492q h493q => ?_)
                clear h491q a490q
                refine WL.block (c := 2) (m' := 29) h493q rfl [(4, .bool (decide (r388q.f0 = 1) && decide (r388q.f1 = 2))), (52, .bool (decide (r388q.f0 = 1) && decide (r388q.f1 = 2)))] (by kernel_rfl) (fun a494q h495q => ?_)
                clear h493q a492q
                refine WL.done (by kernel_rfl) ?_
                refine wp_ret ?_
                have hS496q : St b w0 W467q R (M436q :: M395q :: Fs) := hS487q.drop_
                have hS497q : St b w0 W467q R (M395q :: Fs) := hS496q.drop_
                have hS498q : St b w0 W467q R (Fs) := hS497q.drop_
                obtain rfl := Option.some.inj H
                repeat (first | refine then_ret ?_ | refine inBlock_ret ?_ | refine inBlock_go ?_)
                refine body_ret (v := .bool (decide (r388q.f0 = 1) && decide (r388q.f1 = 2))) h495q (by kernel_rfl) (by kernel_rfl) ?_
                exact ⟨rfl, hS498q⟩
              · rw [if_neg c486q] at H
                have hb_ : (decide ((r387q.length : Int) = 0)) = false := decide_eq_false c486q
                try rw [hb_] at h485q
                clear hb_
                refine WL.skipped (m := 24) h485q rfl rfl (by kernel_rfl) rfl (fun a499q h500q => ?_)
                clear h485q a484q
                refine WL.skipped (m := 25) h500q rfl rfl (by kernel_rfl) rfl (fun a501q h502q => ?_)
                clear h500q a499q
                refine WL.skipped (m := 26) h502q rfl rfl (by kernel_rfl) rfl (fun a503q h504q => ?_)
                clear h502q a501q
                refine WL.block (c := 2) (m' := 29) h504q rfl [(4, .bool false), (52, .bool false)] (by kernel_rfl) (fun a505q h506q => ?_)
                clear h504q a503q
                refine WL.done (by kernel_rfl) ?_
                refine wp_ret ?_
                have hS507q : St b w0 W467q R ([(g405q, .cells ([.int .u8 r388q.f0, .int .u32 r388q.f1] : List Value).toArray 31 (0, 0))] :: M395q :: Fs) := hS472q.drop_
                have hS508q : St b w0 W467q R (M395q :: Fs) := hS507q.drop_
                have hS509q : St b w0 W467q R (Fs) := hS508q.drop_
                obtain rfl := Option.some.inj H
                repeat (first | refine then_ret ?_ | refine inBlock_ret ?_ | refine inBlock_go ?_)
                refine body_ret (v := .bool false) h506q (by kernel_rfl) (by kernel_rfl) ?_
                exact ⟨rfl, hS509q⟩
            · rw [if_neg c477q] at H
              have hb_ : (decide (r466q = 0)) = false := decide_eq_false c477q
              try rw [hb_] at h476q
              clear hb_
              refine WL.skipped (m := 19) h476q rfl rfl (by kernel_rfl) rfl (fun a510q h511q => ?_)
              clear h476q a475q
              refine WL.skipped (m := 20) h511q rfl rfl (by kernel_rfl) rfl (fun a512q h513q => ?_)
              clear h511q a510q
              refine WL.skipped (m := 21) h513q rfl rfl (by kernel_rfl) rfl (fun a514q h515q => ?_)
              clear h513q a512q
              refine WL.block (c := 2) (m' := 24) h515q rfl [(48, .bool false), (47, .bool false)] (by kernel_rfl) (fun a516q h517q => ?_)
              clear h515q a514q
              refine WL.skipped (m := 24) h517q rfl rfl (by kernel_rfl) rfl (fun a518q h519q => ?_)
              clear h517q a516q
              refine WL.skipped (m := 25) h519q rfl rfl (by kernel_rfl) rfl (fun a520q h521q => ?_)
              clear h519q a518q
              refine WL.skipped (m := 26) h521q rfl rfl (by kernel_rfl) rfl (fun a522q h523q => ?_)
              clear h521q a520q
              refine WL.block (c := 2) (m' := 29) h523q rfl [(4, .bool false), (52, .bool false)] (by kernel_rfl) (fun a524q h525q => ?_)
              clear h523q a522q
              refine WL.done (by kernel_rfl) ?_
              refine wp_ret ?_
              have hS526q : St b w0 W467q R ([(g405q, .cells ([.int .u8 r388q.f0, .int .u32 r388q.f1] : List Value).toArray 31 (0, 0))] :: M395q :: Fs) := hS472q.drop_
              have hS527q : St b w0 W467q R (M395q :: Fs) := hS526q.drop_
              have hS528q : St b w0 W467q R (Fs) := hS527q.drop_
              obtain rfl := Option.some.inj H
              repeat (first | refine then_ret ?_ | refine inBlock_ret ?_ | refine inBlock_go ?_)
              refine body_ret (v := .bool false) h525q (by kernel_rfl) (by kernel_rfl) ?_
              exact ⟨rfl, hS528q⟩
          · rw [if_neg c462q] at H
            have hb_ : (decide (r451q = 0)) = false := decide_eq_false c462q
            try rw [hb_] at h461q
            clear hb_
            refine WL.skipped (m := 14) h461q rfl rfl (by kernel_rfl) rfl (fun a529q h530q => ?_)
            clear h461q a460q
            refine WL.skipped (m := 15) h530q rfl rfl (by kernel_rfl) rfl (fun a531q h532q => ?_)
            clear h530q a529q
            refine WL.skipped (m := 16) h532q rfl rfl (by kernel_rfl) rfl (fun a533q h534q => ?_)
            clear h532q a531q
            refine WL.block (c := 2) (m' := 19) h534q rfl [(43, .bool false), (42, .bool false)] (by kernel_rfl) (fun a535q h536q => ?_)
            clear h534q a533q
            refine WL.skipped (m := 19) h536q rfl rfl (by kernel_rfl) rfl (fun a537q h538q => ?_)
            clear h536q a535q
            refine WL.skipped (m := 20) h538q rfl rfl (by kernel_rfl) rfl (fun a539q h540q => ?_)
            clear h538q a537q
            refine WL.skipped (m := 21) h540q rfl rfl (by kernel_rfl) rfl (fun a541q h542q => ?_)
            clear h540q a539q
            refine WL.block (c := 2) (m' := 24) h542q rfl [(48, .bool false), (47, .bool false)] (by kernel_rfl) (fun a543q h544q => ?_)
            clear h542q a541q
            refine WL.skipped (m := 24) h544q rfl rfl (by kernel_rfl) rfl (fun a545q h546q => ?_)
            clear h544q a543q
            refine WL.skipped (m := 25) h546q rfl rfl (by kernel_rfl) rfl (fun a547q h548q => ?_)
            clear h546q a545q
            refine WL.skipped (m := 26) h548q rfl rfl (by kernel_rfl) rfl (fun a549q h550q => ?_)
            clear h548q a547q
            refine WL.block (c := 2) (m' := 29) h550q rfl [(4, .bool false), (52, .bool false)] (by kernel_rfl) (fun a551q h552q => ?_)
            clear h550q a549q
            refine WL.done (by kernel_rfl) ?_
            refine wp_ret ?_
            have hS553q : St b w0 W452q R ([(g405q, .cells ([.int .u8 r388q.f0, .int .u32 r388q.f1] : List Value).toArray 31 (0, 0))] :: M395q :: Fs) := hS457q.drop_
            have hS554q : St b w0 W452q R (M395q :: Fs) := hS553q.drop_
            have hS555q : St b w0 W452q R (Fs) := hS554q.drop_
            obtain rfl := Option.some.inj H
            repeat (first | refine then_ret ?_ | refine inBlock_ret ?_ | refine inBlock_go ?_)
            refine body_ret (v := .bool false) h552q (by kernel_rfl) (by kernel_rfl) ?_
            exact ⟨rfl, hS555q⟩
        · rw [if_neg c447q] at H
          have hb_ : (decide ((r429q.length : Int) = 0)) = false := decide_eq_false c447q
          try rw [hb_] at h446q
          clear hb_
          refine WL.skipped (m := 9) h446q rfl rfl (by kernel_rfl) rfl (fun a556q h557q => ?_)
          clear h446q a445q
          refine WL.skipped (m := 10) h557q rfl rfl (by kernel_rfl) rfl (fun a558q h559q => ?_)
          clear h557q a556q
          refine WL.skipped (m := 11) h559q rfl rfl (by kernel_rfl) rfl (fun a560q h561q => ?_)
          clear h559q a558q
          refine WL.block (c := 2) (m' := 14) h561q rfl [(38, .bool false), (37, .bool false)] (by kernel_rfl) (fun a562q h563q => ?_)
          clear h561q a560q
          refine WL.skipped (m := 14) h563q rfl rfl (by kernel_rfl) rfl (fun a564q h565q => ?_)
          clear h563q a562q
          refine WL.skipped (m := 15) h565q rfl rfl (by kernel_rfl) rfl (fun a566q h567q => ?_)
          clear h565q a564q
          refine WL.skipped (m := 16) h567q rfl rfl (by kernel_rfl) rfl (fun a568q h569q => ?_)
          clear h567q a566q
          refine WL.block (c := 2) (m' := 19) h569q rfl [(43, .bool false), (42, .bool false)] (by kernel_rfl) (fun a570q h571q => ?_)
          clear h569q a568q
          refine WL.skipped (m := 19) h571q rfl rfl (by kernel_rfl) rfl (fun a572q h573q => ?_)
          clear h571q a570q
          refine WL.skipped (m := 20) h573q rfl rfl (by kernel_rfl) rfl (fun a574q h575q => ?_)
          clear h573q a572q
          refine WL.skipped (m := 21) h575q rfl rfl (by kernel_rfl) rfl (fun a576q h577q => ?_)
          clear h575q a574q
          refine WL.block (c := 2) (m' := 24) h577q rfl [(48, .bool false), (47, .bool false)] (by kernel_rfl) (fun a578q h579q => ?_)
          clear h577q a576q
          refine WL.skipped (m := 24) h579q rfl rfl (by kernel_rfl) rfl (fun a580q h581q => ?_)
          clear h579q a578q
          refine WL.skipped (m := 25) h581q rfl rfl (by kernel_rfl) rfl (fun a582q h583q => ?_)
          clear h581q a580q
          refine WL.skipped (m := 26) h583q rfl rfl (by kernel_rfl) rfl (fun a584q h585q => ?_)
          clear h583q a582q
          refine WL.block (c := 2) (m' := 29) h585q rfl [(4, .bool false), (52, .bool false)] (by kernel_rfl) (fun a586q h587q => ?_)
          clear h585q a584q
          refine WL.done (by kernel_rfl) ?_
          refine wp_ret ?_
          have hS588q : St b w0 W430q R ([(g405q, .cells ([.int .u8 r388q.f0, .int .u32 r388q.f1] : List Value).toArray 31 (0, 0))] :: M395q :: Fs) := hS438q.drop_
          have hS589q : St b w0 W430q R (M395q :: Fs) := hS588q.drop_
          have hS590q : St b w0 W430q R (Fs) := hS589q.drop_
          obtain rfl := Option.some.inj H
          repeat (first | refine then_ret ?_ | refine inBlock_ret ?_ | refine inBlock_go ?_)
          refine body_ret (v := .bool false) h587q (by kernel_rfl) (by kernel_rfl) ?_
          exact ⟨rfl, hS590q⟩
      · rw [if_neg c423q] at H
        have hb_ : r414q = false := (Bool.eq_false_iff.2 c423q)
        try rw [hb_] at h422q
        clear hb_
        refine WL.skipped (m := 2) h422q rfl rfl (by kernel_rfl) rfl (fun a591q h592q => ?_)
        clear h422q a421q
        refine WL.skipped (m := 3) h592q rfl rfl (by kernel_rfl) rfl (fun a593q h594q => ?_)
        clear h592q a591q
        refine WL.skipped (m := 4) h594q rfl rfl (by kernel_rfl) rfl (fun a595q h596q => ?_)
        clear h594q a593q
        refine WL.skipped (m := 5) h596q rfl rfl (by kernel_rfl) rfl (fun a597q h598q => ?_)
        clear h596q a595q
        refine WL.skipped (m := 6) h598q rfl rfl (by kernel_rfl) rfl (fun a599q h600q => ?_)
        clear h598q a597q
        refine WL.block (c := 2) (m' := 9) h600q rfl [(33, .bool false), (32, .bool false)] (by kernel_rfl) (fun a601q h602q => ?_)
        clear h600q a599q
        refine WL.skipped (m := 9) h602q rfl rfl (by kernel_rfl) rfl (fun a603q h604q => ?_)
        clear h602q a601q
        refine WL.skipped (m := 10) h604q rfl rfl (by kernel_rfl) rfl (fun a605q h606q => ?_)
        clear h604q a603q
        refine WL.skipped (m := 11) h606q rfl rfl (by kernel_rfl) rfl (fun a607q h608q => ?_)
        clear h606q a605q
        refine WL.block (c := 2) (m' := 14) h608q rfl [(38, .bool false), (37, .bool false)] (by kernel_rfl) (fun a609q h610q => ?_)
        clear h608q a607q
        refine WL.skipped (m := 14) h610q rfl rfl (by kernel_rfl) rfl (fun a611q h612q => ?_)
        clear h610q a609q
        refine WL.skipped (m := 15) h612q rfl rfl (by kernel_rfl) rfl (fun a613q h614q => ?_)
        clear h612q a611q
        refine WL.skipped (m := 16) h614q rfl rfl (by kernel_rfl) rfl (fun a615q h616q => ?_)
        clear h614q a613q
        refine WL.block (c := 2) (m' := 19) h616q rfl [(43, .bool false), (42, .bool false)] (by kernel_rfl) (fun a617q h618q => ?_)
        clear h616q a615q
        refine WL.skipped (m := 19) h618q rfl rfl (by kernel_rfl) rfl (fun a619q h620q => ?_)
        clear h618q a617q
        refine WL.skipped (m := 20) h620q rfl rfl (by kernel_rfl) rfl (fun a621q h622q => ?_)
        clear h620q a619q
        refine WL.skipped (m := 21) h622q rfl rfl (by kernel_rfl) rfl (fun a623q h624q => ?_)
        clear h622q a621q
        refine WL.block (c := 2) (m' := 24) h624q rfl [(48, .bool false), (47, .bool false)] (by kernel_rfl) (fun a625q h626q => ?_)
        clear h624q a623q
        refine WL.skipped (m := 24) h626q rfl rfl (by kernel_rfl) rfl (fun a627q h628q => ?_)
        clear h626q a625q
        refine WL.skipped (m := 25) h628q rfl rfl (by kernel_rfl) rfl (fun a629q h630q => ?_)
        clear h628q a627q
        refine WL.skipped (m := 26) h630q rfl rfl (by kernel_rfl) rfl (fun a631q h632q => ?_)
        clear h630q a629q
        refine WL.block (c := 2) (m' := 29) h632q rfl [(4, .bool false), (52, .bool false)] (by kernel_rfl) (fun a633q h634q => ?_)
        clear h632q a631q
        refine WL.done (by kernel_rfl) ?_
        refine wp_ret ?_
        have hS635q : St b w0 W415q R (M395q :: Fs) := hS420q.drop_
        have hS636q : St b w0 W415q R (Fs) := hS635q.drop_
        obtain rfl := Option.some.inj H
        repeat (first | refine then_ret ?_ | refine inBlock_ret ?_ | refine inBlock_go ?_)
        refine body_ret (v := .bool false) h634q (by kernel_rfl) (by kernel_rfl) ?_
        exact ⟨rfl, hS636q⟩

/-! ### louver/louverlaw06.great -/
def louverlaw06qgreat.l0 : Nat → Int → Int → (List (List S52)) → Option (Bool)
  | 0, _, _, _ => none
  | k + 1, x152q, x153q, p0 => if x153q < (p0.length : Int) then (if 0 ≤ x153q then (if (IntKind.i64.wrap (x152q + (IntKind.i64.wrap (((gt [] p0 x153q).length : Int) + 1)))) > 100 then (some true) else (bnd1 (louverref05qGreat.f k (gt [] p0 x153q)) fun r194q => (if r194q = true then (some true) else (louverlaw06qgreat.l0 k (IntKind.i64.wrap (x152q + (IntKind.i64.wrap (((gt [] p0 x153q).length : Int) + 1)))) (IntKind.i64.wrap (x153q + 1)) p0)))) else (none)) else (some false)
def louverlaw06qgreat.f (k : Nat) (p0 : (List (List S52))) : Option (Bool) := louverlaw06qgreat.l0 k 0 0 p0
set_option maxHeartbeats 2000000 in
set_option maxRecDepth 100000 in
theorem louverlaw06qgreat.calls (k : Nat) {b : Nat} {w0 W : World} {R : Frag} {Fs : List Frag} {p0 : (List (List S52))} {v0 : Value} {r0q : Bool} (hp0 : Rds (kRds k52) b w0 R v0 p0) (H : louverlaw06qgreat.f k p0 = some r0q) (hS : St b w0 W R (Fs)) :
    Calls Tryd.prog 16 ([v0] : List Value).toArray W (fun e W' => e = .returned (.bool r0q) ∧ St b w0 W' R (Fs)) := by
  obtain ⟨A0, c0, rfl⟩ := hp0.form
  unfold louverlaw06qgreat.f at H
  refine calls_enter Tryd.func16 rfl 24 rfl (by kernel_rfl) (fun a h => ?_)
  refine wp_seq ?_
  refine WL.start ?_
  refine WL.block (c := 1) (m' := 1) h rfl [(2, .bool false)] (by kernel_rfl) (fun a141q h142q => ?_)
  refine WL.done (by kernel_rfl) ?_
  refine wp_seq ?_
  refine WL.start ?_
  refine WL.block (c := 1) (m' := 1) h142q rfl [(3, .int .i64 0)] (by kernel_rfl) (fun a143q h144q => ?_)
  clear h142q a141q
  refine WL.done (by kernel_rfl) ?_
  refine wp_seq ?_
  refine wp_seq ?_
  refine WL.start ?_
  refine WL.block (c := 3) (m' := 3) h144q rfl [(8, .int .i64 0), (7, .int .i64 (p0.length : Int)), (6, .slice A0 p0.length c0)] (by kernel_rfl) (fun a145q h146q => ?_)
  clear h144q a143q
  refine WL.done (by kernel_rfl) ?_
  refine wp_block ?_
  refine wp_loop_ghost (fun kq_ a_ W_ => ∃ (x152q : Int), ∃ (x153q : Int), Hd a_ 24 [(3, .int .i64 x152q), (6, .slice A0 p0.length c0), (7, .int .i64 (p0.length : Int)), (8, .int .i64 x153q)] ∧ Asd (louverlaw06qgreat.l0 kq_ x152q x153q p0 = some r0q) ∧ Asd (kq_ ≤ k) ∧ Asd (St b w0 W_ R (Fs))) k ⟨0, 0, h146q.keep ⟨rfl, rfl, rfl, rfl, trivial⟩, ⟨H⟩, ⟨Nat.le_refl _⟩, ⟨hS⟩⟩ ?_
  clear H hS
  rintro k151q a148q W149q ⟨x152q, x153q, h147q, ⟨H⟩, ⟨hkk151q⟩, ⟨hS150q⟩⟩
  obtain _ | k154q := k151q
  · exact absurd H (by simp [louverlaw06qgreat.l0])
  simp only [louverlaw06qgreat.l0] at H
  refine wp_seq ?_
  refine WL.start ?_
  refine WL.block (c := 1) (m' := 1) h147q rfl [(9, .bool (decide (x153q < (p0.length : Int))))] (by kernel_rfl) (fun a155q h156q => ?_)
  clear h147q a148q
  refine WL.done (by kernel_rfl) ?_
  refine wp_seq ?_
  by_cases c157q : x153q < (p0.length : Int)
  · rw [if_pos c157q] at H
    have hb_ : (decide (x153q < (p0.length : Int))) = true := decide_eq_true c157q
    try rw [hb_] at h156q
    clear hb_
    refine wp_then h156q rfl ?_
    refine wp_skip ?_
    refine wp_seq ?_
    refine wp_block ?_
    refine wp_seq ?_
    refine WL.start ?_
    by_cases c158q : 0 ≤ x153q
    · rw [if_pos c158q] at H
      have hi161q : 0 ≤ x153q := by first | assumption | omega
      have hi162q : x153q < (p0.length : Int) := by first | assumption | omega
      obtain ⟨ad159q, _, ha160q, -, -⟩ := Rds.elemAny hp0 hi161q (gt_get (z := []) hi161q hi162q)
      refine WL.op' (m := 0) h156q rfl rfl ?_
      refine owp_run (v := .pointer (some (ad159q.add (x153q.toNat * 1)))) h156q rfl (by kernel_rfl) (run_idx (ad := ad159q) (sz := 1) rfl (by rw [← ha160q]; rfl) rfl Tryd.underlying37 (by kernel_rfl) hi161q hi162q) (fun a163q h164q => ?_)
      clear h156q a155q
      obtain ⟨ad165q, cs166q, ha167q, hr169q, hc168q⟩ := Rds.elemAny hp0 hi161q (gt_get (z := []) hi161q hi162q)
      rw [ha160q] at ha167q; obtain rfl := Option.some.inj ha167q
      obtain ⟨v170q, rfl, hx171q⟩ := hr169q
      obtain ⟨A172q, c173q, rfl⟩ := hx171q.form
      refine WL.op' (m := 1) h164q rfl rfl ?_
      refine owp_run (v := .slice A172q (gt [] p0 x153q).length c173q) h164q rfl (by kernel_rfl) (run_load1 rfl rfl Tryd.underlying23 rfl (cell0 (hc168q _ (fun _ _ hk_ => hS150q.kn hk_)))) (fun a174q h175q => ?_)
      clear h164q a163q
      refine WL.block (c := 1) (m' := 3) h175q rfl [(5, .slice A172q (gt [] p0 x153q).length c173q)] (by kernel_rfl) (fun a176q h177q => ?_)
      clear h175q a174q
      refine WL.done (by kernel_rfl) ?_
      refine wp_seq ?_
      refine WL.start ?_
      refine WL.block (c := 6) (m' := 6) h177q rfl [(3, .int .i64 (IntKind.i64.wrap (x152q + (IntKind.i64.wrap (((gt [] p0 x153q).length : Int) + 1))))), (16, .int .i64 (IntKind.i64.wrap (x152q + (IntKind.i64.wrap (((gt [] p0 x153q).length : Int) + 1))))), (15, .int .i64 (IntKind.i64.wrap (((gt [] p0 x153q).length : Int) + 1))), (14, .int .i64 ((gt [] p0 x153q).length : Int)), (13, .slice A172q (gt [] p0 x153q).length c173q), (12, .int .i64 x152q)] (by kernel_rfl) (fun a178q h179q => ?_)
      clear h177q a176q
      refine WL.done (by kernel_rfl) ?_
      refine wp_seq ?_
      refine WL.start ?_
      refine WL.block (c := 3) (m' := 3) h179q rfl [(19, .bool (decide ((IntKind.i64.wrap (x152q + (IntKind.i64.wrap (((gt [] p0 x153q).length : Int) + 1)))) > 100))), (18, .bool (decide ((IntKind.i64.wrap (x152q + (IntKind.i64.wrap (((gt [] p0 x153q).length : Int) + 1)))) > 100))), (17, .int .i64 (IntKind.i64.wrap (x152q + (IntKind.i64.wrap (((gt [] p0 x153q).length : Int) + 1)))))] (by kernel_rfl) (fun a180q h181q => ?_)
      clear h179q a178q
      by_cases c182q : (IntKind.i64.wrap (x152q + (IntKind.i64.wrap (((gt [] p0 x153q).length : Int) + 1)))) > 100
      · rw [if_pos c182q] at H
        have hb_ : (decide ((IntKind.i64.wrap (x152q + (IntKind.i64.wrap (((gt [] p0 x153q).length : Int) + 1)))) > 100)) = true := decide_eq_true c182q
        try rw [hb_] at h181q
        clear hb_
        refine WL.skipped (m := 3) h181q rfl rfl (by kernel_rfl) rfl (fun a183q h184q => ?_)
        clear h181q a180q
        refine WL.skipped (m := 4) h184q rfl rfl (by kernel_rfl) rfl (fun a185q h186q => ?_)
        clear h184q a183q
        refine WL.block (c := 1) (m' := 6) h186q rfl [(22, .bool true)] (by kernel_rfl) (fun a187q h188q => ?_)
        clear h186q a185q
        refine WL.done (by kernel_rfl) ?_
        refine wp_then h188q rfl ?_
        refine wp_seq ?_
        refine WL.start ?_
        refine WL.block (c := 1) (m' := 1) h188q rfl [(2, .bool true)] (by kernel_rfl) (fun a189q h190q => ?_)
        clear h188q a187q
        refine WL.done (by kernel_rfl) ?_
        refine wp_ret ?_
        obtain rfl := Option.some.inj H
        repeat (first | refine then_ret ?_ | refine inBlock_ret ?_ | refine inBlock_go ?_)
        refine body_ret (v := .bool true) h190q (by kernel_rfl) (by kernel_rfl) ?_
        exact ⟨rfl, hS150q⟩
      · rw [if_neg c182q] at H
        have hb_ : (decide ((IntKind.i64.wrap (x152q + (IntKind.i64.wrap (((gt [] p0 x153q).length : Int) + 1)))) > 100)) = false := decide_eq_false c182q
        try rw [hb_] at h181q
        clear hb_
        refine WL.op' (m := 3) h181q rfl rfl (owp_run h181q rfl (by kernel_rfl) (v := .slice A172q (gt [] p0 x153q).length c173q) (by kernel_rfl) (fun a191q h192q => ?_))
        clear h181q a180q
        obtain ⟨r194q, A193q, H⟩ := bind1 H
        refine WL.op' (m := 4) h192q rfl rfl ?_
        refine owp_call [.slice A172q (gt [] p0 x153q).length c173q] h192q rfl (by kernel_rfl) rfl Tryd.func9 (by kernel_rfl) rfl (by kernel_rfl) (louverref05qGreat.calls k154q hx171q A193q hS150q) (fun e196q W195q hp197q => ?_)
        obtain ⟨rfl, hS200q⟩ := hp197q
        refine ⟨_, rfl, fun a198q h199q => ?_⟩
        clear h192q a191q
        refine WL.block (c := 1) (m' := 6) h199q rfl [(22, .bool r194q)] (by kernel_rfl) (fun a201q h202q => ?_)
        clear h199q a198q
        refine WL.done (by kernel_rfl) ?_
        by_cases c203q : r194q = true
        · rw [if_pos c203q] at H
          have hb_ : r194q = true := c203q
          try rw [hb_] at h202q
          clear hb_
          refine wp_then h202q rfl ?_
          refine wp_seq ?_
          refine WL.start ?_
          refine WL.block (c := 1) (m' := 1) h202q rfl [(2, .bool true)] (by kernel_rfl) (fun a204q h205q => ?_)
          clear h202q a201q
          refine WL.done (by kernel_rfl) ?_
          refine wp_ret ?_
          obtain rfl := Option.some.inj H
          repeat (first | refine then_ret ?_ | refine inBlock_ret ?_ | refine inBlock_go ?_)
          refine body_ret (v := .bool true) h205q (by kernel_rfl) (by kernel_rfl) ?_
          exact ⟨rfl, hS200q⟩
        · rw [if_neg c203q] at H
          have hb_ : r194q = false := (Bool.eq_false_iff.2 c203q)
          try rw [hb_] at h202q
          clear hb_
          refine wp_else h202q rfl ?_
          refine wp_skip ?_
          refine WL.start ?_
          refine WL.block (c := 2) (m' := 2) h202q rfl [(8, .int .i64 (IntKind.i64.wrap (x153q + 1))), (23, .int .i64 (IntKind.i64.wrap (x153q + 1)))] (by kernel_rfl) (fun a206q h207q => ?_)
          clear h202q a201q
          refine WL.done (by kernel_rfl) ?_
          exact ⟨k154q, by omega, IntKind.i64.wrap (x152q + (IntKind.i64.wrap (((gt [] p0 x153q).length : Int) + 1))), IntKind.i64.wrap (x153q + 1), h207q.keep ⟨rfl, rfl, rfl, rfl, trivial⟩, ⟨H⟩, ⟨by omega⟩, ⟨hS200q⟩⟩
    · rw [if_neg c158q] at H
      cases H
  · rw [if_neg c157q] at H
    have hb_ : (decide (x153q < (p0.length : Int))) = false := decide_eq_false c157q
    try rw [hb_] at h156q
    clear hb_
    refine wp_else h156q rfl ?_
    refine wp_exit ?_
    refine wp_seq ?_
    refine WL.start ?_
    refine WL.block (c := 1) (m' := 1) h156q rfl [(2, .bool false)] (by kernel_rfl) (fun a208q h209q => ?_)
    clear h156q a155q
    refine WL.done (by kernel_rfl) ?_
    refine wp_ret ?_
    obtain rfl := Option.some.inj H
    repeat (first | refine then_ret ?_ | refine inBlock_ret ?_ | refine inBlock_go ?_)
    refine body_ret (v := .bool false) h209q (by kernel_rfl) (by kernel_rfl) ?_
    exact ⟨rfl, hS150q⟩

/-! ### louver/louverlaw06.HpackSame -/
mutual
def louverlaw06qHpackSame.l0 : Nat → S61 → S61 → Int → (List (List S52)) → Option (Bool)
  | 0, _, _, _, _ => none
  | k + 1, x799q, x802q, x805q, p1 => if x805q < (p1.length : Int) then (if 0 ≤ x805q then (bnd2 (hpack_Encoder_Put.f k x799q (gt [] p1 x805q)) fun r834q r835q => (bnd2 (hpack_Encoder_Put.f k x802q (gt [] p1 x805q)) fun r853q r854q => (louverlaw06qHpackSame.l1 k 10 0 p1 r834q r835q r853q r854q x805q))) else (none)) else (bnd1 (louverlaw06qfixed.f k) fun r994q => (some r994q))
def louverlaw06qHpackSame.l1 : Nat → Int → Int → (List (List S52)) → (List Int) → S61 → (List Int) → S61 → Int → Option (Bool)
  | 0, _, _, _, _, _, _, _, _ => none
  | k + 1, x883q, x884q, p1, r834q, r835q, r853q, r854q, x805q => if x884q < ((gt [] p1 x805q).length : Int) then (if 0 ≤ x884q then (louverlaw06qHpackSame.l1 k (IntKind.i64.wrap (x883q + (IntKind.i64.wrap ((IntKind.i64.wrap ((((gt z52 (gt [] p1 x805q) x884q).f0).length : Int) + (((gt z52 (gt [] p1 x805q) x884q).f1).length : Int))) + 10)))) (IntKind.i64.wrap (x884q + 1)) p1 r834q r835q r853q r854q x805q) else (none)) else (if (toS r834q) = (toS r853q) then (if (r834q.length : Int) > x883q then (some false) else (lt1 (List.replicate r853q.length (0 : Int) : List Int) fun y968q => (louverlaw06qHpackSame.l0 k r835q r854q (IntKind.i64.wrap (x805q + 1)) p1))) else (some false))
end
def louverlaw06qHpackSame.f (k : Nat) (p0 : Int) (p1 : (List (List S52))) : Option (Bool) := bnd1 (louverlaw06qgreat.f k p1) fun r744q => (if r744q = true then (bnd1 (louverlaw06qfixed.f k) fun r753q => (some r753q)) else (bnd1 (hpack_NewEncoder.f p0) fun r765q => (bnd1 (hpack_NewEncoder.f p0) fun r779q => (louverlaw06qHpackSame.l0 k r765q r779q 0 p1))))
set_option maxHeartbeats 2000000 in
set_option maxRecDepth 100000 in
theorem louverlaw06qHpackSame.calls (k : Nat) {b : Nat} {w0 W : World} {R : Frag} {Fs : List Frag} {p0 : Int} {p1 : (List (List S52))} {v1 : Value} {r0q : Bool} (hp1 : Rds (kRds k52) b w0 R v1 p1) (hg0 : Rds k52 b w0 [] (.slice (some ⟨0, 0, none⟩) 61 61) G0) (hg1 : Rds (kInt .u8) b w0 [] (.slice (some ⟨1, 0, none⟩) 257 257) G1) (H : louverlaw06qHpackSame.f k p0 p1 = some r0q) (hS : St b w0 W R (Fs)) :
    Calls Tryd.prog 5 ([.int .u32 p0, v1] : List Value).toArray W (fun e W' => e = .returned (.bool r0q) ∧ St b w0 W' R (Fs)) := by
  obtain ⟨A1, c1, rfl⟩ := hp1.form
  unfold louverlaw06qHpackSame.f at H
  refine calls_enter Tryd.func5 rfl 64 rfl (by kernel_rfl) (fun a h => ?_)
  refine wp_seq ?_
  refine WL.start ?_
  refine WL.block (c := 1) (m' := 1) h rfl [(4, .bool false)] (by kernel_rfl) (fun a739q h740q => ?_)
  refine WL.done (by kernel_rfl) ?_
  refine wp_seq ?_
  refine wp_seq ?_
  refine WL.start ?_
  refine WL.block (c := 1) (m' := 1) h740q rfl [(14, .slice A1 p1.length c1)] (by kernel_rfl) (fun a741q h742q => ?_)
  clear h740q a739q
  obtain ⟨r744q, A743q, H⟩ := bind1 H
  refine WL.op' (m := 1) h742q rfl rfl ?_
  refine owp_call [.slice A1 p1.length c1] h742q rfl (by kernel_rfl) rfl Tryd.func16 (by kernel_rfl) rfl (by kernel_rfl) (louverlaw06qgreat.calls k hp1 A743q hS) (fun e746q W745q hp747q => ?_)
  obtain ⟨rfl, hS750q⟩ := hp747q
  refine ⟨_, rfl, fun a748q h749q => ?_⟩
  clear h742q a741q
  refine WL.done (by kernel_rfl) ?_
  by_cases c751q : r744q = true
  · rw [if_pos c751q] at H
    have hb_ : r744q = true := c751q
    try rw [hb_] at h749q
    clear hb_
    refine wp_then h749q rfl ?_
    refine wp_seq ?_
    refine WL.start ?_
    obtain ⟨r753q, A752q, H⟩ := bind1 H
    refine WL.op' (m := 0) h749q rfl rfl ?_
    refine owp_call [] h749q rfl (by kernel_rfl) rfl Tryd.func10 (by kernel_rfl) rfl (by kernel_rfl) (louverlaw06qfixed.calls k hg0 hg1 A752q hS750q) (fun e755q W754q hp756q => ?_)
    obtain ⟨rfl, hS759q⟩ := hp756q
    refine ⟨_, rfl, fun a757q h758q => ?_⟩
    clear h749q a748q
    refine WL.block (c := 1) (m' := 2) h758q rfl [(4, .bool r753q)] (by kernel_rfl) (fun a760q h761q => ?_)
    clear h758q a757q
    refine WL.done (by kernel_rfl) ?_
    refine wp_ret ?_
    obtain rfl := Option.some.inj H
    repeat (first | refine then_ret ?_ | refine inBlock_ret ?_ | refine inBlock_go ?_)
    refine body_ret (v := .bool r753q) h761q (by kernel_rfl) (by kernel_rfl) ?_
    exact ⟨rfl, hS759q⟩
  · rw [if_neg c751q] at H
    have hb_ : r744q = false := (Bool.eq_false_iff.2 c751q)
    try rw [hb_] at h749q
    clear hb_
    refine wp_else h749q rfl ?_
    refine wp_skip ?_
    refine wp_seq ?_
    refine WL.start ?_
    refine WL.block (c := 1) (m' := 1) h749q rfl [(17, .int .u32 p0)] (by kernel_rfl) (fun a762q h763q => ?_)
    clear h749q a748q
    obtain ⟨r765q, A764q, H⟩ := bind1 H
    refine WL.op' (m := 1) h763q rfl rfl ?_
    refine owp_call [.int .u32 p0] h763q rfl (by kernel_rfl) rfl Tryd.func17 (by kernel_rfl) rfl (by kernel_rfl) (hpack_NewEncoder.calls  A764q hS750q) (fun e767q W766q hp768q => ?_)
    obtain ⟨v771q, M772q, rfl, hr773q, hS774q⟩ := hp768q
    refine ⟨_, rfl, fun a769q h770q => ?_⟩
    clear h763q a762q
    obtain ⟨g775q, rfl⟩ := hr773q.ptr_form
    refine WL.block (c := 1) (m' := 3) h770q rfl [(19, .int .u32 p0)] (by kernel_rfl) (fun a776q h777q => ?_)
    clear h770q a769q
    obtain ⟨r779q, A778q, H⟩ := bind1 H
    refine WL.op' (m := 3) h777q rfl rfl ?_
    refine owp_call [.int .u32 p0] h777q rfl (by kernel_rfl) rfl Tryd.func17 (by kernel_rfl) rfl (by kernel_rfl) (hpack_NewEncoder.calls  A778q hS774q) (fun e781q W780q hp782q => ?_)
    obtain ⟨v785q, M786q, rfl, hr787q, hS788q⟩ := hp782q
    refine ⟨_, rfl, fun a783q h784q => ?_⟩
    clear h777q a776q
    obtain ⟨g789q, rfl⟩ := hr787q.ptr_form
    refine WL.block (c := 2) (m' := 6) h784q rfl [(6, .pointer (some ⟨g789q, 0, none⟩)), (5, .pointer (some ⟨g775q, 0, none⟩))] (by kernel_rfl) (fun a790q h791q => ?_)
    clear h784q a783q
    refine WL.done (by kernel_rfl) ?_
    refine wp_seq ?_
    refine wp_seq ?_
    refine WL.start ?_
    refine WL.block (c := 3) (m' := 3) h791q rfl [(23, .int .i64 0), (22, .int .i64 (p1.length : Int)), (21, .slice A1 p1.length c1)] (by kernel_rfl) (fun a792q h793q => ?_)
    clear h791q a790q
    refine WL.done (by kernel_rfl) ?_
    refine wp_block ?_
    have hS806q : St b w0 W780q R (M772q :: M786q :: Fs) := hS788q.bring 1 rfl rfl
    refine wp_loop_ghost (fun kq_ a_ W_ => ∃ (x799q : S61), ∃ (M800q : Frag), ∃ (x802q : S61), ∃ (M803q : Frag), ∃ (x805q : Int), Hd a_ 64 [(5, .pointer (some ⟨g775q, 0, none⟩)), (6, .pointer (some ⟨g789q, 0, none⟩)), (21, .slice A1 p1.length c1), (22, .int .i64 (p1.length : Int)), (23, .int .i64 x805q)] ∧ Asd (louverlaw06qHpackSame.l0 kq_ x799q x802q x805q p1 = some r0q) ∧ Asd (kq_ ≤ k) ∧ Asd (St b w0 W_ R (M800q :: M803q :: Fs)) ∧ Asd (Ptr k61 61 b w0 R (.pointer (some ⟨g775q, 0, none⟩)) x799q M800q) ∧ Asd (Ptr k61 61 b w0 R (.pointer (some ⟨g789q, 0, none⟩)) x802q M803q)) k ⟨r765q, M772q, r779q, M786q, 0, h793q.keep ⟨rfl, rfl, rfl, rfl, rfl, trivial⟩, ⟨H⟩, ⟨Nat.le_refl _⟩, ⟨hS806q⟩, ⟨hr773q⟩, ⟨hr787q⟩⟩ ?_
    clear H hS806q
    rintro k798q a795q W796q ⟨x799q, M800q, x802q, M803q, x805q, h794q, ⟨H⟩, ⟨hkk798q⟩, ⟨hS797q⟩, ⟨hr801q⟩, ⟨hr804q⟩⟩
    obtain _ | k807q := k798q
    · exact absurd H (by simp [louverlaw06qHpackSame.l0])
    simp only [louverlaw06qHpackSame.l0] at H
    refine wp_seq ?_
    refine WL.start ?_
    refine WL.block (c := 1) (m' := 1) h794q rfl [(24, .bool (decide (x805q < (p1.length : Int))))] (by kernel_rfl) (fun a808q h809q => ?_)
    clear h794q a795q
    refine WL.done (by kernel_rfl) ?_
    refine wp_seq ?_
    by_cases c810q : x805q < (p1.length : Int)
    · rw [if_pos c810q] at H
      have hb_ : (decide (x805q < (p1.length : Int))) = true := decide_eq_true c810q
      try rw [hb_] at h809q
      clear hb_
      refine wp_then h809q rfl ?_
      refine wp_skip ?_
      refine wp_seq ?_
      refine wp_block ?_
      refine wp_seq ?_
      refine WL.start ?_
      by_cases c811q : 0 ≤ x805q
      · rw [if_pos c811q] at H
        have hi814q : 0 ≤ x805q := by first | assumption | omega
        have hi815q : x805q < (p1.length : Int) := by first | assumption | omega
        obtain ⟨ad812q, _, ha813q, -, -⟩ := Rds.elemAny hp1 hi814q (gt_get (z := []) hi814q hi815q)
        refine WL.op' (m := 0) h809q rfl rfl ?_
        refine owp_run (v := .pointer (some (ad812q.add (x805q.toNat * 1)))) h809q rfl (by kernel_rfl) (run_idx (ad := ad812q) (sz := 1) rfl (by rw [← ha813q]; rfl) rfl Tryd.underlying37 (by kernel_rfl) hi814q hi815q) (fun a816q h817q => ?_)
        clear h809q a808q
        obtain ⟨ad818q, cs819q, ha820q, hr822q, hc821q⟩ := Rds.elemAny hp1 hi814q (gt_get (z := []) hi814q hi815q)
        rw [ha813q] at ha820q; obtain rfl := Option.some.inj ha820q
        obtain ⟨v823q, rfl, hx824q⟩ := hr822q
        obtain ⟨A825q, c826q, rfl⟩ := hx824q.form
        refine WL.op' (m := 1) h817q rfl rfl ?_
        refine owp_run (v := .slice A825q (gt [] p1 x805q).length c826q) h817q rfl (by kernel_rfl) (run_load1 rfl rfl Tryd.underlying23 rfl (cell0 (hc821q _ (fun _ _ hk_ => hS797q.kn hk_)))) (fun a827q h828q => ?_)
        clear h817q a816q
        refine WL.block (c := 1) (m' := 3) h828q rfl [(8, .slice A825q (gt [] p1 x805q).length c826q)] (by kernel_rfl) (fun a829q h830q => ?_)
        clear h828q a827q
        refine WL.done (by kernel_rfl) ?_
        refine wp_seq ?_
        refine WL.start ?_
        refine WL.block (c := 2) (m' := 2) h830q rfl [(28, .slice A825q (gt [] p1 x805q).length c826q), (27, .pointer (some ⟨g775q, 0, none⟩))] (by kernel_rfl) (fun a831q h832q => ?_)
        clear h830q a829q
        obtain ⟨r834q, r835q, A833q, H⟩ := bind2 H
        refine WL.op' (m := 2) h832q rfl rfl ?_
        refine owp_call [.pointer (some ⟨g775q, 0, none⟩), .slice A825q (gt [] p1 x805q).length c826q] h832q rfl (by kernel_rfl) rfl Tryd.func13 (by kernel_rfl) rfl (by kernel_rfl) (hpack_Encoder_Put.calls k807q hr801q hx824q hg0 hg1 A833q hS797q) (fun e837q W836q hp838q => ?_)
        obtain ⟨v841q, M842q, M844q, rfl, hr843q, hr845q, hS846q⟩ := hp838q
        refine ⟨_, rfl, fun a839q h840q => ?_⟩
        clear h832q a831q
        obtain ⟨A847q, c848q, rfl⟩ := hr843q.form
        refine WL.block (c := 2) (m' := 5) h840q rfl [(31, .slice A825q (gt [] p1 x805q).length c826q), (30, .pointer (some ⟨g789q, 0, none⟩))] (by kernel_rfl) (fun a849q h850q => ?_)
        clear h840q a839q
        have hS851q : St b w0 W836q R (M803q :: M842q :: M844q :: Fs) := hS846q.bring 2 rfl rfl
        obtain ⟨r853q, r854q, A852q, H⟩ := bind2 H
        refine WL.op' (m := 5) h850q rfl rfl ?_
        refine owp_call [.pointer (some ⟨g789q, 0, none⟩), .slice A825q (gt [] p1 x805q).length c826q] h850q rfl (by kernel_rfl) rfl Tryd.func13 (by kernel_rfl) rfl (by kernel_rfl) (hpack_Encoder_Put.calls k807q hr804q hx824q hg0 hg1 A852q hS851q) (fun e856q W855q hp857q => ?_)
        obtain ⟨v860q, M861q, M863q, rfl, hr862q, hr864q, hS865q⟩ := hp857q
        refine ⟨_, rfl, fun a858q h859q => ?_⟩
        clear h850q a849q
        obtain ⟨A866q, c867q, rfl⟩ := hr862q.form
        refine WL.block (c := 2) (m' := 8) h859q rfl [(10, .slice A866q r853q.length c867q), (9, .slice A847q r834q.length c848q)] (by kernel_rfl) (fun a868q h869q => ?_)
        clear h859q a858q
        refine WL.done (by kernel_rfl) ?_
        refine wp_seq ?_
        refine WL.start ?_
        refine WL.block (c := 1) (m' := 1) h869q rfl [(11, .int .i64 10)] (by kernel_rfl) (fun a870q h871q => ?_)
        clear h869q a868q
        refine WL.done (by kernel_rfl) ?_
        refine wp_seq ?_
        refine wp_seq ?_
        refine WL.start ?_
        refine WL.block (c := 3) (m' := 3) h871q rfl [(35, .int .i64 0), (34, .int .i64 ((gt [] p1 x805q).length : Int)), (33, .slice A825q (gt [] p1 x805q).length c826q)] (by kernel_rfl) (fun a872q h873q => ?_)
        clear h871q a870q
        refine WL.done (by kernel_rfl) ?_
        refine wp_block ?_
        have hS885q : St b w0 W855q R (M842q :: M861q :: M863q :: M844q :: Fs) := hS865q.bring 2 rfl rfl
        have hS886q : St b w0 W855q R (M863q :: M842q :: M861q :: M844q :: Fs) := hS885q.bring 2 rfl rfl
        have hS887q : St b w0 W855q R (M844q :: M863q :: M842q :: M861q :: Fs) := hS886q.bring 3 rfl rfl
        refine wp_loop_ghost (fun kq_ a_ W_ => ∃ (M879q : Frag), ∃ (M881q : Frag), ∃ (x883q : Int), ∃ (x884q : Int), Hd a_ 64 [(5, .pointer (some ⟨g775q, 0, none⟩)), (6, .pointer (some ⟨g789q, 0, none⟩)), (9, .slice A847q r834q.length c848q), (10, .slice A866q r853q.length c867q), (11, .int .i64 x883q), (21, .slice A1 p1.length c1), (22, .int .i64 (p1.length : Int)), (23, .int .i64 x805q), (33, .slice A825q (gt [] p1 x805q).length c826q), (34, .int .i64 ((gt [] p1 x805q).length : Int)), (35, .int .i64 x884q)] ∧ Asd (louverlaw06qHpackSame.l1 kq_ x883q x884q p1 r834q r835q r853q r854q x805q = some r0q) ∧ Asd (kq_ ≤ k807q) ∧ Asd (St b w0 W_ R (M879q :: M881q :: M842q :: M861q :: Fs)) ∧ Asd (Ptr k61 61 b w0 R (.pointer (some ⟨g775q, 0, none⟩)) r835q M879q) ∧ Asd (Ptr k61 61 b w0 R (.pointer (some ⟨g789q, 0, none⟩)) r854q M881q)) k807q ⟨M844q, M863q, 10, 0, h873q.keep ⟨rfl, rfl, rfl, rfl, rfl, rfl, rfl, rfl, rfl, rfl, rfl, trivial⟩, ⟨H⟩, ⟨Nat.le_refl _⟩, ⟨hS887q⟩, ⟨hr845q⟩, ⟨hr864q⟩⟩ ?_
        clear H hS887q
        rintro k878q a875q W876q ⟨M879q, M881q, x883q, x884q, h874q, ⟨H⟩, ⟨hkk878q⟩, ⟨hS877q⟩, ⟨hr880q⟩, ⟨hr882q⟩⟩
        obtain _ | k888q := k878q
        · exact absurd H (by simp [louverlaw06qHpackSame.l1])
        simp only [louverlaw06qHpackSame.l1] at H
        refine wp_seq ?_
        refine WL.start ?_
        refine WL.block (c := 1) (m' := 1) h874q rfl [(36, .bool (decide (x884q < ((gt [] p1 x805q).length : Int))))] (by kernel_rfl) (fun a889q h890q => ?_)
        clear h874q a875q
        refine WL.done (by kernel_rfl) ?_
        refine wp_seq ?_
        by_cases c891q : x884q < ((gt [] p1 x805q).length : Int)
        · rw [if_pos c891q] at H
          have hb_ : (decide (x884q < ((gt [] p1 x805q).length : Int))) = true := decide_eq_true c891q
          try rw [hb_] at h890q
          clear hb_
          refine wp_then h890q rfl ?_
          refine wp_skip ?_
          refine wp_seq ?_
          refine wp_block ?_
          refine wp_seq ?_
          refine WL.start ?_
          by_cases c892q : 0 ≤ x884q
          · rw [if_pos c892q] at H
            have hi895q : 0 ≤ x884q := by first | assumption | omega
            have hi896q : x884q < ((gt [] p1 x805q).length : Int) := by first | assumption | omega
            obtain ⟨ad893q, _, ha894q, -, -⟩ := Rds.elemAny hx824q hi895q (gt_get (z := z52) hi895q hi896q)
            refine WL.op' (m := 0) h890q rfl rfl ?_
            refine owp_run (v := .pointer (some (ad893q.add (x884q.toNat * 3)))) h890q rfl (by kernel_rfl) (run_idx (ad := ad893q) (sz := 3) rfl (by rw [← ha894q]; rfl) rfl Tryd.underlying23 (by kernel_rfl) hi895q hi896q) (fun a897q h898q => ?_)
            clear h890q a889q
            obtain ⟨ad899q, cs900q, ha901q, hr903q, hc902q⟩ := Rds.elemAny hx824q hi895q (gt_get (z := z52) hi895q hi896q)
            rw [ha894q] at ha901q; obtain rfl := Option.some.inj ha901q
            obtain rfl := k52qrd hr903q
            refine WL.op' (m := 1) h898q rfl rfl ?_
            refine owp_run (v := .agg #[.string (mkS ((gt z52 (gt [] p1 x805q) x884q).f0)), .string (mkS ((gt z52 (gt [] p1 x805q) x884q).f1)), .bool ((gt z52 (gt [] p1 x805q) x884q).f2)]) h898q rfl (by kernel_rfl) (run_loadN rfl rfl Tryd.underlying52 rfl (cs := ([.string (mkS ((gt z52 (gt [] p1 x805q) x884q).f0)), .string (mkS ((gt z52 (gt [] p1 x805q) x884q).f1)), .bool ((gt z52 (gt [] p1 x805q) x884q).f2)] : List Value)) (by kernel_rfl) (hc902q _ (fun _ _ hk_ => hS877q.kn hk_))) (fun a904q h905q => ?_)
            clear h898q a897q
            refine WL.op' (m := 2) h905q rfl rfl ?_
            refine owp_new (fun g_ => .pointer (some ⟨g_, 0, none⟩)) (.cells ([.string (mkS ([] : List UInt8)), .string (mkS ([] : List UInt8)), .bool false] : List Value).toArray 52 (0, 0)) h905q rfl (by kernel_rfl) (by kernel_rfl) hS877q (fun a906q W908q g909q h907q hS910q => ?_)
            clear h905q a904q
            refine WL.op' (m := 3) h907q rfl rfl ?_
            refine owp_store (i := 0) (vs := ([.string (mkS ((gt z52 (gt [] p1 x805q) x884q).f0)), .string (mkS ((gt z52 (gt [] p1 x805q) x884q).f1)), .bool ((gt z52 (gt [] p1 x805q) x884q).f2)] : List Value)) h907q rfl (by kernel_rfl) rfl rfl rfl rfl (by simp [Value.oneCell']) (by kernel_rfl) hS910q (by simp) (cs' := ([.string (mkS ((gt z52 (gt [] p1 x805q) x884q).f0)), .string (mkS ((gt z52 (gt [] p1 x805q) x884q).f1)), .bool ((gt z52 (gt [] p1 x805q) x884q).f2)] : List Value)) rfl (fun a911q W913q h912q hS914q => ?_)
            clear h907q a906q
            refine WL.done (by kernel_rfl) ?_
            refine WL.start ?_
            refine WL.block (c := 2) (m' := 2) h912q rfl [(40, .pointer (some ⟨g909q, 0, none⟩)), (39, .int .i64 x883q)] (by kernel_rfl) (fun a915q h916q => ?_)
            clear h912q a911q
            refine WL.op' (m := 2) h916q rfl rfl ?_
            refine owp_run (v := .string (mkS ((gt z52 (gt [] p1 x805q) x884q).f0))) h916q rfl (by kernel_rfl) (run_load1 rfl rfl Tryd.underlying9 rfl (hS914q.cell (i := 0) rfl)) (fun a917q h918q => ?_)
            clear h916q a915q
            refine WL.block (c := 2) (m' := 5) h918q rfl [(43, .pointer (some ⟨g909q, 1, none⟩)), (42, .int .i64 (((gt z52 (gt [] p1 x805q) x884q).f0).length : Int))] (by kernel_rfl) (fun a919q h920q => ?_)
            clear h918q a917q
            refine WL.op' (m := 5) h920q rfl rfl ?_
            refine owp_run (v := .string (mkS ((gt z52 (gt [] p1 x805q) x884q).f1))) h920q rfl (by kernel_rfl) (run_load1 rfl rfl Tryd.underlying9 rfl (hS914q.cell (i := 1) rfl)) (fun a921q h922q => ?_)
            clear h920q a919q
            refine WL.block (c := 5) (m' := 11) h922q rfl [(11, .int .i64 (IntKind.i64.wrap (x883q + (IntKind.i64.wrap ((IntKind.i64.wrap ((((gt z52 (gt [] p1 x805q) x884q).f0).length : Int) + (((gt z52 (gt [] p1 x805q) x884q).f1).length : Int))) + 10))))), (48, .int .i64 (IntKind.i64.wrap (x883q + (IntKind.i64.wrap ((IntKind.i64.wrap ((((gt z52 (gt [] p1 x805q) x884q).f0).length : Int) + (((gt z52 (gt [] p1 x805q) x884q).f1).length : Int))) + 10))))), (47, .int .i64 (IntKind.i64.wrap ((IntKind.i64.wrap ((((gt z52 (gt [] p1 x805q) x884q).f0).length : Int) + (((gt z52 (gt [] p1 x805q) x884q).f1).length : Int))) + 10))), (46, .int .i64 (IntKind.i64.wrap ((((gt z52 (gt [] p1 x805q) x884q).f0).length : Int) + (((gt z52 (gt [] p1 x805q) x884q).f1).length : Int)))), (45, .int .i64 (((gt z52 (gt [] p1 x805q) x884q).f1).length : Int))] (by kernel_rfl) (fun a923q h924q => ?_)
            clear h922q a921q
            refine WL.done (by kernel_rfl) ?_
            refine WL.start ?_
            refine WL.block (c := 2) (m' := 2) h924q rfl [(35, .int .i64 (IntKind.i64.wrap (x884q + 1))), (49, .int .i64 (IntKind.i64.wrap (x884q + 1)))] (by kernel_rfl) (fun a925q h926q => ?_)
            clear h924q a923q
            refine WL.done (by kernel_rfl) ?_
            have hS927q : St b w0 W913q R (M879q :: M881q :: M842q :: M861q :: Fs) := hS914q.drop_
            exact ⟨k888q, by omega, M879q, M881q, IntKind.i64.wrap (x883q + (IntKind.i64.wrap ((IntKind.i64.wrap ((((gt z52 (gt [] p1 x805q) x884q).f0).length : Int) + (((gt z52 (gt [] p1 x805q) x884q).f1).length : Int))) + 10))), IntKind.i64.wrap (x884q + 1), h926q.keep ⟨rfl, rfl, rfl, rfl, rfl, rfl, rfl, rfl, rfl, rfl, rfl, trivial⟩, ⟨H⟩, ⟨by omega⟩, ⟨hS927q⟩, ⟨hr880q⟩, ⟨hr882q⟩⟩
          · rw [if_neg c892q] at H
            cases H
        · rw [if_neg c891q] at H
          have hb_ : (decide (x884q < ((gt [] p1 x805q).length : Int))) = false := decide_eq_false c891q
          try rw [hb_] at h890q
          clear hb_
          refine wp_else h890q rfl ?_
          refine wp_exit ?_
          refine wp_seq ?_
          refine wp_seq ?_
          refine WL.start ?_
          refine WL.block (c := 1) (m' := 1) h890q rfl [(50, .slice A847q r834q.length c848q)] (by kernel_rfl) (fun a928q h929q => ?_)
          clear h890q a889q
          have hS930q : St b w0 W876q R (M842q :: M879q :: M881q :: M861q :: Fs) := hS877q.bring 2 rfl rfl
          refine WL.op' (m := 1) h929q rfl rfl ?_
          refine owp_run (v := .string (mkS (toS r834q))) h929q rfl (by kernel_rfl) (run_tostr rfl rfl hr843q.rds (fun _ _ hk_ => (hS930q).pool.kn hk_) Tryd.underlying22 Tryd.underlying5 Tryd.underlying9) (fun a931q h932q => ?_)
          clear h929q a928q
          refine WL.block (c := 1) (m' := 3) h932q rfl [(52, .slice A866q r853q.length c867q)] (by kernel_rfl) (fun a933q h934q => ?_)
          clear h932q a931q
          have hS935q : St b w0 W876q R (M861q :: M842q :: M879q :: M881q :: Fs) := hS930q.bring 3 rfl rfl
          refine WL.op' (m := 3) h934q rfl rfl ?_
          refine owp_run (v := .string (mkS (toS r853q))) h934q rfl (by kernel_rfl) (run_tostr rfl rfl hr862q.rds (fun _ _ hk_ => (hS935q).pool.kn hk_) Tryd.underlying22 Tryd.underlying5 Tryd.underlying9) (fun a936q h937q => ?_)
          clear h934q a933q
          refine WL.op' (m := 4) h937q rfl rfl ?_
          refine owp_run (v := .bool (!decide ((toS r834q) = (toS r853q)))) h937q rfl (by kernel_rfl) (run_strne rfl rfl rfl) (fun a938q h939q => ?_)
          clear h937q a936q
          refine WL.block (c := 1) (m' := 6) h939q rfl [(55, .bool (!decide ((toS r834q) = (toS r853q))))] (by kernel_rfl) (fun a940q h941q => ?_)
          clear h939q a938q
          by_cases c942q : (toS r834q) = (toS r853q)
          · rw [if_pos c942q] at H
            have hb_ : (decide ((toS r834q) = (toS r853q))) = true := decide_eq_true c942q
            try rw [hb_] at h941q
            clear hb_
            refine WL.op' (m := 6) h941q rfl rfl (owp_run h941q rfl (by kernel_rfl) (v := .slice A847q r834q.length c848q) (by kernel_rfl) (fun a943q h944q => ?_))
            clear h941q a940q
            refine WL.op' (m := 7) h944q rfl rfl (owp_run h944q rfl (by kernel_rfl) (v := .int .i64 (r834q.length : Int)) (by kernel_rfl) (fun a945q h946q => ?_))
            clear h944q a943q
            refine WL.op' (m := 8) h946q rfl rfl (owp_run h946q rfl (by kernel_rfl) (v := .int .i64 x883q) (by kernel_rfl) (fun a947q h948q => ?_))
            clear h946q a945q
            refine WL.op' (m := 9) h948q rfl rfl (owp_run h948q rfl (by kernel_rfl) (v := .bool (decide ((r834q.length : Int) > x883q))) (by kernel_rfl) (fun a949q h950q => ?_))
            clear h948q a947q
            refine WL.block (c := 1) (m' := 11) h950q rfl [(60, .bool (decide ((r834q.length : Int) > x883q)))] (by kernel_rfl) (fun a951q h952q => ?_)
            clear h950q a949q
            refine WL.done (by kernel_rfl) ?_
            by_cases c953q : (r834q.length : Int) > x883q
            · rw [if_pos c953q] at H
              have hb_ : (decide ((r834q.length : Int) > x883q)) = true := decide_eq_true c953q
              try rw [hb_] at h952q
              clear hb_
              refine wp_then h952q rfl ?_
              refine wp_seq ?_
              refine WL.start ?_
              refine WL.block (c := 1) (m' := 1) h952q rfl [(4, .bool false)] (by kernel_rfl) (fun a954q h955q => ?_)
              clear h952q a951q
              refine WL.done (by kernel_rfl) ?_
              refine wp_ret ?_
              have hS956q : St b w0 W876q R (M842q :: M879q :: M881q :: Fs) := hS935q.drop_
              have hS957q : St b w0 W876q R (M879q :: M881q :: Fs) := hS956q.drop_
              have hS958q : St b w0 W876q R (M881q :: Fs) := hS957q.drop_
              have hS959q : St b w0 W876q R (Fs) := hS958q.drop_
              obtain rfl := Option.some.inj H
              repeat (first | refine then_ret ?_ | refine inBlock_ret ?_ | refine inBlock_go ?_)
              refine body_ret (v := .bool false) h955q (by kernel_rfl) (by kernel_rfl) ?_
              exact ⟨rfl, hS959q⟩
            · rw [if_neg c953q] at H
              have hb_ : (decide ((r834q.length : Int) > x883q)) = false := decide_eq_false c953q
              try rw [hb_] at h952q
              clear hb_
              refine wp_else h952q rfl ?_
              refine wp_skip ?_
              refine WL.start ?_
              refine WL.block (c := 1) (m' := 1) h952q rfl [(61, .slice A866q r853q.length c867q)] (by kernel_rfl) (fun a960q h961q => ?_)
              clear h952q a951q
              refine WL.op' (m := 1) h961q rfl rfl ?_
              refine owp_clear1 (ty := 0) (z := .int .u8 0) (z0 := (0 : Int)) h961q rfl (by kernel_rfl) rfl rfl hr862q hS935q Tryd.underlying22 (by kernel_rfl) (fun _ _ _ => ⟨rfl, rfl⟩) rfl rfl (fun a962q W964q M965q h963q hr966q hS967q => ?_)
              clear h961q a960q
              obtain ⟨y968q, hy969q, H⟩ := lete H
              have hl970q : y968q.length = r853q.length := by simp [hy969q]
              have hr971q : Row (kInt .u8) 5 b w0 R (.slice A866q y968q.length c867q) y968q M965q := by rw [hl970q]; rw [hy969q]; exact hr966q
              have h972q : Hd a962q 64 [(5, .pointer (some ⟨g775q, 0, none⟩)), (6, .pointer (some ⟨g789q, 0, none⟩)), (9, .slice A847q r834q.length c848q), (10, .slice A866q y968q.length c867q), (11, .int .i64 x883q), (21, .slice A1 p1.length c1), (22, .int .i64 (p1.length : Int)), (23, .int .i64 x805q), (33, .slice A825q (gt [] p1 x805q).length c826q), (34, .int .i64 ((gt [] p1 x805q).length : Int)), (35, .int .i64 x884q), (36, .bool false), (50, .slice A847q r834q.length c848q), (51, .string (mkS (toS r834q))), (52, .slice A866q y968q.length c867q), (53, .string (mkS (toS r853q))), (54, .bool false), (55, .bool false), (56, .slice A847q r834q.length c848q), (57, .int .i64 (r834q.length : Int)), (58, .int .i64 x883q), (59, .bool false), (60, .bool false), (61, .slice A866q y968q.length c867q)] := h963q.keep ⟨rfl, rfl, rfl, (by rw [hl970q] <;> rfl), rfl, rfl, rfl, rfl, rfl, rfl, rfl, rfl, rfl, rfl, (by rw [hl970q] <;> rfl), rfl, rfl, rfl, rfl, rfl, rfl, rfl, rfl, (by rw [hl970q] <;> rfl), trivial⟩
              clear h963q
              refine WL.done (by kernel_rfl) ?_
              refine WL.start ?_
              refine WL.block (c := 2) (m' := 2) h972q rfl [(23, .int .i64 (IntKind.i64.wrap (x805q + 1))), (62, .int .i64 (IntKind.i64.wrap (x805q + 1)))] (by kernel_rfl) (fun a973q h974q => ?_)
              clear h972q a962q
              refine WL.done (by kernel_rfl) ?_
              have hS975q : St b w0 W964q R (M842q :: M879q :: M881q :: Fs) := hS967q.drop_
              have hS976q : St b w0 W964q R (M879q :: M881q :: Fs) := hS975q.drop_
              exact ⟨k888q, by omega, r835q, M879q, r854q, M881q, IntKind.i64.wrap (x805q + 1), h974q.keep ⟨rfl, rfl, rfl, rfl, rfl, trivial⟩, ⟨H⟩, ⟨by omega⟩, ⟨hS976q⟩, ⟨hr880q⟩, ⟨hr882q⟩⟩
          · rw [if_neg c942q] at H
            have hb_ : (decide ((toS r834q) = (toS r853q))) = false := decide_eq_false c942q
            try rw [hb_] at h941q
            clear hb_
            refine WL.skipped (m := 6) h941q rfl rfl (by kernel_rfl) rfl (fun a977q h978q => ?_)
            clear h941q a940q
            refine WL.skipped (m := 7) h978q rfl rfl (by kernel_rfl) rfl (fun a979q h980q => ?_)
            clear h978q a977q
            refine WL.skipped (m := 8) h980q rfl rfl (by kernel_rfl) rfl (fun a981q h982q => ?_)
            clear h980q a979q
            refine WL.skipped (m := 9) h982q rfl rfl (by kernel_rfl) rfl (fun a983q h984q => ?_)
            clear h982q a981q
            refine WL.block (c := 1) (m' := 11) h984q rfl [(60, .bool true)] (by kernel_rfl) (fun a985q h986q => ?_)
            clear h984q a983q
            refine WL.done (by kernel_rfl) ?_
            refine wp_then h986q rfl ?_
            refine wp_seq ?_
            refine WL.start ?_
            refine WL.block (c := 1) (m' := 1) h986q rfl [(4, .bool false)] (by kernel_rfl) (fun a987q h988q => ?_)
            clear h986q a985q
            refine WL.done (by kernel_rfl) ?_
            refine wp_ret ?_
            have hS989q : St b w0 W876q R (M842q :: M879q :: M881q :: Fs) := hS935q.drop_
            have hS990q : St b w0 W876q R (M879q :: M881q :: Fs) := hS989q.drop_
            have hS991q : St b w0 W876q R (M881q :: Fs) := hS990q.drop_
            have hS992q : St b w0 W876q R (Fs) := hS991q.drop_
            obtain rfl := Option.some.inj H
            repeat (first | refine then_ret ?_ | refine inBlock_ret ?_ | refine inBlock_go ?_)
            refine body_ret (v := .bool false) h988q (by kernel_rfl) (by kernel_rfl) ?_
            exact ⟨rfl, hS992q⟩
      · rw [if_neg c811q] at H
        cases H
    · rw [if_neg c810q] at H
      have hb_ : (decide (x805q < (p1.length : Int))) = false := decide_eq_false c810q
      try rw [hb_] at h809q
      clear hb_
      refine wp_else h809q rfl ?_
      refine wp_exit ?_
      refine wp_seq ?_
      refine WL.start ?_
      obtain ⟨r994q, A993q, H⟩ := bind1 H
      refine WL.op' (m := 0) h809q rfl rfl ?_
      refine owp_call [] h809q rfl (by kernel_rfl) rfl Tryd.func10 (by kernel_rfl) rfl (by kernel_rfl) (louverlaw06qfixed.calls k807q hg0 hg1 A993q hS797q) (fun e996q W995q hp997q => ?_)
      obtain ⟨rfl, hS1000q⟩ := hp997q
      refine ⟨_, rfl, fun a998q h999q => ?_⟩
      clear h809q a808q
      refine WL.block (c := 1) (m' := 2) h999q rfl [(4, .bool r994q)] (by kernel_rfl) (fun a1001q h1002q => ?_)
      clear h999q a998q
      refine WL.done (by kernel_rfl) ?_
      refine wp_ret ?_
      have hS1003q : St b w0 W995q R (M803q :: Fs) := hS1000q.drop_
      have hS1004q : St b w0 W995q R (Fs) := hS1003q.drop_
      obtain rfl := Option.some.inj H
      repeat (first | refine then_ret ?_ | refine inBlock_ret ?_ | refine inBlock_go ?_)
      refine body_ret (v := .bool r994q) h1002q (by kernel_rfl) (by kernel_rfl) ?_
      exact ⟨rfl, hS1004q⟩
end Go.Proofs.YtinebjcfgmoniaaDoor.Sl
