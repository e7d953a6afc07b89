/- What the functions of this program compute, told as plain functions, and that the calls come to just that. Printed by this session's program; part 3. -/
import Derived.Test.YtgbkllnfjehfcaaDoorCode2
set_option linter.unusedVariables false
set_option linter.unusedSimpArgs false
set_option linter.unnecessarySimpa false
namespace Go.Proofs.YtgbkllnfjehfcaaDoor.Sl
open Go Go.RowKit Go.Proofs.Sl
/-! ### (louver/louverref05.T).Add -/
def louverref05qT_Add.f (k : Nat) (p0 : S41) (p1 : S29) : Option (S41) := bnd1 (louverref05qSize.f (⟨p1.f0, p1.f1, p1.f2⟩ : S29)) fun r348q => (bnd1 (louverref05qT_Within.f k (⟨p0.f0, p0.f1⟩ : S41) (IntKind.i64.wrap (p0.f1 - r348q))) fun r359q => (bnd1 (louverref05qSize.f (⟨p1.f0, p1.f1, p1.f2⟩ : S29)) fun r416q => (if r416q > r359q.f1 then (some (⟨r359q.f0, r359q.f1⟩ : S41)) else (if ([(⟨p1.f0, p1.f1, false⟩ : S29)] : List S29).length + r359q.f0.length ≤ 3518437208883 then (lt1 (([(⟨p1.f0, p1.f1, false⟩ : S29)] : List S29) ++ r359q.f0 : List S29) fun y472q => (some (⟨y472q, r359q.f1⟩ : S41))) else (none)))))
set_option maxHeartbeats 2000000 in
set_option maxRecDepth 100000 in
theorem louverref05qT_Add.calls (k : Nat) {b : Nat} {w0 W : World} {R : Frag} {Fs : List Frag} {p0 : S41} {p1 : S29} {v0q0 : Value} {M0q0 : Frag} {r0q : S41} (hp0q0 : Row k29 29 b w0 R v0q0 p0.f0 M0q0) (H : louverref05qT_Add.f k p0 p1 = some r0q) (hS : St b w0 W R (M0q0 :: Fs)) :
    Calls Tryd.prog 17 ([.agg #[v0q0, .int .i64 p0.f1], .agg #[.string (mkS p1.f0), .string (mkS p1.f1), .bool p1.f2]] : List Value).toArray W (fun e W' => ∃ (u0qv0qf0 : Value) (Nu0qv0qf0 : Frag), e = .returned (.agg #[u0qv0qf0, .int .i64 r0q.f1]) ∧ Row k29 29 b w0 R u0qv0qf0 r0q.f0 Nu0qv0qf0 ∧ St b w0 W' R (Nu0qv0qf0 :: Fs)) := by
  obtain ⟨A0q0, c0q0, rfl⟩ := hp0q0.form
  unfold louverref05qT_Add.f at H
  refine calls_enter Tryd.func17 rfl 31 rfl (by kernel_rfl) (fun a h => ?_)
  refine wp_seq ?_
  refine WL.start ?_
  refine WL.op' (m := 0) h rfl rfl ?_
  refine owp_new (fun g_ => .pointer (some ⟨g_, 0, none⟩)) (.cells ([.slice A0q0 p0.f0.length c0q0, .int .i64 p0.f1] : List Value).toArray 41 (0, 0)) h rfl (by kernel_rfl) (by kernel_rfl) hS (fun a249q W251q g252q h250q hS253q => ?_)
  refine WL.op' (m := 1) h250q rfl rfl ?_
  refine owp_new (fun g_ => .pointer (some ⟨g_, 0, none⟩)) (.cells ([.string (mkS p1.f0), .string (mkS p1.f1), .bool p1.f2] : List Value).toArray 29 (0, 0)) h250q rfl (by kernel_rfl) (by kernel_rfl) hS253q (fun a254q W256q g257q h255q hS258q => ?_)
  clear h250q a249q
  refine WL.op' (m := 2) h255q rfl rfl ?_
  refine owp_new (fun g_ => .pointer (some ⟨g_, 0, none⟩)) (.cells ([.slice none 0 0, .int .i64 0] : List Value).toArray 41 (0, 0)) h255q rfl (by kernel_rfl) (by kernel_rfl) hS258q (fun a259q W261q g262q h260q hS263q => ?_)
  clear h255q a254q
  refine WL.done (by kernel_rfl) ?_
  refine wp_seq ?_
  refine WT.start 7 (fun w_ => (∀ j_ u_, ([.slice A0q0 p0.f0.length c0q0, .int .i64 p0.f1] : List Value)[j_]? = some u_ → w_.cell? ((⟨g252q, 0, none⟩ : Addr).add j_) = some u_) ∧ (w_.cell? ⟨g252q, 1, none⟩ = some (.int .i64 p0.f1)) ∧ (∀ j_ u_, ([.string (mkS p1.f0), .string (mkS p1.f1), .bool p1.f2] : List Value)[j_]? = some u_ → w_.cell? ((⟨g257q, 0, none⟩ : Addr).add j_) = some u_) ∧ True) (by kernel_rfl) #[false, false, false, false, false, false, false, false] 8 rfl rfl ?_
  have hS338q := hS263q.drew
  refine WT.take 1 (listed' := #[false, true, false, false, false, false, false, false]) h260q rfl rfl (by kernel_rfl) rfl rfl (.pointer (some ⟨g252q, 1, none⟩)) (fun _ _ => by kernel_rfl) ⟨((hS338q.bring 2 rfl rfl).cells (vs := ([.slice A0q0 p0.f0.length c0q0, .int .i64 p0.f1] : List Value)) rfl), ((hS338q.bring 2 rfl rfl).cell (i := 1) rfl), ((hS338q.bring 1 rfl rfl).cells (vs := ([.string (mkS p1.f0), .string (mkS p1.f1), .bool p1.f2] : List Value)) rfl), trivial⟩ (fun _ _ _ h_ => h_) (fun a339q h340q => ?_)
  clear h260q a259q
  refine WT.take 0 (listed' := #[true, true, false, false, false, false, false, false]) h340q rfl rfl (by kernel_rfl) rfl rfl (.agg #[.slice A0q0 p0.f0.length c0q0, .int .i64 p0.f1]) (fun w_ hs_ => (run_loadN rfl rfl Tryd.underlying41 rfl (cs := ([.slice A0q0 p0.f0.length c0q0, .int .i64 p0.f1] : List Value)) (by kernel_rfl) hs_.1)) ⟨((hS338q.bring 2 rfl rfl).cells (vs := ([.slice A0q0 p0.f0.length c0q0, .int .i64 p0.f1] : List Value)) rfl), ((hS338q.bring 2 rfl rfl).cell (i := 1) rfl), ((hS338q.bring 1 rfl rfl).cells (vs := ([.string (mkS p1.f0), .string (mkS p1.f1), .bool p1.f2] : List Value)) rfl), trivial⟩ (fun _ _ _ h_ => h_) (fun a341q h342q => ?_)
  clear h340q a339q
  refine WT.take 2 (listed' := #[true, true, true, false, false, false, false, false]) h342q rfl rfl (by kernel_rfl) rfl rfl (.int .i64 p0.f1) (fun w_ hs_ => (run_load1 rfl rfl Tryd.underlying3 rfl hs_.2.1)) ⟨((hS338q.bring 2 rfl rfl).cells (vs := ([.slice A0q0 p0.f0.length c0q0, .int .i64 p0.f1] : List Value)) rfl), ((hS338q.bring 2 rfl rfl).cell (i := 1) rfl), ((hS338q.bring 1 rfl rfl).cells (vs := ([.string (mkS p1.f0), .string (mkS p1.f1), .bool p1.f2] : List Value)) rfl), trivial⟩ (fun _ _ _ h_ => h_) (fun a343q h344q => ?_)
  clear h342q a341q
  refine WT.take 3 (listed' := #[true, true, true, true, false, false, false, false]) h344q rfl rfl (by kernel_rfl) rfl rfl (.agg #[.string (mkS p1.f0), .string (mkS p1.f1), .bool p1.f2]) (fun w_ hs_ => (run_loadN rfl rfl Tryd.underlying29 rfl (cs := ([.string (mkS p1.f0), .string (mkS p1.f1), .bool p1.f2] : List Value)) (by kernel_rfl) hs_.2.2.1)) ⟨((hS338q.bring 2 rfl rfl).cells (vs := ([.slice A0q0 p0.f0.length c0q0, .int .i64 p0.f1] : List Value)) rfl), ((hS338q.bring 2 rfl rfl).cell (i := 1) rfl), ((hS338q.bring 1 rfl rfl).cells (vs := ([.string (mkS p1.f0), .string (mkS p1.f1), .bool p1.f2] : List Value)) rfl), trivial⟩ (fun _ _ _ h_ => h_) (fun a345q h346q => ?_)
  clear h344q a343q
  obtain ⟨r348q, A347q, H⟩ := bind1 H
  refine WT.op 4 (listed' := #[true, true, true, true, true, false, false, false]) h346q rfl (by kernel_rfl) rfl rfl ?_
  refine owp_call [.agg #[.string (mkS p1.f0), .string (mkS p1.f1), .bool p1.f2]] h346q rfl (by kernel_rfl) rfl Tryd.func24 (by kernel_rfl) rfl (by kernel_rfl) (louverref05qSize.calls (p0 := (⟨p1.f0, p1.f1, p1.f2⟩ : S29))  A347q hS338q) (fun e350q W349q hp351q => ?_)
  obtain ⟨rfl, hS354q⟩ := hp351q
  refine ⟨_, rfl, fun a352q h353q => ?_⟩
  clear h346q a345q
  refine ⟨.inr ⟨((hS354q.bring 2 rfl rfl).cells (vs := ([.slice A0q0 p0.f0.length c0q0, .int .i64 p0.f1] : List Value)) rfl), ((hS354q.bring 2 rfl rfl).cell (i := 1) rfl), ((hS354q.bring 1 rfl rfl).cells (vs := ([.string (mkS p1.f0), .string (mkS p1.f1), .bool p1.f2] : List Value)) rfl), trivial⟩, ?_⟩
  refine WT.take 5 (listed' := #[true, true, true, true, true, true, false, false]) h353q rfl rfl (by kernel_rfl) rfl rfl (.int .i64 (IntKind.i64.wrap (p0.f1 - r348q))) (fun _ _ => by kernel_rfl) ⟨((hS354q.bring 2 rfl rfl).cells (vs := ([.slice A0q0 p0.f0.length c0q0, .int .i64 p0.f1] : List Value)) rfl), ((hS354q.bring 2 rfl rfl).cell (i := 1) rfl), ((hS354q.bring 1 rfl rfl).cells (vs := ([.string (mkS p1.f0), .string (mkS p1.f1), .bool p1.f2] : List Value)) rfl), trivial⟩ (fun _ _ _ h_ => h_) (fun a355q h356q => ?_)
  clear h353q a352q
  have hS357q : St b w0 W349q R (M0q0 :: [(g262q, .cells ([.slice none 0 0, .int .i64 0] : List Value).toArray 41 (0, 0))] :: [(g257q, .cells ([.string (mkS p1.f0), .string (mkS p1.f1), .bool p1.f2] : List Value).toArray 29 (0, 0))] :: [(g252q, .cells ([.slice A0q0 p0.f0.length c0q0, .int .i64 p0.f1] : List Value).toArray 41 (0, 0))] :: Fs) := hS354q.bring 3 rfl rfl
  obtain ⟨r359q, A358q, H⟩ := bind1 H
  refine WT.op 6 (listed' := #[true, true, true, true, true, true, true, false]) h356q rfl (by kernel_rfl) rfl rfl ?_
  refine owp_call [.agg #[.slice A0q0 p0.f0.length c0q0, .int .i64 p0.f1], .int .i64 (IntKind.i64.wrap (p0.f1 - r348q))] h356q rfl (by kernel_rfl) rfl Tryd.func29 (by kernel_rfl) rfl (by kernel_rfl) (louverref05qT_Within.calls (p0 := (⟨p0.f0, p0.f1⟩ : S41)) k hp0q0 A358q hS357q) (fun e361q W360q hp362q => ?_)
  obtain ⟨v365q, M366q, rfl, hr367q, hS368q⟩ := hp362q
  refine ⟨_, rfl, fun a363q h364q => ?_⟩
  clear h356q a355q
  obtain ⟨A369q, c370q, rfl⟩ := hr367q.form
  refine ⟨.inr ⟨((hS368q.bring 3 rfl rfl).cells (vs := ([.slice A0q0 p0.f0.length c0q0, .int .i64 p0.f1] : List Value)) rfl), ((hS368q.bring 3 rfl rfl).cell (i := 1) rfl), ((hS368q.bring 2 rfl rfl).cells (vs := ([.string (mkS p1.f0), .string (mkS p1.f1), .bool p1.f2] : List Value)) rfl), trivial⟩, ?_⟩
  have hS371q : St b w0 W360q R ([(g252q, .cells ([.slice A0q0 p0.f0.length c0q0, .int .i64 p0.f1] : List Value).toArray 41 (0, 0))] :: M366q :: [(g262q, .cells ([.slice none 0 0, .int .i64 0] : List Value).toArray 41 (0, 0))] :: [(g257q, .cells ([.string (mkS p1.f0), .string (mkS p1.f1), .bool p1.f2] : List Value).toArray 29 (0, 0))] :: Fs) := hS368q.bring 3 rfl rfl
  refine WT.op 7 (listed' := #[true, true, true, true, true, true, true, true]) h364q rfl (by kernel_rfl) rfl rfl ?_
  refine owp_store (i := 0) (vs := ([.slice A369q r359q.f0.length c370q, .int .i64 r359q.f1] : List Value)) h364q rfl (by kernel_rfl) rfl rfl rfl rfl (by simp [Value.oneCell']) (by kernel_rfl) hS371q (by simp) (cs' := ([.slice A369q r359q.f0.length c370q, .int .i64 r359q.f1] : List Value)) rfl (fun a372q W374q h373q hS375q => ?_)
  clear h364q a363q
  refine ⟨.inl (by decide), ?_⟩
  refine WT.done (by kernel_rfl) ?_
  refine wp_seq ?_
  refine wp_seq ?_
  refine WT.start 5 (fun w_ => (∀ j_ u_, ([.string (mkS p1.f0), .string (mkS p1.f1), .bool p1.f2] : List Value)[j_]? = some u_ → w_.cell? ((⟨g257q, 0, none⟩ : Addr).add j_) = some u_) ∧ (w_.cell? ⟨g252q, 1, none⟩ = some (.int .i64 r359q.f1)) ∧ True) (by kernel_rfl) #[false, false, false, false, false] 5 rfl rfl ?_
  have hS408q := hS375q.drew
  refine WT.take 2 (listed' := #[false, false, true, false, false]) h373q rfl rfl (by kernel_rfl) rfl rfl (.pointer (some ⟨g252q, 1, none⟩)) (fun _ _ => by kernel_rfl) ⟨((hS408q.bring 3 rfl rfl).cells (vs := ([.string (mkS p1.f0), .string (mkS p1.f1), .bool p1.f2] : List Value)) rfl), (hS408q.cell (i := 1) rfl), trivial⟩ (fun _ _ _ h_ => h_) (fun a409q h410q => ?_)
  clear h373q a372q
  refine WT.take 0 (listed' := #[true, false, true, false, false]) h410q rfl rfl (by kernel_rfl) rfl rfl (.agg #[.string (mkS p1.f0), .string (mkS p1.f1), .bool p1.f2]) (fun w_ hs_ => (run_loadN rfl rfl Tryd.underlying29 rfl (cs := ([.string (mkS p1.f0), .string (mkS p1.f1), .bool p1.f2] : List Value)) (by kernel_rfl) hs_.1)) ⟨((hS408q.bring 3 rfl rfl).cells (vs := ([.string (mkS p1.f0), .string (mkS p1.f1), .bool p1.f2] : List Value)) rfl), (hS408q.cell (i := 1) rfl), trivial⟩ (fun _ _ _ h_ => h_) (fun a411q h412q => ?_)
  clear h410q a409q
  refine WT.take 3 (listed' := #[true, false, true, true, false]) h412q rfl rfl (by kernel_rfl) rfl rfl (.int .i64 r359q.f1) (fun w_ hs_ => (run_load1 rfl rfl Tryd.underlying3 rfl hs_.2.1)) ⟨((hS408q.bring 3 rfl rfl).cells (vs := ([.string (mkS p1.f0), .string (mkS p1.f1), .bool p1.f2] : List Value)) rfl), (hS408q.cell (i := 1) rfl), trivial⟩ (fun _ _ _ h_ => h_) (fun a413q h414q => ?_)
  clear h412q a411q
  obtain ⟨r416q, A415q, H⟩ := bind1 H
  refine WT.op 1 (listed' := #[true, true, true, true, false]) h414q rfl (by kernel_rfl) rfl rfl ?_
  refine owp_call [.agg #[.string (mkS p1.f0), .string (mkS p1.f1), .bool p1.f2]] h414q rfl (by kernel_rfl) rfl Tryd.func24 (by kernel_rfl) rfl (by kernel_rfl) (louverref05qSize.calls (p0 := (⟨p1.f0, p1.f1, p1.f2⟩ : S29))  A415q hS408q) (fun e418q W417q hp419q => ?_)
  obtain ⟨rfl, hS422q⟩ := hp419q
  refine ⟨_, rfl, fun a420q h421q => ?_⟩
  clear h414q a413q
  refine ⟨.inr ⟨((hS422q.bring 3 rfl rfl).cells (vs := ([.string (mkS p1.f0), .string (mkS p1.f1), .bool p1.f2] : List Value)) rfl), (hS422q.cell (i := 1) rfl), trivial⟩, ?_⟩
  refine WT.take 4 (listed' := #[true, true, true, true, true]) h421q rfl rfl (by kernel_rfl) rfl rfl (.bool (decide (r416q > r359q.f1))) (fun _ _ => by kernel_rfl) ⟨((hS422q.bring 3 rfl rfl).cells (vs := ([.string (mkS p1.f0), .string (mkS p1.f1), .bool p1.f2] : List Value)) rfl), (hS422q.cell (i := 1) rfl), trivial⟩ (fun _ _ _ h_ => h_) (fun a423q h424q => ?_)
  clear h421q a420q
  refine WT.done (by kernel_rfl) ?_
  by_cases c425q : r416q > r359q.f1
  · rw [if_pos c425q] at H
    have hb_ : (decide (r416q > r359q.f1)) = true := decide_eq_true c425q
    try rw [hb_] at h424q
    clear hb_
    refine wp_then h424q rfl ?_
    refine wp_seq ?_
    refine WL.start ?_
    refine WL.op' (m := 0) h424q rfl rfl ?_
    refine owp_run (v := .agg #[.slice A369q r359q.f0.length c370q, .int .i64 r359q.f1]) h424q rfl (by kernel_rfl) (run_loadN rfl rfl Tryd.underlying41 rfl (cs := ([.slice A369q r359q.f0.length c370q, .int .i64 r359q.f1] : List Value)) (by kernel_rfl) (hS422q.cells (vs := ([.slice A369q r359q.f0.length c370q, .int .i64 r359q.f1] : List Value)) rfl)) (fun a426q h427q => ?_)
    clear h424q a423q
    have hS428q : St b w0 W417q R ([(g262q, .cells ([.slice none 0 0, .int .i64 0] : List Value).toArray 41 (0, 0))] :: [(g252q, .cells ([.slice A369q r359q.f0.length c370q, .int .i64 r359q.f1] : List Value).toArray 41 (0, 0))] :: M366q :: [(g257q, .cells ([.string (mkS p1.f0), .string (mkS p1.f1), .bool p1.f2] : List Value).toArray 29 (0, 0))] :: Fs) := hS422q.bring 2 rfl rfl
    refine WL.op' (m := 1) h427q rfl rfl ?_
    refine owp_store (i := 0) (vs := ([.slice A369q r359q.f0.length c370q, .int .i64 r359q.f1] : List Value)) h427q rfl (by kernel_rfl) rfl rfl rfl rfl (by simp [Value.oneCell']) (by kernel_rfl) hS428q (by simp) (cs' := ([.slice A369q r359q.f0.length c370q, .int .i64 r359q.f1] : List Value)) rfl (fun a429q W431q h430q hS432q => ?_)
    clear h427q a426q
    refine WL.done (by kernel_rfl) ?_
    refine wp_ret ?_
    have hS433q : St b w0 W431q R ([(g252q, .cells ([.slice A369q r359q.f0.length c370q, .int .i64 r359q.f1] : List Value).toArray 41 (0, 0))] :: M366q :: [(g257q, .cells ([.string (mkS p1.f0), .string (mkS p1.f1), .bool p1.f2] : List Value).toArray 29 (0, 0))] :: Fs) := hS432q.drop_
    have hS434q : St b w0 W431q R (M366q :: [(g257q, .cells ([.string (mkS p1.f0), .string (mkS p1.f1), .bool p1.f2] : List Value).toArray 29 (0, 0))] :: Fs) := hS433q.drop_
    have hS435q : St b w0 W431q R ([(g257q, .cells ([.string (mkS p1.f0), .string (mkS p1.f1), .bool p1.f2] : List Value).toArray 29 (0, 0))] :: M366q :: Fs) := hS434q.bring 1 rfl rfl
    have hS436q : St b w0 W431q R (M366q :: Fs) := hS435q.drop_
    obtain rfl := Option.some.inj H
    repeat (first | refine then_ret ?_ | refine inBlock_ret ?_ | refine inBlock_go ?_)
    refine body_ret (v := .agg #[.slice A369q r359q.f0.length c370q, .int .i64 r359q.f1]) h430q (by kernel_rfl) (res_one rfl ⟨_, rfl, loadVarN Tryd.underlying41 rfl (cs := ([.slice A369q r359q.f0.length c370q, .int .i64 r359q.f1] : List Value)) (by kernel_rfl) (hS432q.cells (vs := ([.slice A369q r359q.f0.length c370q, .int .i64 r359q.f1] : List Value)) rfl)⟩) ?_
    exact ⟨.slice A369q r359q.f0.length c370q, M366q, rfl, hr367q, hS436q⟩
  · rw [if_neg c425q] at H
    have hb_ : (decide (r416q > r359q.f1)) = false := decide_eq_false c425q
    try rw [hb_] at h424q
    clear hb_
    refine wp_else h424q rfl ?_
    refine wp_skip ?_
    refine wp_seq ?_
    refine WL.start ?_
    refine WL.block (c := 1) (m' := 1) h424q rfl [(19, .pointer (some ⟨g257q, 0, none⟩))] (by kernel_rfl) (fun a437q h438q => ?_)
    clear h424q a423q
    have hS439q : St b w0 W417q R ([(g257q, .cells ([.string (mkS p1.f0), .string (mkS p1.f1), .bool p1.f2] : List Value).toArray 29 (0, 0))] :: [(g252q, .cells ([.slice A369q r359q.f0.length c370q, .int .i64 r359q.f1] : List Value).toArray 41 (0, 0))] :: M366q :: [(g262q, .cells ([.slice none 0 0, .int .i64 0] : List Value).toArray 41 (0, 0))] :: Fs) := hS422q.bring 3 rfl rfl
    refine WL.op' (m := 1) h438q rfl rfl ?_
    refine owp_run (v := .string (mkS p1.f0)) h438q rfl (by kernel_rfl) (run_load1 rfl rfl Tryd.underlying9 rfl (hS439q.cell (i := 0) rfl)) (fun a440q h441q => ?_)
    clear h438q a437q
    refine WL.block (c := 1) (m' := 3) h441q rfl [(21, .pointer (some ⟨g257q, 1, none⟩))] (by kernel_rfl) (fun a442q h443q => ?_)
    clear h441q a440q
    refine WL.op' (m := 3) h443q rfl rfl ?_
    refine owp_run (v := .string (mkS p1.f1)) h443q rfl (by kernel_rfl) (run_load1 rfl rfl Tryd.underlying9 rfl (hS439q.cell (i := 1) rfl)) (fun a444q h445q => ?_)
    clear h443q a442q
    refine WL.block (c := 1) (m' := 5) h445q rfl [(23, .agg #[.string (mkS p1.f0), .string (mkS p1.f1), .bool false])] (by kernel_rfl) (fun a446q h447q => ?_)
    clear h445q a444q
    obtain ⟨_, hrep_, hMe_⟩ := k29qmk (b := b) (w0 := w0) (R := R) (x := (⟨p1.f0, p1.f1, false⟩ : S29)) 
    subst hMe_
    have hq448q := hrep_; clear hrep_
    refine WL.op' (m := 5) h447q rfl rfl ?_
    refine owp_new (fun g_ => .slice (some ⟨g_, 0, none⟩) 1 1) (.cells ([.string (mkS p1.f0), .string (mkS p1.f1), .bool false] : List Value).toArray 29 (0, 0)) h447q rfl (by kernel_rfl) (by kernel_rfl) hS439q (fun a449q W451q g452q h450q hS453q => ?_)
    clear h447q a446q
    have hr454q : Row k29 29 b w0 R (.slice (some ⟨g452q, 0, none⟩) 1 1) ([(⟨p1.f0, p1.f1, false⟩ : S29)] : List S29) [(g452q, .cells ([.string (mkS p1.f0), .string (mkS p1.f1), .bool false] : List Value).toArray 29 (0, 0))] := Row.lit (xs := ([(⟨p1.f0, p1.f1, false⟩ : S29)] : List S29)) (Mi := []) ⟨_, _, [], _, rfl, rfl, hq448q, ⟨rfl, rfl⟩⟩ (by simp [maxLen])
    refine WL.block (c := 1) (m' := 7) h450q rfl [(5, .slice (some ⟨g452q, 0, none⟩) 1 1)] (by kernel_rfl) (fun a455q h456q => ?_)
    clear h450q a449q
    refine WL.done (by kernel_rfl) ?_
    refine wp_seq ?_
    refine WL.start ?_
    refine WL.block (c := 2) (m' := 2) h456q rfl [(26, .pointer (some ⟨g252q, 0, none⟩)), (25, .slice (some ⟨g452q, 0, none⟩) 1 1)] (by kernel_rfl) (fun a457q h458q => ?_)
    clear h456q a455q
    have hS459q : St b w0 W451q R ([(g252q, .cells ([.slice A369q r359q.f0.length c370q, .int .i64 r359q.f1] : List Value).toArray 41 (0, 0))] :: [(g452q, .cells ([.string (mkS p1.f0), .string (mkS p1.f1), .bool false] : List Value).toArray 29 (0, 0))] :: [(g257q, .cells ([.string (mkS p1.f0), .string (mkS p1.f1), .bool p1.f2] : List Value).toArray 29 (0, 0))] :: M366q :: [(g262q, .cells ([.slice none 0 0, .int .i64 0] : List Value).toArray 41 (0, 0))] :: Fs) := hS453q.bring 2 rfl rfl
    refine WL.op' (m := 2) h458q rfl rfl ?_
    refine owp_run (v := .slice A369q r359q.f0.length c370q) h458q rfl (by kernel_rfl) (run_load1 rfl rfl Tryd.underlying23 rfl (hS459q.cell (i := 0) rfl)) (fun a460q h461q => ?_)
    clear h458q a457q
    by_cases c462q : ([(⟨p1.f0, p1.f1, false⟩ : S29)] : List S29).length + r359q.f0.length ≤ 3518437208883
    · rw [if_pos c462q] at H
      have hS463q : St b w0 W451q R (M366q :: [(g252q, .cells ([.slice A369q r359q.f0.length c370q, .int .i64 r359q.f1] : List Value).toArray 41 (0, 0))] :: [(g452q, .cells ([.string (mkS p1.f0), .string (mkS p1.f1), .bool false] : List Value).toArray 29 (0, 0))] :: [(g257q, .cells ([.string (mkS p1.f0), .string (mkS p1.f1), .bool p1.f2] : List Value).toArray 29 (0, 0))] :: [(g262q, .cells ([.slice none 0 0, .int .i64 0] : List Value).toArray 41 (0, 0))] :: Fs) := hS459q.bring 3 rfl rfl
      have hS464q : St b w0 W451q R ([(g452q, .cells ([.string (mkS p1.f0), .string (mkS p1.f1), .bool false] : List Value).toArray 29 (0, 0))] :: M366q :: [(g252q, .cells ([.slice A369q r359q.f0.length c370q, .int .i64 r359q.f1] : List Value).toArray 41 (0, 0))] :: [(g257q, .cells ([.string (mkS p1.f0), .string (mkS p1.f1), .bool p1.f2] : List Value).toArray 29 (0, 0))] :: [(g262q, .cells ([.slice none 0 0, .int .i64 0] : List Value).toArray 41 (0, 0))] :: Fs) := hS463q.bring 2 rfl rfl
      refine WL.op' (m := 3) h461q rfl rfl ?_
      refine owp_app_keep (z := .agg #[.string (mkS []), .string (mkS []), .bool false]) (bytes := 40) (dk := k29) h461q rfl (by kernel_rfl) rfl rfl rfl k29qno hr454q hr367q hS464q Tryd.underlying23 (by kernel_rfl) rfl (by decide) (by decide) (by first | omega | (simp only [List.length_cons, List.length_nil] at *; omega)) (fun a465q W467q v468q M469q h466q hr470q hS471q => ?_)
      clear h461q a460q
      obtain ⟨y472q, hy473q, H⟩ := lete H
      have hr474q : Row k29 29 b w0 R v468q y472q M469q := by rw [hy473q]; exact hr470q
      clear hr470q
      obtain ⟨A475q, c476q, rfl⟩ := hr474q.form
      refine WL.block (c := 1) (m' := 5) h466q rfl [(29, .pointer (some ⟨g252q, 0, none⟩))] (by kernel_rfl) (fun a477q h478q => ?_)
      clear h466q a465q
      have hS479q : St b w0 W467q R ([(g252q, .cells ([.slice A369q r359q.f0.length c370q, .int .i64 r359q.f1] : List Value).toArray 41 (0, 0))] :: M469q :: M366q :: [(g257q, .cells ([.string (mkS p1.f0), .string (mkS p1.f1), .bool p1.f2] : List Value).toArray 29 (0, 0))] :: [(g262q, .cells ([.slice none 0 0, .int .i64 0] : List Value).toArray 41 (0, 0))] :: Fs) := hS471q.bring 2 rfl rfl
      refine WL.op' (m := 5) h478q rfl rfl ?_
      refine owp_store (i := 0) (vs := ([.slice A475q y472q.length c476q] : List Value)) h478q rfl (by kernel_rfl) rfl rfl rfl rfl (by simp [Value.oneCell']) (by kernel_rfl) hS479q (by simp) (cs' := ([.slice A475q y472q.length c476q, .int .i64 r359q.f1] : List Value)) rfl (fun a480q W482q h481q hS483q => ?_)
      clear h478q a477q
      refine WL.done (by kernel_rfl) ?_
      refine wp_seq ?_
      refine WL.start ?_
      refine WL.op' (m := 0) h481q rfl rfl ?_
      refine owp_run (v := .agg #[.slice A475q y472q.length c476q, .int .i64 r359q.f1]) h481q rfl (by kernel_rfl) (run_loadN rfl rfl Tryd.underlying41 rfl (cs := ([.slice A475q y472q.length c476q, .int .i64 r359q.f1] : List Value)) (by kernel_rfl) (hS483q.cells (vs := ([.slice A475q y472q.length c476q, .int .i64 r359q.f1] : List Value)) rfl)) (fun a484q h485q => ?_)
      clear h481q a480q
      have hS486q : St b w0 W482q R ([(g262q, .cells ([.slice none 0 0, .int .i64 0] : List Value).toArray 41 (0, 0))] :: [(g252q, .cells ([.slice A475q y472q.length c476q, .int .i64 r359q.f1] : List Value).toArray 41 (0, 0))] :: M469q :: M366q :: [(g257q, .cells ([.string (mkS p1.f0), .string (mkS p1.f1), .bool p1.f2] : List Value).toArray 29 (0, 0))] :: Fs) := hS483q.bring 4 rfl rfl
      refine WL.op' (m := 1) h485q rfl rfl ?_
      refine owp_store (i := 0) (vs := ([.slice A475q y472q.length c476q, .int .i64 r359q.f1] : List Value)) h485q rfl (by kernel_rfl) rfl rfl rfl rfl (by simp [Value.oneCell']) (by kernel_rfl) hS486q (by simp) (cs' := ([.slice A475q y472q.length c476q, .int .i64 r359q.f1] : List Value)) rfl (fun a487q W489q h488q hS490q => ?_)
      clear h485q a484q
      refine WL.done (by kernel_rfl) ?_
      refine wp_ret ?_
      have hS491q : St b w0 W489q R ([(g252q, .cells ([.slice A475q y472q.length c476q, .int .i64 r359q.f1] : List Value).toArray 41 (0, 0))] :: M469q :: M366q :: [(g257q, .cells ([.string (mkS p1.f0), .string (mkS p1.f1), .bool p1.f2] : List Value).toArray 29 (0, 0))] :: Fs) := hS490q.drop_
      have hS492q : St b w0 W489q R (M469q :: M366q :: [(g257q, .cells ([.string (mkS p1.f0), .string (mkS p1.f1), .bool p1.f2] : List Value).toArray 29 (0, 0))] :: Fs) := hS491q.drop_
      have hS493q : St b w0 W489q R (M366q :: M469q :: [(g257q, .cells ([.string (mkS p1.f0), .string (mkS p1.f1), .bool p1.f2] : List Value).toArray 29 (0, 0))] :: Fs) := hS492q.bring 1 rfl rfl
      have hS494q : St b w0 W489q R (M469q :: [(g257q, .cells ([.string (mkS p1.f0), .string (mkS p1.f1), .bool p1.f2] : List Value).toArray 29 (0, 0))] :: Fs) := hS493q.drop_
      have hS495q : St b w0 W489q R ([(g257q, .cells ([.string (mkS p1.f0), .string (mkS p1.f1), .bool p1.f2] : List Value).toArray 29 (0, 0))] :: M469q :: Fs) := hS494q.bring 1 rfl rfl
      have hS496q : St b w0 W489q R (M469q :: Fs) := hS495q.drop_
      obtain rfl := Option.some.inj H
      repeat (first | refine then_ret ?_ | refine inBlock_ret ?_ | refine inBlock_go ?_)
      refine body_ret (v := .agg #[.slice A475q y472q.length c476q, .int .i64 r359q.f1]) h488q (by kernel_rfl) (res_one rfl ⟨_, rfl, loadVarN Tryd.underlying41 rfl (cs := ([.slice A475q y472q.length c476q, .int .i64 r359q.f1] : List Value)) (by kernel_rfl) (hS490q.cells (vs := ([.slice A475q y472q.length c476q, .int .i64 r359q.f1] : List Value)) rfl)⟩) ?_
      exact ⟨.slice A475q y472q.length c476q, M469q, rfl, hr474q, hS496q⟩
    · rw [if_neg c462q] at H
      cases H

/-! ### (louver/louverref05.T).Limit -/
def louverref05qT_Limit.f (k : Nat) (p0 : S41) (p1 : Int) : Option (S41) := bnd1 (louverref05qT_Within.f k (⟨p0.f0, p1⟩ : S41) p1) fun r67q => (some (⟨r67q.f0, r67q.f1⟩ : S41))
set_option maxHeartbeats 2000000 in
set_option maxRecDepth 100000 in
theorem louverref05qT_Limit.calls (k : Nat) {b : Nat} {w0 W : World} {R : Frag} {Fs : List Frag} {p0 : S41} {p1 : Int} {v0q0 : Value} {M0q0 : Frag} {r0q : S41} (hp0q0 : Row k29 29 b w0 R v0q0 p0.f0 M0q0) (H : louverref05qT_Limit.f k p0 p1 = some r0q) (hS : St b w0 W R (M0q0 :: Fs)) :
    Calls Tryd.prog 18 ([.agg #[v0q0, .int .i64 p0.f1], .int .i64 p1] : List Value).toArray W (fun e W' => ∃ (u0qv0qf0 : Value) (Nu0qv0qf0 : Frag), e = .returned (.agg #[u0qv0qf0, .int .i64 r0q.f1]) ∧ Row k29 29 b w0 R u0qv0qf0 r0q.f0 Nu0qv0qf0 ∧ St b w0 W' R (Nu0qv0qf0 :: Fs)) := by
  obtain ⟨A0q0, c0q0, rfl⟩ := hp0q0.form
  unfold louverref05qT_Limit.f at H
  refine calls_enter Tryd.func18 rfl 10 rfl (by kernel_rfl) (fun a h => ?_)
  refine wp_seq ?_
  refine WL.start ?_
  refine WL.op' (m := 0) h rfl rfl ?_
  refine owp_new (fun g_ => .pointer (some ⟨g_, 0, none⟩)) (.cells ([.slice A0q0 p0.f0.length c0q0, .int .i64 p0.f1] : List Value).toArray 41 (0, 0)) h rfl (by kernel_rfl) (by kernel_rfl) hS (fun a44q W46q g47q h45q hS48q => ?_)
  refine WL.op' (m := 1) h45q rfl rfl ?_
  refine owp_new (fun g_ => .pointer (some ⟨g_, 0, none⟩)) (.cells ([.slice none 0 0, .int .i64 0] : List Value).toArray 41 (0, 0)) h45q rfl (by kernel_rfl) (by kernel_rfl) hS48q (fun a49q W51q g52q h50q hS53q => ?_)
  clear h45q a44q
  refine WL.done (by kernel_rfl) ?_
  refine wp_seq ?_
  refine WL.start ?_
  refine WL.block (c := 2) (m' := 2) h50q rfl [(6, .pointer (some ⟨g47q, 1, none⟩)), (5, .int .i64 p1)] (by kernel_rfl) (fun a54q h55q => ?_)
  clear h50q a49q
  have hS56q : St b w0 W51q R ([(g47q, .cells ([.slice A0q0 p0.f0.length c0q0, .int .i64 p0.f1] : List Value).toArray 41 (0, 0))] :: [(g52q, .cells ([.slice none 0 0, .int .i64 0] : List Value).toArray 41 (0, 0))] :: M0q0 :: Fs) := hS53q.bring 1 rfl rfl
  refine WL.op' (m := 2) h55q rfl rfl ?_
  refine owp_store (i := 1) (vs := ([.int .i64 p1] : List Value)) h55q rfl (by kernel_rfl) rfl rfl rfl rfl (by simp [Value.oneCell']) (by kernel_rfl) hS56q (by simp) (cs' := ([.slice A0q0 p0.f0.length c0q0, .int .i64 p1] : List Value)) rfl (fun a57q W59q h58q hS60q => ?_)
  clear h55q a54q
  refine WL.done (by kernel_rfl) ?_
  refine wp_seq ?_
  refine WL.start ?_
  refine WL.op' (m := 0) h58q rfl rfl ?_
  refine owp_run (v := .agg #[.slice A0q0 p0.f0.length c0q0, .int .i64 p1]) h58q rfl (by kernel_rfl) (run_loadN rfl rfl Tryd.underlying41 rfl (cs := ([.slice A0q0 p0.f0.length c0q0, .int .i64 p1] : List Value)) (by kernel_rfl) (hS60q.cells (vs := ([.slice A0q0 p0.f0.length c0q0, .int .i64 p1] : List Value)) rfl)) (fun a61q h62q => ?_)
  clear h58q a57q
  refine WL.block (c := 1) (m' := 2) h62q rfl [(8, .int .i64 p1)] (by kernel_rfl) (fun a63q h64q => ?_)
  clear h62q a61q
  have hS65q : St b w0 W59q R (M0q0 :: [(g47q, .cells ([.slice A0q0 p0.f0.length c0q0, .int .i64 p1] : List Value).toArray 41 (0, 0))] :: [(g52q, .cells ([.slice none 0 0, .int .i64 0] : List Value).toArray 41 (0, 0))] :: Fs) := hS60q.bring 2 rfl rfl
  obtain ⟨r67q, A66q, H⟩ := bind1 H
  refine WL.op' (m := 2) h64q rfl rfl ?_
  refine owp_call [.agg #[.slice A0q0 p0.f0.length c0q0, .int .i64 p1], .int .i64 p1] h64q rfl (by kernel_rfl) rfl Tryd.func29 (by kernel_rfl) rfl (by kernel_rfl) (louverref05qT_Within.calls (p0 := (⟨p0.f0, p1⟩ : S41)) k hp0q0 A66q hS65q) (fun e69q W68q hp70q => ?_)
  obtain ⟨v73q, M74q, rfl, hr75q, hS76q⟩ := hp70q
  refine ⟨_, rfl, fun a71q h72q => ?_⟩
  clear h64q a63q
  obtain ⟨A77q, c78q, rfl⟩ := hr75q.form
  have hS79q : St b w0 W68q R ([(g52q, .cells ([.slice none 0 0, .int .i64 0] : List Value).toArray 41 (0, 0))] :: M74q :: [(g47q, .cells ([.slice A0q0 p0.f0.length c0q0, .int .i64 p1] : List Value).toArray 41 (0, 0))] :: Fs) := hS76q.bring 2 rfl rfl
  refine WL.op' (m := 3) h72q rfl rfl ?_
  refine owp_store (i := 0) (vs := ([.slice A77q r67q.f0.length c78q, .int .i64 r67q.f1] : List Value)) h72q rfl (by kernel_rfl) rfl rfl rfl rfl (by simp [Value.oneCell']) (by kernel_rfl) hS79q (by simp) (cs' := ([.slice A77q r67q.f0.length c78q, .int .i64 r67q.f1] : List Value)) rfl (fun a80q W82q h81q hS83q => ?_)
  clear h72q a71q
  refine WL.done (by kernel_rfl) ?_
  refine wp_ret ?_
  have hS84q : St b w0 W82q R (M74q :: [(g47q, .cells ([.slice A0q0 p0.f0.length c0q0, .int .i64 p1] : List Value).toArray 41 (0, 0))] :: Fs) := hS83q.drop_
  have hS85q : St b w0 W82q R ([(g47q, .cells ([.slice A0q0 p0.f0.length c0q0, .int .i64 p1] : List Value).toArray 41 (0, 0))] :: M74q :: Fs) := hS84q.bring 1 rfl rfl
  have hS86q : St b w0 W82q R (M74q :: Fs) := hS85q.drop_
  obtain rfl := Option.some.inj H
  repeat (first | refine then_ret ?_ | refine inBlock_ret ?_ | refine inBlock_go ?_)
  refine body_ret (v := .agg #[.slice A77q r67q.f0.length c78q, .int .i64 r67q.f1]) h81q (by kernel_rfl) (res_one rfl ⟨_, rfl, loadVarN Tryd.underlying41 rfl (cs := ([.slice A77q r67q.f0.length c78q, .int .i64 r67q.f1] : List Value)) (by kernel_rfl) (hS83q.cells (vs := ([.slice A77q r67q.f0.length c78q, .int .i64 r67q.f1] : List Value)) rfl)⟩) ?_
  exact ⟨.slice A77q r67q.f0.length c78q, M74q, rfl, hr75q, hS86q⟩

/-! ### louver/louverref04.Table -/
def louverref04qTable.f  : Option ((List (List UInt8))) := some ([([58, 97, 117, 116, 104, 111, 114, 105, 116, 121] : List UInt8), ([] : List UInt8), ([58, 109, 101, 116, 104, 111, 100] : List UInt8), ([71, 69, 84] : List UInt8), ([58, 109, 101, 116, 104, 111, 100] : List UInt8), ([80, 79, 83, 84] : List UInt8), ([58, 112, 97, 116, 104] : List UInt8), ([47] : List UInt8), ([58, 112, 97, 116, 104] : List UInt8), ([47, 105, 110, 100, 101, 120, 46, 104, 116, 109, 108] : List UInt8), ([58, 115, 99, 104, 101, 109, 101] : List UInt8), ([104, 116, 116, 112] : List UInt8), ([58, 115, 99, 104, 101, 109, 101] : List UInt8), ([104, 116, 116, 112, 115] : List UInt8), ([58, 115, 116, 97, 116, 117, 115] : List UInt8), ([50, 48, 48] : List UInt8), ([58, 115, 116, 97, 116, 117, 115] : List UInt8), ([50, 48, 52] : List UInt8), ([58, 115, 116, 97, 116, 117, 115] : List UInt8), ([50, 48, 54] : List UInt8), ([58, 115, 116, 97, 116, 117, 115] : List UInt8), ([51, 48, 52] : List UInt8), ([58, 115, 116, 97, 116, 117, 115] : List UInt8), ([52, 48, 48] : List UInt8), ([58, 115, 116, 97, 116, 117, 115] : List UInt8), ([52, 48, 52] : List UInt8), ([58, 115, 116, 97, 116, 117, 115] : List UInt8), ([53, 48, 48] : List UInt8), ([97, 99, 99, 101, 112, 116, 45, 99, 104, 97, 114, 115, 101, 116] : List UInt8), ([] : List UInt8), ([97, 99, 99, 101, 112, 116, 45, 101, 110, 99, 111, 100, 105, 110, 103] : List UInt8), ([103, 122, 105, 112, 44, 32, 100, 101, 102, 108, 97, 116, 101] : List UInt8), ([97, 99, 99, 101, 112, 116, 45, 108, 97, 110, 103, 117, 97, 103, 101] : List UInt8), ([] : List UInt8), ([97, 99, 99, 101, 112, 116, 45, 114, 97, 110, 103, 101, 115] : List UInt8), ([] : List UInt8), ([97, 99, 99, 101, 112, 116] : List UInt8), ([] : List UInt8), ([97, 99, 99, 101, 115, 115, 45, 99, 111, 110, 116, 114, 111, 108, 45, 97, 108, 108, 111, 119, 45, 111, 114, 105, 103, 105, 110] : List UInt8), ([] : List UInt8), ([97, 103, 101] : List UInt8), ([] : List UInt8), ([97, 108, 108, 111, 119] : List UInt8), ([] : List UInt8), ([97, 117, 116, 104, 111, 114, 105, 122, 97, 116, 105, 111, 110] : List UInt8), ([] : List UInt8), ([99, 97, 99, 104, 101, 45, 99, 111, 110, 116, 114, 111, 108] : List UInt8), ([] : List UInt8), ([99, 111, 110, 116, 101, 110, 116, 45, 100, 105, 115, 112, 111, 115, 105, 116, 105, 111, 110] : List UInt8), ([] : List UInt8), ([99, 111, 110, 116, 101, 110, 116, 45, 101, 110, 99, 111, 100, 105, 110, 103] : List UInt8), ([] : List UInt8), ([99, 111, 110, 116, 101, 110, 116, 45, 108, 97, 110, 103, 117, 97, 103, 101] : List UInt8), ([] : List UInt8), ([99, 111, 110, 116, 101, 110, 116, 45, 108, 101, 110, 103, 116, 104] : List UInt8), ([] : List UInt8), ([99, 111, 110, 116, 101, 110, 116, 45, 108, 111, 99, 97, 116, 105, 111, 110] : List UInt8), ([] : List UInt8), ([99, 111, 110, 116, 101, 110, 116, 45, 114, 97, 110, 103, 101] : List UInt8), ([] : List UInt8), ([99, 111, 110, 116, 101, 110, 116, 45, 116, 121, 112, 101] : List UInt8), ([] : List UInt8), ([99, 111, 111, 107, 105, 101] : List UInt8), ([] : List UInt8), ([100, 97, 116, 101] : List UInt8), ([] : List UInt8), ([101, 116, 97, 103] : List UInt8), ([] : List UInt8), ([101, 120, 112, 101, 99, 116] : List UInt8), ([] : List UInt8), ([101, 120, 112, 105, 114, 101, 115] : List UInt8), ([] : List UInt8), ([102, 114, 111, 109] : List UInt8), ([] : List UInt8), ([104, 111, 115, 116] : List UInt8), ([] : List UInt8), ([105, 102, 45, 109, 97, 116, 99, 104] : List UInt8), ([] : List UInt8), ([105, 102, 45, 109, 111, 100, 105, 102, 105, 101, 100, 45, 115, 105, 110, 99, 101] : List UInt8), ([] : List UInt8), ([105, 102, 45, 110, 111, 110, 101, 45, 109, 97, 116, 99, 104] : List UInt8), ([] : List UInt8), ([105, 102, 45, 114, 97, 110, 103, 101] : List UInt8), ([] : List UInt8), ([105, 102, 45, 117, 110, 109, 111, 100, 105, 102, 105, 101, 100, 45, 115, 105, 110, 99, 101] : List UInt8), ([] : List UInt8), ([108, 97, 115, 116, 45, 109, 111, 100, 105, 102, 105, 101, 100] : List UInt8), ([] : List UInt8), ([108, 105, 110, 107] : List UInt8), ([] : List UInt8), ([108, 111, 99, 97, 116, 105, 111, 110] : List UInt8), ([] : List UInt8), ([109, 97, 120, 45, 102, 111, 114, 119, 97, 114, 100, 115] : List UInt8), ([] : List UInt8), ([112, 114, 111, 120, 121, 45, 97, 117, 116, 104, 101, 110, 116, 105, 99, 97, 116, 101] : List UInt8), ([] : List UInt8), ([112, 114, 111, 120, 121, 45, 97, 117, 116, 104, 111, 114, 105, 122, 97, 116, 105, 111, 110] : List UInt8), ([] : List UInt8), ([114, 97, 110, 103, 101] : List UInt8), ([] : List UInt8), ([114, 101, 102, 101, 114, 101, 114] : List UInt8), ([] : List UInt8), ([114, 101, 102, 114, 101, 115, 104] : List UInt8), ([] : List UInt8), ([114, 101, 116, 114, 121, 45, 97, 102, 116, 101, 114] : List UInt8), ([] : List UInt8), ([115, 101, 114, 118, 101, 114] : List UInt8), ([] : List UInt8), ([115, 101, 116, 45, 99, 111, 111, 107, 105, 101] : List UInt8), ([] : List UInt8), ([115, 116, 114, 105, 99, 116, 45, 116, 114, 97, 110, 115, 112, 111, 114, 116, 45, 115, 101, 99, 117, 114, 105, 116, 121] : List UInt8), ([] : List UInt8), ([116, 114, 97, 110, 115, 102, 101, 114, 45, 101, 110, 99, 111, 100, 105, 110, 103] : List UInt8), ([] : List UInt8), ([117, 115, 101, 114, 45, 97, 103, 101, 110, 116] : List UInt8), ([] : List UInt8), ([118, 97, 114, 121] : List UInt8), ([] : List UInt8), ([118, 105, 97] : List UInt8), ([] : List UInt8), ([119, 119, 119, 45, 97, 117, 116, 104, 101, 110, 116, 105, 99, 97, 116, 101] : List UInt8), ([] : List UInt8)] : List (List UInt8))
set_option maxHeartbeats 2000000 in
set_option maxRecDepth 100000 in
theorem louverref04qTable.calls {b : Nat} {w0 W : World} {R : Frag} {Fs : List Frag}   {r0q : (List (List UInt8))}  (H : louverref04qTable.f = some r0q) (hS : St b w0 W R (Fs)) :
    Calls Tryd.prog 33 ([] : List Value).toArray W (fun e W' => ∃ (u0q : Value) (N0q : Frag), e = .returned (u0q) ∧ Row kStr 9 b w0 R u0q r0q N0q ∧ St b w0 W' R (N0q :: Fs)) := by
  unfold louverref04qTable.f at H
  refine calls_enter Tryd.func33 rfl 2 rfl (by kernel_rfl) (fun a h => ?_)
  refine wp_seq ?_
  refine WL.start ?_
  refine WL.block (c := 1) (m' := 1) h rfl [(0, .slice none 0 0)] (by kernel_rfl) (fun a11q h12q => ?_)
  refine WL.done (by kernel_rfl) ?_
  refine wp_seq ?_
  refine WL.start ?_
  refine WL.op' (m := 0) h12q rfl rfl ?_
  refine owp_new (fun g_ => .slice (some ⟨g_, 0, none⟩) 122 122) (.cells ([.string (mkS ([58, 97, 117, 116, 104, 111, 114, 105, 116, 121] : List UInt8)), .string (mkS ([] : List UInt8)), .string (mkS ([58, 109, 101, 116, 104, 111, 100] : List UInt8)), .string (mkS ([71, 69, 84] : List UInt8)), .string (mkS ([58, 109, 101, 116, 104, 111, 100] : List UInt8)), .string (mkS ([80, 79, 83, 84] : List UInt8)), .string (mkS ([58, 112, 97, 116, 104] : List UInt8)), .string (mkS ([47] : List UInt8)), .string (mkS ([58, 112, 97, 116, 104] : List UInt8)), .string (mkS ([47, 105, 110, 100, 101, 120, 46, 104, 116, 109, 108] : List UInt8)), .string (mkS ([58, 115, 99, 104, 101, 109, 101] : List UInt8)), .string (mkS ([104, 116, 116, 112] : List UInt8)), .string (mkS ([58, 115, 99, 104, 101, 109, 101] : List UInt8)), .string (mkS ([104, 116, 116, 112, 115] : List UInt8)), .string (mkS ([58, 115, 116, 97, 116, 117, 115] : List UInt8)), .string (mkS ([50, 48, 48] : List UInt8)), .string (mkS ([58, 115, 116, 97, 116, 117, 115] : List UInt8)), .string (mkS ([50, 48, 52] : List UInt8)), .string (mkS ([58, 115, 116, 97, 116, 117, 115] : List UInt8)), .string (mkS ([50, 48, 54] : List UInt8)), .string (mkS ([58, 115, 116, 97, 116, 117, 115] : List UInt8)), .string (mkS ([51, 48, 52] : List UInt8)), .string (mkS ([58, 115, 116, 97, 116, 117, 115] : List UInt8)), .string (mkS ([52, 48, 48] : List UInt8)), .string (mkS ([58, 115, 116, 97, 116, 117, 115] : List UInt8)), .string (mkS ([52, 48, 52] : List UInt8)), .string (mkS ([58, 115, 116, 97, 116, 117, 115] : List UInt8)), .string (mkS ([53, 48, 48] : List UInt8)), .string (mkS ([97, 99, 99, 101, 112, 116, 45, 99, 104, 97, 114, 115, 101, 116] : List UInt8)), .string (mkS ([] : List UInt8)), .string (mkS ([97, 99, 99, 101, 112, 116, 45, 101, 110, 99, 111, 100, 105, 110, 103] : List UInt8)), .string (mkS ([103, 122, 105, 112, 44, 32, 100, 101, 102, 108, 97, 116, 101] : List UInt8)), .string (mkS ([97, 99, 99, 101, 112, 116, 45, 108, 97, 110, 103, 117, 97, 103, 101] : List UInt8)), .string (mkS ([] : List UInt8)), .string (mkS ([97, 99, 99, 101, 112, 116, 45, 114, 97, 110, 103, 101, 115] : List UInt8)), .string (mkS ([] : List UInt8)), .string (mkS ([97, 99, 99, 101, 112, 116] : List UInt8)), .string (mkS ([] : List UInt8)), .string (mkS ([97, 99, 99, 101, 115, 115, 45, 99, 111, 110, 116, 114, 111, 108, 45, 97, 108, 108, 111, 119, 45, 111, 114, 105, 103, 105, 110] : List UInt8)), .string (mkS ([] : List UInt8)), .string (mkS ([97, 103, 101] : List UInt8)), .string (mkS ([] : List UInt8)), .string (mkS ([97, 108, 108, 111, 119] : List UInt8)), .string (mkS ([] : List UInt8)), .string (mkS ([97, 117, 116, 104, 111, 114, 105, 122, 97, 116, 105, 111, 110] : List UInt8)), .string (mkS ([] : List UInt8)), .string (mkS ([99, 97, 99, 104, 101, 45, 99, 111, 110, 116, 114, 111, 108] : List UInt8)), .string (mkS ([] : List UInt8)), .string (mkS ([99, 111, 110, 116, 101, 110, 116, 45, 100, 105, 115, 112, 111, 115, 105, 116, 105, 111, 110] : List UInt8)), .string (mkS ([] : List UInt8)), .string (mkS ([99, 111, 110, 116, 101, 110, 116, 45, 101, 110, 99, 111, 100, 105, 110, 103] : List UInt8)), .string (mkS ([] : List UInt8)), .string (mkS ([99, 111, 110, 116, 101, 110, 116, 45, 108, 97, 110, 103, 117, 97, 103, 101] : List UInt8)), .string (mkS ([] : List UInt8)), .string (mkS ([99, 111, 110, 116, 101, 110, 116, 45, 108, 101, 110, 103, 116, 104] : List UInt8)), .string (mkS ([] : List UInt8)), .string (mkS ([99, 111, 110, 116, 101, 110, 116, 45, 108, 111, 99, 97, 116, 105, 111, 110] : List UInt8)), .string (mkS ([] : List UInt8)), .string (mkS ([99, 111, 110, 116, 101, 110, 116, 45, 114, 97, 110, 103, 101] : List UInt8)), .string (mkS ([] : List UInt8)), .string (mkS ([99, 111, 110, 116, 101, 110, 116, 45, 116, 121, 112, 101] : List UInt8)), .string (mkS ([] : List UInt8)), .string (mkS ([99, 111, 111, 107, 105, 101] : List UInt8)), .string (mkS ([] : List UInt8)), .string (mkS ([100, 97, 116, 101] : List UInt8)), .string (mkS ([] : List UInt8)), .string (mkS ([101, 116, 97, 103] : List UInt8)), .string (mkS ([] : List UInt8)), .string (mkS ([101, 120, 112, 101, 99, 116] : List UInt8)), .string (mkS ([] : List UInt8)), .string (mkS ([101, 120, 112, 105, 114, 101, 115] : List UInt8)), .string (mkS ([] : List UInt8)), .string (mkS ([102, 114, 111, 109] : List UInt8)), .string (mkS ([] : List UInt8)), .string (mkS ([104, 111, 115, 116] : List UInt8)), .string (mkS ([] : List UInt8)), .string (mkS ([105, 102, 45, 109, 97, 116, 99, 104] : List UInt8)), .string (mkS ([] : List UInt8)), .string (mkS ([105, 102, 45, 109, 111, 100, 105, 102, 105, 101, 100, 45, 115, 105, 110, 99, 101] : List UInt8)), .string (mkS ([] : List UInt8)), .string (mkS ([105, 102, 45, 110, 111, 110, 101, 45, 109, 97, 116, 99, 104] : List UInt8)), .string (mkS ([] : List UInt8)), .string (mkS ([105, 102, 45, 114, 97, 110, 103, 101] : List UInt8)), .string (mkS ([] : List UInt8)), .string (mkS ([105, 102, 45, 117, 110, 109, 111, 100, 105, 102, 105, 101, 100, 45, 115, 105, 110, 99, 101] : List UInt8)), .string (mkS ([] : List UInt8)), .string (mkS ([108, 97, 115, 116, 45, 109, 111, 100, 105, 102, 105, 101, 100] : List UInt8)), .string (mkS ([] : List UInt8)), .string (mkS ([108, 105, 110, 107] : List UInt8)), .string (mkS ([] : List UInt8)), .string (mkS ([108, 111, 99, 97, 116, 105, 111, 110] : List UInt8)), .string (mkS ([] : List UInt8)), .string (mkS ([109, 97, 120, 45, 102, 111, 114, 119, 97, 114, 100, 115] : List UInt8)), .string (mkS ([] : List UInt8)), .string (mkS ([112, 114, 111, 120, 121, 45, 97, 117, 116, 104, 101, 110, 116, 105, 99, 97, 116, 101] : List UInt8)), .string (mkS ([] : List UInt8)), .string (mkS ([112, 114, 111, 120, 121, 45, 97, 117, 116, 104, 111, 114, 105, 122, 97, 116, 105, 111, 110] : List UInt8)), .string (mkS ([] : List UInt8)), .string (mkS ([114, 97, 110, 103, 101] : List UInt8)), .string (mkS ([] : List UInt8)), .string (mkS ([114, 101, 102, 101, 114, 101, 114] : List UInt8)), .string (mkS ([] : List UInt8)), .string (mkS ([114, 101, 102, 114, 101, 115, 104] : List UInt8)), .string (mkS ([] : List UInt8)), .string (mkS ([114, 101, 116, 114, 121, 45, 97, 102, 116, 101, 114] : List UInt8)), .string (mkS ([] : List UInt8)), .string (mkS ([115, 101, 114, 118, 101, 114] : List UInt8)), .string (mkS ([] : List UInt8)), .string (mkS ([115, 101, 116, 45, 99, 111, 111, 107, 105, 101] : List UInt8)), .string (mkS ([] : List UInt8)), .string (mkS ([115, 116, 114, 105, 99, 116, 45, 116, 114, 97, 110, 115, 112, 111, 114, 116, 45, 115, 101, 99, 117, 114, 105, 116, 121] : List UInt8)), .string (mkS ([] : List UInt8)), .string (mkS ([116, 114, 97, 110, 115, 102, 101, 114, 45, 101, 110, 99, 111, 100, 105, 110, 103] : List UInt8)), .string (mkS ([] : List UInt8)), .string (mkS ([117, 115, 101, 114, 45, 97, 103, 101, 110, 116] : List UInt8)), .string (mkS ([] : List UInt8)), .string (mkS ([118, 97, 114, 121] : List UInt8)), .string (mkS ([] : List UInt8)), .string (mkS ([118, 105, 97] : List UInt8)), .string (mkS ([] : List UInt8)), .string (mkS ([119, 119, 119, 45, 97, 117, 116, 104, 101, 110, 116, 105, 99, 97, 116, 101] : List UInt8)), .string (mkS ([] : List UInt8))] : List Value).toArray 9 (0, 0)) h12q rfl (by kernel_rfl) (by kernel_rfl) hS (fun a13q W15q g16q h14q hS17q => ?_)
  clear h12q a11q
  have hr18q : Row kStr 9 b w0 R (.slice (some ⟨g16q, 0, none⟩) 122 122) ([([58, 97, 117, 116, 104, 111, 114, 105, 116, 121] : List UInt8), ([] : List UInt8), ([58, 109, 101, 116, 104, 111, 100] : List UInt8), ([71, 69, 84] : List UInt8), ([58, 109, 101, 116, 104, 111, 100] : List UInt8), ([80, 79, 83, 84] : List UInt8), ([58, 112, 97, 116, 104] : List UInt8), ([47] : List UInt8), ([58, 112, 97, 116, 104] : List UInt8), ([47, 105, 110, 100, 101, 120, 46, 104, 116, 109, 108] : List UInt8), ([58, 115, 99, 104, 101, 109, 101] : List UInt8), ([104, 116, 116, 112] : List UInt8), ([58, 115, 99, 104, 101, 109, 101] : List UInt8), ([104, 116, 116, 112, 115] : List UInt8), ([58, 115, 116, 97, 116, 117, 115] : List UInt8), ([50, 48, 48] : List UInt8), ([58, 115, 116, 97, 116, 117, 115] : List UInt8), ([50, 48, 52] : List UInt8), ([58, 115, 116, 97, 116, 117, 115] : List UInt8), ([50, 48, 54] : List UInt8), ([58, 115, 116, 97, 116, 117, 115] : List UInt8), ([51, 48, 52] : List UInt8), ([58, 115, 116, 97, 116, 117, 115] : List UInt8), ([52, 48, 48] : List UInt8), ([58, 115, 116, 97, 116, 117, 115] : List UInt8), ([52, 48, 52] : List UInt8), ([58, 115, 116, 97, 116, 117, 115] : List UInt8), ([53, 48, 48] : List UInt8), ([97, 99, 99, 101, 112, 116, 45, 99, 104, 97, 114, 115, 101, 116] : List UInt8), ([] : List UInt8), ([97, 99, 99, 101, 112, 116, 45, 101, 110, 99, 111, 100, 105, 110, 103] : List UInt8), ([103, 122, 105, 112, 44, 32, 100, 101, 102, 108, 97, 116, 101] : List UInt8), ([97, 99, 99, 101, 112, 116, 45, 108, 97, 110, 103, 117, 97, 103, 101] : List UInt8), ([] : List UInt8), ([97, 99, 99, 101, 112, 116, 45, 114, 97, 110, 103, 101, 115] : List UInt8), ([] : List UInt8), ([97, 99, 99, 101, 112, 116] : List UInt8), ([] : List UInt8), ([97, 99, 99, 101, 115, 115, 45, 99, 111, 110, 116, 114, 111, 108, 45, 97, 108, 108, 111, 119, 45, 111, 114, 105, 103, 105, 110] : List UInt8), ([] : List UInt8), ([97, 103, 101] : List UInt8), ([] : List UInt8), ([97, 108, 108, 111, 119] : List UInt8), ([] : List UInt8), ([97, 117, 116, 104, 111, 114, 105, 122, 97, 116, 105, 111, 110] : List UInt8), ([] : List UInt8), ([99, 97, 99, 104, 101, 45, 99, 111, 110, 116, 114, 111, 108] : List UInt8), ([] : List UInt8), ([99, 111, 110, 116, 101, 110, 116, 45, 100, 105, 115, 112, 111, 115, 105, 116, 105, 111, 110] : List UInt8), ([] : List UInt8), ([99, 111, 110, 116, 101, 110, 116, 45, 101, 110, 99, 111, 100, 105, 110, 103] : List UInt8), ([] : List UInt8), ([99, 111, 110, 116, 101, 110, 116, 45, 108, 97, 110, 103, 117, 97, 103, 101] : List UInt8), ([] : List UInt8), ([99, 111, 110, 116, 101, 110, 116, 45, 108, 101, 110, 103, 116, 104] : List UInt8), ([] : List UInt8), ([99, 111, 110, 116, 101, 110, 116, 45, 108, 111, 99, 97, 116, 105, 111, 110] : List UInt8), ([] : List UInt8), ([99, 111, 110, 116, 101, 110, 116, 45, 114, 97, 110, 103, 101] : List UInt8), ([] : List UInt8), ([99, 111, 110, 116, 101, 110, 116, 45, 116, 121, 112, 101] : List UInt8), ([] : List UInt8), ([99, 111, 111, 107, 105, 101] : List UInt8), ([] : List UInt8), ([100, 97, 116, 101] : List UInt8), ([] : List UInt8), ([101, 116, 97, 103] : List UInt8), ([] : List UInt8), ([101, 120, 112, 101, 99, 116] : List UInt8), ([] : List UInt8), ([101, 120, 112, 105, 114, 101, 115] : List UInt8), ([] : List UInt8), ([102, 114, 111, 109] : List UInt8), ([] : List UInt8), ([104, 111, 115, 116] : List UInt8), ([] : List UInt8), ([105, 102, 45, 109, 97, 116, 99, 104] : List UInt8), ([] : List UInt8), ([105, 102, 45, 109, 111, 100, 105, 102, 105, 101, 100, 45, 115, 105, 110, 99, 101] : List UInt8), ([] : List UInt8), ([105, 102, 45, 110, 111, 110, 101, 45, 109, 97, 116, 99, 104] : List UInt8), ([] : List UInt8), ([105, 102, 45, 114, 97, 110, 103, 101] : List UInt8), ([] : List UInt8), ([105, 102, 45, 117, 110, 109, 111, 100, 105, 102, 105, 101, 100, 45, 115, 105, 110, 99, 101] : List UInt8), ([] : List UInt8), ([108, 97, 115, 116, 45, 109, 111, 100, 105, 102, 105, 101, 100] : List UInt8), ([] : List UInt8), ([108, 105, 110, 107] : List UInt8), ([] : List UInt8), ([108, 111, 99, 97, 116, 105, 111, 110] : List UInt8), ([] : List UInt8), ([109, 97, 120, 45, 102, 111, 114, 119, 97, 114, 100, 115] : List UInt8), ([] : List UInt8), ([112, 114, 111, 120, 121, 45, 97, 117, 116, 104, 101, 110, 116, 105, 99, 97, 116, 101] : List UInt8), ([] : List UInt8), ([112, 114, 111, 120, 121, 45, 97, 117, 116, 104, 111, 114, 105, 122, 97, 116, 105, 111, 110] : List UInt8), ([] : List UInt8), ([114, 97, 110, 103, 101] : List UInt8), ([] : List UInt8), ([114, 101, 102, 101, 114, 101, 114] : List UInt8), ([] : List UInt8), ([114, 101, 102, 114, 101, 115, 104] : List UInt8), ([] : List UInt8), ([114, 101, 116, 114, 121, 45, 97, 102, 116, 101, 114] : List UInt8), ([] : List UInt8), ([115, 101, 114, 118, 101, 114] : List UInt8), ([] : List UInt8), ([115, 101, 116, 45, 99, 111, 111, 107, 105, 101] : List UInt8), ([] : List UInt8), ([115, 116, 114, 105, 99, 116, 45, 116, 114, 97, 110, 115, 112, 111, 114, 116, 45, 115, 101, 99, 117, 114, 105, 116, 121] : List UInt8), ([] : List UInt8), ([116, 114, 97, 110, 115, 102, 101, 114, 45, 101, 110, 99, 111, 100, 105, 110, 103] : List UInt8), ([] : List UInt8), ([117, 115, 101, 114, 45, 97, 103, 101, 110, 116] : List UInt8), ([] : List UInt8), ([118, 97, 114, 121] : List UInt8), ([] : List UInt8), ([118, 105, 97] : List UInt8), ([] : List UInt8), ([119, 119, 119, 45, 97, 117, 116, 104, 101, 110, 116, 105, 99, 97, 116, 101] : List UInt8), ([] : List UInt8)] : List (List UInt8)) [(g16q, .cells ([.string (mkS ([58, 97, 117, 116, 104, 111, 114, 105, 116, 121] : List UInt8)), .string (mkS ([] : List UInt8)), .string (mkS ([58, 109, 101, 116, 104, 111, 100] : List UInt8)), .string (mkS ([71, 69, 84] : List UInt8)), .string (mkS ([58, 109, 101, 116, 104, 111, 100] : List UInt8)), .string (mkS ([80, 79, 83, 84] : List UInt8)), .string (mkS ([58, 112, 97, 116, 104] : List UInt8)), .string (mkS ([47] : List UInt8)), .string (mkS ([58, 112, 97, 116, 104] : List UInt8)), .string (mkS ([47, 105, 110, 100, 101, 120, 46, 104, 116, 109, 108] : List UInt8)), .string (mkS ([58, 115, 99, 104, 101, 109, 101] : List UInt8)), .string (mkS ([104, 116, 116, 112] : List UInt8)), .string (mkS ([58, 115, 99, 104, 101, 109, 101] : List UInt8)), .string (mkS ([104, 116, 116, 112, 115] : List UInt8)), .string (mkS ([58, 115, 116, 97, 116, 117, 115] : List UInt8)), .string (mkS ([50, 48, 48] : List UInt8)), .string (mkS ([58, 115, 116, 97, 116, 117, 115] : List UInt8)), .string (mkS ([50, 48, 52] : List UInt8)), .string (mkS ([58, 115, 116, 97, 116, 117, 115] : List UInt8)), .string (mkS ([50, 48, 54] : List UInt8)), .string (mkS ([58, 115, 116, 97, 116, 117, 115] : List UInt8)), .string (mkS ([51, 48, 52] : List UInt8)), .string (mkS ([58, 115, 116, 97, 116, 117, 115] : List UInt8)), .string (mkS ([52, 48, 48] : List UInt8)), .string (mkS ([58, 115, 116, 97, 116, 117, 115] : List UInt8)), .string (mkS ([52, 48, 52] : List UInt8)), .string (mkS ([58, 115, 116, 97, 116, 117, 115] : List UInt8)), .string (mkS ([53, 48, 48] : List UInt8)), .string (mkS ([97, 99, 99, 101, 112, 116, 45, 99, 104, 97, 114, 115, 101, 116] : List UInt8)), .string (mkS ([] : List UInt8)), .string (mkS ([97, 99, 99, 101, 112, 116, 45, 101, 110, 99, 111, 100, 105, 110, 103] : List UInt8)), .string (mkS ([103, 122, 105, 112, 44, 32, 100, 101, 102, 108, 97, 116, 101] : List UInt8)), .string (mkS ([97, 99, 99, 101, 112, 116, 45, 108, 97, 110, 103, 117, 97, 103, 101] : List UInt8)), .string (mkS ([] : List UInt8)), .string (mkS ([97, 99, 99, 101, 112, 116, 45, 114, 97, 110, 103, 101, 115] : List UInt8)), .string (mkS ([] : List UInt8)), .string (mkS ([97, 99, 99, 101, 112, 116] : List UInt8)), .string (mkS ([] : List UInt8)), .string (mkS ([97, 99, 99, 101, 115, 115, 45, 99, 111, 110, 116, 114, 111, 108, 45, 97, 108, 108, 111, 119, 45, 111, 114, 105, 103, 105, 110] : List UInt8)), .string (mkS ([] : List UInt8)), .string (mkS ([97, 103, 101] : List UInt8)), .string (mkS ([] : List UInt8)), .string (mkS ([97, 108, 108, 111, 119] : List UInt8)), .string (mkS ([] : List UInt8)), .string (mkS ([97, 117, 116, 104, 111, 114, 105, 122, 97, 116, 105, 111, 110] : List UInt8)), .string (mkS ([] : List UInt8)), .string (mkS ([99, 97, 99, 104, 101, 45, 99, 111, 110, 116, 114, 111, 108] : List UInt8)), .string (mkS ([] : List UInt8)), .string (mkS ([99, 111, 110, 116, 101, 110, 116, 45, 100, 105, 115, 112, 111, 115, 105, 116, 105, 111, 110] : List UInt8)), .string (mkS ([] : List UInt8)), .string (mkS ([99, 111, 110, 116, 101, 110, 116, 45, 101, 110, 99, 111, 100, 105, 110, 103] : List UInt8)), .string (mkS ([] : List UInt8)), .string (mkS ([99, 111, 110, 116, 101, 110, 116, 45, 108, 97, 110, 103, 117, 97, 103, 101] : List UInt8)), .string (mkS ([] : List UInt8)), .string (mkS ([99, 111, 110, 116, 101, 110, 116, 45, 108, 101, 110, 103, 116, 104] : List UInt8)), .string (mkS ([] : List UInt8)), .string (mkS ([99, 111, 110, 116, 101, 110, 116, 45, 108, 111, 99, 97, 116, 105, 111, 110] : List UInt8)), .string (mkS ([] : List UInt8)), .string (mkS ([99, 111, 110, 116, 101, 110, 116, 45, 114, 97, 110, 103, 101] : List UInt8)), .string (mkS ([] : List UInt8)), .string (mkS ([99, 111, 110, 116, 101, 110, 116, 45, 116, 121, 112, 101] : List UInt8)), .string (mkS ([] : List UInt8)), .string (mkS ([99, 111, 111, 107, 105, 101] : List UInt8)), .string (mkS ([] : List UInt8)), .string (mkS ([100, 97, 116, 101] : List UInt8)), .string (mkS ([] : List UInt8)), .string (mkS ([101, 116, 97, 103] : List UInt8)), .string (mkS ([] : List UInt8)), .string (mkS ([101, 120, 112, 101, 99, 116] : List UInt8)), .string (mkS ([] : List UInt8)), .string (mkS ([101, 120, 112, 105, 114, 101, 115] : List UInt8)), .string (mkS ([] : List UInt8)), .string (mkS ([102, 114, 111, 109] : List UInt8)), .string (mkS ([] : List UInt8)), .string (mkS ([104, 111, 115, 116] : List UInt8)), .string (mkS ([] : List UInt8)), .string (mkS ([105, 102, 45, 109, 97, 116, 99, 104] : List UInt8)), .string (mkS ([] : List UInt8)), .string (mkS ([105, 102, 45, 109, 111, 100, 105, 102, 105, 101, 100, 45, 115, 105, 110, 99, 101] : List UInt8)), .string (mkS ([] : List UInt8)), .string (mkS ([105, 102, 45, 110, 111, 110, 101, 45, 109, 97, 116, 99, 104] : List UInt8)), .string (mkS ([] : List UInt8)), .string (mkS ([105, 102, 45, 114, 97, 110, 103, 101] : List UInt8)), .string (mkS ([] : List UInt8)), .string (mkS ([105, 102, 45, 117, 110, 109, 111, 100, 105, 102, 105, 101, 100, 45, 115, 105, 110, 99, 101] : List UInt8)), .string (mkS ([] : List UInt8)), .string (mkS ([108, 97, 115, 116, 45, 109, 111, 100, 105, 102, 105, 101, 100] : List UInt8)), .string (mkS ([] : List UInt8)), .string (mkS ([108, 105, 110, 107] : List UInt8)), .string (mkS ([] : List UInt8)), .string (mkS ([108, 111, 99, 97, 116, 105, 111, 110] : List UInt8)), .string (mkS ([] : List UInt8)), .string (mkS ([109, 97, 120, 45, 102, 111, 114, 119, 97, 114, 100, 115] : List UInt8)), .string (mkS ([] : List UInt8)), .string (mkS ([112, 114, 111, 120, 121, 45, 97, 117, 116, 104, 101, 110, 116, 105, 99, 97, 116, 101] : List UInt8)), .string (mkS ([] : List UInt8)), .string (mkS ([112, 114, 111, 120, 121, 45, 97, 117, 116, 104, 111, 114, 105, 122, 97, 116, 105, 111, 110] : List UInt8)), .string (mkS ([] : List UInt8)), .string (mkS ([114, 97, 110, 103, 101] : List UInt8)), .string (mkS ([] : List UInt8)), .string (mkS ([114, 101, 102, 101, 114, 101, 114] : List UInt8)), .string (mkS ([] : List UInt8)), .string (mkS ([114, 101, 102, 114, 101, 115, 104] : List UInt8)), .string (mkS ([] : List UInt8)), .string (mkS ([114, 101, 116, 114, 121, 45, 97, 102, 116, 101, 114] : List UInt8)), .string (mkS ([] : List UInt8)), .string (mkS ([115, 101, 114, 118, 101, 114] : List UInt8)), .string (mkS ([] : List UInt8)), .string (mkS ([115, 101, 116, 45, 99, 111, 111, 107, 105, 101] : List UInt8)), .string (mkS ([] : List UInt8)), .string (mkS ([115, 116, 114, 105, 99, 116, 45, 116, 114, 97, 110, 115, 112, 111, 114, 116, 45, 115, 101, 99, 117, 114, 105, 116, 121] : List UInt8)), .string (mkS ([] : List UInt8)), .string (mkS ([116, 114, 97, 110, 115, 102, 101, 114, 45, 101, 110, 99, 111, 100, 105, 110, 103] : List UInt8)), .string (mkS ([] : List UInt8)), .string (mkS ([117, 115, 101, 114, 45, 97, 103, 101, 110, 116] : List UInt8)), .string (mkS ([] : List UInt8)), .string (mkS ([118, 97, 114, 121] : List UInt8)), .string (mkS ([] : List UInt8)), .string (mkS ([118, 105, 97] : List UInt8)), .string (mkS ([] : List UInt8)), .string (mkS ([119, 119, 119, 45, 97, 117, 116, 104, 101, 110, 116, 105, 99, 97, 116, 101] : List UInt8)), .string (mkS ([] : List UInt8))] : List Value).toArray 9 (0, 0))] := Row.lit (xs := ([([58, 97, 117, 116, 104, 111, 114, 105, 116, 121] : List UInt8), ([] : List UInt8), ([58, 109, 101, 116, 104, 111, 100] : List UInt8), ([71, 69, 84] : List UInt8), ([58, 109, 101, 116, 104, 111, 100] : List UInt8), ([80, 79, 83, 84] : List UInt8), ([58, 112, 97, 116, 104] : List UInt8), ([47] : List UInt8), ([58, 112, 97, 116, 104] : List UInt8), ([47, 105, 110, 100, 101, 120, 46, 104, 116, 109, 108] : List UInt8), ([58, 115, 99, 104, 101, 109, 101] : List UInt8), ([104, 116, 116, 112] : List UInt8), ([58, 115, 99, 104, 101, 109, 101] : List UInt8), ([104, 116, 116, 112, 115] : List UInt8), ([58, 115, 116, 97, 116, 117, 115] : List UInt8), ([50, 48, 48] : List UInt8), ([58, 115, 116, 97, 116, 117, 115] : List UInt8), ([50, 48, 52] : List UInt8), ([58, 115, 116, 97, 116, 117, 115] : List UInt8), ([50, 48, 54] : List UInt8), ([58, 115, 116, 97, 116, 117, 115] : List UInt8), ([51, 48, 52] : List UInt8), ([58, 115, 116, 97, 116, 117, 115] : List UInt8), ([52, 48, 48] : List UInt8), ([58, 115, 116, 97, 116, 117, 115] : List UInt8), ([52, 48, 52] : List UInt8), ([58, 115, 116, 97, 116, 117, 115] : List UInt8), ([53, 48, 48] : List UInt8), ([97, 99, 99, 101, 112, 116, 45, 99, 104, 97, 114, 115, 101, 116] : List UInt8), ([] : List UInt8), ([97, 99, 99, 101, 112, 116, 45, 101, 110, 99, 111, 100, 105, 110, 103] : List UInt8), ([103, 122, 105, 112, 44, 32, 100, 101, 102, 108, 97, 116, 101] : List UInt8), ([97, 99, 99, 101, 112, 116, 45, 108, 97, 110, 103, 117, 97, 103, 101] : List UInt8), ([] : List UInt8), ([97, 99, 99, 101, 112, 116, 45, 114, 97, 110, 103, 101, 115] : List UInt8), ([] : List UInt8), ([97, 99, 99, 101, 112, 116] : List UInt8), ([] : List UInt8), ([97, 99, 99, 101, 115, 115, 45, 99, 111, 110, 116, 114, 111, 108, 45, 97, 108, 108, 111, 119, 45, 111, 114, 105, 103, 105, 110] : List UInt8), ([] : List UInt8), ([97, 103, 101] : List UInt8), ([] : List UInt8), ([97, 108, 108, 111, 119] : List UInt8), ([] : List UInt8), ([97, 117, 116, 104, 111, 114, 105, 122, 97, 116, 105, 111, 110] : List UInt8), ([] : List UInt8), ([99, 97, 99, 104, 101, 45, 99, 111, 110, 116, 114, 111, 108] : List UInt8), ([] : List UInt8), ([99, 111, 110, 116, 101, 110, 116, 45, 100, 105, 115, 112, 111, 115, 105, 116, 105, 111, 110] : List UInt8), ([] : List UInt8), ([99, 111, 110, 116, 101, 110, 116, 45, 101, 110, 99, 111, 100, 105, 110, 103] : List UInt8), ([] : List UInt8), ([99, 111, 110, 116, 101, 110, 116, 45, 108, 97, 110, 103, 117, 97, 103, 101] : List UInt8), ([] : List UInt8), ([99, 111, 110, 116, 101, 110, 116, 45, 108, 101, 110, 103, 116, 104] : List UInt8), ([] : List UInt8), ([99, 111, 110, 116, 101, 110, 116, 45, 108, 111, 99, 97, 116, 105, 111, 110] : List UInt8), ([] : List UInt8), ([99, 111, 110, 116, 101, 110, 116, 45, 114, 97, 110, 103, 101] : List UInt8), ([] : List UInt8), ([99, 111, 110, 116, 101, 110, 116, 45, 116, 121, 112, 101] : List UInt8), ([] : List UInt8), ([99, 111, 111, 107, 105, 101] : List UInt8), ([] : List UInt8), ([100, 97, 116, 101] : List UInt8), ([] : List UInt8), ([101, 116, 97, 103] : List UInt8), ([] : List UInt8), ([101, 120, 112, 101, 99, 116] : List UInt8), ([] : List UInt8), ([101, 120, 112, 105, 114, 101, 115] : List UInt8), ([] : List UInt8), ([102, 114, 111, 109] : List UInt8), ([] : List UInt8), ([104, 111, 115, 116] : List UInt8), ([] : List UInt8), ([105, 102, 45, 109, 97, 116, 99, 104] : List UInt8), ([] : List UInt8), ([105, 102, 45, 109, 111, 100, 105, 102, 105, 101, 100, 45, 115, 105, 110, 99, 101] : List UInt8), ([] : List UInt8), ([105, 102, 45, 110, 111, 110, 101, 45, 109, 97, 116, 99, 104] : List UInt8), ([] : List UInt8), ([105, 102, 45, 114, 97, 110, 103, 101] : List UInt8), ([] : List UInt8), ([105, 102, 45, 117, 110, 109, 111, 100, 105, 102, 105, 101, 100, 45, 115, 105, 110, 99, 101] : List UInt8), ([] : List UInt8), ([108, 97, 115, 116, 45, 109, 111, 100, 105, 102, 105, 101, 100] : List UInt8), ([] : List UInt8), ([108, 105, 110, 107] : List UInt8), ([] : List UInt8), ([108, 111, 99, 97, 116, 105, 111, 110] : List UInt8), ([] : List UInt8), ([109, 97, 120, 45, 102, 111, 114, 119, 97, 114, 100, 115] : List UInt8), ([] : List UInt8), ([112, 114, 111, 120, 121, 45, 97, 117, 116, 104, 101, 110, 116, 105, 99, 97, 116, 101] : List UInt8), ([] : List UInt8), ([112, 114, 111, 120, 121, 45, 97, 117, 116, 104, 111, 114, 105, 122, 97, 116, 105, 111, 110] : List UInt8), ([] : List UInt8), ([114, 97, 110, 103, 101] : List UInt8), ([] : List UInt8), ([114, 101, 102, 101, 114, 101, 114] : List UInt8), ([] : List UInt8), ([114, 101, 102, 114, 101, 115, 104] : List UInt8), ([] : List UInt8), ([114, 101, 116, 114, 121, 45, 97, 102, 116, 101, 114] : List UInt8), ([] : List UInt8), ([115, 101, 114, 118, 101, 114] : List UInt8), ([] : List UInt8), ([115, 101, 116, 45, 99, 111, 111, 107, 105, 101] : List UInt8), ([] : List UInt8), ([115, 116, 114, 105, 99, 116, 45, 116, 114, 97, 110, 115, 112, 111, 114, 116, 45, 115, 101, 99, 117, 114, 105, 116, 121] : List UInt8), ([] : List UInt8), ([116, 114, 97, 110, 115, 102, 101, 114, 45, 101, 110, 99, 111, 100, 105, 110, 103] : List UInt8), ([] : List UInt8), ([117, 115, 101, 114, 45, 97, 103, 101, 110, 116] : List UInt8), ([] : List UInt8), ([118, 97, 114, 121] : List UInt8), ([] : List UInt8), ([118, 105, 97] : List UInt8), ([] : List UInt8), ([119, 119, 119, 45, 97, 117, 116, 104, 101, 110, 116, 105, 99, 97, 116, 101] : List UInt8), ([] : List UInt8)] : List (List UInt8))) (Mi := []) (reps_str _) (by simp [maxLen])
  refine WL.block (c := 1) (m' := 2) h14q rfl [(0, .slice (some ⟨g16q, 0, none⟩) 122 122)] (by kernel_rfl) (fun a19q h20q => ?_)
  clear h14q a13q
  refine WL.done (by kernel_rfl) ?_
  refine wp_ret ?_
  obtain rfl := Option.some.inj H
  repeat (first | refine then_ret ?_ | refine inBlock_ret ?_ | refine inBlock_go ?_)
  refine body_ret (v := .slice (some ⟨g16q, 0, none⟩) 122 122) h20q (by kernel_rfl) (by kernel_rfl) ?_
  exact ⟨.slice (some ⟨g16q, 0, none⟩) 122 122, [(g16q, .cells ([.string (mkS ([58, 97, 117, 116, 104, 111, 114, 105, 116, 121] : List UInt8)), .string (mkS ([] : List UInt8)), .string (mkS ([58, 109, 101, 116, 104, 111, 100] : List UInt8)), .string (mkS ([71, 69, 84] : List UInt8)), .string (mkS ([58, 109, 101, 116, 104, 111, 100] : List UInt8)), .string (mkS ([80, 79, 83, 84] : List UInt8)), .string (mkS ([58, 112, 97, 116, 104] : List UInt8)), .string (mkS ([47] : List UInt8)), .string (mkS ([58, 112, 97, 116, 104] : List UInt8)), .string (mkS ([47, 105, 110, 100, 101, 120, 46, 104, 116, 109, 108] : List UInt8)), .string (mkS ([58, 115, 99, 104, 101, 109, 101] : List UInt8)), .string (mkS ([104, 116, 116, 112] : List UInt8)), .string (mkS ([58, 115, 99, 104, 101, 109, 101] : List UInt8)), .string (mkS ([104, 116, 116, 112, 115] : List UInt8)), .string (mkS ([58, 115, 116, 97, 116, 117, 115] : List UInt8)), .string (mkS ([50, 48, 48] : List UInt8)), .string (mkS ([58, 115, 116, 97, 116, 117, 115] : List UInt8)), .string (mkS ([50, 48, 52] : List UInt8)), .string (mkS ([58, 115, 116, 97, 116, 117, 115] : List UInt8)), .string (mkS ([50, 48, 54] : List UInt8)), .string (mkS ([58, 115, 116, 97, 116, 117, 115] : List UInt8)), .string (mkS ([51, 48, 52] : List UInt8)), .string (mkS ([58, 115, 116, 97, 116, 117, 115] : List UInt8)), .string (mkS ([52, 48, 48] : List UInt8)), .string (mkS ([58, 115, 116, 97, 116, 117, 115] : List UInt8)), .string (mkS ([52, 48, 52] : List UInt8)), .string (mkS ([58, 115, 116, 97, 116, 117, 115] : List UInt8)), .string (mkS ([53, 48, 48] : List UInt8)), .string (mkS ([97, 99, 99, 101, 112, 116, 45, 99, 104, 97, 114, 115, 101, 116] : List UInt8)), .string (mkS ([] : List UInt8)), .string (mkS ([97, 99, 99, 101, 112, 116, 45, 101, 110, 99, 111, 100, 105, 110, 103] : List UInt8)), .string (mkS ([103, 122, 105, 112, 44, 32, 100, 101, 102, 108, 97, 116, 101] : List UInt8)), .string (mkS ([97, 99, 99, 101, 112, 116, 45, 108, 97, 110, 103, 117, 97, 103, 101] : List UInt8)), .string (mkS ([] : List UInt8)), .string (mkS ([97, 99, 99, 101, 112, 116, 45, 114, 97, 110, 103, 101, 115] : List UInt8)), .string (mkS ([] : List UInt8)), .string (mkS ([97, 99, 99, 101, 112, 116] : List UInt8)), .string (mkS ([] : List UInt8)), .string (mkS ([97, 99, 99, 101, 115, 115, 45, 99, 111, 110, 116, 114, 111, 108, 45, 97, 108, 108, 111, 119, 45, 111, 114, 105, 103, 105, 110] : List UInt8)), .string (mkS ([] : List UInt8)), .string (mkS ([97, 103, 101] : List UInt8)), .string (mkS ([] : List UInt8)), .string (mkS ([97, 108, 108, 111, 119] : List UInt8)), .string (mkS ([] : List UInt8)), .string (mkS ([97, 117, 116, 104, 111, 114, 105, 122, 97, 116, 105, 111, 110] : List UInt8)), .string (mkS ([] : List UInt8)), .string (mkS ([99, 97, 99, 104, 101, 45, 99, 111, 110, 116, 114, 111, 108] : List UInt8)), .string (mkS ([] : List UInt8)), .string (mkS ([99, 111, 110, 116, 101, 110, 116, 45, 100, 105, 115, 112, 111, 115, 105, 116, 105, 111, 110] : List UInt8)), .string (mkS ([] : List UInt8)), .string (mkS ([99, 111, 110, 116, 101, 110, 116, 45, 101, 110, 99, 111, 100, 105, 110, 103] : List UInt8)), .string (mkS ([] : List UInt8)), .string (mkS ([99, 111, 110, 116, 101, 110, 116, 45, 108, 97, 110, 103, 117, 97, 103, 101] : List UInt8)), .string (mkS ([] : List UInt8)), .string (mkS ([99, 111, 110, 116, 101, 110, 116, 45, 108, 101, 110, 103, 116, 104] : List UInt8)), .string (mkS ([] : List UInt8)), .string (mkS ([99, 111, 110, 116, 101, 110, 116, 45, 108, 111, 99, 97, 116, 105, 111, 110] : List UInt8)), .string (mkS ([] : List UInt8)), .string (mkS ([99, 111, 110, 116, 101, 110, 116, 45, 114, 97, 110, 103, 101] : List UInt8)), .string (mkS ([] : List UInt8)), .string (mkS ([99, 111, 110, 116, 101, 110, 116, 45, 116, 121, 112, 101] : List UInt8)), .string (mkS ([] : List UInt8)), .string (mkS ([99, 111, 111, 107, 105, 101] : List UInt8)), .string (mkS ([] : List UInt8)), .string (mkS ([100, 97, 116, 101] : List UInt8)), .string (mkS ([] : List UInt8)), .string (mkS ([101, 116, 97, 103] : List UInt8)), .string (mkS ([] : List UInt8)), .string (mkS ([101, 120, 112, 101, 99, 116] : List UInt8)), .string (mkS ([] : List UInt8)), .string (mkS ([101, 120, 112, 105, 114, 101, 115] : List UInt8)), .string (mkS ([] : List UInt8)), .string (mkS ([102, 114, 111, 109] : List UInt8)), .string (mkS ([] : List UInt8)), .string (mkS ([104, 111, 115, 116] : List UInt8)), .string (mkS ([] : List UInt8)), .string (mkS ([105, 102, 45, 109, 97, 116, 99, 104] : List UInt8)), .string (mkS ([] : List UInt8)), .string (mkS ([105, 102, 45, 109, 111, 100, 105, 102, 105, 101, 100, 45, 115, 105, 110, 99, 101] : List UInt8)), .string (mkS ([] : List UInt8)), .string (mkS ([105, 102, 45, 110, 111, 110, 101, 45, 109, 97, 116, 99, 104] : List UInt8)), .string (mkS ([] : List UInt8)), .string (mkS ([105, 102, 45, 114, 97, 110, 103, 101] : List UInt8)), .string (mkS ([] : List UInt8)), .string (mkS ([105, 102, 45, 117, 110, 109, 111, 100, 105, 102, 105, 101, 100, 45, 115, 105, 110, 99, 101] : List UInt8)), .string (mkS ([] : List UInt8)), .string (mkS ([108, 97, 115, 116, 45, 109, 111, 100, 105, 102, 105, 101, 100] : List UInt8)), .string (mkS ([] : List UInt8)), .string (mkS ([108, 105, 110, 107] : List UInt8)), .string (mkS ([] : List UInt8)), .string (mkS ([108, 111, 99, 97, 116, 105, 111, 110] : List UInt8)), .string (mkS ([] : List UInt8)), .string (mkS ([109, 97, 120, 45, 102, 111, 114, 119, 97, 114, 100, 115] : List UInt8)), .string (mkS ([] : List UInt8)), .string (mkS ([112, 114, 111, 120, 121, 45, 97, 117, 116, 104, 101, 110, 116, 105, 99, 97, 116, 101] : List UInt8)), .string (mkS ([] : List UInt8)), .string (mkS ([112, 114, 111, 120, 121, 45, 97, 117, 116, 104, 111, 114, 105, 122, 97, 116, 105, 111, 110] : List UInt8)), .string (mkS ([] : List UInt8)), .string (mkS ([114, 97, 110, 103, 101] : List UInt8)), .string (mkS ([] : List UInt8)), .string (mkS ([114, 101, 102, 101, 114, 101, 114] : List UInt8)), .string (mkS ([] : List UInt8)), .string (mkS ([114, 101, 102, 114, 101, 115, 104] : List UInt8)), .string (mkS ([] : List UInt8)), .string (mkS ([114, 101, 116, 114, 121, 45, 97, 102, 116, 101, 114] : List UInt8)), .string (mkS ([] : List UInt8)), .string (mkS ([115, 101, 114, 118, 101, 114] : List UInt8)), .string (mkS ([] : List UInt8)), .string (mkS ([115, 101, 116, 45, 99, 111, 111, 107, 105, 101] : List UInt8)), .string (mkS ([] : List UInt8)), .string (mkS ([115, 116, 114, 105, 99, 116, 45, 116, 114, 97, 110, 115, 112, 111, 114, 116, 45, 115, 101, 99, 117, 114, 105, 116, 121] : List UInt8)), .string (mkS ([] : List UInt8)), .string (mkS ([116, 114, 97, 110, 115, 102, 101, 114, 45, 101, 110, 99, 111, 100, 105, 110, 103] : List UInt8)), .string (mkS ([] : List UInt8)), .string (mkS ([117, 115, 101, 114, 45, 97, 103, 101, 110, 116] : List UInt8)), .string (mkS ([] : List UInt8)), .string (mkS ([118, 97, 114, 121] : List UInt8)), .string (mkS ([] : List UInt8)), .string (mkS ([118, 105, 97] : List UInt8)), .string (mkS ([] : List UInt8)), .string (mkS ([119, 119, 119, 45, 97, 117, 116, 104, 101, 110, 116, 105, 99, 97, 116, 101] : List UInt8)), .string (mkS ([] : List UInt8))] : List Value).toArray 9 (0, 0))], rfl, hr18q, hS17q⟩

/-! ### louver/louverref04.At -/
def louverref04qAt.f (p0 : Int) : Option ((List UInt8) × (List UInt8) × Bool) := bnd1 (louverref04qTable.f) fun r213q => (if p0 < 1 then (some (([] : List UInt8), ([] : List UInt8), false)) else (if p0 > (IntKind.i64.wrap (Int.tdiv (r213q.length : Int) 2)) then (some (([] : List UInt8), ([] : List UInt8), false)) else (if 0 ≤ (IntKind.i64.wrap ((IntKind.i64.wrap (2 * p0)) - 2)) then (if (IntKind.i64.wrap ((IntKind.i64.wrap (2 * p0)) - 2)) < (r213q.length : Int) then (if 0 ≤ (IntKind.i64.wrap ((IntKind.i64.wrap (2 * p0)) - 1)) then (if (IntKind.i64.wrap ((IntKind.i64.wrap (2 * p0)) - 1)) < (r213q.length : Int) then (some ((gt [] r213q (IntKind.i64.wrap ((IntKind.i64.wrap (2 * p0)) - 2))), (gt [] r213q (IntKind.i64.wrap ((IntKind.i64.wrap (2 * p0)) - 1))), true)) else (none)) else (none)) else (none)) else (none))))
set_option maxHeartbeats 2000000 in
set_option maxRecDepth 100000 in
theorem louverref04qAt.calls {b : Nat} {w0 W : World} {R : Frag} {Fs : List Frag} {p0 : Int}  {r0q : (List UInt8)} {r1q : (List UInt8)} {r2q : Bool}  (H : louverref04qAt.f p0 = some (r0q, r1q, r2q)) (hS : St b w0 W R (Fs)) :
    Calls Tryd.prog 30 ([.int .i64 p0] : List Value).toArray W (fun e W' => e = .returned (.tuple #[.string (mkS r0q), .string (mkS r1q), .bool r2q]) ∧ St b w0 W' R (Fs)) := by
  unfold louverref04qAt.f at H
  refine calls_enter Tryd.func30 rfl 28 rfl (by kernel_rfl) (fun a h => ?_)
  refine wp_seq ?_
  refine WL.start ?_
  refine WL.block (c := 3) (m' := 3) h rfl [(4, .bool false), (3, .string (mkS ([] : List UInt8))), (2, .string (mkS ([] : List UInt8)))] (by kernel_rfl) (fun a210q h211q => ?_)
  refine WL.done (by kernel_rfl) ?_
  refine wp_seq ?_
  refine WL.start ?_
  obtain ⟨r213q, A212q, H⟩ := bind1 H
  refine WL.op' (m := 0) h211q rfl rfl ?_
  refine owp_call [] h211q rfl (by kernel_rfl) rfl Tryd.func33 (by kernel_rfl) rfl (by kernel_rfl) (louverref04qTable.calls  A212q hS) (fun e215q W214q hp216q => ?_)
  obtain ⟨v219q, M220q, rfl, hr221q, hS222q⟩ := hp216q
  refine ⟨_, rfl, fun a217q h218q => ?_⟩
  clear h211q a210q
  obtain ⟨A223q, c224q, rfl⟩ := hr221q.form
  refine WL.block (c := 1) (m' := 2) h218q rfl [(5, .slice A223q r213q.length c224q)] (by kernel_rfl) (fun a225q h226q => ?_)
  clear h218q a217q
  refine WL.done (by kernel_rfl) ?_
  refine wp_seq ?_
  refine wp_seq ?_
  refine WL.start ?_
  refine WL.block (c := 3) (m' := 3) h226q rfl [(9, .bool (decide (p0 < 1))), (8, .bool (decide (p0 < 1))), (7, .int .i64 p0)] (by kernel_rfl) (fun a227q h228q => ?_)
  clear h226q a225q
  by_cases c229q : p0 < 1
  · rw [if_pos c229q] at H
    have hb_ : (decide (p0 < 1)) = true := decide_eq_true c229q
    try rw [hb_] at h228q
    clear hb_
    refine WL.skipped (m := 3) h228q rfl rfl (by kernel_rfl) rfl (fun a230q h231q => ?_)
    clear h228q a227q
    refine WL.skipped (m := 4) h231q rfl rfl (by kernel_rfl) rfl (fun a232q h233q => ?_)
    clear h231q a230q
    refine WL.skipped (m := 5) h233q rfl rfl (by kernel_rfl) rfl (fun a234q h235q => ?_)
    clear h233q a232q
    refine WL.skipped (m := 6) h235q rfl rfl (by kernel_rfl) rfl (fun a236q h237q => ?_)
    clear h235q a234q
    refine WL.skipped (m := 7) h237q rfl rfl (by kernel_rfl) rfl (fun a238q h239q => ?_)
    clear h237q a236q
    refine WL.block (c := 1) (m' := 9) h239q rfl [(15, .bool true)] (by kernel_rfl) (fun a240q h241q => ?_)
    clear h239q a238q
    refine WL.done (by kernel_rfl) ?_
    refine wp_then h241q rfl ?_
    refine wp_seq ?_
    refine WL.start ?_
    refine WL.block (c := 3) (m' := 3) h241q rfl [(4, .bool false), (3, .string (mkS ([] : List UInt8))), (2, .string (mkS ([] : List UInt8)))] (by kernel_rfl) (fun a242q h243q => ?_)
    clear h241q a240q
    refine WL.done (by kernel_rfl) ?_
    refine wp_ret ?_
    have hS244q : St b w0 W214q R (Fs) := hS222q.drop_
    obtain ⟨rfl, rfl, rfl⟩ := ret3 H
    repeat (first | refine then_ret ?_ | refine inBlock_ret ?_ | refine inBlock_go ?_)
    refine body_ret (v := .tuple #[.string (mkS ([] : List UInt8)), .string (mkS ([] : List UInt8)), .bool false]) h243q (by kernel_rfl) (by kernel_rfl) ?_
    exact ⟨rfl, hS244q⟩
  · rw [if_neg c229q] at H
    have hb_ : (decide (p0 < 1)) = false := decide_eq_false c229q
    try rw [hb_] at h228q
    clear hb_
    refine WL.op' (m := 3) h228q rfl rfl (owp_run h228q rfl (by kernel_rfl) (v := .int .i64 p0) (by kernel_rfl) (fun a245q h246q => ?_))
    clear h228q a227q
    refine WL.op' (m := 4) h246q rfl rfl (owp_run h246q rfl (by kernel_rfl) (v := .slice A223q r213q.length c224q) (by kernel_rfl) (fun a247q h248q => ?_))
    clear h246q a245q
    refine WL.op' (m := 5) h248q rfl rfl (owp_run h248q rfl (by kernel_rfl) (v := .int .i64 (r213q.length : Int)) (by kernel_rfl) (fun a249q h250q => ?_))
    clear h248q a247q
    refine WL.op' (m := 6) h250q rfl rfl (owp_run h250q rfl (by kernel_rfl) (v := .int .i64 (IntKind.i64.wrap (Int.tdiv (r213q.length : Int) 2))) (by kernel_rfl) (fun a251q h252q => ?_))
    clear h250q a249q
    refine WL.op' (m := 7) h252q rfl rfl (owp_run h252q rfl (by kernel_rfl) (v := .bool (decide (p0 > (IntKind.i64.wrap (Int.tdiv (r213q.length : Int) 2))))) (by kernel_rfl) (fun a253q h254q => ?_))
    clear h252q a251q
    refine WL.block (c := 1) (m' := 9) h254q rfl [(15, .bool (decide (p0 > (IntKind.i64.wrap (Int.tdiv (r213q.length : Int) 2)))))] (by kernel_rfl) (fun a255q h256q => ?_)
    clear h254q a253q
    refine WL.done (by kernel_rfl) ?_
    by_cases c257q : p0 > (IntKind.i64.wrap (Int.tdiv (r213q.length : Int) 2))
    · rw [if_pos c257q] at H
      have hb_ : (decide (p0 > (IntKind.i64.wrap (Int.tdiv (r213q.length : Int) 2)))) = true := decide_eq_true c257q
      try rw [hb_] at h256q
      clear hb_
      refine wp_then h256q rfl ?_
      refine wp_seq ?_
      refine WL.start ?_
      refine WL.block (c := 3) (m' := 3) h256q rfl [(4, .bool false), (3, .string (mkS ([] : List UInt8))), (2, .string (mkS ([] : List UInt8)))] (by kernel_rfl) (fun a258q h259q => ?_)
      clear h256q a255q
      refine WL.done (by kernel_rfl) ?_
      refine wp_ret ?_
      have hS260q : St b w0 W214q R (Fs) := hS222q.drop_
      obtain ⟨rfl, rfl, rfl⟩ := ret3 H
      repeat (first | refine then_ret ?_ | refine inBlock_ret ?_ | refine inBlock_go ?_)
      refine body_ret (v := .tuple #[.string (mkS ([] : List UInt8)), .string (mkS ([] : List UInt8)), .bool false]) h259q (by kernel_rfl) (by kernel_rfl) ?_
      exact ⟨rfl, hS260q⟩
    · rw [if_neg c257q] at H
      have hb_ : (decide (p0 > (IntKind.i64.wrap (Int.tdiv (r213q.length : Int) 2)))) = false := decide_eq_false c257q
      try rw [hb_] at h256q
      clear hb_
      refine wp_else h256q rfl ?_
      refine wp_skip ?_
      refine wp_seq ?_
      refine WT.start 15 (fun w_ => (∀ a_ u_, Kn b w0 (M220q ++ R) a_ u_ → w_.cell? a_ = some u_) ∧ True) (by kernel_rfl) #[false, false, false, false, false, false, false, false, false, false, false, false, false, false, false] 15 rfl rfl ?_
      have hS365q := hS222q.drew
      refine WT.take 0 (listed' := #[true, false, false, false, false, false, false, false, false, false, false, false, false, false, false]) h256q rfl rfl (by kernel_rfl) rfl rfl (.slice A223q r213q.length c224q) (fun _ _ => by kernel_rfl) ⟨(fun _ _ hk_ => (hS365q).pool.kn hk_), trivial⟩ (fun _ _ _ h_ => h_) (fun a366q h367q => ?_)
      clear h256q a255q
      refine WT.take 1 (listed' := #[true, true, false, false, false, false, false, false, false, false, false, false, false, false, false]) h367q rfl rfl (by kernel_rfl) rfl rfl (.int .i64 p0) (fun _ _ => by kernel_rfl) ⟨(fun _ _ hk_ => (hS365q).pool.kn hk_), trivial⟩ (fun _ _ _ h_ => h_) (fun a368q h369q => ?_)
      clear h367q a366q
      refine WT.take 2 (listed' := #[true, true, true, false, false, false, false, false, false, false, false, false, false, false, false]) h369q rfl rfl (by kernel_rfl) rfl rfl (.int .i64 (IntKind.i64.wrap (2 * p0))) (fun _ _ => by kernel_rfl) ⟨(fun _ _ hk_ => (hS365q).pool.kn hk_), trivial⟩ (fun _ _ _ h_ => h_) (fun a370q h371q => ?_)
      clear h369q a368q
      refine WT.take 3 (listed' := #[true, true, true, true, false, false, false, false, false, false, false, false, false, false, false]) h371q rfl rfl (by kernel_rfl) rfl rfl (.int .i64 (IntKind.i64.wrap ((IntKind.i64.wrap (2 * p0)) - 2))) (fun _ _ => by kernel_rfl) ⟨(fun _ _ hk_ => (hS365q).pool.kn hk_), trivial⟩ (fun _ _ _ h_ => h_) (fun a372q h373q => ?_)
      clear h371q a370q
      refine WT.take 6 (listed' := #[true, true, true, true, false, false, true, false, false, false, false, false, false, false, false]) h373q rfl rfl (by kernel_rfl) rfl rfl (.slice A223q r213q.length c224q) (fun _ _ => by kernel_rfl) ⟨(fun _ _ hk_ => (hS365q).pool.kn hk_), trivial⟩ (fun _ _ _ h_ => h_) (fun a374q h375q => ?_)
      clear h373q a372q
      refine WT.take 7 (listed' := #[true, true, true, true, false, false, true, true, false, false, false, false, false, false, false]) h375q rfl rfl (by kernel_rfl) rfl rfl (.int .i64 p0) (fun _ _ => by kernel_rfl) ⟨(fun _ _ hk_ => (hS365q).pool.kn hk_), trivial⟩ (fun _ _ _ h_ => h_) (fun a376q h377q => ?_)
      clear h375q a374q
      refine WT.take 8 (listed' := #[true, true, true, true, false, false, true, true, true, false, false, false, false, false, false]) h377q rfl rfl (by kernel_rfl) rfl rfl (.int .i64 (IntKind.i64.wrap (2 * p0))) (fun _ _ => by kernel_rfl) ⟨(fun _ _ hk_ => (hS365q).pool.kn hk_), trivial⟩ (fun _ _ _ h_ => h_) (fun a378q h379q => ?_)
      clear h377q a376q
      refine WT.take 9 (listed' := #[true, true, true, true, false, false, true, true, true, true, false, false, false, false, false]) h379q rfl rfl (by kernel_rfl) rfl rfl (.int .i64 (IntKind.i64.wrap ((IntKind.i64.wrap (2 * p0)) - 1))) (fun _ _ => by kernel_rfl) ⟨(fun _ _ hk_ => (hS365q).pool.kn hk_), trivial⟩ (fun _ _ _ h_ => h_) (fun a380q h381q => ?_)
      clear h379q a378q
      by_cases c382q : 0 ≤ (IntKind.i64.wrap ((IntKind.i64.wrap (2 * p0)) - 2))
      · rw [if_pos c382q] at H
        by_cases c383q : (IntKind.i64.wrap ((IntKind.i64.wrap (2 * p0)) - 2)) < (r213q.length : Int)
        · rw [if_pos c383q] at H
          have hi386q : 0 ≤ IntKind.i64.wrap ((IntKind.i64.wrap (2 * p0)) - 2) := by first | assumption | omega
          have hi387q : (IntKind.i64.wrap ((IntKind.i64.wrap (2 * p0)) - 2)) < (r213q.length : Int) := by first | assumption | omega
          obtain ⟨ad384q, _, ha385q, -, -⟩ := Rds.elemAny hr221q.rds hi386q (gt_get (z := []) hi386q hi387q)
          refine WT.take 4 (listed' := #[true, true, true, true, true, false, true, true, true, true, false, false, false, false, false]) h381q rfl rfl (by kernel_rfl) rfl rfl (.pointer (some (ad384q.add ((IntKind.i64.wrap ((IntKind.i64.wrap (2 * p0)) - 2)).toNat * 1)))) (fun w_ hs_ => (run_idx (ad := ad384q) (sz := 1) rfl (by rw [← ha385q]; rfl) rfl Tryd.underlying49 (by kernel_rfl) hi386q hi387q)) ⟨(fun _ _ hk_ => (hS365q).pool.kn hk_), trivial⟩ (fun _ _ _ h_ => h_) (fun a388q h389q => ?_)
          clear h381q a380q
          obtain ⟨ad390q, cs391q, ha392q, hr394q, hc393q⟩ := Rds.elemAny hr221q.rds hi386q (gt_get (z := []) hi386q hi387q)
          rw [ha385q] at ha392q; obtain rfl := Option.some.inj ha392q
          obtain rfl : cs391q = [.string (mkS (gt [] r213q (IntKind.i64.wrap ((IntKind.i64.wrap (2 * p0)) - 2))))] := hr394q
          refine WT.take 5 (listed' := #[true, true, true, true, true, true, true, true, true, true, false, false, false, false, false]) h389q rfl rfl (by kernel_rfl) rfl rfl (.string (mkS (gt [] r213q (IntKind.i64.wrap ((IntKind.i64.wrap (2 * p0)) - 2))))) (fun w_ hs_ => (run_load1 rfl rfl Tryd.underlying9 rfl (cell0 (hc393q _ hs_.1)))) ⟨(fun _ _ hk_ => (hS365q).pool.kn hk_), trivial⟩ (fun _ _ _ h_ => h_) (fun a395q h396q => ?_)
          clear h389q a388q
          refine WT.take 12 (listed' := #[true, true, true, true, true, true, true, true, true, true, false, false, true, false, false]) h396q rfl rfl (by kernel_rfl) rfl rfl (.string (mkS (gt [] r213q (IntKind.i64.wrap ((IntKind.i64.wrap (2 * p0)) - 2))))) (fun _ _ => by kernel_rfl) ⟨(fun _ _ hk_ => (hS365q).pool.kn hk_), trivial⟩ (fun _ _ _ h_ => h_) (fun a397q h398q => ?_)
          clear h396q a395q
          by_cases c399q : 0 ≤ (IntKind.i64.wrap ((IntKind.i64.wrap (2 * p0)) - 1))
          · rw [if_pos c399q] at H
            by_cases c400q : (IntKind.i64.wrap ((IntKind.i64.wrap (2 * p0)) - 1)) < (r213q.length : Int)
            · rw [if_pos c400q] at H
              have hi403q : 0 ≤ IntKind.i64.wrap ((IntKind.i64.wrap (2 * p0)) - 1) := by first | assumption | omega
              have hi404q : (IntKind.i64.wrap ((IntKind.i64.wrap (2 * p0)) - 1)) < (r213q.length : Int) := by first | assumption | omega
              obtain ⟨ad401q, _, ha402q, -, -⟩ := Rds.elemAny hr221q.rds hi403q (gt_get (z := []) hi403q hi404q)
              refine WT.take 10 (listed' := #[true, true, true, true, true, true, true, true, true, true, true, false, true, false, false]) h398q rfl rfl (by kernel_rfl) rfl rfl (.pointer (some (ad401q.add ((IntKind.i64.wrap ((IntKind.i64.wrap (2 * p0)) - 1)).toNat * 1)))) (fun w_ hs_ => (run_idx (ad := ad401q) (sz := 1) rfl (by rw [← ha402q]; rfl) rfl Tryd.underlying49 (by kernel_rfl) hi403q hi404q)) ⟨(fun _ _ hk_ => (hS365q).pool.kn hk_), trivial⟩ (fun _ _ _ h_ => h_) (fun a405q h406q => ?_)
              clear h398q a397q
              obtain ⟨ad407q, cs408q, ha409q, hr411q, hc410q⟩ := Rds.elemAny hr221q.rds hi403q (gt_get (z := []) hi403q hi404q)
              rw [ha402q] at ha409q; obtain rfl := Option.some.inj ha409q
              obtain rfl : cs408q = [.string (mkS (gt [] r213q (IntKind.i64.wrap ((IntKind.i64.wrap (2 * p0)) - 1))))] := hr411q
              refine WT.take 11 (listed' := #[true, true, true, true, true, true, true, true, true, true, true, true, true, false, false]) h406q rfl rfl (by kernel_rfl) rfl rfl (.string (mkS (gt [] r213q (IntKind.i64.wrap ((IntKind.i64.wrap (2 * p0)) - 1))))) (fun w_ hs_ => (run_load1 rfl rfl Tryd.underlying9 rfl (cell0 (hc410q _ hs_.1)))) ⟨(fun _ _ hk_ => (hS365q).pool.kn hk_), trivial⟩ (fun _ _ _ h_ => h_) (fun a412q h413q => ?_)
              clear h406q a405q
              refine WT.take 13 (listed' := #[true, true, true, true, true, true, true, true, true, true, true, true, true, true, false]) h413q rfl rfl (by kernel_rfl) rfl rfl (.string (mkS (gt [] r213q (IntKind.i64.wrap ((IntKind.i64.wrap (2 * p0)) - 1))))) (fun _ _ => by kernel_rfl) ⟨(fun _ _ hk_ => (hS365q).pool.kn hk_), trivial⟩ (fun _ _ _ h_ => h_) (fun a414q h415q => ?_)
              clear h413q a412q
              refine WT.take 14 (listed' := #[true, true, true, true, true, true, true, true, true, true, true, true, true, true, true]) h415q rfl rfl (by kernel_rfl) rfl rfl (.bool true) (fun _ _ => by kernel_rfl) ⟨(fun _ _ hk_ => (hS365q).pool.kn hk_), trivial⟩ (fun _ _ _ h_ => h_) (fun a416q h417q => ?_)
              clear h415q a414q
              refine WT.done (by kernel_rfl) ?_
              refine wp_ret ?_
              have hS418q : St b w0 W214q.drew R (Fs) := hS365q.drop_
              obtain ⟨rfl, rfl, rfl⟩ := ret3 H
              repeat (first | refine then_ret ?_ | refine inBlock_ret ?_ | refine inBlock_go ?_)
              refine body_ret (v := .tuple #[.string (mkS (gt [] r213q (IntKind.i64.wrap ((IntKind.i64.wrap (2 * p0)) - 2)))), .string (mkS (gt [] r213q (IntKind.i64.wrap ((IntKind.i64.wrap (2 * p0)) - 1)))), .bool true]) h417q (by kernel_rfl) (by kernel_rfl) ?_
              exact ⟨rfl, hS418q⟩
            · rw [if_neg c400q] at H
              cases H
          · rw [if_neg c399q] at H
            cases H
        · rw [if_neg c383q] at H
          cases H
      · rw [if_neg c382q] at H
        cases H

/-! ### (louver/louverref05.T).At -/
def louverref05qT_At.f (p0 : S41) (p1 : Int) : Option (S29 × Bool) := bnd3 (louverref04qAt.f p1) fun r139q r140q r141q => (if r141q = true then (some ((⟨r139q, r140q, false⟩ : S29), true)) else (if p1 < 62 then (some ((⟨([] : List UInt8), ([] : List UInt8), false⟩ : S29), false)) else (if (IntKind.i64.wrap (p1 - 62)) ≥ (p0.f0.length : Int) then (some ((⟨([] : List UInt8), ([] : List UInt8), false⟩ : S29), false)) else (if 0 ≤ (IntKind.i64.wrap (p1 - 62)) then (if (IntKind.i64.wrap (p1 - 62)) < (p0.f0.length : Int) then (some ((⟨(gt z29 p0.f0 (IntKind.i64.wrap (p1 - 62))).f0, (gt z29 p0.f0 (IntKind.i64.wrap (p1 - 62))).f1, (gt z29 p0.f0 (IntKind.i64.wrap (p1 - 62))).f2⟩ : S29), true)) else (none)) else (none)))))
set_option maxHeartbeats 2000000 in
set_option maxRecDepth 100000 in
theorem louverref05qT_At.calls {b : Nat} {w0 W : World} {R : Frag} {Fs : List Frag} {p0 : S41} {p1 : Int} {v0q0 : Value} {r0q : S29} {r1q : Bool} (hp0q0 : Rds k29 b w0 R v0q0 p0.f0) (H : louverref05qT_At.f p0 p1 = some (r0q, r1q)) (hS : St b w0 W R (Fs)) :
    Calls Tryd.prog 19 ([.agg #[v0q0, .int .i64 p0.f1], .int .i64 p1] : List Value).toArray W (fun e W' => e = .returned (.tuple #[.agg #[.string (mkS r0q.f0), .string (mkS r0q.f1), .bool r0q.f2], .bool r1q]) ∧ St b w0 W' R (Fs)) := by
  obtain ⟨A0q0, c0q0, rfl⟩ := hp0q0.form
  unfold louverref05qT_At.f at H
  refine calls_enter Tryd.func19 rfl 36 rfl (by kernel_rfl) (fun a h => ?_)
  refine wp_seq ?_
  refine WL.start ?_
  refine WL.op' (m := 0) h rfl rfl ?_
  refine owp_new (fun g_ => .pointer (some ⟨g_, 0, none⟩)) (.cells ([.slice A0q0 p0.f0.length c0q0, .int .i64 p0.f1] : List Value).toArray 41 (0, 0)) h rfl (by kernel_rfl) (by kernel_rfl) hS (fun a124q W126q g127q h125q hS128q => ?_)
  refine WL.op' (m := 1) h125q rfl rfl ?_
  refine owp_new (fun g_ => .pointer (some ⟨g_, 0, none⟩)) (.cells ([.string (mkS ([] : List UInt8)), .string (mkS ([] : List UInt8)), .bool false] : List Value).toArray 29 (0, 0)) h125q rfl (by kernel_rfl) (by kernel_rfl) hS128q (fun a129q W131q g132q h130q hS133q => ?_)
  clear h125q a124q
  refine WL.block (c := 1) (m' := 3) h130q rfl [(5, .bool false)] (by kernel_rfl) (fun a134q h135q => ?_)
  clear h130q a129q
  refine WL.done (by kernel_rfl) ?_
  refine wp_seq ?_
  refine WL.start ?_
  refine WL.block (c := 1) (m' := 1) h135q rfl [(10, .int .i64 p1)] (by kernel_rfl) (fun a136q h137q => ?_)
  clear h135q a134q
  obtain ⟨r139q, r140q, r141q, A138q, H⟩ := bind3 H
  refine WL.op' (m := 1) h137q rfl rfl ?_
  refine owp_call [.int .i64 p1] h137q rfl (by kernel_rfl) rfl Tryd.func30 (by kernel_rfl) rfl (by kernel_rfl) (louverref04qAt.calls  A138q hS133q) (fun e143q W142q hp144q => ?_)
  obtain ⟨rfl, hS147q⟩ := hp144q
  refine ⟨_, rfl, fun a145q h146q => ?_⟩
  clear h137q a136q
  refine WL.block (c := 7) (m' := 9) h146q rfl [(8, .bool r141q), (7, .string (mkS r140q)), (6, .string (mkS r139q)), (14, .bool r141q), (13, .string (mkS r140q)), (12, .string (mkS r139q)), (9, .tuple #[.string (mkS r139q), .string (mkS r140q), .bool r141q])] (by kernel_rfl) (fun a148q h149q => ?_)
  clear h146q a145q
  refine WL.done (by kernel_rfl) ?_
  refine wp_seq ?_
  refine wp_seq ?_
  refine WL.start ?_
  refine WL.block (c := 1) (m' := 1) h149q rfl [(15, .bool r141q)] (by kernel_rfl) (fun a150q h151q => ?_)
  clear h149q a148q
  refine WL.done (by kernel_rfl) ?_
  by_cases c152q : r141q = true
  · rw [if_pos c152q] at H
    have hb_ : r141q = true := c152q
    try rw [hb_] at h151q
    clear hb_
    refine wp_then h151q rfl ?_
    refine wp_seq ?_
    refine WL.start ?_
    refine WL.block (c := 3) (m' := 3) h151q rfl [(18, .agg #[.string (mkS r139q), .string (mkS r140q), .bool false]), (17, .string (mkS r140q)), (16, .string (mkS r139q))] (by kernel_rfl) (fun a153q h154q => ?_)
    clear h151q a150q
    refine WL.op' (m := 3) h154q rfl rfl ?_
    refine owp_store (i := 0) (vs := ([.string (mkS r139q), .string (mkS r140q), .bool false] : List Value)) h154q rfl (by kernel_rfl) rfl rfl rfl rfl (by simp [Value.oneCell']) (by kernel_rfl) hS147q (by simp) (cs' := ([.string (mkS r139q), .string (mkS r140q), .bool false] : List Value)) rfl (fun a155q W157q h156q hS158q => ?_)
    clear h154q a153q
    refine WL.block (c := 1) (m' := 5) h156q rfl [(5, .bool true)] (by kernel_rfl) (fun a159q h160q => ?_)
    clear h156q a155q
    refine WL.done (by kernel_rfl) ?_
    refine wp_ret ?_
    have hS161q : St b w0 W157q R ([(g127q, .cells ([.slice A0q0 p0.f0.length c0q0, .int .i64 p0.f1] : List Value).toArray 41 (0, 0))] :: Fs) := hS158q.drop_
    have hS162q : St b w0 W157q R (Fs) := hS161q.drop_
    obtain ⟨rfl, rfl⟩ := ret2 H
    repeat (first | refine then_ret ?_ | refine inBlock_ret ?_ | refine inBlock_go ?_)
    refine body_ret (v := .tuple #[.agg #[.string (mkS r139q), .string (mkS r140q), .bool false], .bool true]) h160q (by kernel_rfl) (res_many (xs := [ResultVar.cell 4 29, ResultVar.tmp 5]) rfl ⟨⟨_, rfl, loadVarN Tryd.underlying29 rfl (cs := ([.string (mkS r139q), .string (mkS r140q), .bool false] : List Value)) (by kernel_rfl) (hS158q.cells (vs := ([.string (mkS r139q), .string (mkS r140q), .bool false] : List Value)) rfl)⟩, rfl, trivial⟩ rfl) ?_
    exact ⟨rfl, hS162q⟩
  · rw [if_neg c152q] at H
    have hb_ : r141q = false := (Bool.eq_false_iff.2 c152q)
    try rw [hb_] at h151q
    clear hb_
    refine wp_else h151q rfl ?_
    refine wp_skip ?_
    refine wp_seq ?_
    refine wp_seq ?_
    refine WL.start ?_
    refine WL.block (c := 3) (m' := 3) h151q rfl [(21, .bool (decide (p1 < 62))), (20, .bool (decide (p1 < 62))), (19, .int .i64 p1)] (by kernel_rfl) (fun a163q h164q => ?_)
    clear h151q a150q
    by_cases c165q : p1 < 62
    · rw [if_pos c165q] at H
      have hb_ : (decide (p1 < 62)) = true := decide_eq_true c165q
      try rw [hb_] at h164q
      clear hb_
      refine WL.skipped (m := 3) h164q rfl rfl (by kernel_rfl) rfl (fun a166q h167q => ?_)
      clear h164q a163q
      refine WL.skipped (m := 4) h167q rfl rfl (by kernel_rfl) rfl (fun a168q h169q => ?_)
      clear h167q a166q
      refine WL.skipped (m := 5) h169q rfl rfl (by kernel_rfl) rfl (fun a170q h171q => ?_)
      clear h169q a168q
      refine WL.skipped (m := 6) h171q rfl rfl (by kernel_rfl) rfl (fun a172q h173q => ?_)
      clear h171q a170q
      refine WL.skipped (m := 7) h173q rfl rfl (by kernel_rfl) rfl (fun a174q h175q => ?_)
      clear h173q a172q
      refine WL.skipped (m := 8) h175q rfl rfl (by kernel_rfl) rfl (fun a176q h177q => ?_)
      clear h175q a174q
      refine WL.block (c := 1) (m' := 10) h177q rfl [(28, .bool true)] (by kernel_rfl) (fun a178q h179q => ?_)
      clear h177q a176q
      refine WL.done (by kernel_rfl) ?_
      refine wp_then h179q rfl ?_
      refine wp_seq ?_
      refine WL.start ?_
      refine WL.block (c := 1) (m' := 1) h179q rfl [(29, .agg #[.string (mkS ([] : List UInt8)), .string (mkS ([] : List UInt8)), .bool false])] (by kernel_rfl) (fun a180q h181q => ?_)
      clear h179q a178q
      refine WL.op' (m := 1) h181q rfl rfl ?_
      refine owp_store (i := 0) (vs := ([.string (mkS ([] : List UInt8)), .string (mkS ([] : List UInt8)), .bool false] : List Value)) h181q rfl (by kernel_rfl) rfl rfl rfl rfl (by simp [Value.oneCell']) (by kernel_rfl) hS147q (by simp) (cs' := ([.string (mkS ([] : List UInt8)), .string (mkS ([] : List UInt8)), .bool false] : List Value)) rfl (fun a182q W184q h183q hS185q => ?_)
      clear h181q a180q
      refine WL.block (c := 1) (m' := 3) h183q rfl [(5, .bool false)] (by kernel_rfl) (fun a186q h187q => ?_)
      clear h183q a182q
      refine WL.done (by kernel_rfl) ?_
      refine wp_ret ?_
      have hS188q : St b w0 W184q R ([(g127q, .cells ([.slice A0q0 p0.f0.length c0q0, .int .i64 p0.f1] : List Value).toArray 41 (0, 0))] :: Fs) := hS185q.drop_
      have hS189q : St b w0 W184q R (Fs) := hS188q.drop_
      obtain ⟨rfl, rfl⟩ := ret2 H
      repeat (first | refine then_ret ?_ | refine inBlock_ret ?_ | refine inBlock_go ?_)
      refine body_ret (v := .tuple #[.agg #[.string (mkS ([] : List UInt8)), .string (mkS ([] : List UInt8)), .bool false], .bool false]) h187q (by kernel_rfl) (res_many (xs := [ResultVar.cell 4 29, ResultVar.tmp 5]) rfl ⟨⟨_, rfl, loadVarN Tryd.underlying29 rfl (cs := ([.string (mkS ([] : List UInt8)), .string (mkS ([] : List UInt8)), .bool false] : List Value)) (by kernel_rfl) (hS185q.cells (vs := ([.string (mkS ([] : List UInt8)), .string (mkS ([] : List UInt8)), .bool false] : List Value)) rfl)⟩, rfl, trivial⟩ rfl) ?_
      exact ⟨rfl, hS189q⟩
    · rw [if_neg c165q] at H
      have hb_ : (decide (p1 < 62)) = false := decide_eq_false c165q
      try rw [hb_] at h164q
      clear hb_
      refine WL.op' (m := 3) h164q rfl rfl (owp_run h164q rfl (by kernel_rfl) (v := .int .i64 p1) (by kernel_rfl) (fun a190q h191q => ?_))
      clear h164q a163q
      refine WL.op' (m := 4) h191q rfl rfl (owp_run h191q rfl (by kernel_rfl) (v := .int .i64 (IntKind.i64.wrap (p1 - 62))) (by kernel_rfl) (fun a192q h193q => ?_))
      clear h191q a190q
      refine WL.op' (m := 5) h193q rfl rfl (owp_run h193q rfl (by kernel_rfl) (v := .pointer (some ⟨g127q, 0, none⟩)) (by kernel_rfl) (fun a194q h195q => ?_))
      clear h193q a192q
      have hS196q : St b w0 W142q R ([(g127q, .cells ([.slice A0q0 p0.f0.length c0q0, .int .i64 p0.f1] : List Value).toArray 41 (0, 0))] :: [(g132q, .cells ([.string (mkS ([] : List UInt8)), .string (mkS ([] : List UInt8)), .bool false] : List Value).toArray 29 (0, 0))] :: Fs) := hS147q.bring 1 rfl rfl
      refine WL.op' (m := 6) h195q rfl rfl ?_
      refine owp_run (v := .slice A0q0 p0.f0.length c0q0) h195q rfl (by kernel_rfl) (run_load1 rfl rfl Tryd.underlying23 rfl (hS196q.cell (i := 0) rfl)) (fun a197q h198q => ?_)
      clear h195q a194q
      refine WL.op' (m := 7) h198q rfl rfl (owp_run h198q rfl (by kernel_rfl) (v := .int .i64 (p0.f0.length : Int)) (by kernel_rfl) (fun a199q h200q => ?_))
      clear h198q a197q
      refine WL.op' (m := 8) h200q rfl rfl (owp_run h200q rfl (by kernel_rfl) (v := .bool (decide ((IntKind.i64.wrap (p1 - 62)) ≥ (p0.f0.length : Int)))) (by kernel_rfl) (fun a201q h202q => ?_))
      clear h200q a199q
      refine WL.block (c := 1) (m' := 10) h202q rfl [(28, .bool (decide ((IntKind.i64.wrap (p1 - 62)) ≥ (p0.f0.length : Int))))] (by kernel_rfl) (fun a203q h204q => ?_)
      clear h202q a201q
      refine WL.done (by kernel_rfl) ?_
      by_cases c205q : (IntKind.i64.wrap (p1 - 62)) ≥ (p0.f0.length : Int)
      · rw [if_pos c205q] at H
        have hb_ : (decide ((IntKind.i64.wrap (p1 - 62)) ≥ (p0.f0.length : Int))) = true := decide_eq_true c205q
        try rw [hb_] at h204q
        clear hb_
        refine wp_then h204q rfl ?_
        refine wp_seq ?_
        refine WL.start ?_
        refine WL.block (c := 1) (m' := 1) h204q rfl [(29, .agg #[.string (mkS ([] : List UInt8)), .string (mkS ([] : List UInt8)), .bool false])] (by kernel_rfl) (fun a206q h207q => ?_)
        clear h204q a203q
        have hS208q : St b w0 W142q R ([(g132q, .cells ([.string (mkS ([] : List UInt8)), .string (mkS ([] : List UInt8)), .bool false] : List Value).toArray 29 (0, 0))] :: [(g127q, .cells ([.slice A0q0 p0.f0.length c0q0, .int .i64 p0.f1] : List Value).toArray 41 (0, 0))] :: Fs) := hS196q.bring 1 rfl rfl
        refine WL.op' (m := 1) h207q rfl rfl ?_
        refine owp_store (i := 0) (vs := ([.string (mkS ([] : List UInt8)), .string (mkS ([] : List UInt8)), .bool false] : List Value)) h207q rfl (by kernel_rfl) rfl rfl rfl rfl (by simp [Value.oneCell']) (by kernel_rfl) hS208q (by simp) (cs' := ([.string (mkS ([] : List UInt8)), .string (mkS ([] : List UInt8)), .bool false] : List Value)) rfl (fun a209q W211q h210q hS212q => ?_)
        clear h207q a206q
        refine WL.block (c := 1) (m' := 3) h210q rfl [(5, .bool false)] (by kernel_rfl) (fun a213q h214q => ?_)
        clear h210q a209q
        refine WL.done (by kernel_rfl) ?_
        refine wp_ret ?_
        have hS215q : St b w0 W211q R ([(g127q, .cells ([.slice A0q0 p0.f0.length c0q0, .int .i64 p0.f1] : List Value).toArray 41 (0, 0))] :: Fs) := hS212q.drop_
        have hS216q : St b w0 W211q R (Fs) := hS215q.drop_
        obtain ⟨rfl, rfl⟩ := ret2 H
        repeat (first | refine then_ret ?_ | refine inBlock_ret ?_ | refine inBlock_go ?_)
        refine body_ret (v := .tuple #[.agg #[.string (mkS ([] : List UInt8)), .string (mkS ([] : List UInt8)), .bool false], .bool false]) h214q (by kernel_rfl) (res_many (xs := [ResultVar.cell 4 29, ResultVar.tmp 5]) rfl ⟨⟨_, rfl, loadVarN Tryd.underlying29 rfl (cs := ([.string (mkS ([] : List UInt8)), .string (mkS ([] : List UInt8)), .bool false] : List Value)) (by kernel_rfl) (hS212q.cells (vs := ([.string (mkS ([] : List UInt8)), .string (mkS ([] : List UInt8)), .bool false] : List Value)) rfl)⟩, rfl, trivial⟩ rfl) ?_
        exact ⟨rfl, hS216q⟩
      · rw [if_neg c205q] at H
        have hb_ : (decide ((IntKind.i64.wrap (p1 - 62)) ≥ (p0.f0.length : Int))) = false := decide_eq_false c205q
        try rw [hb_] at h204q
        clear hb_
        refine wp_else h204q rfl ?_
        refine wp_skip ?_
        refine wp_seq ?_
        refine WL.start ?_
        refine WL.block (c := 1) (m' := 1) h204q rfl [(30, .pointer (some ⟨g127q, 0, none⟩))] (by kernel_rfl) (fun a217q h218q => ?_)
        clear h204q a203q
        refine WL.op' (m := 1) h218q rfl rfl ?_
        refine owp_run (v := .slice A0q0 p0.f0.length c0q0) h218q rfl (by kernel_rfl) (run_load1 rfl rfl Tryd.underlying23 rfl (hS196q.cell (i := 0) rfl)) (fun a219q h220q => ?_)
        clear h218q a217q
        refine WL.block (c := 2) (m' := 4) h220q rfl [(33, .int .i64 (IntKind.i64.wrap (p1 - 62))), (32, .int .i64 p1)] (by kernel_rfl) (fun a221q h222q => ?_)
        clear h220q a219q
        by_cases c223q : 0 ≤ (IntKind.i64.wrap (p1 - 62))
        · rw [if_pos c223q] at H
          by_cases c224q : (IntKind.i64.wrap (p1 - 62)) < (p0.f0.length : Int)
          · rw [if_pos c224q] at H
            have hi227q : 0 ≤ IntKind.i64.wrap (p1 - 62) := by first | assumption | omega
            have hi228q : (IntKind.i64.wrap (p1 - 62)) < (p0.f0.length : Int) := by first | assumption | omega
            obtain ⟨ad225q, _, ha226q, -, -⟩ := Rds.elemAny hp0q0 hi227q (gt_get (z := z29) hi227q hi228q)
            refine WL.op' (m := 4) h222q rfl rfl ?_
            refine owp_run (v := .pointer (some (ad225q.add ((IntKind.i64.wrap (p1 - 62)).toNat * 3)))) h222q rfl (by kernel_rfl) (run_idx (ad := ad225q) (sz := 3) rfl (by rw [← ha226q]; rfl) rfl Tryd.underlying23 (by kernel_rfl) hi227q hi228q) (fun a229q h230q => ?_)
            clear h222q a221q
            obtain ⟨ad231q, cs232q, ha233q, hr235q, hc234q⟩ := Rds.elemAny hp0q0 hi227q (gt_get (z := z29) hi227q hi228q)
            rw [ha226q] at ha233q; obtain rfl := Option.some.inj ha233q
            obtain rfl := k29qrd hr235q
            refine WL.op' (m := 5) h230q rfl rfl ?_
            refine owp_run (v := .agg #[.string (mkS ((gt z29 p0.f0 (IntKind.i64.wrap (p1 - 62))).f0)), .string (mkS ((gt z29 p0.f0 (IntKind.i64.wrap (p1 - 62))).f1)), .bool ((gt z29 p0.f0 (IntKind.i64.wrap (p1 - 62))).f2)]) h230q rfl (by kernel_rfl) (run_loadN rfl rfl Tryd.underlying29 rfl (cs := ([.string (mkS ((gt z29 p0.f0 (IntKind.i64.wrap (p1 - 62))).f0)), .string (mkS ((gt z29 p0.f0 (IntKind.i64.wrap (p1 - 62))).f1)), .bool ((gt z29 p0.f0 (IntKind.i64.wrap (p1 - 62))).f2)] : List Value)) (by kernel_rfl) (hc234q _ (fun _ _ hk_ => hS196q.kn hk_))) (fun a236q h237q => ?_)
            clear h230q a229q
            have hS238q : St b w0 W142q R ([(g132q, .cells ([.string (mkS ([] : List UInt8)), .string (mkS ([] : List UInt8)), .bool false] : List Value).toArray 29 (0, 0))] :: [(g127q, .cells ([.slice A0q0 p0.f0.length c0q0, .int .i64 p0.f1] : List Value).toArray 41 (0, 0))] :: Fs) := hS196q.bring 1 rfl rfl
            refine WL.op' (m := 6) h237q rfl rfl ?_
            refine owp_store (i := 0) (vs := ([.string (mkS ((gt z29 p0.f0 (IntKind.i64.wrap (p1 - 62))).f0)), .string (mkS ((gt z29 p0.f0 (IntKind.i64.wrap (p1 - 62))).f1)), .bool ((gt z29 p0.f0 (IntKind.i64.wrap (p1 - 62))).f2)] : List Value)) h237q rfl (by kernel_rfl) rfl rfl rfl rfl (by simp [Value.oneCell']) (by kernel_rfl) hS238q (by simp) (cs' := ([.string (mkS ((gt z29 p0.f0 (IntKind.i64.wrap (p1 - 62))).f0)), .string (mkS ((gt z29 p0.f0 (IntKind.i64.wrap (p1 - 62))).f1)), .bool ((gt z29 p0.f0 (IntKind.i64.wrap (p1 - 62))).f2)] : List Value)) rfl (fun a239q W241q h240q hS242q => ?_)
            clear h237q a236q
            refine WL.block (c := 1) (m' := 8) h240q rfl [(5, .bool true)] (by kernel_rfl) (fun a243q h244q => ?_)
            clear h240q a239q
            refine WL.done (by kernel_rfl) ?_
            refine wp_ret ?_
            have hS245q : St b w0 W241q R ([(g127q, .cells ([.slice A0q0 p0.f0.length c0q0, .int .i64 p0.f1] : List Value).toArray 41 (0, 0))] :: Fs) := hS242q.drop_
            have hS246q : St b w0 W241q R (Fs) := hS245q.drop_
            obtain ⟨rfl, rfl⟩ := ret2 H
            repeat (first | refine then_ret ?_ | refine inBlock_ret ?_ | refine inBlock_go ?_)
            refine body_ret (v := .tuple #[.agg #[.string (mkS ((gt z29 p0.f0 (IntKind.i64.wrap (p1 - 62))).f0)), .string (mkS ((gt z29 p0.f0 (IntKind.i64.wrap (p1 - 62))).f1)), .bool ((gt z29 p0.f0 (IntKind.i64.wrap (p1 - 62))).f2)], .bool true]) h244q (by kernel_rfl) (res_many (xs := [ResultVar.cell 4 29, ResultVar.tmp 5]) rfl ⟨⟨_, rfl, loadVarN Tryd.underlying29 rfl (cs := ([.string (mkS ((gt z29 p0.f0 (IntKind.i64.wrap (p1 - 62))).f0)), .string (mkS ((gt z29 p0.f0 (IntKind.i64.wrap (p1 - 62))).f1)), .bool ((gt z29 p0.f0 (IntKind.i64.wrap (p1 - 62))).f2)] : List Value)) (by kernel_rfl) (hS242q.cells (vs := ([.string (mkS ((gt z29 p0.f0 (IntKind.i64.wrap (p1 - 62))).f0)), .string (mkS ((gt z29 p0.f0 (IntKind.i64.wrap (p1 - 62))).f1)), .bool ((gt z29 p0.f0 (IntKind.i64.wrap (p1 - 62))).f2)] : List Value)) rfl)⟩, rfl, trivial⟩ rfl) ?_
            exact ⟨rfl, hS246q⟩
          · rw [if_neg c224q] at H
            cases H
        · rw [if_neg c223q] at H
          cases H

/-! ### louver/louverref04.Find -/
mutual
def louverref04qFind.l0 : Nat → Int → (List UInt8) → (List UInt8) → (List (List UInt8)) → Option (Int × Bool)
  | 0, _, _, _, _ => none
  | k + 1, x321q, p0, p1, r300q => if x321q < (r300q.length : Int) then (if 0 ≤ x321q then (if (gt [] r300q x321q) = p0 then (if 0 ≤ (IntKind.i64.wrap (x321q + 1)) then (if (IntKind.i64.wrap (x321q + 1)) < (r300q.length : Int) then (if (gt [] r300q (IntKind.i64.wrap (x321q + 1))) = p1 then (some (IntKind.i64.wrap ((IntKind.i64.wrap (Int.tdiv x321q 2)) + 1), true)) else (louverref04qFind.l0 k (IntKind.i64.wrap (x321q + 2)) p0 p1 r300q)) else (none)) else (none)) else (louverref04qFind.l0 k (IntKind.i64.wrap (x321q + 2)) p0 p1 r300q)) else (none)) else (louverref04qFind.l1 k 0 p0 r300q)
def louverref04qFind.l1 : Nat → Int → (List UInt8) → (List (List UInt8)) → Option (Int × Bool)
  | 0, _, _, _ => none
  | k + 1, x407q, p0, r300q => if x407q < (r300q.length : Int) then (if 0 ≤ x407q then (if (gt [] r300q x407q) = p0 then (some (IntKind.i64.wrap ((IntKind.i64.wrap (Int.tdiv x407q 2)) + 1), false)) else (louverref04qFind.l1 k (IntKind.i64.wrap (x407q + 2)) p0 r300q)) else (none)) else (some (0, false))
end
def louverref04qFind.f (k : Nat) (p0 : (List UInt8)) (p1 : (List UInt8)) : Option (Int × Bool) := bnd1 (louverref04qTable.f) fun r300q => (louverref04qFind.l0 k 0 p0 p1 r300q)
set_option maxHeartbeats 2000000 in
set_option maxRecDepth 100000 in
theorem louverref04qFind.calls (k : Nat) {b : Nat} {w0 W : World} {R : Frag} {Fs : List Frag} {p0 : (List UInt8)} {p1 : (List UInt8)}  {r0q : Int} {r1q : Bool}  (H : louverref04qFind.f k p0 p1 = some (r0q, r1q)) (hS : St b w0 W R (Fs)) :
    Calls Tryd.prog 31 ([.string (mkS p0), .string (mkS p1)] : List Value).toArray W (fun e W' => e = .returned (.tuple #[.int .i64 r0q, .bool r1q]) ∧ St b w0 W' R (Fs)) := by
  unfold louverref04qFind.f at H
  refine calls_enter Tryd.func31 rfl 49 rfl (by kernel_rfl) (fun a h => ?_)
  refine wp_seq ?_
  refine WL.start ?_
  refine WL.block (c := 2) (m' := 2) h rfl [(5, .bool false), (4, .int .i64 0)] (by kernel_rfl) (fun a297q h298q => ?_)
  refine WL.done (by kernel_rfl) ?_
  refine wp_seq ?_
  refine WL.start ?_
  obtain ⟨r300q, A299q, H⟩ := bind1 H
  refine WL.op' (m := 0) h298q rfl rfl ?_
  refine owp_call [] h298q rfl (by kernel_rfl) rfl Tryd.func33 (by kernel_rfl) rfl (by kernel_rfl) (louverref04qTable.calls  A299q hS) (fun e302q W301q hp303q => ?_)
  obtain ⟨v306q, M307q, rfl, hr308q, hS309q⟩ := hp303q
  refine ⟨_, rfl, fun a304q h305q => ?_⟩
  clear h298q a297q
  obtain ⟨A310q, c311q, rfl⟩ := hr308q.form
  refine WL.block (c := 1) (m' := 2) h305q rfl [(6, .slice A310q r300q.length c311q)] (by kernel_rfl) (fun a312q h313q => ?_)
  clear h305q a304q
  refine WL.done (by kernel_rfl) ?_
  refine wp_seq ?_
  refine wp_seq ?_
  refine WL.start ?_
  refine WL.block (c := 1) (m' := 1) h313q rfl [(7, .int .i64 0)] (by kernel_rfl) (fun a314q h315q => ?_)
  clear h313q a312q
  refine WL.done (by kernel_rfl) ?_
  refine wp_block ?_
  refine wp_loop_ghost (fun kq_ a_ W_ => ∃ (x321q : Int), Hd a_ 49 [(0, .string (mkS p0)), (1, .string (mkS p1)), (6, .slice A310q r300q.length c311q), (7, .int .i64 x321q)] ∧ Asd (louverref04qFind.l0 kq_ x321q p0 p1 r300q = some (r0q, r1q)) ∧ Asd (kq_ ≤ k) ∧ Asd (St b w0 W_ R (M307q :: Fs))) k ⟨0, h315q.keep ⟨rfl, rfl, rfl, rfl, trivial⟩, ⟨H⟩, ⟨Nat.le_refl _⟩, ⟨hS309q⟩⟩ ?_
  clear H hS309q
  rintro k320q a317q W318q ⟨x321q, h316q, ⟨H⟩, ⟨hkk320q⟩, ⟨hS319q⟩⟩
  obtain _ | k322q := k320q
  · exact absurd H (by simp [louverref04qFind.l0])
  simp only [louverref04qFind.l0] at H
  refine wp_seq ?_
  refine wp_seq ?_
  refine WL.start ?_
  refine WL.block (c := 4) (m' := 4) h316q rfl [(13, .bool (decide (x321q < (r300q.length : Int)))), (12, .int .i64 (r300q.length : Int)), (11, .slice A310q r300q.length c311q), (10, .int .i64 x321q)] (by kernel_rfl) (fun a323q h324q => ?_)
  clear h316q a317q
  refine WL.done (by kernel_rfl) ?_
  by_cases c325q : x321q < (r300q.length : Int)
  · rw [if_pos c325q] at H
    have hb_ : (decide (x321q < (r300q.length : Int))) = true := decide_eq_true c325q
    try rw [hb_] at h324q
    clear hb_
    refine wp_then h324q rfl ?_
    refine wp_skip ?_
    refine wp_seq ?_
    refine wp_block ?_
    refine wp_seq ?_
    refine WL.start ?_
    refine WL.block (c := 2) (m' := 2) h324q rfl [(17, .int .i64 x321q), (16, .slice A310q r300q.length c311q)] (by kernel_rfl) (fun a326q h327q => ?_)
    clear h324q a323q
    by_cases c328q : 0 ≤ x321q
    · rw [if_pos c328q] at H
      have hi331q : 0 ≤ x321q := by first | assumption | omega
      have hi332q : x321q < (r300q.length : Int) := by first | assumption | omega
      obtain ⟨ad329q, _, ha330q, -, -⟩ := Rds.elemAny hr308q.rds hi331q (gt_get (z := []) hi331q hi332q)
      refine WL.op' (m := 2) h327q rfl rfl ?_
      refine owp_run (v := .pointer (some (ad329q.add (x321q.toNat * 1)))) h327q rfl (by kernel_rfl) (run_idx (ad := ad329q) (sz := 1) rfl (by rw [← ha330q]; rfl) rfl Tryd.underlying49 (by kernel_rfl) hi331q hi332q) (fun a333q h334q => ?_)
      clear h327q a326q
      obtain ⟨ad335q, cs336q, ha337q, hr339q, hc338q⟩ := Rds.elemAny hr308q.rds hi331q (gt_get (z := []) hi331q hi332q)
      rw [ha330q] at ha337q; obtain rfl := Option.some.inj ha337q
      obtain rfl : cs336q = [.string (mkS (gt [] r300q x321q))] := hr339q
      refine WL.op' (m := 3) h334q rfl rfl ?_
      refine owp_run (v := .string (mkS (gt [] r300q x321q))) h334q rfl (by kernel_rfl) (run_load1 rfl rfl Tryd.underlying9 rfl (cell0 (hc338q _ (fun _ _ hk_ => (hS319q).pool.kn hk_)))) (fun a340q h341q => ?_)
      clear h334q a333q
      refine WL.block (c := 1) (m' := 5) h341q rfl [(20, .string (mkS p0))] (by kernel_rfl) (fun a342q h343q => ?_)
      clear h341q a340q
      refine WL.op' (m := 5) h343q rfl rfl ?_
      refine owp_run (v := .bool (decide ((gt [] r300q x321q) = p0))) h343q rfl (by kernel_rfl) (run_streq rfl rfl rfl) (fun a344q h345q => ?_)
      clear h343q a342q
      refine WL.block (c := 1) (m' := 7) h345q rfl [(22, .bool (decide ((gt [] r300q x321q) = p0)))] (by kernel_rfl) (fun a346q h347q => ?_)
      clear h345q a344q
      by_cases c348q : (gt [] r300q x321q) = p0
      · rw [if_pos c348q] at H
        have hb_ : (decide ((gt [] r300q x321q) = p0)) = true := decide_eq_true c348q
        try rw [hb_] at h347q
        clear hb_
        refine WL.op' (m := 7) h347q rfl rfl (owp_run h347q rfl (by kernel_rfl) (v := .slice A310q r300q.length c311q) (by kernel_rfl) (fun a349q h350q => ?_))
        clear h347q a346q
        refine WL.op' (m := 8) h350q rfl rfl (owp_run h350q rfl (by kernel_rfl) (v := .int .i64 x321q) (by kernel_rfl) (fun a351q h352q => ?_))
        clear h350q a349q
        refine WL.op' (m := 9) h352q rfl rfl (owp_run h352q rfl (by kernel_rfl) (v := .int .i64 (IntKind.i64.wrap (x321q + 1))) (by kernel_rfl) (fun a353q h354q => ?_))
        clear h352q a351q
        by_cases c355q : 0 ≤ (IntKind.i64.wrap (x321q + 1))
        · rw [if_pos c355q] at H
          by_cases c356q : (IntKind.i64.wrap (x321q + 1)) < (r300q.length : Int)
          · rw [if_pos c356q] at H
            have hi359q : 0 ≤ IntKind.i64.wrap (x321q + 1) := by first | assumption | omega
            have hi360q : (IntKind.i64.wrap (x321q + 1)) < (r300q.length : Int) := by first | assumption | omega
            obtain ⟨ad357q, _, ha358q, -, -⟩ := Rds.elemAny hr308q.rds hi359q (gt_get (z := []) hi359q hi360q)
            refine WL.op' (m := 10) h354q rfl rfl ?_
            refine owp_run (v := .pointer (some (ad357q.add ((IntKind.i64.wrap (x321q + 1)).toNat * 1)))) h354q rfl (by kernel_rfl) (run_idx (ad := ad357q) (sz := 1) rfl (by rw [← ha358q]; rfl) rfl Tryd.underlying49 (by kernel_rfl) hi359q hi360q) (fun a361q h362q => ?_)
            clear h354q a353q
            obtain ⟨ad363q, cs364q, ha365q, hr367q, hc366q⟩ := Rds.elemAny hr308q.rds hi359q (gt_get (z := []) hi359q hi360q)
            rw [ha358q] at ha365q; obtain rfl := Option.some.inj ha365q
            obtain rfl : cs364q = [.string (mkS (gt [] r300q (IntKind.i64.wrap (x321q + 1))))] := hr367q
            refine WL.op' (m := 11) h362q rfl rfl ?_
            refine owp_run (v := .string (mkS (gt [] r300q (IntKind.i64.wrap (x321q + 1))))) h362q rfl (by kernel_rfl) (run_load1 rfl rfl Tryd.underlying9 rfl (cell0 (hc366q _ (fun _ _ hk_ => (hS319q).pool.kn hk_)))) (fun a368q h369q => ?_)
            clear h362q a361q
            refine WL.op' (m := 12) h369q rfl rfl (owp_run h369q rfl (by kernel_rfl) (v := .string (mkS p1)) (by kernel_rfl) (fun a370q h371q => ?_))
            clear h369q a368q
            refine WL.op' (m := 13) h371q rfl rfl ?_
            refine owp_run (v := .bool (decide ((gt [] r300q (IntKind.i64.wrap (x321q + 1))) = p1))) h371q rfl (by kernel_rfl) (run_streq rfl rfl rfl) (fun a372q h373q => ?_)
            clear h371q a370q
            refine WL.block (c := 1) (m' := 15) h373q rfl [(30, .bool (decide ((gt [] r300q (IntKind.i64.wrap (x321q + 1))) = p1)))] (by kernel_rfl) (fun a374q h375q => ?_)
            clear h373q a372q
            refine WL.done (by kernel_rfl) ?_
            by_cases c376q : (gt [] r300q (IntKind.i64.wrap (x321q + 1))) = p1
            · rw [if_pos c376q] at H
              have hb_ : (decide ((gt [] r300q (IntKind.i64.wrap (x321q + 1))) = p1)) = true := decide_eq_true c376q
              try rw [hb_] at h375q
              clear hb_
              refine wp_then h375q rfl ?_
              refine wp_seq ?_
              refine WL.start ?_
              refine WL.block (c := 5) (m' := 5) h375q rfl [(5, .bool true), (4, .int .i64 (IntKind.i64.wrap ((IntKind.i64.wrap (Int.tdiv x321q 2)) + 1))), (33, .int .i64 (IntKind.i64.wrap ((IntKind.i64.wrap (Int.tdiv x321q 2)) + 1))), (32, .int .i64 (IntKind.i64.wrap (Int.tdiv x321q 2))), (31, .int .i64 x321q)] (by kernel_rfl) (fun a377q h378q => ?_)
              clear h375q a374q
              refine WL.done (by kernel_rfl) ?_
              refine wp_ret ?_
              have hS379q : St b w0 W318q R (Fs) := hS319q.drop_
              obtain ⟨rfl, rfl⟩ := ret2 H
              repeat (first | refine then_ret ?_ | refine inBlock_ret ?_ | refine inBlock_go ?_)
              refine body_ret (v := .tuple #[.int .i64 (IntKind.i64.wrap ((IntKind.i64.wrap (Int.tdiv x321q 2)) + 1)), .bool true]) h378q (by kernel_rfl) (by kernel_rfl) ?_
              exact ⟨rfl, hS379q⟩
            · rw [if_neg c376q] at H
              have hb_ : (decide ((gt [] r300q (IntKind.i64.wrap (x321q + 1))) = p1)) = false := decide_eq_false c376q
              try rw [hb_] at h375q
              clear hb_
              refine wp_else h375q rfl ?_
              refine wp_skip ?_
              refine WL.start ?_
              refine WL.block (c := 3) (m' := 3) h375q rfl [(7, .int .i64 (IntKind.i64.wrap (x321q + 2))), (15, .int .i64 (IntKind.i64.wrap (x321q + 2))), (14, .int .i64 x321q)] (by kernel_rfl) (fun a380q h381q => ?_)
              clear h375q a374q
              refine WL.done (by kernel_rfl) ?_
              exact ⟨k322q, by omega, IntKind.i64.wrap (x321q + 2), h381q.keep ⟨rfl, rfl, rfl, rfl, trivial⟩, ⟨H⟩, ⟨by omega⟩, ⟨hS319q⟩⟩
          · rw [if_neg c356q] at H
            cases H
        · rw [if_neg c355q] at H
          cases H
      · rw [if_neg c348q] at H
        have hb_ : (decide ((gt [] r300q x321q) = p0)) = false := decide_eq_false c348q
        try rw [hb_] at h347q
        clear hb_
        refine WL.skipped (m := 7) h347q rfl rfl (by kernel_rfl) rfl (fun a382q h383q => ?_)
        clear h347q a346q
        refine WL.skipped (m := 8) h383q rfl rfl (by kernel_rfl) rfl (fun a384q h385q => ?_)
        clear h383q a382q
        refine WL.skipped (m := 9) h385q rfl rfl (by kernel_rfl) rfl (fun a386q h387q => ?_)
        clear h385q a384q
        refine WL.skipped (m := 10) h387q rfl rfl (by kernel_rfl) rfl (fun a388q h389q => ?_)
        clear h387q a386q
        refine WL.skipped (m := 11) h389q rfl rfl (by kernel_rfl) rfl (fun a390q h391q => ?_)
        clear h389q a388q
        refine WL.skipped (m := 12) h391q rfl rfl (by kernel_rfl) rfl (fun a392q h393q => ?_)
        clear h391q a390q
        refine WL.skipped (m := 13) h393q rfl rfl (by kernel_rfl) rfl (fun a394q h395q => ?_)
        clear h393q a392q
        refine WL.block (c := 1) (m' := 15) h395q rfl [(30, .bool false)] (by kernel_rfl) (fun a396q h397q => ?_)
        clear h395q a394q
        refine WL.done (by kernel_rfl) ?_
        refine wp_else h397q rfl ?_
        refine wp_skip ?_
        refine WL.start ?_
        refine WL.block (c := 3) (m' := 3) h397q rfl [(7, .int .i64 (IntKind.i64.wrap (x321q + 2))), (15, .int .i64 (IntKind.i64.wrap (x321q + 2))), (14, .int .i64 x321q)] (by kernel_rfl) (fun a398q h399q => ?_)
        clear h397q a396q
        refine WL.done (by kernel_rfl) ?_
        exact ⟨k322q, by omega, IntKind.i64.wrap (x321q + 2), h399q.keep ⟨rfl, rfl, rfl, rfl, trivial⟩, ⟨H⟩, ⟨by omega⟩, ⟨hS319q⟩⟩
    · rw [if_neg c328q] at H
      cases H
  · rw [if_neg c325q] at H
    have hb_ : (decide (x321q < (r300q.length : Int))) = false := decide_eq_false c325q
    try rw [hb_] at h324q
    clear hb_
    refine wp_else h324q rfl ?_
    refine wp_exit ?_
    refine wp_seq ?_
    refine wp_seq ?_
    refine WL.start ?_
    refine WL.block (c := 1) (m' := 1) h324q rfl [(8, .int .i64 0)] (by kernel_rfl) (fun a400q h401q => ?_)
    clear h324q a323q
    refine WL.done (by kernel_rfl) ?_
    refine wp_block ?_
    refine wp_loop_ghost (fun kq_ a_ W_ => ∃ (x407q : Int), Hd a_ 49 [(0, .string (mkS p0)), (6, .slice A310q r300q.length c311q), (8, .int .i64 x407q)] ∧ Asd (louverref04qFind.l1 kq_ x407q p0 r300q = some (r0q, r1q)) ∧ Asd (kq_ ≤ k322q) ∧ Asd (St b w0 W_ R (M307q :: Fs))) k322q ⟨0, h401q.keep ⟨rfl, rfl, rfl, trivial⟩, ⟨H⟩, ⟨Nat.le_refl _⟩, ⟨hS319q⟩⟩ ?_
    clear H hS319q
    rintro k406q a403q W404q ⟨x407q, h402q, ⟨H⟩, ⟨hkk406q⟩, ⟨hS405q⟩⟩
    obtain _ | k408q := k406q
    · exact absurd H (by simp [louverref04qFind.l1])
    simp only [louverref04qFind.l1] at H
    refine wp_seq ?_
    refine wp_seq ?_
    refine WL.start ?_
    refine WL.block (c := 4) (m' := 4) h402q rfl [(37, .bool (decide (x407q < (r300q.length : Int)))), (36, .int .i64 (r300q.length : Int)), (35, .slice A310q r300q.length c311q), (34, .int .i64 x407q)] (by kernel_rfl) (fun a409q h410q => ?_)
    clear h402q a403q
    refine WL.done (by kernel_rfl) ?_
    by_cases c411q : x407q < (r300q.length : Int)
    · rw [if_pos c411q] at H
      have hb_ : (decide (x407q < (r300q.length : Int))) = true := decide_eq_true c411q
      try rw [hb_] at h410q
      clear hb_
      refine wp_then h410q rfl ?_
      refine wp_skip ?_
      refine wp_seq ?_
      refine wp_block ?_
      refine wp_seq ?_
      refine WL.start ?_
      refine WL.block (c := 2) (m' := 2) h410q rfl [(41, .int .i64 x407q), (40, .slice A310q r300q.length c311q)] (by kernel_rfl) (fun a412q h413q => ?_)
      clear h410q a409q
      by_cases c414q : 0 ≤ x407q
      · rw [if_pos c414q] at H
        have hi417q : 0 ≤ x407q := by first | assumption | omega
        have hi418q : x407q < (r300q.length : Int) := by first | assumption | omega
        obtain ⟨ad415q, _, ha416q, -, -⟩ := Rds.elemAny hr308q.rds hi417q (gt_get (z := []) hi417q hi418q)
        refine WL.op' (m := 2) h413q rfl rfl ?_
        refine owp_run (v := .pointer (some (ad415q.add (x407q.toNat * 1)))) h413q rfl (by kernel_rfl) (run_idx (ad := ad415q) (sz := 1) rfl (by rw [← ha416q]; rfl) rfl Tryd.underlying49 (by kernel_rfl) hi417q hi418q) (fun a419q h420q => ?_)
        clear h413q a412q
        obtain ⟨ad421q, cs422q, ha423q, hr425q, hc424q⟩ := Rds.elemAny hr308q.rds hi417q (gt_get (z := []) hi417q hi418q)
        rw [ha416q] at ha423q; obtain rfl := Option.some.inj ha423q
        obtain rfl : cs422q = [.string (mkS (gt [] r300q x407q))] := hr425q
        refine WL.op' (m := 3) h420q rfl rfl ?_
        refine owp_run (v := .string (mkS (gt [] r300q x407q))) h420q rfl (by kernel_rfl) (run_load1 rfl rfl Tryd.underlying9 rfl (cell0 (hc424q _ (fun _ _ hk_ => (hS405q).pool.kn hk_)))) (fun a426q h427q => ?_)
        clear h420q a419q
        refine WL.block (c := 1) (m' := 5) h427q rfl [(44, .string (mkS p0))] (by kernel_rfl) (fun a428q h429q => ?_)
        clear h427q a426q
        refine WL.op' (m := 5) h429q rfl rfl ?_
        refine owp_run (v := .bool (decide ((gt [] r300q x407q) = p0))) h429q rfl (by kernel_rfl) (run_streq rfl rfl rfl) (fun a430q h431q => ?_)
        clear h429q a428q
        refine WL.done (by kernel_rfl) ?_
        by_cases c432q : (gt [] r300q x407q) = p0
        · rw [if_pos c432q] at H
          have hb_ : (decide ((gt [] r300q x407q) = p0)) = true := decide_eq_true c432q
          try rw [hb_] at h431q
          clear hb_
          refine wp_then h431q rfl ?_
          refine wp_seq ?_
          refine WL.start ?_
          refine WL.block (c := 5) (m' := 5) h431q rfl [(5, .bool false), (4, .int .i64 (IntKind.i64.wrap ((IntKind.i64.wrap (Int.tdiv x407q 2)) + 1))), (48, .int .i64 (IntKind.i64.wrap ((IntKind.i64.wrap (Int.tdiv x407q 2)) + 1))), (47, .int .i64 (IntKind.i64.wrap (Int.tdiv x407q 2))), (46, .int .i64 x407q)] (by kernel_rfl) (fun a433q h434q => ?_)
          clear h431q a430q
          refine WL.done (by kernel_rfl) ?_
          refine wp_ret ?_
          have hS435q : St b w0 W404q R (Fs) := hS405q.drop_
          obtain ⟨rfl, rfl⟩ := ret2 H
          repeat (first | refine then_ret ?_ | refine inBlock_ret ?_ | refine inBlock_go ?_)
          refine body_ret (v := .tuple #[.int .i64 (IntKind.i64.wrap ((IntKind.i64.wrap (Int.tdiv x407q 2)) + 1)), .bool false]) h434q (by kernel_rfl) (by kernel_rfl) ?_
          exact ⟨rfl, hS435q⟩
        · rw [if_neg c432q] at H
          have hb_ : (decide ((gt [] r300q x407q) = p0)) = false := decide_eq_false c432q
          try rw [hb_] at h431q
          clear hb_
          refine wp_else h431q rfl ?_
          refine wp_skip ?_
          refine WL.start ?_
          refine WL.block (c := 3) (m' := 3) h431q rfl [(8, .int .i64 (IntKind.i64.wrap (x407q + 2))), (39, .int .i64 (IntKind.i64.wrap (x407q + 2))), (38, .int .i64 x407q)] (by kernel_rfl) (fun a436q h437q => ?_)
          clear h431q a430q
          refine WL.done (by kernel_rfl) ?_
          exact ⟨k408q, by omega, IntKind.i64.wrap (x407q + 2), h437q.keep ⟨rfl, rfl, rfl, trivial⟩, ⟨H⟩, ⟨by omega⟩, ⟨hS405q⟩⟩
      · rw [if_neg c414q] at H
        cases H
    · rw [if_neg c411q] at H
      have hb_ : (decide (x407q < (r300q.length : Int))) = false := decide_eq_false c411q
      try rw [hb_] at h410q
      clear hb_
      refine wp_else h410q rfl ?_
      refine wp_exit ?_
      refine wp_seq ?_
      refine WL.start ?_
      refine WL.block (c := 2) (m' := 2) h410q rfl [(5, .bool false), (4, .int .i64 0)] (by kernel_rfl) (fun a438q h439q => ?_)
      clear h410q a409q
      refine WL.done (by kernel_rfl) ?_
      refine wp_ret ?_
      have hS440q : St b w0 W404q R (Fs) := hS405q.drop_
      obtain ⟨rfl, rfl⟩ := ret2 H
      repeat (first | refine then_ret ?_ | refine inBlock_ret ?_ | refine inBlock_go ?_)
      refine body_ret (v := .tuple #[.int .i64 0, .bool false]) h439q (by kernel_rfl) (by kernel_rfl) ?_
      exact ⟨rfl, hS440q⟩

/-! ### (louver/louverref05.T).Find -/
mutual
def louverref05qT_Find.l0 : Nat → Int → S41 → (List UInt8) → (List UInt8) → Int → Option (Int × Bool)
  | 0, _, _, _, _, _ => none
  | k + 1, x662q, p0, p1, p2, r635q => if x662q < (p0.f0.length : Int) then (if 0 ≤ x662q then (if ((gt z29 p0.f0 x662q).f0) = p1 then (if ((gt z29 p0.f0 x662q).f1) = p2 then (some (IntKind.i64.wrap (62 + x662q), true)) else (louverref05qT_Find.l0 k (IntKind.i64.wrap (x662q + 1)) p0 p1 p2 r635q)) else (louverref05qT_Find.l0 k (IntKind.i64.wrap (x662q + 1)) p0 p1 p2 r635q)) else (none)) else (louverref05qT_Find.l1 k r635q 0 p0 p1)
def louverref05qT_Find.l1 : Nat → Int → Int → S41 → (List UInt8) → Option (Int × Bool)
  | 0, _, _, _, _ => none
  | k + 1, x762q, x763q, p0, p1 => if x763q < (p0.f0.length : Int) then (if x762q = 0 then (if 0 ≤ x763q then (if ((gt z29 p0.f0 x763q).f0) = p1 then (louverref05qT_Find.l1 k (IntKind.i64.wrap (62 + x763q)) (IntKind.i64.wrap (x763q + 1)) p0 p1) else (louverref05qT_Find.l1 k x762q (IntKind.i64.wrap (x763q + 1)) p0 p1)) else (none)) else (louverref05qT_Find.l1 k x762q (IntKind.i64.wrap (x763q + 1)) p0 p1)) else (some (x762q, false))
end
def louverref05qT_Find.f (k : Nat) (p0 : S41) (p1 : (List UInt8)) (p2 : (List UInt8)) : Option (Int × Bool) := bnd2 (louverref04qFind.f k p1 p2) fun r635q r636q => (if r636q = true then (some (r635q, true)) else (louverref05qT_Find.l0 k 0 p0 p1 p2 r635q))
set_option maxHeartbeats 2000000 in
set_option maxRecDepth 100000 in
theorem louverref05qT_Find.calls (k : Nat) {b : Nat} {w0 W : World} {R : Frag} {Fs : List Frag} {p0 : S41} {p1 : (List UInt8)} {p2 : (List UInt8)} {v0q0 : Value} {r0q : Int} {r1q : Bool} (hp0q0 : Rds k29 b w0 R v0q0 p0.f0) (H : louverref05qT_Find.f k p0 p1 p2 = some (r0q, r1q)) (hS : St b w0 W R (Fs)) :
    Calls Tryd.prog 20 ([.agg #[v0q0, .int .i64 p0.f1], .string (mkS p1), .string (mkS p2)] : List Value).toArray W (fun e W' => e = .returned (.tuple #[.int .i64 r0q, .bool r1q]) ∧ St b w0 W' R (Fs)) := by
  obtain ⟨A0q0, c0q0, rfl⟩ := hp0q0.form
  unfold louverref05qT_Find.f at H
  refine calls_enter Tryd.func20 rfl 69 rfl (by kernel_rfl) (fun a h => ?_)
  refine wp_seq ?_
  refine WL.start ?_
  refine WL.op' (m := 0) h rfl rfl ?_
  refine owp_new (fun g_ => .pointer (some ⟨g_, 0, none⟩)) (.cells ([.slice A0q0 p0.f0.length c0q0, .int .i64 p0.f1] : List Value).toArray 41 (0, 0)) h rfl (by kernel_rfl) (by kernel_rfl) hS (fun a625q W627q g628q h626q hS629q => ?_)
  refine WL.block (c := 2) (m' := 3) h626q rfl [(7, .bool false), (6, .int .i64 0)] (by kernel_rfl) (fun a630q h631q => ?_)
  clear h626q a625q
  refine WL.done (by kernel_rfl) ?_
  refine wp_seq ?_
  refine WL.start ?_
  refine WL.block (c := 2) (m' := 2) h631q rfl [(14, .string (mkS p2)), (13, .string (mkS p1))] (by kernel_rfl) (fun a632q h633q => ?_)
  clear h631q a630q
  obtain ⟨r635q, r636q, A634q, H⟩ := bind2 H
  refine WL.op' (m := 2) h633q rfl rfl ?_
  refine owp_call [.string (mkS p1), .string (mkS p2)] h633q rfl (by kernel_rfl) rfl Tryd.func31 (by kernel_rfl) rfl (by kernel_rfl) (louverref04qFind.calls k  A634q hS629q) (fun e638q W637q hp639q => ?_)
  obtain ⟨rfl, hS642q⟩ := hp639q
  refine ⟨_, rfl, fun a640q h641q => ?_⟩
  clear h633q a632q
  refine WL.block (c := 5) (m' := 8) h641q rfl [(9, .bool r636q), (8, .int .i64 r635q), (17, .bool r636q), (16, .int .i64 r635q), (12, .tuple #[.int .i64 r635q, .bool r636q])] (by kernel_rfl) (fun a643q h644q => ?_)
  clear h641q a640q
  refine WL.done (by kernel_rfl) ?_
  refine wp_seq ?_
  refine wp_seq ?_
  refine WL.start ?_
  refine WL.block (c := 1) (m' := 1) h644q rfl [(18, .bool r636q)] (by kernel_rfl) (fun a645q h646q => ?_)
  clear h644q a643q
  refine WL.done (by kernel_rfl) ?_
  by_cases c647q : r636q = true
  · rw [if_pos c647q] at H
    have hb_ : r636q = true := c647q
    try rw [hb_] at h646q
    clear hb_
    refine wp_then h646q rfl ?_
    refine wp_seq ?_
    refine WL.start ?_
    refine WL.block (c := 3) (m' := 3) h646q rfl [(7, .bool true), (6, .int .i64 r635q), (19, .int .i64 r635q)] (by kernel_rfl) (fun a648q h649q => ?_)
    clear h646q a645q
    refine WL.done (by kernel_rfl) ?_
    refine wp_ret ?_
    have hS650q : St b w0 W637q R (Fs) := hS642q.drop_
    obtain ⟨rfl, rfl⟩ := ret2 H
    repeat (first | refine then_ret ?_ | refine inBlock_ret ?_ | refine inBlock_go ?_)
    refine body_ret (v := .tuple #[.int .i64 r635q, .bool true]) h649q (by kernel_rfl) (by kernel_rfl) ?_
    exact ⟨rfl, hS650q⟩
  · rw [if_neg c647q] at H
    have hb_ : r636q = false := (Bool.eq_false_iff.2 c647q)
    try rw [hb_] at h646q
    clear hb_
    refine wp_else h646q rfl ?_
    refine wp_skip ?_
    refine wp_seq ?_
    refine wp_seq ?_
    refine WL.start ?_
    refine WL.block (c := 1) (m' := 1) h646q rfl [(20, .pointer (some ⟨g628q, 0, none⟩))] (by kernel_rfl) (fun a651q h652q => ?_)
    clear h646q a645q
    refine WL.op' (m := 1) h652q rfl rfl ?_
    refine owp_run (v := .slice A0q0 p0.f0.length c0q0) h652q rfl (by kernel_rfl) (run_load1 rfl rfl Tryd.underlying23 rfl (hS642q.cell (i := 0) rfl)) (fun a653q h654q => ?_)
    clear h652q a651q
    refine WL.block (c := 2) (m' := 4) h654q rfl [(23, .int .i64 0), (22, .int .i64 (p0.f0.length : Int))] (by kernel_rfl) (fun a655q h656q => ?_)
    clear h654q a653q
    refine WL.done (by kernel_rfl) ?_
    refine wp_block ?_
    refine wp_loop_ghost (fun kq_ a_ W_ => ∃ (x662q : Int), Hd a_ 69 [(1, .string (mkS p1)), (2, .string (mkS p2)), (3, .pointer (some ⟨g628q, 0, none⟩)), (8, .int .i64 r635q), (22, .int .i64 (p0.f0.length : Int)), (23, .int .i64 x662q)] ∧ Asd (louverref05qT_Find.l0 kq_ x662q p0 p1 p2 r635q = some (r0q, r1q)) ∧ Asd (kq_ ≤ k) ∧ Asd (St b w0 W_ R ([(g628q, .cells ([.slice A0q0 p0.f0.length c0q0, .int .i64 p0.f1] : List Value).toArray 41 (0, 0))] :: Fs))) k ⟨0, h656q.keep ⟨rfl, rfl, rfl, rfl, rfl, rfl, trivial⟩, ⟨H⟩, ⟨Nat.le_refl _⟩, ⟨hS642q⟩⟩ ?_
    clear H hS642q
    rintro k661q a658q W659q ⟨x662q, h657q, ⟨H⟩, ⟨hkk661q⟩, ⟨hS660q⟩⟩
    obtain _ | k663q := k661q
    · exact absurd H (by simp [louverref05qT_Find.l0])
    simp only [louverref05qT_Find.l0] at H
    refine wp_seq ?_
    refine WL.start ?_
    refine WL.block (c := 1) (m' := 1) h657q rfl [(24, .bool (decide (x662q < (p0.f0.length : Int))))] (by kernel_rfl) (fun a664q h665q => ?_)
    clear h657q a658q
    refine WL.done (by kernel_rfl) ?_
    refine wp_seq ?_
    by_cases c666q : x662q < (p0.f0.length : Int)
    · rw [if_pos c666q] at H
      have hb_ : (decide (x662q < (p0.f0.length : Int))) = true := decide_eq_true c666q
      try rw [hb_] at h665q
      clear hb_
      refine wp_then h665q rfl ?_
      refine wp_skip ?_
      refine wp_seq ?_
      refine wp_block ?_
      refine wp_seq ?_
      refine WL.start ?_
      refine WL.block (c := 2) (m' := 2) h665q rfl [(10, .int .i64 x662q), (25, .int .i64 x662q)] (by kernel_rfl) (fun a667q h668q => ?_)
      clear h665q a664q
      refine WL.done (by kernel_rfl) ?_
      refine wp_seq ?_
      refine WL.start ?_
      refine WL.block (c := 1) (m' := 1) h668q rfl [(26, .pointer (some ⟨g628q, 0, none⟩))] (by kernel_rfl) (fun a669q h670q => ?_)
      clear h668q a667q
      refine WL.op' (m := 1) h670q rfl rfl ?_
      refine owp_run (v := .slice A0q0 p0.f0.length c0q0) h670q rfl (by kernel_rfl) (run_load1 rfl rfl Tryd.underlying23 rfl (hS660q.cell (i := 0) rfl)) (fun a671q h672q => ?_)
      clear h670q a669q
      refine WL.block (c := 1) (m' := 3) h672q rfl [(28, .int .i64 x662q)] (by kernel_rfl) (fun a673q h674q => ?_)
      clear h672q a671q
      by_cases c675q : 0 ≤ x662q
      · rw [if_pos c675q] at H
        have hi678q : 0 ≤ x662q := by first | assumption | omega
        have hi679q : x662q < (p0.f0.length : Int) := by first | assumption | omega
        obtain ⟨ad676q, _, ha677q, -, -⟩ := Rds.elemAny hp0q0 hi678q (gt_get (z := z29) hi678q hi679q)
        refine WL.op' (m := 3) h674q rfl rfl ?_
        refine owp_run (v := .pointer (some (ad676q.add (x662q.toNat * 3)))) h674q rfl (by kernel_rfl) (run_idx (ad := ad676q) (sz := 3) rfl (by rw [← ha677q]; rfl) rfl Tryd.underlying23 (by kernel_rfl) hi678q hi679q) (fun a680q h681q => ?_)
        clear h674q a673q
        refine WL.block (c := 1) (m' := 5) h681q rfl [(30, .pointer (some ((ad676q.add (x662q.toNat * 3)).add 0)))] (by kernel_rfl) (fun a682q h683q => ?_)
        clear h681q a680q
        obtain ⟨ad684q, cs685q, ha686q, hr688q, hc687q⟩ := Rds.elemAny hp0q0 hi678q (gt_get (z := z29) hi678q hi679q)
        rw [ha677q] at ha686q; obtain rfl := Option.some.inj ha686q
        obtain rfl := k29qrd hr688q
        refine WL.op' (m := 5) h683q rfl rfl ?_
        refine owp_run (v := .string (mkS ((gt z29 p0.f0 x662q).f0))) h683q rfl (by kernel_rfl) (run_load1 rfl rfl Tryd.underlying9 rfl (hc687q _ (fun _ _ hk_ => hS660q.kn hk_) 0 _ rfl)) (fun a689q h690q => ?_)
        clear h683q a682q
        refine WL.block (c := 1) (m' := 7) h690q rfl [(32, .string (mkS p1))] (by kernel_rfl) (fun a691q h692q => ?_)
        clear h690q a689q
        refine WL.op' (m := 7) h692q rfl rfl ?_
        refine owp_run (v := .bool (decide (((gt z29 p0.f0 x662q).f0) = p1))) h692q rfl (by kernel_rfl) (run_streq rfl rfl rfl) (fun a693q h694q => ?_)
        clear h692q a691q
        refine WL.block (c := 1) (m' := 9) h694q rfl [(34, .bool (decide (((gt z29 p0.f0 x662q).f0) = p1)))] (by kernel_rfl) (fun a695q h696q => ?_)
        clear h694q a693q
        by_cases c697q : ((gt z29 p0.f0 x662q).f0) = p1
        · rw [if_pos c697q] at H
          have hb_ : (decide (((gt z29 p0.f0 x662q).f0) = p1)) = true := decide_eq_true c697q
          try rw [hb_] at h696q
          clear hb_
          refine WL.op' (m := 9) h696q rfl rfl (owp_run h696q rfl (by kernel_rfl) (v := .pointer (some ⟨g628q, 0, none⟩)) (by kernel_rfl) (fun a698q h699q => ?_))
          clear h696q a695q
          refine WL.op' (m := 10) h699q rfl rfl ?_
          refine owp_run (v := .slice A0q0 p0.f0.length c0q0) h699q rfl (by kernel_rfl) (run_load1 rfl rfl Tryd.underlying23 rfl (hS660q.cell (i := 0) rfl)) (fun a700q h701q => ?_)
          clear h699q a698q
          refine WL.op' (m := 11) h701q rfl rfl (owp_run h701q rfl (by kernel_rfl) (v := .int .i64 x662q) (by kernel_rfl) (fun a702q h703q => ?_))
          clear h701q a700q
          have hi706q : 0 ≤ x662q := by first | assumption | omega
          have hi707q : x662q < (p0.f0.length : Int) := by first | assumption | omega
          obtain ⟨ad704q, _, ha705q, -, -⟩ := Rds.elemAny hp0q0 hi706q (gt_get (z := z29) hi706q hi707q)
          refine WL.op' (m := 12) h703q rfl rfl ?_
          refine owp_run (v := .pointer (some (ad704q.add (x662q.toNat * 3)))) h703q rfl (by kernel_rfl) (run_idx (ad := ad704q) (sz := 3) rfl (by rw [← ha705q]; rfl) rfl Tryd.underlying23 (by kernel_rfl) hi706q hi707q) (fun a708q h709q => ?_)
          clear h703q a702q
          refine WL.op' (m := 13) h709q rfl rfl (owp_run h709q rfl (by kernel_rfl) (v := .pointer (some ((ad704q.add (x662q.toNat * 3)).add 1))) (by kernel_rfl) (fun a710q h711q => ?_))
          clear h709q a708q
          obtain ⟨ad712q, cs713q, ha714q, hr716q, hc715q⟩ := Rds.elemAny hp0q0 hi706q (gt_get (z := z29) hi706q hi707q)
          rw [ha705q] at ha714q; obtain rfl := Option.some.inj ha714q
          obtain rfl := k29qrd hr716q
          refine WL.op' (m := 14) h711q rfl rfl ?_
          refine owp_run (v := .string (mkS ((gt z29 p0.f0 x662q).f1))) h711q rfl (by kernel_rfl) (run_load1 rfl rfl Tryd.underlying9 rfl (hc715q _ (fun _ _ hk_ => hS660q.kn hk_) 1 _ rfl)) (fun a717q h718q => ?_)
          clear h711q a710q
          refine WL.op' (m := 15) h718q rfl rfl (owp_run h718q rfl (by kernel_rfl) (v := .string (mkS p2)) (by kernel_rfl) (fun a719q h720q => ?_))
          clear h718q a717q
          refine WL.op' (m := 16) h720q rfl rfl ?_
          refine owp_run (v := .bool (decide (((gt z29 p0.f0 x662q).f1) = p2))) h720q rfl (by kernel_rfl) (run_streq rfl rfl rfl) (fun a721q h722q => ?_)
          clear h720q a719q
          refine WL.block (c := 1) (m' := 18) h722q rfl [(43, .bool (decide (((gt z29 p0.f0 x662q).f1) = p2)))] (by kernel_rfl) (fun a723q h724q => ?_)
          clear h722q a721q
          refine WL.done (by kernel_rfl) ?_
          by_cases c725q : ((gt z29 p0.f0 x662q).f1) = p2
          · rw [if_pos c725q] at H
            have hb_ : (decide (((gt z29 p0.f0 x662q).f1) = p2)) = true := decide_eq_true c725q
            try rw [hb_] at h724q
            clear hb_
            refine wp_then h724q rfl ?_
            refine wp_seq ?_
            refine WL.start ?_
            refine WL.block (c := 4) (m' := 4) h724q rfl [(7, .bool true), (6, .int .i64 (IntKind.i64.wrap (62 + x662q))), (45, .int .i64 (IntKind.i64.wrap (62 + x662q))), (44, .int .i64 x662q)] (by kernel_rfl) (fun a726q h727q => ?_)
            clear h724q a723q
            refine WL.done (by kernel_rfl) ?_
            refine wp_ret ?_
            have hS728q : St b w0 W659q R (Fs) := hS660q.drop_
            obtain ⟨rfl, rfl⟩ := ret2 H
            repeat (first | refine then_ret ?_ | refine inBlock_ret ?_ | refine inBlock_go ?_)
            refine body_ret (v := .tuple #[.int .i64 (IntKind.i64.wrap (62 + x662q)), .bool true]) h727q (by kernel_rfl) (by kernel_rfl) ?_
            exact ⟨rfl, hS728q⟩
          · rw [if_neg c725q] at H
            have hb_ : (decide (((gt z29 p0.f0 x662q).f1) = p2)) = false := decide_eq_false c725q
            try rw [hb_] at h724q
            clear hb_
            refine wp_else h724q rfl ?_
            refine wp_skip ?_
            refine WL.start ?_
            refine WL.block (c := 2) (m' := 2) h724q rfl [(23, .int .i64 (IntKind.i64.wrap (x662q + 1))), (46, .int .i64 (IntKind.i64.wrap (x662q + 1)))] (by kernel_rfl) (fun a729q h730q => ?_)
            clear h724q a723q
            refine WL.done (by kernel_rfl) ?_
            exact ⟨k663q, by omega, IntKind.i64.wrap (x662q + 1), h730q.keep ⟨rfl, rfl, rfl, rfl, rfl, rfl, trivial⟩, ⟨H⟩, ⟨by omega⟩, ⟨hS660q⟩⟩
        · rw [if_neg c697q] at H
          have hb_ : (decide (((gt z29 p0.f0 x662q).f0) = p1)) = false := decide_eq_false c697q
          try rw [hb_] at h696q
          clear hb_
          refine WL.skipped (m := 9) h696q rfl rfl (by kernel_rfl) rfl (fun a731q h732q => ?_)
          clear h696q a695q
          refine WL.skipped (m := 10) h732q rfl rfl (by kernel_rfl) rfl (fun a733q h734q => ?_)
          clear h732q a731q
          refine WL.skipped (m := 11) h734q rfl rfl (by kernel_rfl) rfl (fun a735q h736q => ?_)
          clear h734q a733q
          refine WL.skipped (m := 12) h736q rfl rfl (by kernel_rfl) rfl (fun a737q h738q => ?_)
          clear h736q a735q
          refine WL.skipped (m := 13) h738q rfl rfl (by kernel_rfl) rfl (fun a739q h740q => ?_)
          clear h738q a737q
          refine WL.skipped (m := 14) h740q rfl rfl (by kernel_rfl) rfl (fun a741q h742q => ?_)
          clear h740q a739q
          refine WL.skipped (m := 15) h742q rfl rfl (by kernel_rfl) rfl (fun a743q h744q => ?_)
          clear h742q a741q
          refine WL.skipped (m := 16) h744q rfl rfl (by kernel_rfl) rfl (fun a745q h746q => ?_)
          clear h744q a743q
          refine WL.block (c := 1) (m' := 18) h746q rfl [(43, .bool false)] (by kernel_rfl) (fun a747q h748q => ?_)
          clear h746q a745q
          refine WL.done (by kernel_rfl) ?_
          refine wp_else h748q rfl ?_
          refine wp_skip ?_
          refine WL.start ?_
          refine WL.block (c := 2) (m' := 2) h748q rfl [(23, .int .i64 (IntKind.i64.wrap (x662q + 1))), (46, .int .i64 (IntKind.i64.wrap (x662q + 1)))] (by kernel_rfl) (fun a749q h750q => ?_)
          clear h748q a747q
          refine WL.done (by kernel_rfl) ?_
          exact ⟨k663q, by omega, IntKind.i64.wrap (x662q + 1), h750q.keep ⟨rfl, rfl, rfl, rfl, rfl, rfl, trivial⟩, ⟨H⟩, ⟨by omega⟩, ⟨hS660q⟩⟩
      · rw [if_neg c675q] at H
        cases H
    · rw [if_neg c666q] at H
      have hb_ : (decide (x662q < (p0.f0.length : Int))) = false := decide_eq_false c666q
      try rw [hb_] at h665q
      clear hb_
      refine wp_else h665q rfl ?_
      refine wp_exit ?_
      refine wp_seq ?_
      refine wp_seq ?_
      refine WL.start ?_
      refine WL.block (c := 1) (m' := 1) h665q rfl [(47, .pointer (some ⟨g628q, 0, none⟩))] (by kernel_rfl) (fun a751q h752q => ?_)
      clear h665q a664q
      refine WL.op' (m := 1) h752q rfl rfl ?_
      refine owp_run (v := .slice A0q0 p0.f0.length c0q0) h752q rfl (by kernel_rfl) (run_load1 rfl rfl Tryd.underlying23 rfl (hS660q.cell (i := 0) rfl)) (fun a753q h754q => ?_)
      clear h752q a751q
      refine WL.block (c := 2) (m' := 4) h754q rfl [(50, .int .i64 0), (49, .int .i64 (p0.f0.length : Int))] (by kernel_rfl) (fun a755q h756q => ?_)
      clear h754q a753q
      refine WL.done (by kernel_rfl) ?_
      refine wp_block ?_
      refine wp_loop_ghost (fun kq_ a_ W_ => ∃ (x762q : Int), ∃ (x763q : Int), Hd a_ 69 [(1, .string (mkS p1)), (3, .pointer (some ⟨g628q, 0, none⟩)), (8, .int .i64 x762q), (49, .int .i64 (p0.f0.length : Int)), (50, .int .i64 x763q)] ∧ Asd (louverref05qT_Find.l1 kq_ x762q x763q p0 p1 = some (r0q, r1q)) ∧ Asd (kq_ ≤ k663q) ∧ Asd (St b w0 W_ R ([(g628q, .cells ([.slice A0q0 p0.f0.length c0q0, .int .i64 p0.f1] : List Value).toArray 41 (0, 0))] :: Fs))) k663q ⟨r635q, 0, h756q.keep ⟨rfl, rfl, rfl, rfl, rfl, trivial⟩, ⟨H⟩, ⟨Nat.le_refl _⟩, ⟨hS660q⟩⟩ ?_
      clear H hS660q
      rintro k761q a758q W759q ⟨x762q, x763q, h757q, ⟨H⟩, ⟨hkk761q⟩, ⟨hS760q⟩⟩
      obtain _ | k764q := k761q
      · exact absurd H (by simp [louverref05qT_Find.l1])
      simp only [louverref05qT_Find.l1] at H
      refine wp_seq ?_
      refine WL.start ?_
      refine WL.block (c := 1) (m' := 1) h757q rfl [(51, .bool (decide (x763q < (p0.f0.length : Int))))] (by kernel_rfl) (fun a765q h766q => ?_)
      clear h757q a758q
      refine WL.done (by kernel_rfl) ?_
      refine wp_seq ?_
      by_cases c767q : x763q < (p0.f0.length : Int)
      · rw [if_pos c767q] at H
        have hb_ : (decide (x763q < (p0.f0.length : Int))) = true := decide_eq_true c767q
        try rw [hb_] at h766q
        clear hb_
        refine wp_then h766q rfl ?_
        refine wp_skip ?_
        refine wp_seq ?_
        refine wp_block ?_
        refine wp_seq ?_
        refine WL.start ?_
        refine WL.block (c := 2) (m' := 2) h766q rfl [(11, .int .i64 x763q), (52, .int .i64 x763q)] (by kernel_rfl) (fun a768q h769q => ?_)
        clear h766q a765q
        refine WL.done (by kernel_rfl) ?_
        refine wp_seq ?_
        refine WL.start ?_
        refine WL.block (c := 3) (m' := 3) h769q rfl [(55, .bool (decide (x762q = 0))), (54, .bool (decide (x762q = 0))), (53, .int .i64 x762q)] (by kernel_rfl) (fun a770q h771q => ?_)
        clear h769q a768q
        by_cases c772q : x762q = 0
        · rw [if_pos c772q] at H
          have hb_ : (decide (x762q = 0)) = true := decide_eq_true c772q
          try rw [hb_] at h771q
          clear hb_
          refine WL.op' (m := 3) h771q rfl rfl (owp_run h771q rfl (by kernel_rfl) (v := .pointer (some ⟨g628q, 0, none⟩)) (by kernel_rfl) (fun a773q h774q => ?_))
          clear h771q a770q
          refine WL.op' (m := 4) h774q rfl rfl ?_
          refine owp_run (v := .slice A0q0 p0.f0.length c0q0) h774q rfl (by kernel_rfl) (run_load1 rfl rfl Tryd.underlying23 rfl (hS760q.cell (i := 0) rfl)) (fun a775q h776q => ?_)
          clear h774q a773q
          refine WL.op' (m := 5) h776q rfl rfl (owp_run h776q rfl (by kernel_rfl) (v := .int .i64 x763q) (by kernel_rfl) (fun a777q h778q => ?_))
          clear h776q a775q
          by_cases c779q : 0 ≤ x763q
          · rw [if_pos c779q] at H
            have hi782q : 0 ≤ x763q := by first | assumption | omega
            have hi783q : x763q < (p0.f0.length : Int) := by first | assumption | omega
            obtain ⟨ad780q, _, ha781q, -, -⟩ := Rds.elemAny hp0q0 hi782q (gt_get (z := z29) hi782q hi783q)
            refine WL.op' (m := 6) h778q rfl rfl ?_
            refine owp_run (v := .pointer (some (ad780q.add (x763q.toNat * 3)))) h778q rfl (by kernel_rfl) (run_idx (ad := ad780q) (sz := 3) rfl (by rw [← ha781q]; rfl) rfl Tryd.underlying23 (by kernel_rfl) hi782q hi783q) (fun a784q h785q => ?_)
            clear h778q a777q
            refine WL.op' (m := 7) h785q rfl rfl (owp_run h785q rfl (by kernel_rfl) (v := .pointer (some ((ad780q.add (x763q.toNat * 3)).add 0))) (by kernel_rfl) (fun a786q h787q => ?_))
            clear h785q a784q
            obtain ⟨ad788q, cs789q, ha790q, hr792q, hc791q⟩ := Rds.elemAny hp0q0 hi782q (gt_get (z := z29) hi782q hi783q)
            rw [ha781q] at ha790q; obtain rfl := Option.some.inj ha790q
            obtain rfl := k29qrd hr792q
            refine WL.op' (m := 8) h787q rfl rfl ?_
            refine owp_run (v := .string (mkS ((gt z29 p0.f0 x763q).f0))) h787q rfl (by kernel_rfl) (run_load1 rfl rfl Tryd.underlying9 rfl (hc791q _ (fun _ _ hk_ => hS760q.kn hk_) 0 _ rfl)) (fun a793q h794q => ?_)
            clear h787q a786q
            refine WL.op' (m := 9) h794q rfl rfl (owp_run h794q rfl (by kernel_rfl) (v := .string (mkS p1)) (by kernel_rfl) (fun a795q h796q => ?_))
            clear h794q a793q
            refine WL.op' (m := 10) h796q rfl rfl ?_
            refine owp_run (v := .bool (decide (((gt z29 p0.f0 x763q).f0) = p1))) h796q rfl (by kernel_rfl) (run_streq rfl rfl rfl) (fun a797q h798q => ?_)
            clear h796q a795q
            refine WL.block (c := 1) (m' := 12) h798q rfl [(64, .bool (decide (((gt z29 p0.f0 x763q).f0) = p1)))] (by kernel_rfl) (fun a799q h800q => ?_)
            clear h798q a797q
            refine WL.done (by kernel_rfl) ?_
            by_cases c801q : ((gt z29 p0.f0 x763q).f0) = p1
            · rw [if_pos c801q] at H
              have hb_ : (decide (((gt z29 p0.f0 x763q).f0) = p1)) = true := decide_eq_true c801q
              try rw [hb_] at h800q
              clear hb_
              refine wp_then h800q rfl ?_
              refine WL.start ?_
              refine WL.block (c := 3) (m' := 3) h800q rfl [(8, .int .i64 (IntKind.i64.wrap (62 + x763q))), (66, .int .i64 (IntKind.i64.wrap (62 + x763q))), (65, .int .i64 x763q)] (by kernel_rfl) (fun a802q h803q => ?_)
              clear h800q a799q
              refine WL.done (by kernel_rfl) ?_
              refine WL.start ?_
              refine WL.block (c := 2) (m' := 2) h803q rfl [(50, .int .i64 (IntKind.i64.wrap (x763q + 1))), (67, .int .i64 (IntKind.i64.wrap (x763q + 1)))] (by kernel_rfl) (fun a804q h805q => ?_)
              clear h803q a802q
              refine WL.done (by kernel_rfl) ?_
              exact ⟨k764q, by omega, IntKind.i64.wrap (62 + x763q), IntKind.i64.wrap (x763q + 1), h805q.keep ⟨rfl, rfl, rfl, rfl, rfl, trivial⟩, ⟨H⟩, ⟨by omega⟩, ⟨hS760q⟩⟩
            · rw [if_neg c801q] at H
              have hb_ : (decide (((gt z29 p0.f0 x763q).f0) = p1)) = false := decide_eq_false c801q
              try rw [hb_] at h800q
              clear hb_
              refine wp_else h800q rfl ?_
              refine wp_skip ?_
              refine WL.start ?_
              refine WL.block (c := 2) (m' := 2) h800q rfl [(50, .int .i64 (IntKind.i64.wrap (x763q + 1))), (67, .int .i64 (IntKind.i64.wrap (x763q + 1)))] (by kernel_rfl) (fun a806q h807q => ?_)
              clear h800q a799q
              refine WL.done (by kernel_rfl) ?_
              exact ⟨k764q, by omega, x762q, IntKind.i64.wrap (x763q + 1), h807q.keep ⟨rfl, rfl, rfl, rfl, rfl, trivial⟩, ⟨H⟩, ⟨by omega⟩, ⟨hS760q⟩⟩
          · rw [if_neg c779q] at H
            cases H
        · rw [if_neg c772q] at H
          have hb_ : (decide (x762q = 0)) = false := decide_eq_false c772q
          try rw [hb_] at h771q
          clear hb_
          refine WL.skipped (m := 3) h771q rfl rfl (by kernel_rfl) rfl (fun a808q h809q => ?_)
          clear h771q a770q
          refine WL.skipped (m := 4) h809q rfl rfl (by kernel_rfl) rfl (fun a810q h811q => ?_)
          clear h809q a808q
          refine WL.skipped (m := 5) h811q rfl rfl (by kernel_rfl) rfl (fun a812q h813q => ?_)
          clear h811q a810q
          refine WL.skipped (m := 6) h813q rfl rfl (by kernel_rfl) rfl (fun a814q h815q => ?_)
          clear h813q a812q
          refine WL.skipped (m := 7) h815q rfl rfl (by kernel_rfl) rfl (fun a816q h817q => ?_)
          clear h815q a814q
          refine WL.skipped (m := 8) h817q rfl rfl (by kernel_rfl) rfl (fun a818q h819q => ?_)
          clear h817q a816q
          refine WL.skipped (m := 9) h819q rfl rfl (by kernel_rfl) rfl (fun a820q h821q => ?_)
          clear h819q a818q
          refine WL.skipped (m := 10) h821q rfl rfl (by kernel_rfl) rfl (fun a822q h823q => ?_)
          clear h821q a820q
          refine WL.block (c := 1) (m' := 12) h823q rfl [(64, .bool false)] (by kernel_rfl) (fun a824q h825q => ?_)
          clear h823q a822q
          refine WL.done (by kernel_rfl) ?_
          refine wp_else h825q rfl ?_
          refine wp_skip ?_
          refine WL.start ?_
          refine WL.block (c := 2) (m' := 2) h825q rfl [(50, .int .i64 (IntKind.i64.wrap (x763q + 1))), (67, .int .i64 (IntKind.i64.wrap (x763q + 1)))] (by kernel_rfl) (fun a826q h827q => ?_)
          clear h825q a824q
          refine WL.done (by kernel_rfl) ?_
          exact ⟨k764q, by omega, x762q, IntKind.i64.wrap (x763q + 1), h827q.keep ⟨rfl, rfl, rfl, rfl, rfl, trivial⟩, ⟨H⟩, ⟨by omega⟩, ⟨hS760q⟩⟩
      · rw [if_neg c767q] at H
        have hb_ : (decide (x763q < (p0.f0.length : Int))) = false := decide_eq_false c767q
        try rw [hb_] at h766q
        clear hb_
        refine wp_else h766q rfl ?_
        refine wp_exit ?_
        refine wp_seq ?_
        refine WL.start ?_
        refine WL.block (c := 3) (m' := 3) h766q rfl [(7, .bool false), (6, .int .i64 x762q), (68, .int .i64 x762q)] (by kernel_rfl) (fun a828q h829q => ?_)
        clear h766q a765q
        refine WL.done (by kernel_rfl) ?_
        refine wp_ret ?_
        have hS830q : St b w0 W759q R (Fs) := hS760q.drop_
        obtain ⟨rfl, rfl⟩ := ret2 H
        repeat (first | refine then_ret ?_ | refine inBlock_ret ?_ | refine inBlock_go ?_)
        refine body_ret (v := .tuple #[.int .i64 x762q, .bool false]) h829q (by kernel_rfl) (by kernel_rfl) ?_
        exact ⟨rfl, hS830q⟩

/-! ### (louver/louverref05.T).Size -/
def louverref05qT_Size.l0 : Nat → Int → Int → S41 → Option (Int)
  | 0, _, _, _ => none
  | k + 1, x147q, x148q, p0 => if x148q < (p0.f0.length : Int) then (if 0 ≤ x148q then (bnd1 (louverref05qSize.f (⟨(gt z29 p0.f0 x148q).f0, (gt z29 p0.f0 x148q).f1, (gt z29 p0.f0 x148q).f2⟩ : S29)) fun r176q => (louverref05qT_Size.l0 k (IntKind.i64.wrap (x147q + r176q)) (IntKind.i64.wrap (x148q + 1)) p0)) else (none)) else (some x147q)
def louverref05qT_Size.f (k : Nat) (p0 : S41) : Option (Int) := louverref05qT_Size.l0 k 0 0 p0
set_option maxHeartbeats 2000000 in
set_option maxRecDepth 100000 in
theorem louverref05qT_Size.calls (k : Nat) {b : Nat} {w0 W : World} {R : Frag} {Fs : List Frag} {p0 : S41} {v0q0 : Value} {r0q : Int} (hp0q0 : Rds k29 b w0 R v0q0 p0.f0) (H : louverref05qT_Size.f k p0 = some r0q) (hS : St b w0 W R (Fs)) :
    Calls Tryd.prog 21 ([.agg #[v0q0, .int .i64 p0.f1]] : List Value).toArray W (fun e W' => e = .returned (.int .i64 r0q) ∧ St b w0 W' R (Fs)) := by
  obtain ⟨A0q0, c0q0, rfl⟩ := hp0q0.form
  unfold louverref05qT_Size.f at H
  refine calls_enter Tryd.func21 rfl 21 rfl (by kernel_rfl) (fun a h => ?_)
  refine wp_seq ?_
  refine WL.start ?_
  refine WL.op' (m := 0) h rfl rfl ?_
  refine owp_new (fun g_ => .pointer (some ⟨g_, 0, none⟩)) (.cells ([.slice A0q0 p0.f0.length c0q0, .int .i64 p0.f1] : List Value).toArray 41 (0, 0)) h rfl (by kernel_rfl) (by kernel_rfl) hS (fun a127q W129q g130q h128q hS131q => ?_)
  refine WL.block (c := 1) (m' := 2) h128q rfl [(2, .int .i64 0)] (by kernel_rfl) (fun a132q h133q => ?_)
  clear h128q a127q
  refine WL.done (by kernel_rfl) ?_
  refine wp_seq ?_
  refine WL.start ?_
  refine WL.block (c := 1) (m' := 1) h133q rfl [(3, .int .i64 0)] (by kernel_rfl) (fun a134q h135q => ?_)
  clear h133q a132q
  refine WL.done (by kernel_rfl) ?_
  refine wp_seq ?_
  refine wp_seq ?_
  refine WL.start ?_
  refine WL.block (c := 1) (m' := 1) h135q rfl [(5, .pointer (some ⟨g130q, 0, none⟩))] (by kernel_rfl) (fun a136q h137q => ?_)
  clear h135q a134q
  refine WL.op' (m := 1) h137q rfl rfl ?_
  refine owp_run (v := .slice A0q0 p0.f0.length c0q0) h137q rfl (by kernel_rfl) (run_load1 rfl rfl Tryd.underlying23 rfl (hS131q.cell (i := 0) rfl)) (fun a138q h139q => ?_)
  clear h137q a136q
  refine WL.block (c := 2) (m' := 4) h139q rfl [(8, .int .i64 0), (7, .int .i64 (p0.f0.length : Int))] (by kernel_rfl) (fun a140q h141q => ?_)
  clear h139q a138q
  refine WL.done (by kernel_rfl) ?_
  refine wp_block ?_
  refine wp_loop_ghost (fun kq_ a_ W_ => ∃ (x147q : Int), ∃ (x148q : Int), Hd a_ 21 [(1, .pointer (some ⟨g130q, 0, none⟩)), (3, .int .i64 x147q), (7, .int .i64 (p0.f0.length : Int)), (8, .int .i64 x148q)] ∧ Asd (louverref05qT_Size.l0 kq_ x147q x148q p0 = some r0q) ∧ Asd (kq_ ≤ k) ∧ Asd (St b w0 W_ R ([(g130q, .cells ([.slice A0q0 p0.f0.length c0q0, .int .i64 p0.f1] : List Value).toArray 41 (0, 0))] :: Fs))) k ⟨0, 0, h141q.keep ⟨rfl, rfl, rfl, rfl, trivial⟩, ⟨H⟩, ⟨Nat.le_refl _⟩, ⟨hS131q⟩⟩ ?_
  clear H hS131q
  rintro k146q a143q W144q ⟨x147q, x148q, h142q, ⟨H⟩, ⟨hkk146q⟩, ⟨hS145q⟩⟩
  obtain _ | k149q := k146q
  · exact absurd H (by simp [louverref05qT_Size.l0])
  simp only [louverref05qT_Size.l0] at H
  refine wp_seq ?_
  refine WL.start ?_
  refine WL.block (c := 1) (m' := 1) h142q rfl [(9, .bool (decide (x148q < (p0.f0.length : Int))))] (by kernel_rfl) (fun a150q h151q => ?_)
  clear h142q a143q
  refine WL.done (by kernel_rfl) ?_
  refine wp_seq ?_
  by_cases c152q : x148q < (p0.f0.length : Int)
  · rw [if_pos c152q] at H
    have hb_ : (decide (x148q < (p0.f0.length : Int))) = true := decide_eq_true c152q
    try rw [hb_] at h151q
    clear hb_
    refine wp_then h151q rfl ?_
    refine wp_skip ?_
    refine wp_seq ?_
    refine wp_block ?_
    refine wp_seq ?_
    refine WL.start ?_
    refine WL.block (c := 2) (m' := 2) h151q rfl [(4, .int .i64 x148q), (10, .int .i64 x148q)] (by kernel_rfl) (fun a153q h154q => ?_)
    clear h151q a150q
    refine WL.done (by kernel_rfl) ?_
    refine WL.start ?_
    refine WL.block (c := 2) (m' := 2) h154q rfl [(12, .pointer (some ⟨g130q, 0, none⟩)), (11, .int .i64 x147q)] (by kernel_rfl) (fun a155q h156q => ?_)
    clear h154q a153q
    refine WL.op' (m := 2) h156q rfl rfl ?_
    refine owp_run (v := .slice A0q0 p0.f0.length c0q0) h156q rfl (by kernel_rfl) (run_load1 rfl rfl Tryd.underlying23 rfl (hS145q.cell (i := 0) rfl)) (fun a157q h158q => ?_)
    clear h156q a155q
    refine WL.block (c := 1) (m' := 4) h158q rfl [(14, .int .i64 x148q)] (by kernel_rfl) (fun a159q h160q => ?_)
    clear h158q a157q
    by_cases c161q : 0 ≤ x148q
    · rw [if_pos c161q] at H
      have hi164q : 0 ≤ x148q := by first | assumption | omega
      have hi165q : x148q < (p0.f0.length : Int) := by first | assumption | omega
      obtain ⟨ad162q, _, ha163q, -, -⟩ := Rds.elemAny hp0q0 hi164q (gt_get (z := z29) hi164q hi165q)
      refine WL.op' (m := 4) h160q rfl rfl ?_
      refine owp_run (v := .pointer (some (ad162q.add (x148q.toNat * 3)))) h160q rfl (by kernel_rfl) (run_idx (ad := ad162q) (sz := 3) rfl (by rw [← ha163q]; rfl) rfl Tryd.underlying23 (by kernel_rfl) hi164q hi165q) (fun a166q h167q => ?_)
      clear h160q a159q
      obtain ⟨ad168q, cs169q, ha170q, hr172q, hc171q⟩ := Rds.elemAny hp0q0 hi164q (gt_get (z := z29) hi164q hi165q)
      rw [ha163q] at ha170q; obtain rfl := Option.some.inj ha170q
      obtain rfl := k29qrd hr172q
      refine WL.op' (m := 5) h167q rfl rfl ?_
      refine owp_run (v := .agg #[.string (mkS ((gt z29 p0.f0 x148q).f0)), .string (mkS ((gt z29 p0.f0 x148q).f1)), .bool ((gt z29 p0.f0 x148q).f2)]) h167q rfl (by kernel_rfl) (run_loadN rfl rfl Tryd.underlying29 rfl (cs := ([.string (mkS ((gt z29 p0.f0 x148q).f0)), .string (mkS ((gt z29 p0.f0 x148q).f1)), .bool ((gt z29 p0.f0 x148q).f2)] : List Value)) (by kernel_rfl) (hc171q _ (fun _ _ hk_ => hS145q.kn hk_))) (fun a173q h174q => ?_)
      clear h167q a166q
      obtain ⟨r176q, A175q, H⟩ := bind1 H
      refine WL.op' (m := 6) h174q rfl rfl ?_
      refine owp_call [.agg #[.string (mkS ((gt z29 p0.f0 x148q).f0)), .string (mkS ((gt z29 p0.f0 x148q).f1)), .bool ((gt z29 p0.f0 x148q).f2)]] h174q rfl (by kernel_rfl) rfl Tryd.func24 (by kernel_rfl) rfl (by kernel_rfl) (louverref05qSize.calls (p0 := (⟨(gt z29 p0.f0 x148q).f0, (gt z29 p0.f0 x148q).f1, (gt z29 p0.f0 x148q).f2⟩ : S29))  A175q hS145q) (fun e178q W177q hp179q => ?_)
      obtain ⟨rfl, hS182q⟩ := hp179q
      refine ⟨_, rfl, fun a180q h181q => ?_⟩
      clear h174q a173q
      refine WL.block (c := 2) (m' := 9) h181q rfl [(3, .int .i64 (IntKind.i64.wrap (x147q + r176q))), (18, .int .i64 (IntKind.i64.wrap (x147q + r176q)))] (by kernel_rfl) (fun a183q h184q => ?_)
      clear h181q a180q
      refine WL.done (by kernel_rfl) ?_
      refine WL.start ?_
      refine WL.block (c := 2) (m' := 2) h184q rfl [(8, .int .i64 (IntKind.i64.wrap (x148q + 1))), (19, .int .i64 (IntKind.i64.wrap (x148q + 1)))] (by kernel_rfl) (fun a185q h186q => ?_)
      clear h184q a183q
      refine WL.done (by kernel_rfl) ?_
      exact ⟨k149q, by omega, IntKind.i64.wrap (x147q + r176q), IntKind.i64.wrap (x148q + 1), h186q.keep ⟨rfl, rfl, rfl, rfl, trivial⟩, ⟨H⟩, ⟨by omega⟩, ⟨hS182q⟩⟩
    · rw [if_neg c161q] at H
      cases H
  · rw [if_neg c152q] at H
    have hb_ : (decide (x148q < (p0.f0.length : Int))) = false := decide_eq_false c152q
    try rw [hb_] at h151q
    clear hb_
    refine wp_else h151q rfl ?_
    refine wp_exit ?_
    refine wp_seq ?_
    refine WL.start ?_
    refine WL.block (c := 2) (m' := 2) h151q rfl [(2, .int .i64 x147q), (20, .int .i64 x147q)] (by kernel_rfl) (fun a187q h188q => ?_)
    clear h151q a150q
    refine WL.done (by kernel_rfl) ?_
    refine wp_ret ?_
    have hS189q : St b w0 W144q R (Fs) := hS145q.drop_
    obtain rfl := Option.some.inj H
    repeat (first | refine then_ret ?_ | refine inBlock_ret ?_ | refine inBlock_go ?_)
    refine body_ret (v := .int .i64 x147q) h188q (by kernel_rfl) (by kernel_rfl) ?_
    exact ⟨rfl, hS189q⟩

/-! ### (*louver/dyntable.Table).Most -/
def dyntable_Table_Most.f (p0 : S51) : Option (Int) := some p0.f2
set_option maxHeartbeats 2000000 in
set_option maxRecDepth 100000 in
theorem dyntable_Table_Most.calls {b : Nat} {w0 W : World} {R : Frag} {Fs : List Frag} {p0 : S51}  {v0 : Value} {M0 : Frag} {r0q : Int} (hp0 : Ptr k51 51 b w0 R v0 p0 M0) (H : dyntable_Table_Most.f p0 = some r0q) (hS : St b w0 W R (M0 :: Fs)) :
    Calls Tryd.prog 22 ([v0] : List Value).toArray W (fun e W' => ∃ (O0q : Frag), e = .returned (.int .i64 r0q) ∧ Ptr k51 51 b w0 R v0 p0 O0q ∧ St b w0 W' R (O0q :: Fs)) := by
  unfold dyntable_Table_Most.f at H
  refine calls_enter Tryd.func22 rfl 9 rfl (by kernel_rfl) (fun a h => ?_)
  refine wp_seq ?_
  refine WL.start ?_
  refine WL.block (c := 1) (m' := 1) h rfl [(2, .int .i64 0)] (by kernel_rfl) (fun a31q h32q => ?_)
  refine WL.done (by kernel_rfl) ?_
  refine wp_seq ?_
  refine wp_seq ?_
  refine WL.start ?_
  refine WL.block (c := 1) (m' := 1) h32q rfl [(3, v0)] (by kernel_rfl) (fun a33q h34q => ?_)
  clear h32q a31q
  obtain ⟨g35q, cs36q, M37q, hv_, hM_, hr38q⟩ := hp0
  obtain ⟨v39q, M40q, rfl, hM2q, hr41q⟩ := k51qrep hr38q
  subst hM2q
  subst hM_
  subst hv_
  replace hr41q : Row k29 29 b w0 R v39q p0.f0 M37q := hr41q
  obtain ⟨A42q, c43q, rfl⟩ := hr41q.form
  have hS44q : St b w0 W R ([(g35q, .cells ([.slice A42q p0.f0.length c43q, .int .i64 p0.f1, .int .i64 p0.f2] : List Value).toArray 51 (0, 0))] :: M37q :: Fs) := hS.assoc (by simp only [List.flatten_cons, List.append_assoc, List.cons_append, List.nil_append, List.append_nil])
  refine WL.block (c := 1) (m' := 2) h34q rfl [(4, .bool false)] (by kernel_rfl) (fun a45q h46q => ?_)
  clear h34q a33q
  refine WL.done (by kernel_rfl) ?_
  refine wp_else h46q rfl ?_
  refine wp_skip ?_
  refine wp_seq ?_
  refine WL.start ?_
  refine WL.block (c := 3) (m' := 3) h46q rfl [(7, .pointer (some ⟨g35q, 2, none⟩)), (6, .pointer (some ⟨g35q, 0, none⟩)), (5, .pointer (some ⟨g35q, 0, none⟩))] (by kernel_rfl) (fun a47q h48q => ?_)
  clear h46q a45q
  refine WL.op' (m := 3) h48q rfl rfl ?_
  refine owp_run (v := .int .i64 p0.f2) h48q rfl (by kernel_rfl) (run_load1 rfl rfl Tryd.underlying3 rfl (hS44q.cell (i := 2) rfl)) (fun a49q h50q => ?_)
  clear h48q a47q
  refine WL.block (c := 1) (m' := 5) h50q rfl [(2, .int .i64 p0.f2)] (by kernel_rfl) (fun a51q h52q => ?_)
  clear h50q a49q
  refine WL.done (by kernel_rfl) ?_
  refine wp_ret ?_
  have hS53q : St b w0 W R (M37q :: [(g35q, .cells ([.slice A42q p0.f0.length c43q, .int .i64 p0.f1, .int .i64 p0.f2] : List Value).toArray 51 (0, 0))] :: Fs) := hS44q.bring 1 rfl rfl
  have hS54q : St b w0 W R ([(g35q, .cells ([.slice A42q p0.f0.length c43q, .int .i64 p0.f1, .int .i64 p0.f2] : List Value).toArray 51 (0, 0))] :: M37q :: Fs) := hS53q.bring 1 rfl rfl
  obtain ⟨M56q, hr55q, hM_⟩ := k51qmk (b := b) (w0 := w0) (R := R) (x := p0) (gvf0 := hr41q)
  have hp57q : Ptr k51 51 b w0 R (.pointer (some ⟨g35q, 0, none⟩)) p0 ((g35q, .cells ([.slice A42q p0.f0.length c43q, .int .i64 p0.f1, .int .i64 p0.f2] : List Value).toArray 51 (0, 0)) :: M56q) := ⟨_, _, _, rfl, rfl, hr55q⟩
  rw [hM_] at hp57q
  have hS59q : St b w0 W R (((g35q, .cells ([.slice A42q p0.f0.length c43q, .int .i64 p0.f1, .int .i64 p0.f2] : List Value).toArray 51 (0, 0)) :: (M37q)) :: Fs) := hS54q.assoc (by simp only [List.flatten_cons, List.append_assoc, List.cons_append, List.nil_append, List.append_nil])
  obtain ⟨M60q, hM_⟩ : ∃ y : Frag, y = ((g35q, .cells ([.slice A42q p0.f0.length c43q, .int .i64 p0.f1, .int .i64 p0.f2] : List Value).toArray 51 (0, 0)) :: (M37q)) := ⟨_, rfl⟩
  rw [← hM_] at hp57q hS59q
  clear hM_
  obtain rfl := Option.some.inj H
  repeat (first | refine then_ret ?_ | refine inBlock_ret ?_ | refine inBlock_go ?_)
  refine body_ret (v := .int .i64 p0.f2) h52q (by kernel_rfl) (by kernel_rfl) ?_
  exact ⟨M60q, rfl, hp57q, hS59q⟩

/-! ### (*louver/dyntable.Table).Most -/
def dyntable_Table_Most_nil.f  : Option (Int) := some 0
set_option maxHeartbeats 2000000 in
set_option maxRecDepth 100000 in
theorem dyntable_Table_Most_nil.calls {b : Nat} {w0 W : World} {R : Frag} {Fs : List Frag}   {r0q : Int}  (H : dyntable_Table_Most_nil.f = some r0q) (hS : St b w0 W R (Fs)) :
    Calls Tryd.prog 22 ([.pointer none] : List Value).toArray W (fun e W' => e = .returned (.int .i64 r0q) ∧ St b w0 W' R (Fs)) := by
  unfold dyntable_Table_Most_nil.f at H
  refine calls_enter Tryd.func22 rfl 9 rfl (by kernel_rfl) (fun a h => ?_)
  refine wp_seq ?_
  refine WL.start ?_
  refine WL.block (c := 1) (m' := 1) h rfl [(2, .int .i64 0)] (by kernel_rfl) (fun a7q h8q => ?_)
  refine WL.done (by kernel_rfl) ?_
  refine wp_seq ?_
  refine wp_seq ?_
  refine WL.start ?_
  refine WL.block (c := 2) (m' := 2) h8q rfl [(4, .bool true), (3, .pointer none)] (by kernel_rfl) (fun a9q h10q => ?_)
  clear h8q a7q
  refine WL.done (by kernel_rfl) ?_
  refine wp_then h10q rfl ?_
  refine wp_seq ?_
  refine WL.start ?_
  refine WL.block (c := 1) (m' := 1) h10q rfl [(2, .int .i64 0)] (by kernel_rfl) (fun a11q h12q => ?_)
  clear h10q a9q
  refine WL.done (by kernel_rfl) ?_
  refine wp_ret ?_
  obtain rfl := Option.some.inj H
  repeat (first | refine then_ret ?_ | refine inBlock_ret ?_ | refine inBlock_go ?_)
  refine body_ret (v := .int .i64 0) h12q (by kernel_rfl) (by kernel_rfl) ?_
  exact ⟨rfl, hS⟩
end Go.Proofs.YtgbkllnfjehfcaaDoor.Sl
