/- What the functions of this program compute, told as plain functions, and that the calls come to just that. Printed by this session's program; part 2. -/
import Derived.Test.YtfpeagbbbgeeeaaCode1
set_option linter.unusedVariables false
set_option linter.unusedSimpArgs false
set_option linter.unnecessarySimpa false
namespace Go.Proofs.Ytfpeagbbbgeeeaa.Sl
open Go Go.RowKit Go.Proofs.Sl
/-! ### (louver/louverref23.Q).Fits -/
def louverref23qQ_Fits.f (k : Nat) (p0 : S36) (p1 : Int) : Option (Bool) := if (p0.f0.length : Int) < p0.f1 then (bnd1 (louverref23qQ_Size.f k (⟨p0.f0, p0.f1, p0.f2⟩ : S36)) fun r328q => (some (decide (p1 ≤ (IntKind.i64.wrap (p0.f2 - r328q)))))) else (some false)
set_option maxHeartbeats 2000000 in
set_option maxRecDepth 100000 in
theorem louverref23qQ_Fits.calls (k : Nat) {b : Nat} {w0 W : World} {R : Frag} {Fs : List Frag} {p0 : S36} {p1 : Int} {v0q0 : Value} {r0q : Bool} (hp0q0 : Rds kStr b w0 R v0q0 p0.f0) (H : louverref23qQ_Fits.f k p0 p1 = some r0q) (hS : St b w0 W R (Fs)) :
    Calls Try.prog 13 ([.agg #[v0q0, .int .i64 p0.f1, .int .i64 p0.f2], .int .i64 p1] : List Value).toArray W (fun e W' => e = .returned (.bool r0q) ∧ St b w0 W' R (Fs)) := by
  obtain ⟨A0q0, c0q0, rfl⟩ := hp0q0.form
  unfold louverref23qQ_Fits.f at H
  refine calls_enter Try.func13 rfl 20 rfl (by kernel_rfl) (fun a h => ?_)
  refine wp_seq ?_
  refine WL.start ?_
  refine WL.op' (m := 0) h rfl rfl ?_
  refine owp_new (fun g_ => .pointer (some ⟨g_, 0, none⟩)) (.cells ([.slice A0q0 p0.f0.length c0q0, .int .i64 p0.f1, .int .i64 p0.f2] : List Value).toArray 36 (0, 0)) h rfl (by kernel_rfl) (by kernel_rfl) hS (fun a182q W184q g185q h183q hS186q => ?_)
  refine WL.block (c := 1) (m' := 2) h183q rfl [(4, .bool false)] (by kernel_rfl) (fun a187q h188q => ?_)
  clear h183q a182q
  refine WL.done (by kernel_rfl) ?_
  refine wp_seq ?_
  refine WH.start (fun w_ => (w_.cell? ⟨g185q, 0, none⟩ = some (.slice A0q0 p0.f0.length c0q0)) ∧ (w_.cell? ⟨g185q, 1, none⟩ = some (.int .i64 p0.f1)) ∧ (w_.cell? ⟨g185q, 2, none⟩ = some (.int .i64 p0.f2)) ∧ (∀ j_ u_, ([.slice A0q0 p0.f0.length c0q0, .int .i64 p0.f1, .int .i64 p0.f2] : List Value)[j_]? = some u_ → w_.cell? ((⟨g185q, 0, none⟩ : Addr).add j_) = some u_) ∧ True) (by kernel_rfl) #[false, false, false, false, false, false, false, false, false, false, false, false, false, false, false, false] 16 rfl rfl ?_
  have hS303q := hS186q.drew
  refine WH.take 0 (listed' := #[true, false, false, false, false, false, false, false, false, false, false, false, false, false, false, false]) h188q rfl rfl (by kernel_rfl) rfl rfl (.pointer (some ⟨g185q, 0, none⟩)) (fun _ _ => by kernel_rfl) ⟨(hS303q.cell (i := 0) rfl), (hS303q.cell (i := 1) rfl), (hS303q.cell (i := 2) rfl), (hS303q.cells (vs := ([.slice A0q0 p0.f0.length c0q0, .int .i64 p0.f1, .int .i64 p0.f2] : List Value)) rfl), trivial⟩ (fun _ _ _ h_ => h_) (fun a304q h305q => ?_)
  clear h188q a187q
  refine WH.take 3 (listed' := #[true, false, false, true, false, false, false, false, false, false, false, false, false, false, false, false]) h305q rfl rfl (by kernel_rfl) rfl rfl (.pointer (some ⟨g185q, 1, none⟩)) (fun _ _ => by kernel_rfl) ⟨(hS303q.cell (i := 0) rfl), (hS303q.cell (i := 1) rfl), (hS303q.cell (i := 2) rfl), (hS303q.cells (vs := ([.slice A0q0 p0.f0.length c0q0, .int .i64 p0.f1, .int .i64 p0.f2] : List Value)) rfl), trivial⟩ (fun _ _ _ h_ => h_) (fun a306q h307q => ?_)
  clear h305q a304q
  refine WH.take 1 (listed' := #[true, true, false, true, false, false, false, false, false, false, false, false, false, false, false, false]) h307q rfl rfl (by kernel_rfl) rfl rfl (.slice A0q0 p0.f0.length c0q0) (fun w_ hs_ => (run_load1 rfl rfl Try.underlying34 rfl hs_.1)) ⟨(hS303q.cell (i := 0) rfl), (hS303q.cell (i := 1) rfl), (hS303q.cell (i := 2) rfl), (hS303q.cells (vs := ([.slice A0q0 p0.f0.length c0q0, .int .i64 p0.f1, .int .i64 p0.f2] : List Value)) rfl), trivial⟩ (fun _ _ _ h_ => h_) (fun a308q h309q => ?_)
  clear h307q a306q
  refine WH.take 2 (listed' := #[true, true, true, true, false, false, false, false, false, false, false, false, false, false, false, false]) h309q rfl rfl (by kernel_rfl) rfl rfl (.int .i64 (p0.f0.length : Int)) (fun _ _ => by kernel_rfl) ⟨(hS303q.cell (i := 0) rfl), (hS303q.cell (i := 1) rfl), (hS303q.cell (i := 2) rfl), (hS303q.cells (vs := ([.slice A0q0 p0.f0.length c0q0, .int .i64 p0.f1, .int .i64 p0.f2] : List Value)) rfl), trivial⟩ (fun _ _ _ h_ => h_) (fun a310q h311q => ?_)
  clear h309q a308q
  refine WH.take 4 (listed' := #[true, true, true, true, true, false, false, false, false, false, false, false, false, false, false, false]) h311q rfl rfl (by kernel_rfl) rfl rfl (.int .i64 p0.f1) (fun w_ hs_ => (run_load1 rfl rfl Try.underlying3 rfl hs_.2.1)) ⟨(hS303q.cell (i := 0) rfl), (hS303q.cell (i := 1) rfl), (hS303q.cell (i := 2) rfl), (hS303q.cells (vs := ([.slice A0q0 p0.f0.length c0q0, .int .i64 p0.f1, .int .i64 p0.f2] : List Value)) rfl), trivial⟩ (fun _ _ _ h_ => h_) (fun a312q h313q => ?_)
  clear h311q a310q
  refine WH.take 5 (listed' := #[true, true, true, true, true, true, false, false, false, false, false, false, false, false, false, false]) h313q rfl rfl (by kernel_rfl) rfl rfl (.bool (decide ((p0.f0.length : Int) < p0.f1))) (fun _ _ => by kernel_rfl) ⟨(hS303q.cell (i := 0) rfl), (hS303q.cell (i := 1) rfl), (hS303q.cell (i := 2) rfl), (hS303q.cells (vs := ([.slice A0q0 p0.f0.length c0q0, .int .i64 p0.f1, .int .i64 p0.f2] : List Value)) rfl), trivial⟩ (fun _ _ _ h_ => h_) (fun a314q h315q => ?_)
  clear h313q a312q
  refine WH.take 6 (listed' := #[true, true, true, true, true, true, true, false, false, false, false, false, false, false, false, false]) h315q rfl rfl (by kernel_rfl) rfl rfl (.bool (decide ((p0.f0.length : Int) < p0.f1))) (fun _ _ => by kernel_rfl) ⟨(hS303q.cell (i := 0) rfl), (hS303q.cell (i := 1) rfl), (hS303q.cell (i := 2) rfl), (hS303q.cells (vs := ([.slice A0q0 p0.f0.length c0q0, .int .i64 p0.f1, .int .i64 p0.f2] : List Value)) rfl), trivial⟩ (fun _ _ _ h_ => h_) (fun a316q h317q => ?_)
  clear h315q a314q
  by_cases c318q : (p0.f0.length : Int) < p0.f1
  · rw [if_pos c318q] at H
    have hb_ : (decide ((p0.f0.length : Int) < p0.f1)) = true := decide_eq_true c318q
    try rw [hb_] at h317q
    clear hb_
    refine WH.take 7 (listed' := #[true, true, true, true, true, true, true, true, false, false, false, false, false, false, false, false]) h317q rfl rfl (by kernel_rfl) rfl rfl (.int .i64 p1) (fun _ _ => by kernel_rfl) ⟨(hS303q.cell (i := 0) rfl), (hS303q.cell (i := 1) rfl), (hS303q.cell (i := 2) rfl), (hS303q.cells (vs := ([.slice A0q0 p0.f0.length c0q0, .int .i64 p0.f1, .int .i64 p0.f2] : List Value)) rfl), trivial⟩ (fun _ _ _ h_ => h_) (fun a319q h320q => ?_)
    clear h317q a316q
    refine WH.take 8 (listed' := #[true, true, true, true, true, true, true, true, true, false, false, false, false, false, false, false]) h320q rfl rfl (by kernel_rfl) rfl rfl (.pointer (some ⟨g185q, 2, none⟩)) (fun _ _ => by kernel_rfl) ⟨(hS303q.cell (i := 0) rfl), (hS303q.cell (i := 1) rfl), (hS303q.cell (i := 2) rfl), (hS303q.cells (vs := ([.slice A0q0 p0.f0.length c0q0, .int .i64 p0.f1, .int .i64 p0.f2] : List Value)) rfl), trivial⟩ (fun _ _ _ h_ => h_) (fun a321q h322q => ?_)
    clear h320q a319q
    refine WH.take 9 (listed' := #[true, true, true, true, true, true, true, true, true, true, false, false, false, false, false, false]) h322q rfl rfl (by kernel_rfl) rfl rfl (.int .i64 p0.f2) (fun w_ hs_ => (run_load1 rfl rfl Try.underlying3 rfl hs_.2.2.1)) ⟨(hS303q.cell (i := 0) rfl), (hS303q.cell (i := 1) rfl), (hS303q.cell (i := 2) rfl), (hS303q.cells (vs := ([.slice A0q0 p0.f0.length c0q0, .int .i64 p0.f1, .int .i64 p0.f2] : List Value)) rfl), trivial⟩ (fun _ _ _ h_ => h_) (fun a323q h324q => ?_)
    clear h322q a321q
    refine WH.take 10 (listed' := #[true, true, true, true, true, true, true, true, true, true, true, false, false, false, false, false]) h324q rfl rfl (by kernel_rfl) rfl rfl (.agg #[.slice A0q0 p0.f0.length c0q0, .int .i64 p0.f1, .int .i64 p0.f2]) (fun w_ hs_ => (run_loadN rfl rfl Try.underlying36 rfl (cs := ([.slice A0q0 p0.f0.length c0q0, .int .i64 p0.f1, .int .i64 p0.f2] : List Value)) (by kernel_rfl) hs_.2.2.2.1)) ⟨(hS303q.cell (i := 0) rfl), (hS303q.cell (i := 1) rfl), (hS303q.cell (i := 2) rfl), (hS303q.cells (vs := ([.slice A0q0 p0.f0.length c0q0, .int .i64 p0.f1, .int .i64 p0.f2] : List Value)) rfl), trivial⟩ (fun _ _ _ h_ => h_) (fun a325q h326q => ?_)
    clear h324q a323q
    obtain ⟨r328q, A327q, H⟩ := bind1 H
    refine WH.op 11 (listed' := #[true, true, true, true, true, true, true, true, true, true, true, true, false, false, false, false]) h326q rfl (by kernel_rfl) rfl rfl ?_
    refine owp_call [.agg #[.slice A0q0 p0.f0.length c0q0, .int .i64 p0.f1, .int .i64 p0.f2]] h326q rfl (by kernel_rfl) rfl Try.func16 (by kernel_rfl) rfl (by kernel_rfl) (louverref23qQ_Size.calls (p0 := (⟨p0.f0, p0.f1, p0.f2⟩ : S36)) k hp0q0 A327q hS303q) (fun e330q W329q hp331q => ?_)
    obtain ⟨rfl, hS334q⟩ := hp331q
    refine ⟨_, rfl, fun a332q h333q => ?_⟩
    clear h326q a325q
    refine ⟨⟨(hS334q.cell (i := 0) rfl), (hS334q.cell (i := 1) rfl), (hS334q.cell (i := 2) rfl), (hS334q.cells (vs := ([.slice A0q0 p0.f0.length c0q0, .int .i64 p0.f1, .int .i64 p0.f2] : List Value)) rfl), trivial⟩, ?_⟩
    refine WH.take 12 (listed' := #[true, true, true, true, true, true, true, true, true, true, true, true, true, false, false, false]) h333q rfl rfl (by kernel_rfl) rfl rfl (.int .i64 (IntKind.i64.wrap (p0.f2 - r328q))) (fun _ _ => by kernel_rfl) ⟨(hS334q.cell (i := 0) rfl), (hS334q.cell (i := 1) rfl), (hS334q.cell (i := 2) rfl), (hS334q.cells (vs := ([.slice A0q0 p0.f0.length c0q0, .int .i64 p0.f1, .int .i64 p0.f2] : List Value)) rfl), trivial⟩ (fun _ _ _ h_ => h_) (fun a335q h336q => ?_)
    clear h333q a332q
    refine WH.take 13 (listed' := #[true, true, true, true, true, true, true, true, true, true, true, true, true, true, false, false]) h336q rfl rfl (by kernel_rfl) rfl rfl (.bool (decide (p1 ≤ (IntKind.i64.wrap (p0.f2 - r328q))))) (fun _ _ => by kernel_rfl) ⟨(hS334q.cell (i := 0) rfl), (hS334q.cell (i := 1) rfl), (hS334q.cell (i := 2) rfl), (hS334q.cells (vs := ([.slice A0q0 p0.f0.length c0q0, .int .i64 p0.f1, .int .i64 p0.f2] : List Value)) rfl), trivial⟩ (fun _ _ _ h_ => h_) (fun a337q h338q => ?_)
    clear h336q a335q
    refine WH.take 14 (listed' := #[true, true, true, true, true, true, true, true, true, true, true, true, true, true, true, false]) h338q rfl rfl (by kernel_rfl) rfl rfl (.bool (decide (p1 ≤ (IntKind.i64.wrap (p0.f2 - r328q))))) (fun _ _ => by kernel_rfl) ⟨(hS334q.cell (i := 0) rfl), (hS334q.cell (i := 1) rfl), (hS334q.cell (i := 2) rfl), (hS334q.cells (vs := ([.slice A0q0 p0.f0.length c0q0, .int .i64 p0.f1, .int .i64 p0.f2] : List Value)) rfl), trivial⟩ (fun _ _ _ h_ => h_) (fun a339q h340q => ?_)
    clear h338q a337q
    refine WH.take 15 (listed' := #[true, true, true, true, true, true, true, true, true, true, true, true, true, true, true, true]) h340q rfl rfl (by kernel_rfl) rfl rfl (.bool (decide (p1 ≤ (IntKind.i64.wrap (p0.f2 - r328q))))) (fun _ _ => by kernel_rfl) ⟨(hS334q.cell (i := 0) rfl), (hS334q.cell (i := 1) rfl), (hS334q.cell (i := 2) rfl), (hS334q.cells (vs := ([.slice A0q0 p0.f0.length c0q0, .int .i64 p0.f1, .int .i64 p0.f2] : List Value)) rfl), trivial⟩ (fun _ _ _ h_ => h_) (fun a341q h342q => ?_)
    clear h340q a339q
    refine WH.done (by kernel_rfl) ?_
    refine wp_ret ?_
    have hS343q : St b w0 W329q R (Fs) := hS334q.drop_
    obtain rfl := Option.some.inj H
    repeat (first | refine then_ret ?_ | refine inBlock_ret ?_ | refine inBlock_go ?_)
    refine body_ret (v := .bool (decide (p1 ≤ (IntKind.i64.wrap (p0.f2 - r328q))))) h342q (by kernel_rfl) (by kernel_rfl) ?_
    exact ⟨rfl, hS343q⟩
  · rw [if_neg c318q] at H
    have hb_ : (decide ((p0.f0.length : Int) < p0.f1)) = false := decide_eq_false c318q
    try rw [hb_] at h317q
    clear hb_
    refine WH.skip 7 (listed' := #[true, true, true, true, true, true, true, true, false, false, false, false, false, false, false, false]) h317q rfl rfl (by kernel_rfl) rfl rfl ⟨(hS303q.cell (i := 0) rfl), (hS303q.cell (i := 1) rfl), (hS303q.cell (i := 2) rfl), (hS303q.cells (vs := ([.slice A0q0 p0.f0.length c0q0, .int .i64 p0.f1, .int .i64 p0.f2] : List Value)) rfl), trivial⟩ (fun _ _ _ h_ => h_) (fun a344q h345q => ?_)
    clear h317q a316q
    refine WH.skip 8 (listed' := #[true, true, true, true, true, true, true, true, true, false, false, false, false, false, false, false]) h345q rfl rfl (by kernel_rfl) rfl rfl ⟨(hS303q.cell (i := 0) rfl), (hS303q.cell (i := 1) rfl), (hS303q.cell (i := 2) rfl), (hS303q.cells (vs := ([.slice A0q0 p0.f0.length c0q0, .int .i64 p0.f1, .int .i64 p0.f2] : List Value)) rfl), trivial⟩ (fun _ _ _ h_ => h_) (fun a346q h347q => ?_)
    clear h345q a344q
    refine WH.skip 9 (listed' := #[true, true, true, true, true, true, true, true, true, true, false, false, false, false, false, false]) h347q rfl rfl (by kernel_rfl) rfl rfl ⟨(hS303q.cell (i := 0) rfl), (hS303q.cell (i := 1) rfl), (hS303q.cell (i := 2) rfl), (hS303q.cells (vs := ([.slice A0q0 p0.f0.length c0q0, .int .i64 p0.f1, .int .i64 p0.f2] : List Value)) rfl), trivial⟩ (fun _ _ _ h_ => h_) (fun a348q h349q => ?_)
    clear h347q a346q
    refine WH.skip 10 (listed' := #[true, true, true, true, true, true, true, true, true, true, true, false, false, false, false, false]) h349q rfl rfl (by kernel_rfl) rfl rfl ⟨(hS303q.cell (i := 0) rfl), (hS303q.cell (i := 1) rfl), (hS303q.cell (i := 2) rfl), (hS303q.cells (vs := ([.slice A0q0 p0.f0.length c0q0, .int .i64 p0.f1, .int .i64 p0.f2] : List Value)) rfl), trivial⟩ (fun _ _ _ h_ => h_) (fun a350q h351q => ?_)
    clear h349q a348q
    refine WH.skip 11 (listed' := #[true, true, true, true, true, true, true, true, true, true, true, true, false, false, false, false]) h351q rfl rfl (by kernel_rfl) rfl rfl ⟨(hS303q.cell (i := 0) rfl), (hS303q.cell (i := 1) rfl), (hS303q.cell (i := 2) rfl), (hS303q.cells (vs := ([.slice A0q0 p0.f0.length c0q0, .int .i64 p0.f1, .int .i64 p0.f2] : List Value)) rfl), trivial⟩ (fun _ _ _ h_ => h_) (fun a352q h353q => ?_)
    clear h351q a350q
    refine WH.skip 12 (listed' := #[true, true, true, true, true, true, true, true, true, true, true, true, true, false, false, false]) h353q rfl rfl (by kernel_rfl) rfl rfl ⟨(hS303q.cell (i := 0) rfl), (hS303q.cell (i := 1) rfl), (hS303q.cell (i := 2) rfl), (hS303q.cells (vs := ([.slice A0q0 p0.f0.length c0q0, .int .i64 p0.f1, .int .i64 p0.f2] : List Value)) rfl), trivial⟩ (fun _ _ _ h_ => h_) (fun a354q h355q => ?_)
    clear h353q a352q
    refine WH.skip 13 (listed' := #[true, true, true, true, true, true, true, true, true, true, true, true, true, true, false, false]) h355q rfl rfl (by kernel_rfl) rfl rfl ⟨(hS303q.cell (i := 0) rfl), (hS303q.cell (i := 1) rfl), (hS303q.cell (i := 2) rfl), (hS303q.cells (vs := ([.slice A0q0 p0.f0.length c0q0, .int .i64 p0.f1, .int .i64 p0.f2] : List Value)) rfl), trivial⟩ (fun _ _ _ h_ => h_) (fun a356q h357q => ?_)
    clear h355q a354q
    refine WH.take 14 (listed' := #[true, true, true, true, true, true, true, true, true, true, true, true, true, true, true, false]) h357q rfl rfl (by kernel_rfl) rfl rfl (.bool false) (fun _ _ => by kernel_rfl) ⟨(hS303q.cell (i := 0) rfl), (hS303q.cell (i := 1) rfl), (hS303q.cell (i := 2) rfl), (hS303q.cells (vs := ([.slice A0q0 p0.f0.length c0q0, .int .i64 p0.f1, .int .i64 p0.f2] : List Value)) rfl), trivial⟩ (fun _ _ _ h_ => h_) (fun a358q h359q => ?_)
    clear h357q a356q
    refine WH.take 15 (listed' := #[true, true, true, true, true, true, true, true, true, true, true, true, true, true, true, true]) h359q rfl rfl (by kernel_rfl) rfl rfl (.bool false) (fun _ _ => by kernel_rfl) ⟨(hS303q.cell (i := 0) rfl), (hS303q.cell (i := 1) rfl), (hS303q.cell (i := 2) rfl), (hS303q.cells (vs := ([.slice A0q0 p0.f0.length c0q0, .int .i64 p0.f1, .int .i64 p0.f2] : List Value)) rfl), trivial⟩ (fun _ _ _ h_ => h_) (fun a360q h361q => ?_)
    clear h359q a358q
    refine WH.done (by kernel_rfl) ?_
    refine wp_ret ?_
    have hS362q : St b w0 W184q.drew R (Fs) := hS303q.drop_
    obtain rfl := Option.some.inj H
    repeat (first | refine then_ret ?_ | refine inBlock_ret ?_ | refine inBlock_go ?_)
    refine body_ret (v := .bool false) h361q (by kernel_rfl) (by kernel_rfl) ?_
    exact ⟨rfl, hS362q⟩

/-! ### (louver/louverref23.Q).Push -/
def louverref23qQ_Push.f (k : Nat) (p0 : S36) (p1 : (List UInt8)) : Option (S36 × Bool) := bnd1 (louverref23qQ_Fits.f k (⟨p0.f0, p0.f1, p0.f2⟩ : S36) (p1.length : Int)) fun r134q => (if r134q = true then (if ([] : List (List UInt8)).length + p0.f0.length ≤ 8796093022208 then (lt1 (([] : List (List UInt8)) ++ p0.f0 : List (List UInt8)) fun y168q => (if y168q.length + 1 ≤ 8796093022208 then (lt1 (y168q ++ ([p1] : List (List UInt8)) : List (List UInt8)) fun y192q => (some ((⟨y192q, p0.f1, p0.f2⟩ : S36), true))) else (none))) else (none)) else (some ((⟨p0.f0, p0.f1, p0.f2⟩ : S36), false)))
set_option maxHeartbeats 2000000 in
set_option maxRecDepth 100000 in
theorem louverref23qQ_Push.calls (k : Nat) {b : Nat} {w0 W : World} {R : Frag} {Fs : List Frag} {p0 : S36} {p1 : (List UInt8)} {v0q0 : Value} {M0q0 : Frag} {r0q : S36} {r1q : Bool} (hp0q0 : Row kStr 9 b w0 R v0q0 p0.f0 M0q0) (H : louverref23qQ_Push.f k p0 p1 = some (r0q, r1q)) (hS : St b w0 W R (M0q0 :: Fs)) :
    Calls Try.prog 12 ([.agg #[v0q0, .int .i64 p0.f1, .int .i64 p0.f2], .string (mkS p1)] : List Value).toArray W (fun e W' => ∃ (u0qv0qf0 : Value) (Nu0qv0qf0 : Frag), e = .returned (.tuple #[.agg #[u0qv0qf0, .int .i64 r0q.f1, .int .i64 r0q.f2], .bool r1q]) ∧ Row kStr 9 b w0 R u0qv0qf0 r0q.f0 Nu0qv0qf0 ∧ St b w0 W' R (Nu0qv0qf0 :: Fs)) := by
  obtain ⟨A0q0, c0q0, rfl⟩ := hp0q0.form
  unfold louverref23qQ_Push.f at H
  refine calls_enter Try.func12 rfl 24 rfl (by kernel_rfl) (fun a h => ?_)
  refine wp_seq ?_
  refine WL.start ?_
  refine WL.op' (m := 0) h rfl rfl ?_
  refine owp_new (fun g_ => .pointer (some ⟨g_, 0, none⟩)) (.cells ([.slice A0q0 p0.f0.length c0q0, .int .i64 p0.f1, .int .i64 p0.f2] : List Value).toArray 36 (0, 0)) h rfl (by kernel_rfl) (by kernel_rfl) hS (fun a115q W117q g118q h116q hS119q => ?_)
  refine WL.op' (m := 1) h116q rfl rfl ?_
  refine owp_new (fun g_ => .pointer (some ⟨g_, 0, none⟩)) (.cells ([.slice none 0 0, .int .i64 0, .int .i64 0] : List Value).toArray 36 (0, 0)) h116q rfl (by kernel_rfl) (by kernel_rfl) hS119q (fun a120q W122q g123q h121q hS124q => ?_)
  clear h116q a115q
  refine WL.block (c := 1) (m' := 3) h121q rfl [(5, .bool false)] (by kernel_rfl) (fun a125q h126q => ?_)
  clear h121q a120q
  refine WL.done (by kernel_rfl) ?_
  refine wp_seq ?_
  refine wp_seq ?_
  refine WL.start ?_
  have hS127q : St b w0 W122q R ([(g118q, .cells ([.slice A0q0 p0.f0.length c0q0, .int .i64 p0.f1, .int .i64 p0.f2] : List Value).toArray 36 (0, 0))] :: [(g123q, .cells ([.slice none 0 0, .int .i64 0, .int .i64 0] : List Value).toArray 36 (0, 0))] :: M0q0 :: Fs) := hS124q.bring 1 rfl rfl
  refine WL.op' (m := 0) h126q rfl rfl ?_
  refine owp_run (v := .agg #[.slice A0q0 p0.f0.length c0q0, .int .i64 p0.f1, .int .i64 p0.f2]) h126q rfl (by kernel_rfl) (run_loadN rfl rfl Try.underlying36 rfl (cs := ([.slice A0q0 p0.f0.length c0q0, .int .i64 p0.f1, .int .i64 p0.f2] : List Value)) (by kernel_rfl) (hS127q.cells (vs := ([.slice A0q0 p0.f0.length c0q0, .int .i64 p0.f1, .int .i64 p0.f2] : List Value)) rfl)) (fun a128q h129q => ?_)
  clear h126q a125q
  refine WL.block (c := 2) (m' := 3) h129q rfl [(9, .int .i64 (p1.length : Int)), (8, .string (mkS p1))] (by kernel_rfl) (fun a130q h131q => ?_)
  clear h129q a128q
  have hS132q : St b w0 W122q R (M0q0 :: [(g118q, .cells ([.slice A0q0 p0.f0.length c0q0, .int .i64 p0.f1, .int .i64 p0.f2] : List Value).toArray 36 (0, 0))] :: [(g123q, .cells ([.slice none 0 0, .int .i64 0, .int .i64 0] : List Value).toArray 36 (0, 0))] :: Fs) := hS127q.bring 2 rfl rfl
  obtain ⟨r134q, A133q, H⟩ := bind1 H
  refine WL.op' (m := 3) h131q rfl rfl ?_
  refine owp_call [.agg #[.slice A0q0 p0.f0.length c0q0, .int .i64 p0.f1, .int .i64 p0.f2], .int .i64 (p1.length : Int)] h131q rfl (by kernel_rfl) rfl Try.func13 (by kernel_rfl) rfl (by kernel_rfl) (louverref23qQ_Fits.calls (p0 := (⟨p0.f0, p0.f1, p0.f2⟩ : S36)) k hp0q0.rds A133q (hS132q.pool)) (fun e136q W135q hp137q => ?_)
  obtain ⟨rfl, hS140q⟩ := hp137q
  have hS141q : St b w0 W135q R (M0q0 :: [(g118q, .cells ([.slice A0q0 p0.f0.length c0q0, .int .i64 p0.f1, .int .i64 p0.f2] : List Value).toArray 36 (0, 0))] :: [(g123q, .cells ([.slice none 0 0, .int .i64 0, .int .i64 0] : List Value).toArray 36 (0, 0))] :: Fs) := hS140q.unpool
  refine ⟨_, rfl, fun a138q h139q => ?_⟩
  clear h131q a130q
  refine WL.block (c := 1) (m' := 5) h139q rfl [(11, .bool (!r134q))] (by kernel_rfl) (fun a142q h143q => ?_)
  clear h139q a138q
  refine WL.done (by kernel_rfl) ?_
  by_cases c144q : r134q = true
  · rw [if_pos c144q] at H
    have hb_ : r134q = true := c144q
    try rw [hb_] at h143q
    clear hb_
    refine wp_else h143q rfl ?_
    refine wp_skip ?_
    refine wp_seq ?_
    refine WL.start ?_
    refine WL.op' (m := 0) h143q rfl rfl ?_
    refine owp_new (fun g_ => .slice (some ⟨g_, 0, none⟩) 0 0) (.cells ([] : List Value).toArray 9 (0, 0)) h143q rfl (by kernel_rfl) (by kernel_rfl) hS141q (fun a145q W147q g148q h146q hS149q => ?_)
    clear h143q a142q
    have hr150q : Row kStr 9 b w0 R (.slice (some ⟨g148q, 0, none⟩) 0 0) ([] : List (List UInt8)) [(g148q, .cells ([] : List Value).toArray 9 (0, 0))] := Row.lit (xs := ([] : List (List UInt8))) (Mi := []) ⟨rfl, rfl⟩ (by simp [maxLen])
    refine WL.block (c := 1) (m' := 2) h146q rfl [(6, .slice (some ⟨g148q, 0, none⟩) 0 0)] (by kernel_rfl) (fun a151q h152q => ?_)
    clear h146q a145q
    refine WL.done (by kernel_rfl) ?_
    refine wp_seq ?_
    refine WL.start ?_
    refine WL.block (c := 2) (m' := 2) h152q rfl [(15, .pointer (some ⟨g118q, 0, none⟩)), (14, .slice (some ⟨g148q, 0, none⟩) 0 0)] (by kernel_rfl) (fun a153q h154q => ?_)
    clear h152q a151q
    have hS155q : St b w0 W147q R ([(g118q, .cells ([.slice A0q0 p0.f0.length c0q0, .int .i64 p0.f1, .int .i64 p0.f2] : List Value).toArray 36 (0, 0))] :: [(g148q, .cells ([] : List Value).toArray 9 (0, 0))] :: M0q0 :: [(g123q, .cells ([.slice none 0 0, .int .i64 0, .int .i64 0] : List Value).toArray 36 (0, 0))] :: Fs) := hS149q.bring 2 rfl rfl
    refine WL.op' (m := 2) h154q rfl rfl ?_
    refine owp_run (v := .slice A0q0 p0.f0.length c0q0) h154q rfl (by kernel_rfl) (run_load1 rfl rfl Try.underlying34 rfl (hS155q.cell (i := 0) rfl)) (fun a156q h157q => ?_)
    clear h154q a153q
    by_cases c158q : ([] : List (List UInt8)).length + p0.f0.length ≤ 8796093022208
    · rw [if_pos c158q] at H
      have hS159q : St b w0 W147q R (M0q0 :: [(g118q, .cells ([.slice A0q0 p0.f0.length c0q0, .int .i64 p0.f1, .int .i64 p0.f2] : List Value).toArray 36 (0, 0))] :: [(g148q, .cells ([] : List Value).toArray 9 (0, 0))] :: [(g123q, .cells ([.slice none 0 0, .int .i64 0, .int .i64 0] : List Value).toArray 36 (0, 0))] :: Fs) := hS155q.bring 2 rfl rfl
      have hS160q : St b w0 W147q R ([(g148q, .cells ([] : List Value).toArray 9 (0, 0))] :: M0q0 :: [(g118q, .cells ([.slice A0q0 p0.f0.length c0q0, .int .i64 p0.f1, .int .i64 p0.f2] : List Value).toArray 36 (0, 0))] :: [(g123q, .cells ([.slice none 0 0, .int .i64 0, .int .i64 0] : List Value).toArray 36 (0, 0))] :: Fs) := hS159q.bring 2 rfl rfl
      refine WL.op' (m := 3) h157q rfl rfl ?_
      refine owp_app_keep (z := .string (mkS [])) (bytes := 16) (dk := kStr) h157q rfl (by kernel_rfl) rfl rfl rfl (fun hr_ => hr_.2) hr150q hp0q0 hS160q Try.underlying34 (by kernel_rfl) rfl (by decide) (by decide) (by first | omega | (simp only [List.length_cons, List.length_nil] at *; omega)) (fun a161q W163q v164q M165q h162q hr166q hS167q => ?_)
      clear h157q a156q
      obtain ⟨y168q, hy169q, H⟩ := lete H
      have hr170q : Row kStr 9 b w0 R v164q y168q M165q := by rw [hy169q]; exact hr166q
      clear hr166q
      obtain ⟨A171q, c172q, rfl⟩ := hr170q.form
      refine WL.block (c := 1) (m' := 5) h162q rfl [(6, .slice A171q y168q.length c172q)] (by kernel_rfl) (fun a173q h174q => ?_)
      clear h162q a161q
      refine WL.done (by kernel_rfl) ?_
      refine wp_seq ?_
      refine WL.start ?_
      refine WL.block (c := 2) (m' := 2) h174q rfl [(19, .string (mkS p1)), (18, .slice A171q y168q.length c172q)] (by kernel_rfl) (fun a175q h176q => ?_)
      clear h174q a173q
      refine WL.op' (m := 2) h176q rfl rfl ?_
      refine owp_new (fun g_ => .slice (some ⟨g_, 0, none⟩) 1 1) (.cells ([.string (mkS p1)] : List Value).toArray 9 (0, 0)) h176q rfl (by kernel_rfl) (by kernel_rfl) hS167q (fun a177q W179q g180q h178q hS181q => ?_)
      clear h176q a175q
      have hr182q : Row kStr 9 b w0 R (.slice (some ⟨g180q, 0, none⟩) 1 1) ([p1] : List (List UInt8)) [(g180q, .cells ([.string (mkS p1)] : List Value).toArray 9 (0, 0))] := Row.lit (xs := ([p1] : List (List UInt8))) (Mi := []) ⟨_, _, [], _, rfl, rfl, ⟨rfl, rfl⟩, ⟨rfl, rfl⟩⟩ (by simp [maxLen])
      by_cases c183q : y168q.length + 1 ≤ 8796093022208
      · rw [if_pos c183q] at H
        have hS184q : St b w0 W179q R (M165q :: [(g180q, .cells ([.string (mkS p1)] : List Value).toArray 9 (0, 0))] :: M0q0 :: [(g118q, .cells ([.slice A0q0 p0.f0.length c0q0, .int .i64 p0.f1, .int .i64 p0.f2] : List Value).toArray 36 (0, 0))] :: [(g123q, .cells ([.slice none 0 0, .int .i64 0, .int .i64 0] : List Value).toArray 36 (0, 0))] :: Fs) := hS181q.bring 1 rfl rfl
        refine WL.op' (m := 3) h178q rfl rfl ?_
        refine owp_app_take (z := .string (mkS [])) (bytes := 16) (dk := kStr) h178q rfl (by kernel_rfl) rfl rfl rfl hr170q hr182q hS184q Try.underlying34 (by kernel_rfl) rfl (by decide) (by decide) (by first | omega | (simp only [List.length_cons, List.length_nil] at *; omega)) (fun a185q W187q v188q M189q h186q hr190q hS191q => ?_)
        clear h178q a177q
        obtain ⟨y192q, hy193q, H⟩ := lete H
        have hr194q : Row kStr 9 b w0 R v188q y192q M189q := by rw [hy193q]; exact hr190q
        clear hr190q
        obtain ⟨A195q, c196q, rfl⟩ := hr194q.form
        refine WL.block (c := 1) (m' := 5) h186q rfl [(22, .pointer (some ⟨g118q, 0, none⟩))] (by kernel_rfl) (fun a197q h198q => ?_)
        clear h186q a185q
        have hS199q : St b w0 W187q R ([(g118q, .cells ([.slice A0q0 p0.f0.length c0q0, .int .i64 p0.f1, .int .i64 p0.f2] : List Value).toArray 36 (0, 0))] :: M189q :: M0q0 :: [(g123q, .cells ([.slice none 0 0, .int .i64 0, .int .i64 0] : List Value).toArray 36 (0, 0))] :: Fs) := hS191q.bring 2 rfl rfl
        refine WL.op' (m := 5) h198q rfl rfl ?_
        refine owp_store (i := 0) (vs := ([.slice A195q y192q.length c196q] : List Value)) h198q rfl (by kernel_rfl) rfl rfl rfl rfl (by simp [Value.oneCell']) (by kernel_rfl) hS199q (by simp) (cs' := ([.slice A195q y192q.length c196q, .int .i64 p0.f1, .int .i64 p0.f2] : List Value)) rfl (fun a200q W202q h201q hS203q => ?_)
        clear h198q a197q
        refine WL.done (by kernel_rfl) ?_
        refine wp_seq ?_
        refine WL.start ?_
        refine WL.op' (m := 0) h201q rfl rfl ?_
        refine owp_run (v := .agg #[.slice A195q y192q.length c196q, .int .i64 p0.f1, .int .i64 p0.f2]) h201q rfl (by kernel_rfl) (run_loadN rfl rfl Try.underlying36 rfl (cs := ([.slice A195q y192q.length c196q, .int .i64 p0.f1, .int .i64 p0.f2] : List Value)) (by kernel_rfl) (hS203q.cells (vs := ([.slice A195q y192q.length c196q, .int .i64 p0.f1, .int .i64 p0.f2] : List Value)) rfl)) (fun a204q h205q => ?_)
        clear h201q a200q
        have hS206q : St b w0 W202q R ([(g123q, .cells ([.slice none 0 0, .int .i64 0, .int .i64 0] : List Value).toArray 36 (0, 0))] :: [(g118q, .cells ([.slice A195q y192q.length c196q, .int .i64 p0.f1, .int .i64 p0.f2] : List Value).toArray 36 (0, 0))] :: M189q :: M0q0 :: Fs) := hS203q.bring 3 rfl rfl
        refine WL.op' (m := 1) h205q rfl rfl ?_
        refine owp_store (i := 0) (vs := ([.slice A195q y192q.length c196q, .int .i64 p0.f1, .int .i64 p0.f2] : List Value)) h205q rfl (by kernel_rfl) rfl rfl rfl rfl (by simp [Value.oneCell']) (by kernel_rfl) hS206q (by simp) (cs' := ([.slice A195q y192q.length c196q, .int .i64 p0.f1, .int .i64 p0.f2] : List Value)) rfl (fun a207q W209q h208q hS210q => ?_)
        clear h205q a204q
        refine WL.block (c := 1) (m' := 3) h208q rfl [(5, .bool true)] (by kernel_rfl) (fun a211q h212q => ?_)
        clear h208q a207q
        refine WL.done (by kernel_rfl) ?_
        refine wp_ret ?_
        have hS213q : St b w0 W209q R ([(g118q, .cells ([.slice A195q y192q.length c196q, .int .i64 p0.f1, .int .i64 p0.f2] : List Value).toArray 36 (0, 0))] :: M189q :: M0q0 :: Fs) := hS210q.drop_
        have hS214q : St b w0 W209q R (M189q :: M0q0 :: Fs) := hS213q.drop_
        have hS215q : St b w0 W209q R (M0q0 :: M189q :: Fs) := hS214q.bring 1 rfl rfl
        have hS216q : St b w0 W209q R (M189q :: Fs) := hS215q.drop_
        obtain ⟨rfl, rfl⟩ := ret2 H
        repeat (first | refine then_ret ?_ | refine inBlock_ret ?_ | refine inBlock_go ?_)
        refine body_ret (v := .tuple #[.agg #[.slice A195q y192q.length c196q, .int .i64 p0.f1, .int .i64 p0.f2], .bool true]) h212q (by kernel_rfl) (res_many (xs := [ResultVar.cell 4 36, ResultVar.tmp 5]) rfl ⟨⟨_, rfl, loadVarN Try.underlying36 rfl (cs := ([.slice A195q y192q.length c196q, .int .i64 p0.f1, .int .i64 p0.f2] : List Value)) (by kernel_rfl) (hS210q.cells (vs := ([.slice A195q y192q.length c196q, .int .i64 p0.f1, .int .i64 p0.f2] : List Value)) rfl)⟩, rfl, trivial⟩ rfl) ?_
        exact ⟨.slice A195q y192q.length c196q, M189q, rfl, hr194q, hS216q⟩
      · rw [if_neg c183q] at H
        cases H
    · rw [if_neg c158q] at H
      cases H
  · rw [if_neg c144q] at H
    have hb_ : r134q = false := (Bool.eq_false_iff.2 c144q)
    try rw [hb_] at h143q
    clear hb_
    refine wp_then h143q rfl ?_
    refine wp_seq ?_
    refine WL.start ?_
    have hS217q : St b w0 W135q R ([(g118q, .cells ([.slice A0q0 p0.f0.length c0q0, .int .i64 p0.f1, .int .i64 p0.f2] : List Value).toArray 36 (0, 0))] :: M0q0 :: [(g123q, .cells ([.slice none 0 0, .int .i64 0, .int .i64 0] : List Value).toArray 36 (0, 0))] :: Fs) := hS141q.bring 1 rfl rfl
    refine WL.op' (m := 0) h143q rfl rfl ?_
    refine owp_run (v := .agg #[.slice A0q0 p0.f0.length c0q0, .int .i64 p0.f1, .int .i64 p0.f2]) h143q rfl (by kernel_rfl) (run_loadN rfl rfl Try.underlying36 rfl (cs := ([.slice A0q0 p0.f0.length c0q0, .int .i64 p0.f1, .int .i64 p0.f2] : List Value)) (by kernel_rfl) (hS217q.cells (vs := ([.slice A0q0 p0.f0.length c0q0, .int .i64 p0.f1, .int .i64 p0.f2] : List Value)) rfl)) (fun a218q h219q => ?_)
    clear h143q a142q
    have hS220q : St b w0 W135q R ([(g123q, .cells ([.slice none 0 0, .int .i64 0, .int .i64 0] : List Value).toArray 36 (0, 0))] :: [(g118q, .cells ([.slice A0q0 p0.f0.length c0q0, .int .i64 p0.f1, .int .i64 p0.f2] : List Value).toArray 36 (0, 0))] :: M0q0 :: Fs) := hS217q.bring 2 rfl rfl
    refine WL.op' (m := 1) h219q rfl rfl ?_
    refine owp_store (i := 0) (vs := ([.slice A0q0 p0.f0.length c0q0, .int .i64 p0.f1, .int .i64 p0.f2] : List Value)) h219q rfl (by kernel_rfl) rfl rfl rfl rfl (by simp [Value.oneCell']) (by kernel_rfl) hS220q (by simp) (cs' := ([.slice A0q0 p0.f0.length c0q0, .int .i64 p0.f1, .int .i64 p0.f2] : List Value)) rfl (fun a221q W223q h222q hS224q => ?_)
    clear h219q a218q
    refine WL.block (c := 1) (m' := 3) h222q rfl [(5, .bool false)] (by kernel_rfl) (fun a225q h226q => ?_)
    clear h222q a221q
    refine WL.done (by kernel_rfl) ?_
    refine wp_ret ?_
    have hS227q : St b w0 W223q R ([(g118q, .cells ([.slice A0q0 p0.f0.length c0q0, .int .i64 p0.f1, .int .i64 p0.f2] : List Value).toArray 36 (0, 0))] :: M0q0 :: Fs) := hS224q.drop_
    have hS228q : St b w0 W223q R (M0q0 :: Fs) := hS227q.drop_
    obtain ⟨rfl, rfl⟩ := ret2 H
    repeat (first | refine then_ret ?_ | refine inBlock_ret ?_ | refine inBlock_go ?_)
    refine body_ret (v := .tuple #[.agg #[.slice A0q0 p0.f0.length c0q0, .int .i64 p0.f1, .int .i64 p0.f2], .bool false]) h226q (by kernel_rfl) (res_many (xs := [ResultVar.cell 4 36, ResultVar.tmp 5]) rfl ⟨⟨_, rfl, loadVarN Try.underlying36 rfl (cs := ([.slice A0q0 p0.f0.length c0q0, .int .i64 p0.f1, .int .i64 p0.f2] : List Value)) (by kernel_rfl) (hS224q.cells (vs := ([.slice A0q0 p0.f0.length c0q0, .int .i64 p0.f1, .int .i64 p0.f2] : List Value)) rfl)⟩, rfl, trivial⟩ rfl) ?_
    exact ⟨.slice A0q0 p0.f0.length c0q0, M0q0, rfl, hp0q0, hS228q⟩

structure S38 where
  f0 : Int
  f1 : (List Int)
  f2 : Int
  deriving DecidableEq
def z38 : S38 := ⟨(0 : Int), [], (0 : Int)⟩
def k38 : Kd S38 := kIso (kPair (kInt .i64) (kPair (kRds (kInt .u8)) (kInt .i64))) (fun x : S38 => (x.f0, (x.f1, x.f2)))
theorem k38qflat : k38.Flat := kIso_flat (kPair_flat (kInt_flat _) (kPair_flat kRds_flat (kInt_flat _)))
theorem k38qrd {b : Nat} {w0 : World} {R : Frag} {x : S38} {cs : List Value} (h : k38.rd b w0 R x cs) : ∃ (vf1 : Value), cs = [.int .i64 x.f0, vf1, .int .i64 x.f2] ∧ Rds (kInt .u8) b w0 R vf1 x.f1 := by
  obtain ⟨c1q, c2q, rfl, h3q, h4q⟩ := h
  obtain ⟨c5q, c6q, rfl, h7q, h8q⟩ := h4q
  obtain rfl := h3q
  obtain ⟨v9q, rfl, g10q⟩ := h7q
  obtain rfl := h8q
  exact ⟨v9q, rfl, g10q⟩
theorem k38qrep {b : Nat} {w0 : World} {R : Frag} {x : S38} {cs : List Value} {M : Frag} (h : k38.rep b w0 R x cs M) : ∃ (vf1 : Value), cs = [.int .i64 x.f0, vf1, .int .i64 x.f2] ∧ M = [] ∧ Rds (kInt .u8) b w0 R vf1 x.f1 := by
  obtain ⟨c11q, c12q, M15q, M16q, rfl, rfl, h13q, h14q⟩ := h
  obtain ⟨c17q, c18q, M21q, M22q, rfl, rfl, h19q, h20q⟩ := h14q
  obtain ⟨rfl, rfl⟩ := h13q
  obtain ⟨⟨v23q, rfl, g24q⟩, rfl⟩ := h19q
  obtain ⟨rfl, rfl⟩ := h20q
  exact ⟨v23q, rfl, by simp, g24q⟩
theorem k38qno {b : Nat} {w0 : World} {R : Frag} {x : S38} {cs : List Value} {M : Frag} (h : k38.rep b w0 R x cs M) : M = [] := by
  obtain ⟨_, _, hM_, _⟩ := k38qrep h
  exact hM_
theorem k38qmk {b : Nat} {w0 : World} {R : Frag} {x : S38} {vf1 : Value} (gvf1 : Rds (kInt .u8) b w0 R vf1 x.f1) : ∃ M, k38.rep b w0 R x [.int .i64 x.f0, vf1, .int .i64 x.f2] M ∧ M = [] := ⟨_, ⟨_, _, _, _, rfl, rfl, ⟨rfl, rfl⟩, ⟨_, _, _, _, rfl, rfl, ⟨⟨vf1, rfl, gvf1⟩, rfl⟩, ⟨rfl, rfl⟩⟩⟩, by simp⟩
/-! ### louver/louverlaw23.QueuePlays -/
mutual
def louverlaw23qQueuePlays.l0 : Nat → S44 → S36 → Int → (List S38) → Option (Bool)
  | 0, _, _, _, _ => none
  | k + 1, x6289q, x6292q, x6295q, p2 => if x6295q < (p2.length : Int) then (if 0 ≤ x6295q then (if (((gt z38 p2 x6295q).f1).length : Int) > 1000 then (bnd1 (louverlaw23qfixed.f) fun r6342q => (some r6342q)) else (if ((gt z38 p2 x6295q).f0) = 0 then (if ([] : List Int).length + ((gt z38 p2 x6295q).f1).length ≤ 140737488355328 then (lt1 (([] : List Int) ++ ((gt z38 p2 x6295q).f1) : List Int) fun y7243q => (bnd2 (louverref23qQ_Push.f k (⟨x6292q.f0, x6292q.f1, x6292q.f2⟩ : S36) (toS ((gt z38 p2 x6295q).f1))) fun r7272q r7273q => (bnd2 (queue_Queue_Push.f x6289q y7243q) fun r7310q r7311q => (if (r7310q != r7273q) = true then (some false) else (lt1 (List.replicate y7243q.length (0 : Int) : List Int) fun y7340q => (louverlaw23qQueuePlays.j1 k r7311q (⟨r7272q.f0, r7272q.f1, r7272q.f2⟩ : S36) p2 x6295q)))))) else (none)) else (if ((gt z38 p2 x6295q).f0) = 1 then (bnd3 (queue_Queue_Pop.f x6289q) fun r7367q r7368q r7369q => (if (r7368q != (decide ((x6292q.f0.length : Int) > 0))) = true then (some false) else (if r7368q = true then (if 0 < (x6292q.f0.length : Int) then (if (toS r7367q) = (gt [] x6292q.f0 (0 : Int)) then (if 1 ≤ (x6292q.f0.length : Int) then (louverlaw23qQueuePlays.j1 k r7369q (⟨x6292q.f0.drop (1 : Int).toNat, x6292q.f1, x6292q.f2⟩ : S36) p2 x6295q) else (none)) else (some false)) else (none)) else (if (r7367q.length : Int) = 0 then (louverlaw23qQueuePlays.j1 k r7369q (⟨x6292q.f0, x6292q.f1, x6292q.f2⟩ : S36) p2 x6295q) else (some false))))) else (if ((gt z38 p2 x6295q).f0) = 2 then (bnd1 (queue_Queue_Fits.f x6289q ((gt z38 p2 x6295q).f2)) fun r8054q => (bnd1 (louverref23qQ_Fits.f k (⟨x6292q.f0, x6292q.f1, x6292q.f2⟩ : S36) (mxI 0 ((gt z38 p2 x6295q).f2))) fun r8065q => (if (r8054q != r8065q) = true then (some false) else (louverlaw23qQueuePlays.j1 k x6289q (⟨x6292q.f0, x6292q.f1, x6292q.f2⟩ : S36) p2 x6295q)))) else (bnd1 (queue_Queue_Clear.f x6289q) fun r8096q => (louverlaw23qQueuePlays.j1 k r8096q (⟨([] : List (List UInt8)), x6292q.f1, x6292q.f2⟩ : S36) p2 x6295q)))))) else (none)) else (bnd1 (louverlaw23qfixed.f) fun r8710q => (some r8710q))
def louverlaw23qQueuePlays.j1 : Nat → S44 → S36 → (List S38) → Int → Option (Bool)
  | 0, _, _, _, _ => none
  | k + 1, x7214q, x7217q, p2, x6295q => bnd1 (queue_Queue_Len.f x7214q) fun r8510q => (if r8510q = (x7217q.f0.length : Int) then (bnd1 (queue_Queue_Bytes.f x7214q) fun r8529q => (bnd1 (louverref23qQ_Size.f k (⟨x7217q.f0, x7217q.f1, x7217q.f2⟩ : S36)) fun r8540q => (if r8529q = r8540q then (bnd1 (queue_Queue_Len.f x7214q) fun r8563q => (if r8563q > x7217q.f1 then (some false) else (bnd1 (queue_Queue_Bytes.f x7214q) fun r8603q => (if r8603q > x7217q.f2 then (some false) else (louverlaw23qQueuePlays.l0 k x7214q (⟨x7217q.f0, x7217q.f1, x7217q.f2⟩ : S36) (IntKind.i64.wrap (x6295q + 1)) p2))))) else (some false)))) else (some false))
end
def louverlaw23qQueuePlays.f (k : Nat) (p0 : Int) (p1 : Int) (p2 : (List S38)) : Option (Bool) := if (p2.length : Int) > 300 then (bnd1 (louverlaw23qfixed.f) fun r6247q => (some r6247q)) else (bnd1 (queue_New.f p0 p1) fun r6259q => (louverlaw23qQueuePlays.l0 k r6259q (⟨([] : List (List UInt8)), mxI 0 p0, mxI 0 p1⟩ : S36) 0 p2))
set_option maxHeartbeats 2000000 in
set_option maxRecDepth 100000 in
theorem louverlaw23qQueuePlays.calls (k : Nat) {b : Nat} {w0 W : World} {R : Frag} {Fs : List Frag} {p0 : Int} {p1 : Int} {p2 : (List S38)} {v2 : Value} {r0q : Bool} (hp2 : Rds k38 b w0 R v2 p2) (H : louverlaw23qQueuePlays.f k p0 p1 p2 = some r0q) (hS : St b w0 W R (Fs)) :
    Calls Try.prog 4 ([.int .i64 p0, .int .i64 p1, v2] : List Value).toArray W (fun e W' => e = .returned (.bool r0q) ∧ St b w0 W' R (Fs)) := by
  obtain ⟨A2, c2, rfl⟩ := hp2.form
  unfold louverlaw23qQueuePlays.f at H
  refine calls_enter Try.func4 rfl 145 rfl (by kernel_rfl) (fun a h => ?_)
  refine wp_seq ?_
  refine WL.start ?_
  refine WL.block (c := 1) (m' := 1) h rfl [(6, .bool false)] (by kernel_rfl) (fun a6241q h6242q => ?_)
  refine WL.done (by kernel_rfl) ?_
  refine wp_seq ?_
  refine wp_seq ?_
  refine WL.start ?_
  refine WL.block (c := 3) (m' := 3) h6242q rfl [(18, .bool (decide ((p2.length : Int) > 300))), (17, .int .i64 (p2.length : Int)), (16, .slice A2 p2.length c2)] (by kernel_rfl) (fun a6243q h6244q => ?_)
  clear h6242q a6241q
  refine WL.done (by kernel_rfl) ?_
  by_cases c6245q : (p2.length : Int) > 300
  · rw [if_pos c6245q] at H
    have hb_ : (decide ((p2.length : Int) > 300)) = true := decide_eq_true c6245q
    try rw [hb_] at h6244q
    clear hb_
    refine wp_then h6244q rfl ?_
    refine wp_seq ?_
    refine WL.start ?_
    obtain ⟨r6247q, A6246q, H⟩ := bind1 H
    refine WL.op' (m := 0) h6244q rfl rfl ?_
    refine owp_call [] h6244q rfl (by kernel_rfl) rfl Try.func6 (by kernel_rfl) rfl (by kernel_rfl) (louverlaw23qfixed.calls  A6246q hS) (fun e6249q W6248q hp6250q => ?_)
    obtain ⟨rfl, hS6253q⟩ := hp6250q
    refine ⟨_, rfl, fun a6251q h6252q => ?_⟩
    clear h6244q a6243q
    refine WL.block (c := 1) (m' := 2) h6252q rfl [(6, .bool r6247q)] (by kernel_rfl) (fun a6254q h6255q => ?_)
    clear h6252q a6251q
    refine WL.done (by kernel_rfl) ?_
    refine wp_ret ?_
    obtain rfl := Option.some.inj H
    repeat (first | refine then_ret ?_ | refine inBlock_ret ?_ | refine inBlock_go ?_)
    refine body_ret (v := .bool r6247q) h6255q (by kernel_rfl) (by kernel_rfl) ?_
    exact ⟨rfl, hS6253q⟩
  · rw [if_neg c6245q] at H
    have hb_ : (decide ((p2.length : Int) > 300)) = false := decide_eq_false c6245q
    try rw [hb_] at h6244q
    clear hb_
    refine wp_else h6244q rfl ?_
    refine wp_skip ?_
    refine wp_seq ?_
    refine WL.start ?_
    refine WL.block (c := 2) (m' := 2) h6244q rfl [(21, .int .i64 p1), (20, .int .i64 p0)] (by kernel_rfl) (fun a6256q h6257q => ?_)
    clear h6244q a6243q
    obtain ⟨r6259q, A6258q, H⟩ := bind1 H
    refine WL.op' (m := 2) h6257q rfl rfl ?_
    refine owp_call [.int .i64 p0, .int .i64 p1] h6257q rfl (by kernel_rfl) rfl Try.func7 (by kernel_rfl) rfl (by kernel_rfl) (queue_New.calls  A6258q hS) (fun e6261q W6260q hp6262q => ?_)
    obtain ⟨v6265q, M6266q, rfl, hr6267q, hS6268q⟩ := hp6262q
    refine ⟨_, rfl, fun a6263q h6264q => ?_⟩
    clear h6257q a6256q
    refine WL.block (c := 1) (m' := 4) h6264q rfl [(7, v6265q)] (by kernel_rfl) (fun a6269q h6270q => ?_)
    clear h6264q a6263q
    refine WL.done (by kernel_rfl) ?_
    refine wp_seq ?_
    refine WL.start ?_
    refine WL.block (c := 5) (m' := 5) h6270q rfl [(27, .agg #[.slice none 0 0, .int .i64 (mxI 0 p0), .int .i64 (mxI 0 p1)]), (26, .int .i64 (mxI 0 p1)), (25, .int .i64 p1), (24, .int .i64 (mxI 0 p0)), (23, .int .i64 p0)] (by kernel_rfl) (fun a6271q h6272q => ?_)
    clear h6270q a6269q
    refine WL.op' (m := 5) h6272q rfl rfl ?_
    refine owp_new (fun g_ => .pointer (some ⟨g_, 0, none⟩)) (.cells ([.slice none 0 0, .int .i64 0, .int .i64 0] : List Value).toArray 36 (0, 0)) h6272q rfl (by kernel_rfl) (by kernel_rfl) hS6268q (fun a6273q W6275q g6276q h6274q hS6277q => ?_)
    clear h6272q a6271q
    refine WL.op' (m := 6) h6274q rfl rfl ?_
    refine owp_store (i := 0) (vs := ([.slice none 0 0, .int .i64 (mxI 0 p0), .int .i64 (mxI 0 p1)] : List Value)) h6274q rfl (by kernel_rfl) rfl rfl rfl rfl (by simp [Value.oneCell']) (by kernel_rfl) hS6277q (by simp) (cs' := ([.slice none 0 0, .int .i64 (mxI 0 p0), .int .i64 (mxI 0 p1)] : List Value)) rfl (fun a6278q W6280q h6279q hS6281q => ?_)
    clear h6274q a6273q
    refine WL.done (by kernel_rfl) ?_
    refine wp_seq ?_
    refine wp_seq ?_
    refine WL.start ?_
    refine WL.block (c := 3) (m' := 3) h6279q rfl [(30, .int .i64 0), (29, .int .i64 (p2.length : Int)), (28, .slice A2 p2.length c2)] (by kernel_rfl) (fun a6282q h6283q => ?_)
    clear h6279q a6278q
    refine WL.done (by kernel_rfl) ?_
    refine wp_block ?_
    obtain ⟨M6297q, hr6296q, hM_⟩ := k36qmk (b := b) (w0 := w0) (R := R) (x := (⟨([] : List (List UInt8)), mxI 0 p0, mxI 0 p1⟩ : S36)) (gvf0 := Row.nil)
    have hp6298q : Ptr k36 36 b w0 R (.pointer (some ⟨g6276q, 0, none⟩)) (⟨([] : List (List UInt8)), mxI 0 p0, mxI 0 p1⟩ : S36) ((g6276q, .cells ([.slice none 0 0, .int .i64 (mxI 0 p0), .int .i64 (mxI 0 p1)] : List Value).toArray 36 (0, 0)) :: M6297q) := ⟨_, _, _, rfl, rfl, hr6296q⟩
    rw [hM_] at hp6298q
    have hS6300q : St b w0 W6280q R (((g6276q, .cells ([.slice none 0 0, .int .i64 (mxI 0 p0), .int .i64 (mxI 0 p1)] : List Value).toArray 36 (0, 0)) :: ([])) :: M6266q :: Fs) := hS6281q.assoc (by simp only [List.flatten_cons, List.append_assoc, List.cons_append, List.nil_append, List.append_nil])
    obtain ⟨M6301q, hM_⟩ : ∃ y : Frag, y = ((g6276q, .cells ([.slice none 0 0, .int .i64 (mxI 0 p0), .int .i64 (mxI 0 p1)] : List Value).toArray 36 (0, 0)) :: ([])) := ⟨_, rfl⟩
    rw [← hM_] at hp6298q hS6300q
    clear hM_
    have hS6302q : St b w0 W6280q R (M6266q :: M6301q :: Fs) := hS6300q.bring 1 rfl rfl
    refine wp_loop_ghost (fun kq_ a_ W_ => ∃ (x6289q : S44), ∃ (M6290q : Frag), ∃ (x6292q : S36), ∃ (M6293q : Frag), ∃ (x6295q : Int), Hd a_ 145 [(7, v6265q), (8, .pointer (some ⟨g6276q, 0, none⟩)), (28, .slice A2 p2.length c2), (29, .int .i64 (p2.length : Int)), (30, .int .i64 x6295q)] ∧ Asd (louverlaw23qQueuePlays.l0 kq_ x6289q x6292q x6295q p2 = some r0q) ∧ Asd (kq_ ≤ k) ∧ Asd (St b w0 W_ R (M6290q :: M6293q :: Fs)) ∧ Asd (Ptr k44 44 b w0 R v6265q x6289q M6290q) ∧ Asd (Ptr k36 36 b w0 R (.pointer (some ⟨g6276q, 0, none⟩)) x6292q M6293q)) k ⟨r6259q, M6266q, (⟨([] : List (List UInt8)), mxI 0 p0, mxI 0 p1⟩ : S36), M6301q, 0, h6283q.keep ⟨rfl, rfl, rfl, rfl, rfl, trivial⟩, ⟨H⟩, ⟨Nat.le_refl _⟩, ⟨hS6302q⟩, ⟨hr6267q⟩, ⟨hp6298q⟩⟩ ?_
    clear H hS6302q
    rintro k6288q a6285q W6286q ⟨x6289q, M6290q, x6292q, M6293q, x6295q, h6284q, ⟨H⟩, ⟨hkk6288q⟩, ⟨hS6287q⟩, ⟨hr6291q⟩, ⟨hr6294q⟩⟩
    obtain _ | k6303q := k6288q
    · exact absurd H (by simp [louverlaw23qQueuePlays.l0])
    simp only [louverlaw23qQueuePlays.l0] at H
    refine wp_seq ?_
    refine WL.start ?_
    refine WL.block (c := 1) (m' := 1) h6284q rfl [(31, .bool (decide (x6295q < (p2.length : Int))))] (by kernel_rfl) (fun a6304q h6305q => ?_)
    clear h6284q a6285q
    refine WL.done (by kernel_rfl) ?_
    refine wp_seq ?_
    by_cases c6306q : x6295q < (p2.length : Int)
    · rw [if_pos c6306q] at H
      have hb_ : (decide (x6295q < (p2.length : Int))) = true := decide_eq_true c6306q
      try rw [hb_] at h6305q
      clear hb_
      refine wp_then h6305q rfl ?_
      refine wp_skip ?_
      refine wp_seq ?_
      refine wp_block ?_
      refine wp_seq ?_
      refine WL.start ?_
      by_cases c6307q : 0 ≤ x6295q
      · rw [if_pos c6307q] at H
        have hi6310q : 0 ≤ x6295q := by first | assumption | omega
        have hi6311q : x6295q < (p2.length : Int) := by first | assumption | omega
        obtain ⟨ad6308q, _, ha6309q, -, -⟩ := Rds.elemAny hp2 hi6310q (gt_get (z := z38) hi6310q hi6311q)
        refine WL.op' (m := 0) h6305q rfl rfl ?_
        refine owp_run (v := .pointer (some (ad6308q.add (x6295q.toNat * 3)))) h6305q rfl (by kernel_rfl) (run_idx (ad := ad6308q) (sz := 3) rfl (by rw [← ha6309q]; rfl) rfl Try.underlying33 (by kernel_rfl) hi6310q hi6311q) (fun a6312q h6313q => ?_)
        clear h6305q a6304q
        obtain ⟨ad6314q, cs6315q, ha6316q, hr6318q, hc6317q⟩ := Rds.elemAny hp2 hi6310q (gt_get (z := z38) hi6310q hi6311q)
        rw [ha6309q] at ha6316q; obtain rfl := Option.some.inj ha6316q
        obtain ⟨v6319q, rfl, hx6320q⟩ := k38qrd hr6318q
        obtain ⟨A6321q, c6322q, rfl⟩ := hx6320q.form
        refine WL.op' (m := 1) h6313q rfl rfl ?_
        refine owp_run (v := .agg #[.int .i64 ((gt z38 p2 x6295q).f0), .slice A6321q ((gt z38 p2 x6295q).f1).length c6322q, .int .i64 ((gt z38 p2 x6295q).f2)]) h6313q rfl (by kernel_rfl) (run_loadN rfl rfl Try.underlying38 rfl (cs := ([.int .i64 ((gt z38 p2 x6295q).f0), .slice A6321q ((gt z38 p2 x6295q).f1).length c6322q, .int .i64 ((gt z38 p2 x6295q).f2)] : List Value)) (by kernel_rfl) (hc6317q _ (fun _ _ hk_ => hS6287q.kn hk_))) (fun a6323q h6324q => ?_)
        clear h6313q a6312q
        refine WL.op' (m := 2) h6324q rfl rfl ?_
        refine owp_new (fun g_ => .pointer (some ⟨g_, 0, none⟩)) (.cells ([.int .i64 0, .slice none 0 0, .int .i64 0] : List Value).toArray 38 (0, 0)) h6324q rfl (by kernel_rfl) (by kernel_rfl) hS6287q (fun a6325q W6327q g6328q h6326q hS6329q => ?_)
        clear h6324q a6323q
        refine WL.op' (m := 3) h6326q rfl rfl ?_
        refine owp_store (i := 0) (vs := ([.int .i64 ((gt z38 p2 x6295q).f0), .slice A6321q ((gt z38 p2 x6295q).f1).length c6322q, .int .i64 ((gt z38 p2 x6295q).f2)] : List Value)) h6326q rfl (by kernel_rfl) rfl rfl rfl rfl (by simp [Value.oneCell']) (by kernel_rfl) hS6329q (by simp) (cs' := ([.int .i64 ((gt z38 p2 x6295q).f0), .slice A6321q ((gt z38 p2 x6295q).f1).length c6322q, .int .i64 ((gt z38 p2 x6295q).f2)] : List Value)) rfl (fun a6330q W6332q h6331q hS6333q => ?_)
        clear h6326q a6325q
        refine WL.done (by kernel_rfl) ?_
        refine wp_seq ?_
        refine wp_seq ?_
        refine WL.start ?_
        refine WL.block (c := 1) (m' := 1) h6331q rfl [(34, .pointer (some ⟨g6328q, 1, none⟩))] (by kernel_rfl) (fun a6334q h6335q => ?_)
        clear h6331q a6330q
        refine WL.op' (m := 1) h6335q rfl rfl ?_
        refine owp_run (v := .slice A6321q ((gt z38 p2 x6295q).f1).length c6322q) h6335q rfl (by kernel_rfl) (run_load1 rfl rfl Try.underlying26 rfl (hS6333q.cell (i := 1) rfl)) (fun a6336q h6337q => ?_)
        clear h6335q a6334q
        refine WL.block (c := 2) (m' := 4) h6337q rfl [(37, .bool (decide ((((gt z38 p2 x6295q).f1).length : Int) > 1000))), (36, .int .i64 (((gt z38 p2 x6295q).f1).length : Int))] (by kernel_rfl) (fun a6338q h6339q => ?_)
        clear h6337q a6336q
        refine WL.done (by kernel_rfl) ?_
        by_cases c6340q : (((gt z38 p2 x6295q).f1).length : Int) > 1000
        · rw [if_pos c6340q] at H
          have hb_ : (decide ((((gt z38 p2 x6295q).f1).length : Int) > 1000)) = true := decide_eq_true c6340q
          try rw [hb_] at h6339q
          clear hb_
          refine wp_then h6339q rfl ?_
          refine wp_seq ?_
          refine WL.start ?_
          obtain ⟨r6342q, A6341q, H⟩ := bind1 H
          refine WL.op' (m := 0) h6339q rfl rfl ?_
          refine owp_call [] h6339q rfl (by kernel_rfl) rfl Try.func6 (by kernel_rfl) rfl (by kernel_rfl) (louverlaw23qfixed.calls  A6341q hS6333q) (fun e6344q W6343q hp6345q => ?_)
          obtain ⟨rfl, hS6348q⟩ := hp6345q
          refine ⟨_, rfl, fun a6346q h6347q => ?_⟩
          clear h6339q a6338q
          refine WL.block (c := 1) (m' := 2) h6347q rfl [(6, .bool r6342q)] (by kernel_rfl) (fun a6349q h6350q => ?_)
          clear h6347q a6346q
          refine WL.done (by kernel_rfl) ?_
          refine wp_ret ?_
          have hS6351q : St b w0 W6343q R (M6290q :: M6293q :: Fs) := hS6348q.drop_
          have hS6352q : St b w0 W6343q R (M6293q :: Fs) := hS6351q.drop_
          have hS6353q : St b w0 W6343q R (Fs) := hS6352q.drop_
          obtain rfl := Option.some.inj H
          repeat (first | refine then_ret ?_ | refine inBlock_ret ?_ | refine inBlock_go ?_)
          refine body_ret (v := .bool r6342q) h6350q (by kernel_rfl) (by kernel_rfl) ?_
          exact ⟨rfl, hS6353q⟩
        · rw [if_neg c6340q] at H
          have hb_ : (decide ((((gt z38 p2 x6295q).f1).length : Int) > 1000)) = false := decide_eq_false c6340q
          try rw [hb_] at h6339q
          clear hb_
          refine wp_else h6339q rfl ?_
          refine wp_skip ?_
          refine wp_seq ?_
          refine wp_seq ?_
          refine WL.start ?_
          refine WL.block (c := 1) (m' := 1) h6339q rfl [(39, .pointer (some ⟨g6328q, 0, none⟩))] (by kernel_rfl) (fun a6354q h6355q => ?_)
          clear h6339q a6338q
          refine WL.op' (m := 1) h6355q rfl rfl ?_
          refine owp_run (v := .int .i64 ((gt z38 p2 x6295q).f0)) h6355q rfl (by kernel_rfl) (run_load1 rfl rfl Try.underlying3 rfl (hS6333q.cell (i := 0) rfl)) (fun a6356q h6357q => ?_)
          clear h6355q a6354q
          refine WL.done (by kernel_rfl) ?_
          refine wp_meet (I := fun a_ W_ => ∃ kq_, ∃ (x7214q : S44), ∃ (M7215q : Frag), ∃ (x7217q : S36), ∃ (M7218q : Frag), Hd a_ 145 [(7, v6265q), (8, .pointer (some ⟨g6276q, 0, none⟩)), (28, .slice A2 p2.length c2), (29, .int .i64 (p2.length : Int)), (30, .int .i64 x6295q)] ∧ Asd (louverlaw23qQueuePlays.j1 kq_ x7214q x7217q p2 x6295q = some r0q) ∧ Asd (kq_ ≤ k6303q) ∧ Asd (St b w0 W_ R (M7215q :: M7218q :: Fs)) ∧ Asd (Ptr k44 44 b w0 R v6265q x7214q M7215q) ∧ Asd (Ptr k36 36 b w0 R (.pointer (some ⟨g6276q, 0, none⟩)) x7217q M7218q)) ?_ ?_
          · refine wp_block ?_
            refine wp_seq ?_
            refine WL.start ?_
            refine WL.block (c := 2) (m' := 2) h6357q rfl [(44, .bool (decide (((gt z38 p2 x6295q).f0) = 0))), (45, .bool (decide (((gt z38 p2 x6295q).f0) = 0)))] (by kernel_rfl) (fun a7220q h7221q => ?_)
            clear h6357q a6356q
            refine WL.done (by kernel_rfl) ?_
            by_cases c7222q : ((gt z38 p2 x6295q).f0) = 0
            · rw [if_pos c7222q] at H
              have hb_ : (decide (((gt z38 p2 x6295q).f0) = 0)) = true := decide_eq_true c7222q
              try rw [hb_] at h7221q
              clear hb_
              refine wp_then h7221q rfl ?_
              refine wp_seq ?_
              refine WL.start ?_
              refine WL.op' (m := 0) h7221q rfl rfl ?_
              refine owp_new (fun g_ => .slice (some ⟨g_, 0, none⟩) 0 0) (.cells ([] : List Value).toArray 5 (0, 0)) h7221q rfl (by kernel_rfl) (by kernel_rfl) hS6333q (fun a7223q W7225q g7226q h7224q hS7227q => ?_)
              clear h7221q a7220q
              have hr7228q : Row (kInt .u8) 5 b w0 R (.slice (some ⟨g7226q, 0, none⟩) 0 0) ([] : List Int) [(g7226q, .cells ([] : List Value).toArray 5 (0, 0))] := Row.lit (xs := ([] : List Int)) (Mi := []) ⟨rfl, rfl⟩ (by simp [maxLen])
              refine WL.block (c := 1) (m' := 2) h7224q rfl [(47, .pointer (some ⟨g6328q, 1, none⟩))] (by kernel_rfl) (fun a7229q h7230q => ?_)
              clear h7224q a7223q
              have hS7231q : St b w0 W7225q R ([(g6328q, .cells ([.int .i64 ((gt z38 p2 x6295q).f0), .slice A6321q ((gt z38 p2 x6295q).f1).length c6322q, .int .i64 ((gt z38 p2 x6295q).f2)] : List Value).toArray 38 (0, 0))] :: [(g7226q, .cells ([] : List Value).toArray 5 (0, 0))] :: M6290q :: M6293q :: Fs) := hS7227q.bring 1 rfl rfl
              refine WL.op' (m := 2) h7230q rfl rfl ?_
              refine owp_run (v := .slice A6321q ((gt z38 p2 x6295q).f1).length c6322q) h7230q rfl (by kernel_rfl) (run_load1 rfl rfl Try.underlying26 rfl (hS7231q.cell (i := 1) rfl)) (fun a7232q h7233q => ?_)
              clear h7230q a7229q
              by_cases c7234q : ([] : List Int).length + ((gt z38 p2 x6295q).f1).length ≤ 140737488355328
              · rw [if_pos c7234q] at H
                have hS7235q : St b w0 W7225q R ([(g7226q, .cells ([] : List Value).toArray 5 (0, 0))] :: [(g6328q, .cells ([.int .i64 ((gt z38 p2 x6295q).f0), .slice A6321q ((gt z38 p2 x6295q).f1).length c6322q, .int .i64 ((gt z38 p2 x6295q).f2)] : List Value).toArray 38 (0, 0))] :: M6290q :: M6293q :: Fs) := hS7231q.bring 1 rfl rfl
                refine WL.op' (m := 3) h7233q rfl rfl ?_
                refine owp_app_rds (z := .int .u8 0) (bytes := 1) (dk := (kInt .u8)) h7233q rfl (by kernel_rfl) rfl rfl rfl (kInt_flat _) hr7228q hx6320q hS7235q Try.underlying26 (by kernel_rfl) rfl (by decide) (by decide) (by first | omega | (simp only [List.length_cons, List.length_nil] at *; omega)) (fun a7236q W7238q v7239q M7240q h7237q hr7241q hS7242q => ?_)
                clear h7233q a7232q
                obtain ⟨y7243q, hy7244q, H⟩ := lete H
                have hr7245q : Row (kInt .u8) 5 b w0 R v7239q y7243q M7240q := by rw [hy7244q]; exact hr7241q
                clear hr7241q
                obtain ⟨A7246q, c7247q, rfl⟩ := hr7245q.form
                refine WL.block (c := 1) (m' := 5) h7237q rfl [(11, .slice A7246q y7243q.length c7247q)] (by kernel_rfl) (fun a7248q h7249q => ?_)
                clear h7237q a7236q
                refine WL.done (by kernel_rfl) ?_
                refine wp_seq ?_
                refine WL.start ?_
                have hS7250q : St b w0 W7238q R (M6293q :: M7240q :: [(g6328q, .cells ([.int .i64 ((gt z38 p2 x6295q).f0), .slice A6321q ((gt z38 p2 x6295q).f1).length c6322q, .int .i64 ((gt z38 p2 x6295q).f2)] : List Value).toArray 38 (0, 0))] :: M6290q :: Fs) := hS7242q.bring 3 rfl rfl
                obtain ⟨g7251q, cs7252q, M7253q, hv_, hM_, hr7254q⟩ := hr6294q
                obtain ⟨v7255q, M7256q, rfl, hM2q, hr7257q⟩ := k36qrep hr7254q
                subst hM2q
                subst hM_
                have hg_ : g6276q = g7251q := by simpa using hv_
                subst hg_
                clear hv_
                replace hr7257q : Row kStr 9 b w0 R v7255q x6292q.f0 M7253q := hr7257q
                obtain ⟨A7258q, c7259q, rfl⟩ := hr7257q.form
                have hS7260q : St b w0 W7238q R ([(g6276q, .cells ([.slice A7258q x6292q.f0.length c7259q, .int .i64 x6292q.f1, .int .i64 x6292q.f2] : List Value).toArray 36 (0, 0))] :: M7253q :: M7240q :: [(g6328q, .cells ([.int .i64 ((gt z38 p2 x6295q).f0), .slice A6321q ((gt z38 p2 x6295q).f1).length c6322q, .int .i64 ((gt z38 p2 x6295q).f2)] : List Value).toArray 38 (0, 0))] :: M6290q :: Fs) := hS7250q.assoc (by simp only [List.flatten_cons, List.append_assoc, List.cons_append, List.nil_append, List.append_nil])
                refine WL.op' (m := 0) h7249q rfl rfl ?_
                refine owp_run (v := .agg #[.slice A7258q x6292q.f0.length c7259q, .int .i64 x6292q.f1, .int .i64 x6292q.f2]) h7249q rfl (by kernel_rfl) (run_loadN rfl rfl Try.underlying36 rfl (cs := ([.slice A7258q x6292q.f0.length c7259q, .int .i64 x6292q.f1, .int .i64 x6292q.f2] : List Value)) (by kernel_rfl) (hS7260q.cells (vs := ([.slice A7258q x6292q.f0.length c7259q, .int .i64 x6292q.f1, .int .i64 x6292q.f2] : List Value)) rfl)) (fun a7261q h7262q => ?_)
                clear h7249q a7248q
                refine WL.block (c := 1) (m' := 2) h7262q rfl [(52, .pointer (some ⟨g6328q, 1, none⟩))] (by kernel_rfl) (fun a7263q h7264q => ?_)
                clear h7262q a7261q
                have hS7265q : St b w0 W7238q R ([(g6328q, .cells ([.int .i64 ((gt z38 p2 x6295q).f0), .slice A6321q ((gt z38 p2 x6295q).f1).length c6322q, .int .i64 ((gt z38 p2 x6295q).f2)] : List Value).toArray 38 (0, 0))] :: [(g6276q, .cells ([.slice A7258q x6292q.f0.length c7259q, .int .i64 x6292q.f1, .int .i64 x6292q.f2] : List Value).toArray 36 (0, 0))] :: M7253q :: M7240q :: M6290q :: Fs) := hS7260q.bring 3 rfl rfl
                refine WL.op' (m := 2) h7264q rfl rfl ?_
                refine owp_run (v := .slice A6321q ((gt z38 p2 x6295q).f1).length c6322q) h7264q rfl (by kernel_rfl) (run_load1 rfl rfl Try.underlying26 rfl (hS7265q.cell (i := 1) rfl)) (fun a7266q h7267q => ?_)
                clear h7264q a7263q
                refine WL.op' (m := 3) h7267q rfl rfl ?_
                refine owp_run (v := .string (mkS (toS ((gt z38 p2 x6295q).f1)))) h7267q rfl (by kernel_rfl) (run_tostr rfl rfl hx6320q (fun _ _ hk_ => hS7265q.kn hk_) Try.underlying26 Try.underlying5 Try.underlying9) (fun a7268q h7269q => ?_)
                clear h7267q a7266q
                have hS7270q : St b w0 W7238q R (M7253q :: [(g6328q, .cells ([.int .i64 ((gt z38 p2 x6295q).f0), .slice A6321q ((gt z38 p2 x6295q).f1).length c6322q, .int .i64 ((gt z38 p2 x6295q).f2)] : List Value).toArray 38 (0, 0))] :: [(g6276q, .cells ([.slice A7258q x6292q.f0.length c7259q, .int .i64 x6292q.f1, .int .i64 x6292q.f2] : List Value).toArray 36 (0, 0))] :: M7240q :: M6290q :: Fs) := hS7265q.bring 2 rfl rfl
                obtain ⟨r7272q, r7273q, A7271q, H⟩ := bind2 H
                refine WL.op' (m := 4) h7269q rfl rfl ?_
                refine owp_call [.agg #[.slice A7258q x6292q.f0.length c7259q, .int .i64 x6292q.f1, .int .i64 x6292q.f2], .string (mkS (toS ((gt z38 p2 x6295q).f1)))] h7269q rfl (by kernel_rfl) rfl Try.func12 (by kernel_rfl) rfl (by kernel_rfl) (louverref23qQ_Push.calls (p0 := (⟨x6292q.f0, x6292q.f1, x6292q.f2⟩ : S36)) k6303q hr7257q A7271q hS7270q) (fun e7275q W7274q hp7276q => ?_)
                obtain ⟨v7279q, M7280q, rfl, hr7281q, hS7282q⟩ := hp7276q
                refine ⟨_, rfl, fun a7277q h7278q => ?_⟩
                clear h7269q a7268q
                obtain ⟨A7283q, c7284q, rfl⟩ := hr7281q.form
                refine WL.block (c := 3) (m' := 8) h7278q rfl [(57, .bool r7273q), (56, .agg #[.slice A7283q r7272q.f0.length c7284q, .int .i64 r7272q.f1, .int .i64 r7272q.f2]), (50, .tuple #[.agg #[.slice A7283q r7272q.f0.length c7284q, .int .i64 r7272q.f1, .int .i64 r7272q.f2], .bool r7273q])] (by kernel_rfl) (fun a7285q h7286q => ?_)
                clear h7278q a7277q
                refine WL.op' (m := 8) h7286q rfl rfl ?_
                refine owp_new (fun g_ => .pointer (some ⟨g_, 0, none⟩)) (.cells ([.slice none 0 0, .int .i64 0, .int .i64 0] : List Value).toArray 36 (0, 0)) h7286q rfl (by kernel_rfl) (by kernel_rfl) hS7282q (fun a7287q W7289q g7290q h7288q hS7291q => ?_)
                clear h7286q a7285q
                refine WL.op' (m := 9) h7288q rfl rfl ?_
                refine owp_store (i := 0) (vs := ([.slice A7283q r7272q.f0.length c7284q, .int .i64 r7272q.f1, .int .i64 r7272q.f2] : List Value)) h7288q rfl (by kernel_rfl) rfl rfl rfl rfl (by simp [Value.oneCell']) (by kernel_rfl) hS7291q (by simp) (cs' := ([.slice A7283q r7272q.f0.length c7284q, .int .i64 r7272q.f1, .int .i64 r7272q.f2] : List Value)) rfl (fun a7292q W7294q h7293q hS7295q => ?_)
                clear h7288q a7287q
                refine WL.block (c := 1) (m' := 11) h7293q rfl [(13, .bool r7273q)] (by kernel_rfl) (fun a7296q h7297q => ?_)
                clear h7293q a7292q
                refine WL.done (by kernel_rfl) ?_
                refine wp_seq ?_
                refine WL.start ?_
                refine WL.op' (m := 0) h7297q rfl rfl ?_
                refine owp_run (v := .agg #[.slice A7283q r7272q.f0.length c7284q, .int .i64 r7272q.f1, .int .i64 r7272q.f2]) h7297q rfl (by kernel_rfl) (run_loadN rfl rfl Try.underlying36 rfl (cs := ([.slice A7283q r7272q.f0.length c7284q, .int .i64 r7272q.f1, .int .i64 r7272q.f2] : List Value)) (by kernel_rfl) (hS7295q.cells (vs := ([.slice A7283q r7272q.f0.length c7284q, .int .i64 r7272q.f1, .int .i64 r7272q.f2] : List Value)) rfl)) (fun a7298q h7299q => ?_)
                clear h7297q a7296q
                have hS7300q : St b w0 W7294q R ([(g6276q, .cells ([.slice A7258q x6292q.f0.length c7259q, .int .i64 x6292q.f1, .int .i64 x6292q.f2] : List Value).toArray 36 (0, 0))] :: [(g7290q, .cells ([.slice A7283q r7272q.f0.length c7284q, .int .i64 r7272q.f1, .int .i64 r7272q.f2] : List Value).toArray 36 (0, 0))] :: M7280q :: [(g6328q, .cells ([.int .i64 ((gt z38 p2 x6295q).f0), .slice A6321q ((gt z38 p2 x6295q).f1).length c6322q, .int .i64 ((gt z38 p2 x6295q).f2)] : List Value).toArray 38 (0, 0))] :: M7240q :: M6290q :: Fs) := hS7295q.bring 3 rfl rfl
                refine WL.op' (m := 1) h7299q rfl rfl ?_
                refine owp_store (i := 0) (vs := ([.slice A7283q r7272q.f0.length c7284q, .int .i64 r7272q.f1, .int .i64 r7272q.f2] : List Value)) h7299q rfl (by kernel_rfl) rfl rfl rfl rfl (by simp [Value.oneCell']) (by kernel_rfl) hS7300q (by simp) (cs' := ([.slice A7283q r7272q.f0.length c7284q, .int .i64 r7272q.f1, .int .i64 r7272q.f2] : List Value)) rfl (fun a7301q W7303q h7302q hS7304q => ?_)
                clear h7299q a7298q
                refine WL.done (by kernel_rfl) ?_
                refine wp_seq ?_
                refine wp_seq ?_
                refine WL.start ?_
                refine WL.block (c := 2) (m' := 2) h7302q rfl [(60, .slice A7246q y7243q.length c7247q), (59, v6265q)] (by kernel_rfl) (fun a7305q h7306q => ?_)
                clear h7302q a7301q
                have hS7307q : St b w0 W7303q R (M6290q :: [(g6276q, .cells ([.slice A7283q r7272q.f0.length c7284q, .int .i64 r7272q.f1, .int .i64 r7272q.f2] : List Value).toArray 36 (0, 0))] :: [(g7290q, .cells ([.slice A7283q r7272q.f0.length c7284q, .int .i64 r7272q.f1, .int .i64 r7272q.f2] : List Value).toArray 36 (0, 0))] :: M7280q :: [(g6328q, .cells ([.int .i64 ((gt z38 p2 x6295q).f0), .slice A6321q ((gt z38 p2 x6295q).f1).length c6322q, .int .i64 ((gt z38 p2 x6295q).f2)] : List Value).toArray 38 (0, 0))] :: M7240q :: Fs) := hS7304q.bring 5 rfl rfl
                have hS7308q : St b w0 W7303q R (M7240q :: M6290q :: [(g6276q, .cells ([.slice A7283q r7272q.f0.length c7284q, .int .i64 r7272q.f1, .int .i64 r7272q.f2] : List Value).toArray 36 (0, 0))] :: [(g7290q, .cells ([.slice A7283q r7272q.f0.length c7284q, .int .i64 r7272q.f1, .int .i64 r7272q.f2] : List Value).toArray 36 (0, 0))] :: M7280q :: [(g6328q, .cells ([.int .i64 ((gt z38 p2 x6295q).f0), .slice A6321q ((gt z38 p2 x6295q).f1).length c6322q, .int .i64 ((gt z38 p2 x6295q).f2)] : List Value).toArray 38 (0, 0))] :: Fs) := hS7307q.bring 5 rfl rfl
                obtain ⟨r7310q, r7311q, A7309q, H⟩ := bind2 H
                refine WL.op' (m := 2) h7306q rfl rfl ?_
                refine owp_call [v6265q, .slice A7246q y7243q.length c7247q] h7306q rfl (by kernel_rfl) rfl Try.func9 (by kernel_rfl) rfl (by kernel_rfl) (queue_Queue_Push.calls (hr6291q.mono (fun _ hp_ => List.mem_append_right _ hp_)) hr7245q.rds A7309q (hS7308q.pool)) (fun e7313q W7312q hp7314q => ?_)
                obtain ⟨M7317q, rfl, hr7318q, hS7319q⟩ := hp7314q
                have hS7320q : St b w0 W7312q R (M7240q :: M7317q :: [(g6276q, .cells ([.slice A7283q r7272q.f0.length c7284q, .int .i64 r7272q.f1, .int .i64 r7272q.f2] : List Value).toArray 36 (0, 0))] :: [(g7290q, .cells ([.slice A7283q r7272q.f0.length c7284q, .int .i64 r7272q.f1, .int .i64 r7272q.f2] : List Value).toArray 36 (0, 0))] :: M7280q :: [(g6328q, .cells ([.int .i64 ((gt z38 p2 x6295q).f0), .slice A6321q ((gt z38 p2 x6295q).f1).length c6322q, .int .i64 ((gt z38 p2 x6295q).f2)] : List Value).toArray 38 (0, 0))] :: Fs) := hS7319q.unpool
                replace hr7318q : Ptr k44 44 b w0 R v6265q r7311q M7317q := hr7318q.ind k44qind
                refine ⟨_, rfl, fun a7315q h7316q => ?_⟩
                clear h7306q a7305q
                refine WL.block (c := 2) (m' := 5) h7316q rfl [(63, .bool (r7310q != r7273q)), (62, .bool r7273q)] (by kernel_rfl) (fun a7321q h7322q => ?_)
                clear h7316q a7315q
                refine WL.done (by kernel_rfl) ?_
                by_cases c7323q : (r7310q != r7273q) = true
                · rw [if_pos c7323q] at H
                  have hb_ : (r7310q != r7273q) = true := c7323q
                  try rw [hb_] at h7322q
                  clear hb_
                  refine wp_then h7322q rfl ?_
                  refine wp_seq ?_
                  refine WL.start ?_
                  refine WL.block (c := 1) (m' := 1) h7322q rfl [(6, .bool false)] (by kernel_rfl) (fun a7324q h7325q => ?_)
                  clear h7322q a7321q
                  refine WL.done (by kernel_rfl) ?_
                  refine wp_ret ?_
                  have hS7326q : St b w0 W7312q R (M7317q :: [(g6276q, .cells ([.slice A7283q r7272q.f0.length c7284q, .int .i64 r7272q.f1, .int .i64 r7272q.f2] : List Value).toArray 36 (0, 0))] :: [(g7290q, .cells ([.slice A7283q r7272q.f0.length c7284q, .int .i64 r7272q.f1, .int .i64 r7272q.f2] : List Value).toArray 36 (0, 0))] :: M7280q :: [(g6328q, .cells ([.int .i64 ((gt z38 p2 x6295q).f0), .slice A6321q ((gt z38 p2 x6295q).f1).length c6322q, .int .i64 ((gt z38 p2 x6295q).f2)] : List Value).toArray 38 (0, 0))] :: Fs) := hS7320q.drop_
                  have hS7327q : St b w0 W7312q R ([(g6276q, .cells ([.slice A7283q r7272q.f0.length c7284q, .int .i64 r7272q.f1, .int .i64 r7272q.f2] : List Value).toArray 36 (0, 0))] :: [(g7290q, .cells ([.slice A7283q r7272q.f0.length c7284q, .int .i64 r7272q.f1, .int .i64 r7272q.f2] : List Value).toArray 36 (0, 0))] :: M7280q :: [(g6328q, .cells ([.int .i64 ((gt z38 p2 x6295q).f0), .slice A6321q ((gt z38 p2 x6295q).f1).length c6322q, .int .i64 ((gt z38 p2 x6295q).f2)] : List Value).toArray 38 (0, 0))] :: Fs) := hS7326q.drop_
                  have hS7328q : St b w0 W7312q R ([(g7290q, .cells ([.slice A7283q r7272q.f0.length c7284q, .int .i64 r7272q.f1, .int .i64 r7272q.f2] : List Value).toArray 36 (0, 0))] :: M7280q :: [(g6328q, .cells ([.int .i64 ((gt z38 p2 x6295q).f0), .slice A6321q ((gt z38 p2 x6295q).f1).length c6322q, .int .i64 ((gt z38 p2 x6295q).f2)] : List Value).toArray 38 (0, 0))] :: Fs) := hS7327q.drop_
                  have hS7329q : St b w0 W7312q R (M7280q :: [(g6328q, .cells ([.int .i64 ((gt z38 p2 x6295q).f0), .slice A6321q ((gt z38 p2 x6295q).f1).length c6322q, .int .i64 ((gt z38 p2 x6295q).f2)] : List Value).toArray 38 (0, 0))] :: Fs) := hS7328q.drop_
                  have hS7330q : St b w0 W7312q R ([(g6328q, .cells ([.int .i64 ((gt z38 p2 x6295q).f0), .slice A6321q ((gt z38 p2 x6295q).f1).length c6322q, .int .i64 ((gt z38 p2 x6295q).f2)] : List Value).toArray 38 (0, 0))] :: Fs) := hS7329q.drop_
                  have hS7331q : St b w0 W7312q R (Fs) := hS7330q.drop_
                  obtain rfl := Option.some.inj H
                  repeat (first | refine then_ret ?_ | refine inBlock_ret ?_ | refine inBlock_go ?_)
                  refine body_ret (v := .bool false) h7325q (by kernel_rfl) (by kernel_rfl) ?_
                  exact ⟨rfl, hS7331q⟩
                · rw [if_neg c7323q] at H
                  have hb_ : (r7310q != r7273q) = false := (Bool.eq_false_iff.2 c7323q)
                  try rw [hb_] at h7322q
                  clear hb_
                  refine wp_else h7322q rfl ?_
                  refine wp_skip ?_
                  refine WL.start ?_
                  refine WL.block (c := 1) (m' := 1) h7322q rfl [(64, .slice A7246q y7243q.length c7247q)] (by kernel_rfl) (fun a7332q h7333q => ?_)
                  clear h7322q a7321q
                  refine WL.op' (m := 1) h7333q rfl rfl ?_
                  refine owp_clear1 (ty := 0) (z := .int .u8 0) (z0 := (0 : Int)) h7333q rfl (by kernel_rfl) rfl rfl hr7245q hS7320q Try.underlying26 (by kernel_rfl) (fun _ _ _ => ⟨rfl, rfl⟩) rfl rfl (fun a7334q W7336q M7337q h7335q hr7338q hS7339q => ?_)
                  clear h7333q a7332q
                  obtain ⟨y7340q, hy7341q, H⟩ := lete H
                  have hl7342q : y7340q.length = y7243q.length := by simp [hy7341q]
                  have hr7343q : Row (kInt .u8) 5 b w0 R (.slice A7246q y7340q.length c7247q) y7340q M7337q := by rw [hl7342q]; rw [hy7341q]; exact hr7338q
                  have h7344q : Hd a7334q 145 [(7, v6265q), (8, .pointer (some ⟨g6276q, 0, none⟩)), (10, .pointer (some ⟨g6328q, 0, none⟩)), (11, .slice A7246q y7340q.length c7247q), (12, .pointer (some ⟨g7290q, 0, none⟩)), (13, .bool r7273q), (28, .slice A2 p2.length c2), (29, .int .i64 (p2.length : Int)), (30, .int .i64 x6295q), (31, .bool true), (32, .pointer (some (ad6308q.add (x6295q.toNat * 3)))), (33, .agg #[.int .i64 ((gt z38 p2 x6295q).f0), .slice A6321q ((gt z38 p2 x6295q).f1).length c6322q, .int .i64 ((gt z38 p2 x6295q).f2)]), (34, .pointer (some ⟨g6328q, 1, none⟩)), (35, .slice A6321q ((gt z38 p2 x6295q).f1).length c6322q), (36, .int .i64 (((gt z38 p2 x6295q).f1).length : Int)), (37, .bool false), (39, .pointer (some ⟨g6328q, 0, none⟩)), (40, .int .i64 ((gt z38 p2 x6295q).f0)), (44, .bool true), (45, .bool true), (46, .slice (some ⟨g7226q, 0, none⟩) 0 0), (47, .pointer (some ⟨g6328q, 1, none⟩)), (48, .slice A6321q ((gt z38 p2 x6295q).f1).length c6322q), (49, .slice A7246q y7340q.length c7247q), (50, .tuple #[.agg #[.slice A7283q r7272q.f0.length c7284q, .int .i64 r7272q.f1, .int .i64 r7272q.f2], .bool r7273q]), (51, .agg #[.slice A7258q x6292q.f0.length c7259q, .int .i64 x6292q.f1, .int .i64 x6292q.f2]), (52, .pointer (some ⟨g6328q, 1, none⟩)), (53, .slice A6321q ((gt z38 p2 x6295q).f1).length c6322q), (54, .string (mkS (toS ((gt z38 p2 x6295q).f1)))), (55, .tuple #[.agg #[.slice A7283q r7272q.f0.length c7284q, .int .i64 r7272q.f1, .int .i64 r7272q.f2], .bool r7273q]), (56, .agg #[.slice A7283q r7272q.f0.length c7284q, .int .i64 r7272q.f1, .int .i64 r7272q.f2]), (57, .bool r7273q), (58, .agg #[.slice A7283q r7272q.f0.length c7284q, .int .i64 r7272q.f1, .int .i64 r7272q.f2]), (59, v6265q), (60, .slice A7246q y7340q.length c7247q), (61, .bool r7310q), (62, .bool r7273q), (63, .bool false), (64, .slice A7246q y7340q.length c7247q)] := h7335q.keep ⟨rfl, rfl, rfl, (by rw [hl7342q] <;> rfl), rfl, rfl, rfl, rfl, rfl, rfl, rfl, rfl, rfl, rfl, rfl, rfl, rfl, rfl, rfl, rfl, rfl, rfl, rfl, (by rw [hl7342q] <;> rfl), rfl, rfl, rfl, rfl, rfl, rfl, rfl, rfl, rfl, rfl, (by rw [hl7342q] <;> rfl), rfl, rfl, rfl, (by rw [hl7342q] <;> rfl), trivial⟩
                  clear h7335q
                  refine WL.done (by kernel_rfl) ?_
                  have hS7345q : St b w0 W7336q R (M7280q :: M7337q :: M7317q :: [(g6276q, .cells ([.slice A7283q r7272q.f0.length c7284q, .int .i64 r7272q.f1, .int .i64 r7272q.f2] : List Value).toArray 36 (0, 0))] :: [(g7290q, .cells ([.slice A7283q r7272q.f0.length c7284q, .int .i64 r7272q.f1, .int .i64 r7272q.f2] : List Value).toArray 36 (0, 0))] :: [(g6328q, .cells ([.int .i64 ((gt z38 p2 x6295q).f0), .slice A6321q ((gt z38 p2 x6295q).f1).length c6322q, .int .i64 ((gt z38 p2 x6295q).f2)] : List Value).toArray 38 (0, 0))] :: Fs) := hS7339q.bring 4 rfl rfl
                  have hS7346q : St b w0 W7336q R ([(g6276q, .cells ([.slice A7283q r7272q.f0.length c7284q, .int .i64 r7272q.f1, .int .i64 r7272q.f2] : List Value).toArray 36 (0, 0))] :: M7280q :: M7337q :: M7317q :: [(g7290q, .cells ([.slice A7283q r7272q.f0.length c7284q, .int .i64 r7272q.f1, .int .i64 r7272q.f2] : List Value).toArray 36 (0, 0))] :: [(g6328q, .cells ([.int .i64 ((gt z38 p2 x6295q).f0), .slice A6321q ((gt z38 p2 x6295q).f1).length c6322q, .int .i64 ((gt z38 p2 x6295q).f2)] : List Value).toArray 38 (0, 0))] :: Fs) := hS7345q.bring 3 rfl rfl
                  obtain ⟨M7348q, hr7347q, hM_⟩ := k36qmk (b := b) (w0 := w0) (R := R) (x := (⟨r7272q.f0, r7272q.f1, r7272q.f2⟩ : S36)) (gvf0 := hr7281q)
                  have hp7349q : Ptr k36 36 b w0 R (.pointer (some ⟨g6276q, 0, none⟩)) (⟨r7272q.f0, r7272q.f1, r7272q.f2⟩ : S36) ((g6276q, .cells ([.slice A7283q r7272q.f0.length c7284q, .int .i64 r7272q.f1, .int .i64 r7272q.f2] : List Value).toArray 36 (0, 0)) :: M7348q) := ⟨_, _, _, rfl, rfl, hr7347q⟩
                  rw [hM_] at hp7349q
                  have hS7351q : St b w0 W7336q R (((g6276q, .cells ([.slice A7283q r7272q.f0.length c7284q, .int .i64 r7272q.f1, .int .i64 r7272q.f2] : List Value).toArray 36 (0, 0)) :: (M7280q)) :: M7337q :: M7317q :: [(g7290q, .cells ([.slice A7283q r7272q.f0.length c7284q, .int .i64 r7272q.f1, .int .i64 r7272q.f2] : List Value).toArray 36 (0, 0))] :: [(g6328q, .cells ([.int .i64 ((gt z38 p2 x6295q).f0), .slice A6321q ((gt z38 p2 x6295q).f1).length c6322q, .int .i64 ((gt z38 p2 x6295q).f2)] : List Value).toArray 38 (0, 0))] :: Fs) := hS7346q.assoc (by simp only [List.flatten_cons, List.append_assoc, List.cons_append, List.nil_append, List.append_nil])
                  obtain ⟨M7352q, hM_⟩ : ∃ y : Frag, y = ((g6276q, .cells ([.slice A7283q r7272q.f0.length c7284q, .int .i64 r7272q.f1, .int .i64 r7272q.f2] : List Value).toArray 36 (0, 0)) :: (M7280q)) := ⟨_, rfl⟩
                  rw [← hM_] at hp7349q hS7351q
                  clear hM_
                  have hS7353q : St b w0 W7336q R (M7337q :: M7352q :: M7317q :: [(g7290q, .cells ([.slice A7283q r7272q.f0.length c7284q, .int .i64 r7272q.f1, .int .i64 r7272q.f2] : List Value).toArray 36 (0, 0))] :: [(g6328q, .cells ([.int .i64 ((gt z38 p2 x6295q).f0), .slice A6321q ((gt z38 p2 x6295q).f1).length c6322q, .int .i64 ((gt z38 p2 x6295q).f2)] : List Value).toArray 38 (0, 0))] :: Fs) := hS7351q.bring 1 rfl rfl
                  have hS7354q : St b w0 W7336q R (M7352q :: M7317q :: [(g7290q, .cells ([.slice A7283q r7272q.f0.length c7284q, .int .i64 r7272q.f1, .int .i64 r7272q.f2] : List Value).toArray 36 (0, 0))] :: [(g6328q, .cells ([.int .i64 ((gt z38 p2 x6295q).f0), .slice A6321q ((gt z38 p2 x6295q).f1).length c6322q, .int .i64 ((gt z38 p2 x6295q).f2)] : List Value).toArray 38 (0, 0))] :: Fs) := hS7353q.drop_
                  have hS7355q : St b w0 W7336q R ([(g7290q, .cells ([.slice A7283q r7272q.f0.length c7284q, .int .i64 r7272q.f1, .int .i64 r7272q.f2] : List Value).toArray 36 (0, 0))] :: M7352q :: M7317q :: [(g6328q, .cells ([.int .i64 ((gt z38 p2 x6295q).f0), .slice A6321q ((gt z38 p2 x6295q).f1).length c6322q, .int .i64 ((gt z38 p2 x6295q).f2)] : List Value).toArray 38 (0, 0))] :: Fs) := hS7354q.bring 2 rfl rfl
                  have hS7356q : St b w0 W7336q R (M7352q :: M7317q :: [(g6328q, .cells ([.int .i64 ((gt z38 p2 x6295q).f0), .slice A6321q ((gt z38 p2 x6295q).f1).length c6322q, .int .i64 ((gt z38 p2 x6295q).f2)] : List Value).toArray 38 (0, 0))] :: Fs) := hS7355q.drop_
                  have hS7357q : St b w0 W7336q R ([(g6328q, .cells ([.int .i64 ((gt z38 p2 x6295q).f0), .slice A6321q ((gt z38 p2 x6295q).f1).length c6322q, .int .i64 ((gt z38 p2 x6295q).f2)] : List Value).toArray 38 (0, 0))] :: M7352q :: M7317q :: Fs) := hS7356q.bring 2 rfl rfl
                  have hS7358q : St b w0 W7336q R (M7352q :: M7317q :: Fs) := hS7357q.drop_
                  have hS7359q : St b w0 W7336q R (M7317q :: M7352q :: Fs) := hS7358q.bring 1 rfl rfl
                  exact ⟨k6303q, r7311q, M7317q, (⟨r7272q.f0, r7272q.f1, r7272q.f2⟩ : S36), M7352q, h7344q.keep ⟨rfl, rfl, rfl, rfl, rfl, trivial⟩, ⟨H⟩, ⟨by omega⟩, ⟨hS7359q⟩, ⟨hr7318q⟩, ⟨hp7349q⟩⟩
              · rw [if_neg c7234q] at H
                cases H
            · rw [if_neg c7222q] at H
              have hb_ : (decide (((gt z38 p2 x6295q).f0) = 0)) = false := decide_eq_false c7222q
              try rw [hb_] at h7221q
              clear hb_
              refine wp_else h7221q rfl ?_
              refine wp_seq ?_
              refine WL.start ?_
              refine WL.block (c := 2) (m' := 2) h7221q rfl [(65, .bool (decide (((gt z38 p2 x6295q).f0) = 1))), (66, .bool (decide (((gt z38 p2 x6295q).f0) = 1)))] (by kernel_rfl) (fun a7360q h7361q => ?_)
              clear h7221q a7220q
              refine WL.done (by kernel_rfl) ?_
              by_cases c7362q : ((gt z38 p2 x6295q).f0) = 1
              · rw [if_pos c7362q] at H
                have hb_ : (decide (((gt z38 p2 x6295q).f0) = 1)) = true := decide_eq_true c7362q
                try rw [hb_] at h7361q
                clear hb_
                refine wp_then h7361q rfl ?_
                refine wp_seq ?_
                refine WL.start ?_
                refine WL.block (c := 1) (m' := 1) h7361q rfl [(68, v6265q)] (by kernel_rfl) (fun a7363q h7364q => ?_)
                clear h7361q a7360q
                have hS7365q : St b w0 W6332q R (M6290q :: [(g6328q, .cells ([.int .i64 ((gt z38 p2 x6295q).f0), .slice A6321q ((gt z38 p2 x6295q).f1).length c6322q, .int .i64 ((gt z38 p2 x6295q).f2)] : List Value).toArray 38 (0, 0))] :: M6293q :: Fs) := hS6333q.bring 1 rfl rfl
                obtain ⟨r7367q, r7368q, r7369q, A7366q, H⟩ := bind3 H
                refine WL.op' (m := 1) h7364q rfl rfl ?_
                refine owp_call [v6265q] h7364q rfl (by kernel_rfl) rfl Try.func10 (by kernel_rfl) rfl (by kernel_rfl) (queue_Queue_Pop.calls hr6291q A7366q hS7365q) (fun e7371q W7370q hp7372q => ?_)
                obtain ⟨v7375q, M7376q, M7378q, rfl, hr7377q, hr7379q, hS7380q⟩ := hp7372q
                refine ⟨_, rfl, fun a7373q h7374q => ?_⟩
                clear h7364q a7363q
                obtain ⟨A7381q, c7382q, rfl⟩ := hr7377q.form
                refine WL.block (c := 5) (m' := 7) h7374q rfl [(15, .bool r7368q), (14, .slice A7381q r7367q.length c7382q), (71, .bool r7368q), (70, .slice A7381q r7367q.length c7382q), (67, .tuple #[.slice A7381q r7367q.length c7382q, .bool r7368q])] (by kernel_rfl) (fun a7383q h7384q => ?_)
                clear h7374q a7373q
                refine WL.done (by kernel_rfl) ?_
                refine wp_seq ?_
                refine wp_seq ?_
                have hS7385q : St b w0 W7370q R (M6293q :: M7376q :: M7378q :: [(g6328q, .cells ([.int .i64 ((gt z38 p2 x6295q).f0), .slice A6321q ((gt z38 p2 x6295q).f1).length c6322q, .int .i64 ((gt z38 p2 x6295q).f2)] : List Value).toArray 38 (0, 0))] :: Fs) := hS7380q.bring 3 rfl rfl
                obtain ⟨g7386q, cs7387q, M7388q, hv_, hM_, hr7389q⟩ := hr6294q
                obtain ⟨v7390q, M7391q, rfl, hM2q, hr7392q⟩ := k36qrep hr7389q
                subst hM2q
                subst hM_
                have hg_ : g6276q = g7386q := by simpa using hv_
                subst hg_
                clear hv_
                replace hr7392q : Row kStr 9 b w0 R v7390q x6292q.f0 M7388q := hr7392q
                obtain ⟨A7393q, c7394q, rfl⟩ := hr7392q.form
                have hS7395q : St b w0 W7370q R ([(g6276q, .cells ([.slice A7393q x6292q.f0.length c7394q, .int .i64 x6292q.f1, .int .i64 x6292q.f2] : List Value).toArray 36 (0, 0))] :: M7388q :: M7376q :: M7378q :: [(g6328q, .cells ([.int .i64 ((gt z38 p2 x6295q).f0), .slice A6321q ((gt z38 p2 x6295q).f1).length c6322q, .int .i64 ((gt z38 p2 x6295q).f2)] : List Value).toArray 38 (0, 0))] :: Fs) := hS7385q.assoc (by simp only [List.flatten_cons, List.append_assoc, List.cons_append, List.nil_append, List.append_nil])
                refine WH.start (fun w_ => (w_.cell? ⟨g6276q, 0, none⟩ = some (.slice A7393q x6292q.f0.length c7394q)) ∧ (∀ a_ u_, Kn b w0 (M7376q ++ R) a_ u_ → w_.cell? a_ = some u_) ∧ (∀ a_ u_, Kn b w0 (M7388q ++ R) a_ u_ → w_.cell? a_ = some u_) ∧ True) (by kernel_rfl) #[false, false, false, false, false, false, false, false, false, false, false, false, false, false, false, false, false, false, false, false, false, false, false, false, false, false, false] 27 rfl rfl ?_
                have hS7714q := hS7395q.drew
                refine WH.take 0 (listed' := #[true, false, false, false, false, false, false, false, false, false, false, false, false, false, false, false, false, false, false, false, false, false, false, false, false, false, false]) h7384q rfl rfl (by kernel_rfl) rfl rfl (.bool r7368q) (fun _ _ => by kernel_rfl) ⟨(hS7714q.cell (i := 0) rfl), (fun _ _ hk_ => (hS7714q.bring 2 rfl rfl).pool.kn hk_), (fun _ _ hk_ => (hS7714q.bring 1 rfl rfl).pool.kn hk_), trivial⟩ (fun _ _ _ h_ => h_) (fun a7715q h7716q => ?_)
                clear h7384q a7383q
                refine WH.take 1 (listed' := #[true, true, false, false, false, false, false, false, false, false, false, false, false, false, false, false, false, false, false, false, false, false, false, false, false, false, false]) h7716q rfl rfl (by kernel_rfl) rfl rfl (.pointer (some ⟨g6276q, 0, none⟩)) (fun _ _ => by kernel_rfl) ⟨(hS7714q.cell (i := 0) rfl), (fun _ _ hk_ => (hS7714q.bring 2 rfl rfl).pool.kn hk_), (fun _ _ hk_ => (hS7714q.bring 1 rfl rfl).pool.kn hk_), trivial⟩ (fun _ _ _ h_ => h_) (fun a7717q h7718q => ?_)
                clear h7716q a7715q
                refine WH.take 2 (listed' := #[true, true, true, false, false, false, false, false, false, false, false, false, false, false, false, false, false, false, false, false, false, false, false, false, false, false, false]) h7718q rfl rfl (by kernel_rfl) rfl rfl (.slice A7393q x6292q.f0.length c7394q) (fun w_ hs_ => (run_load1 rfl rfl Try.underlying34 rfl hs_.1)) ⟨(hS7714q.cell (i := 0) rfl), (fun _ _ hk_ => (hS7714q.bring 2 rfl rfl).pool.kn hk_), (fun _ _ hk_ => (hS7714q.bring 1 rfl rfl).pool.kn hk_), trivial⟩ (fun _ _ _ h_ => h_) (fun a7719q h7720q => ?_)
                clear h7718q a7717q
                refine WH.take 3 (listed' := #[true, true, true, true, false, false, false, false, false, false, false, false, false, false, false, false, false, false, false, false, false, false, false, false, false, false, false]) h7720q rfl rfl (by kernel_rfl) rfl rfl (.int .i64 (x6292q.f0.length : Int)) (fun _ _ => by kernel_rfl) ⟨(hS7714q.cell (i := 0) rfl), (fun _ _ hk_ => (hS7714q.bring 2 rfl rfl).pool.kn hk_), (fun _ _ hk_ => (hS7714q.bring 1 rfl rfl).pool.kn hk_), trivial⟩ (fun _ _ _ h_ => h_) (fun a7721q h7722q => ?_)
                clear h7720q a7719q
                refine WH.take 4 (listed' := #[true, true, true, true, true, false, false, false, false, false, false, false, false, false, false, false, false, false, false, false, false, false, false, false, false, false, false]) h7722q rfl rfl (by kernel_rfl) rfl rfl (.bool (decide ((x6292q.f0.length : Int) > 0))) (fun _ _ => by kernel_rfl) ⟨(hS7714q.cell (i := 0) rfl), (fun _ _ hk_ => (hS7714q.bring 2 rfl rfl).pool.kn hk_), (fun _ _ hk_ => (hS7714q.bring 1 rfl rfl).pool.kn hk_), trivial⟩ (fun _ _ _ h_ => h_) (fun a7723q h7724q => ?_)
                clear h7722q a7721q
                refine WH.take 5 (listed' := #[true, true, true, true, true, true, false, false, false, false, false, false, false, false, false, false, false, false, false, false, false, false, false, false, false, false, false]) h7724q rfl rfl (by kernel_rfl) rfl rfl (.bool (r7368q != (decide ((x6292q.f0.length : Int) > 0)))) (fun _ _ => by kernel_rfl) ⟨(hS7714q.cell (i := 0) rfl), (fun _ _ hk_ => (hS7714q.bring 2 rfl rfl).pool.kn hk_), (fun _ _ hk_ => (hS7714q.bring 1 rfl rfl).pool.kn hk_), trivial⟩ (fun _ _ _ h_ => h_) (fun a7725q h7726q => ?_)
                clear h7724q a7723q
                refine WH.take 6 (listed' := #[true, true, true, true, true, true, true, false, false, false, false, false, false, false, false, false, false, false, false, false, false, false, false, false, false, false, false]) h7726q rfl rfl (by kernel_rfl) rfl rfl (.bool (r7368q != (decide ((x6292q.f0.length : Int) > 0)))) (fun _ _ => by kernel_rfl) ⟨(hS7714q.cell (i := 0) rfl), (fun _ _ hk_ => (hS7714q.bring 2 rfl rfl).pool.kn hk_), (fun _ _ hk_ => (hS7714q.bring 1 rfl rfl).pool.kn hk_), trivial⟩ (fun _ _ _ h_ => h_) (fun a7727q h7728q => ?_)
                clear h7726q a7725q
                by_cases c7729q : (r7368q != (decide ((x6292q.f0.length : Int) > 0))) = true
                · rw [if_pos c7729q] at H
                  have hb_ : (r7368q != (decide ((x6292q.f0.length : Int) > 0))) = true := c7729q
                  try rw [hb_] at h7728q
                  clear hb_
                  refine WH.skip 7 (listed' := #[true, true, true, true, true, true, true, true, false, false, false, false, false, false, false, false, false, false, false, false, false, false, false, false, false, false, false]) h7728q rfl rfl (by kernel_rfl) rfl rfl ⟨(hS7714q.cell (i := 0) rfl), (fun _ _ hk_ => (hS7714q.bring 2 rfl rfl).pool.kn hk_), (fun _ _ hk_ => (hS7714q.bring 1 rfl rfl).pool.kn hk_), trivial⟩ (fun _ _ _ h_ => h_) (fun a7730q h7731q => ?_)
                  clear h7728q a7727q
                  refine WH.skip 8 (listed' := #[true, true, true, true, true, true, true, true, true, false, false, false, false, false, false, false, false, false, false, false, false, false, false, false, false, false, false]) h7731q rfl rfl (by kernel_rfl) rfl rfl ⟨(hS7714q.cell (i := 0) rfl), (fun _ _ hk_ => (hS7714q.bring 2 rfl rfl).pool.kn hk_), (fun _ _ hk_ => (hS7714q.bring 1 rfl rfl).pool.kn hk_), trivial⟩ (fun _ _ _ h_ => h_) (fun a7732q h7733q => ?_)
                  clear h7731q a7730q
                  refine WH.skip 9 (listed' := #[true, true, true, true, true, true, true, true, true, true, false, false, false, false, false, false, false, false, false, false, false, false, false, false, false, false, false]) h7733q rfl rfl (by kernel_rfl) rfl rfl ⟨(hS7714q.cell (i := 0) rfl), (fun _ _ hk_ => (hS7714q.bring 2 rfl rfl).pool.kn hk_), (fun _ _ hk_ => (hS7714q.bring 1 rfl rfl).pool.kn hk_), trivial⟩ (fun _ _ _ h_ => h_) (fun a7734q h7735q => ?_)
                  clear h7733q a7732q
                  refine WH.skip 10 (listed' := #[true, true, true, true, true, true, true, true, true, true, true, false, false, false, false, false, false, false, false, false, false, false, false, false, false, false, false]) h7735q rfl rfl (by kernel_rfl) rfl rfl ⟨(hS7714q.cell (i := 0) rfl), (fun _ _ hk_ => (hS7714q.bring 2 rfl rfl).pool.kn hk_), (fun _ _ hk_ => (hS7714q.bring 1 rfl rfl).pool.kn hk_), trivial⟩ (fun _ _ _ h_ => h_) (fun a7736q h7737q => ?_)
                  clear h7735q a7734q
                  refine WH.skip 11 (listed' := #[true, true, true, true, true, true, true, true, true, true, true, true, false, false, false, false, false, false, false, false, false, false, false, false, false, false, false]) h7737q rfl rfl (by kernel_rfl) rfl rfl ⟨(hS7714q.cell (i := 0) rfl), (fun _ _ hk_ => (hS7714q.bring 2 rfl rfl).pool.kn hk_), (fun _ _ hk_ => (hS7714q.bring 1 rfl rfl).pool.kn hk_), trivial⟩ (fun _ _ _ h_ => h_) (fun a7738q h7739q => ?_)
                  clear h7737q a7736q
                  refine WH.skip 12 (listed' := #[true, true, true, true, true, true, true, true, true, true, true, true, true, false, false, false, false, false, false, false, false, false, false, false, false, false, false]) h7739q rfl rfl (by kernel_rfl) rfl rfl ⟨(hS7714q.cell (i := 0) rfl), (fun _ _ hk_ => (hS7714q.bring 2 rfl rfl).pool.kn hk_), (fun _ _ hk_ => (hS7714q.bring 1 rfl rfl).pool.kn hk_), trivial⟩ (fun _ _ _ h_ => h_) (fun a7740q h7741q => ?_)
                  clear h7739q a7738q
                  refine WH.skip 13 (listed' := #[true, true, true, true, true, true, true, true, true, true, true, true, true, true, false, false, false, false, false, false, false, false, false, false, false, false, false]) h7741q rfl rfl (by kernel_rfl) rfl rfl ⟨(hS7714q.cell (i := 0) rfl), (fun _ _ hk_ => (hS7714q.bring 2 rfl rfl).pool.kn hk_), (fun _ _ hk_ => (hS7714q.bring 1 rfl rfl).pool.kn hk_), trivial⟩ (fun _ _ _ h_ => h_) (fun a7742q h7743q => ?_)
                  clear h7741q a7740q
                  refine WH.skip 14 (listed' := #[true, true, true, true, true, true, true, true, true, true, true, true, true, true, true, false, false, false, false, false, false, false, false, false, false, false, false]) h7743q rfl rfl (by kernel_rfl) rfl rfl ⟨(hS7714q.cell (i := 0) rfl), (fun _ _ hk_ => (hS7714q.bring 2 rfl rfl).pool.kn hk_), (fun _ _ hk_ => (hS7714q.bring 1 rfl rfl).pool.kn hk_), trivial⟩ (fun _ _ _ h_ => h_) (fun a7744q h7745q => ?_)
                  clear h7743q a7742q
                  refine WH.skip 15 (listed' := #[true, true, true, true, true, true, true, true, true, true, true, true, true, true, true, true, false, false, false, false, false, false, false, false, false, false, false]) h7745q rfl rfl (by kernel_rfl) rfl rfl ⟨(hS7714q.cell (i := 0) rfl), (fun _ _ hk_ => (hS7714q.bring 2 rfl rfl).pool.kn hk_), (fun _ _ hk_ => (hS7714q.bring 1 rfl rfl).pool.kn hk_), trivial⟩ (fun _ _ _ h_ => h_) (fun a7746q h7747q => ?_)
                  clear h7745q a7744q
                  refine WH.skip 16 (listed' := #[true, true, true, true, true, true, true, true, true, true, true, true, true, true, true, true, true, false, false, false, false, false, false, false, false, false, false]) h7747q rfl rfl (by kernel_rfl) rfl rfl ⟨(hS7714q.cell (i := 0) rfl), (fun _ _ hk_ => (hS7714q.bring 2 rfl rfl).pool.kn hk_), (fun _ _ hk_ => (hS7714q.bring 1 rfl rfl).pool.kn hk_), trivial⟩ (fun _ _ _ h_ => h_) (fun a7748q h7749q => ?_)
                  clear h7747q a7746q
                  refine WH.take 17 (listed' := #[true, true, true, true, true, true, true, true, true, true, true, true, true, true, true, true, true, true, false, false, false, false, false, false, false, false, false]) h7749q rfl rfl (by kernel_rfl) rfl rfl (.bool true) (fun _ _ => by kernel_rfl) ⟨(hS7714q.cell (i := 0) rfl), (fun _ _ hk_ => (hS7714q.bring 2 rfl rfl).pool.kn hk_), (fun _ _ hk_ => (hS7714q.bring 1 rfl rfl).pool.kn hk_), trivial⟩ (fun _ _ _ h_ => h_) (fun a7750q h7751q => ?_)
                  clear h7749q a7748q
                  refine WH.take 18 (listed' := #[true, true, true, true, true, true, true, true, true, true, true, true, true, true, true, true, true, true, true, false, false, false, false, false, false, false, false]) h7751q rfl rfl (by kernel_rfl) rfl rfl (.bool true) (fun _ _ => by kernel_rfl) ⟨(hS7714q.cell (i := 0) rfl), (fun _ _ hk_ => (hS7714q.bring 2 rfl rfl).pool.kn hk_), (fun _ _ hk_ => (hS7714q.bring 1 rfl rfl).pool.kn hk_), trivial⟩ (fun _ _ _ h_ => h_) (fun a7752q h7753q => ?_)
                  clear h7751q a7750q
                  refine WH.skip 19 (listed' := #[true, true, true, true, true, true, true, true, true, true, true, true, true, true, true, true, true, true, true, true, false, false, false, false, false, false, false]) h7753q rfl rfl (by kernel_rfl) rfl rfl ⟨(hS7714q.cell (i := 0) rfl), (fun _ _ hk_ => (hS7714q.bring 2 rfl rfl).pool.kn hk_), (fun _ _ hk_ => (hS7714q.bring 1 rfl rfl).pool.kn hk_), trivial⟩ (fun _ _ _ h_ => h_) (fun a7754q h7755q => ?_)
                  clear h7753q a7752q
                  refine WH.skip 20 (listed' := #[true, true, true, true, true, true, true, true, true, true, true, true, true, true, true, true, true, true, true, true, true, false, false, false, false, false, false]) h7755q rfl rfl (by kernel_rfl) rfl rfl ⟨(hS7714q.cell (i := 0) rfl), (fun _ _ hk_ => (hS7714q.bring 2 rfl rfl).pool.kn hk_), (fun _ _ hk_ => (hS7714q.bring 1 rfl rfl).pool.kn hk_), trivial⟩ (fun _ _ _ h_ => h_) (fun a7756q h7757q => ?_)
                  clear h7755q a7754q
                  refine WH.skip 21 (listed' := #[true, true, true, true, true, true, true, true, true, true, true, true, true, true, true, true, true, true, true, true, true, true, false, false, false, false, false]) h7757q rfl rfl (by kernel_rfl) rfl rfl ⟨(hS7714q.cell (i := 0) rfl), (fun _ _ hk_ => (hS7714q.bring 2 rfl rfl).pool.kn hk_), (fun _ _ hk_ => (hS7714q.bring 1 rfl rfl).pool.kn hk_), trivial⟩ (fun _ _ _ h_ => h_) (fun a7758q h7759q => ?_)
                  clear h7757q a7756q
                  refine WH.skip 22 (listed' := #[true, true, true, true, true, true, true, true, true, true, true, true, true, true, true, true, true, true, true, true, true, true, true, false, false, false, false]) h7759q rfl rfl (by kernel_rfl) rfl rfl ⟨(hS7714q.cell (i := 0) rfl), (fun _ _ hk_ => (hS7714q.bring 2 rfl rfl).pool.kn hk_), (fun _ _ hk_ => (hS7714q.bring 1 rfl rfl).pool.kn hk_), trivial⟩ (fun _ _ _ h_ => h_) (fun a7760q h7761q => ?_)
                  clear h7759q a7758q
                  refine WH.skip 23 (listed' := #[true, true, true, true, true, true, true, true, true, true, true, true, true, true, true, true, true, true, true, true, true, true, true, true, false, false, false]) h7761q rfl rfl (by kernel_rfl) rfl rfl ⟨(hS7714q.cell (i := 0) rfl), (fun _ _ hk_ => (hS7714q.bring 2 rfl rfl).pool.kn hk_), (fun _ _ hk_ => (hS7714q.bring 1 rfl rfl).pool.kn hk_), trivial⟩ (fun _ _ _ h_ => h_) (fun a7762q h7763q => ?_)
                  clear h7761q a7760q
                  refine WH.skip 24 (listed' := #[true, true, true, true, true, true, true, true, true, true, true, true, true, true, true, true, true, true, true, true, true, true, true, true, true, false, false]) h7763q rfl rfl (by kernel_rfl) rfl rfl ⟨(hS7714q.cell (i := 0) rfl), (fun _ _ hk_ => (hS7714q.bring 2 rfl rfl).pool.kn hk_), (fun _ _ hk_ => (hS7714q.bring 1 rfl rfl).pool.kn hk_), trivial⟩ (fun _ _ _ h_ => h_) (fun a7764q h7765q => ?_)
                  clear h7763q a7762q
                  refine WH.skip 25 (listed' := #[true, true, true, true, true, true, true, true, true, true, true, true, true, true, true, true, true, true, true, true, true, true, true, true, true, true, false]) h7765q rfl rfl (by kernel_rfl) rfl rfl ⟨(hS7714q.cell (i := 0) rfl), (fun _ _ hk_ => (hS7714q.bring 2 rfl rfl).pool.kn hk_), (fun _ _ hk_ => (hS7714q.bring 1 rfl rfl).pool.kn hk_), trivial⟩ (fun _ _ _ h_ => h_) (fun a7766q h7767q => ?_)
                  clear h7765q a7764q
                  refine WH.take 26 (listed' := #[true, true, true, true, true, true, true, true, true, true, true, true, true, true, true, true, true, true, true, true, true, true, true, true, true, true, true]) h7767q rfl rfl (by kernel_rfl) rfl rfl (.bool true) (fun _ _ => by kernel_rfl) ⟨(hS7714q.cell (i := 0) rfl), (fun _ _ hk_ => (hS7714q.bring 2 rfl rfl).pool.kn hk_), (fun _ _ hk_ => (hS7714q.bring 1 rfl rfl).pool.kn hk_), trivial⟩ (fun _ _ _ h_ => h_) (fun a7768q h7769q => ?_)
                  clear h7767q a7766q
                  refine WH.done (by kernel_rfl) ?_
                  refine wp_then h7769q rfl ?_
                  refine wp_seq ?_
                  refine WL.start ?_
                  refine WL.block (c := 1) (m' := 1) h7769q rfl [(6, .bool false)] (by kernel_rfl) (fun a7770q h7771q => ?_)
                  clear h7769q a7768q
                  refine WL.done (by kernel_rfl) ?_
                  refine wp_ret ?_
                  have hS7772q : St b w0 W7370q.drew R (M7388q :: M7376q :: M7378q :: [(g6328q, .cells ([.int .i64 ((gt z38 p2 x6295q).f0), .slice A6321q ((gt z38 p2 x6295q).f1).length c6322q, .int .i64 ((gt z38 p2 x6295q).f2)] : List Value).toArray 38 (0, 0))] :: Fs) := hS7714q.drop_
                  have hS7773q : St b w0 W7370q.drew R (M7376q :: M7378q :: [(g6328q, .cells ([.int .i64 ((gt z38 p2 x6295q).f0), .slice A6321q ((gt z38 p2 x6295q).f1).length c6322q, .int .i64 ((gt z38 p2 x6295q).f2)] : List Value).toArray 38 (0, 0))] :: Fs) := hS7772q.drop_
                  have hS7774q : St b w0 W7370q.drew R (M7378q :: [(g6328q, .cells ([.int .i64 ((gt z38 p2 x6295q).f0), .slice A6321q ((gt z38 p2 x6295q).f1).length c6322q, .int .i64 ((gt z38 p2 x6295q).f2)] : List Value).toArray 38 (0, 0))] :: Fs) := hS7773q.drop_
                  have hS7775q : St b w0 W7370q.drew R ([(g6328q, .cells ([.int .i64 ((gt z38 p2 x6295q).f0), .slice A6321q ((gt z38 p2 x6295q).f1).length c6322q, .int .i64 ((gt z38 p2 x6295q).f2)] : List Value).toArray 38 (0, 0))] :: Fs) := hS7774q.drop_
                  have hS7776q : St b w0 W7370q.drew R (Fs) := hS7775q.drop_
                  obtain rfl := Option.some.inj H
                  repeat (first | refine then_ret ?_ | refine inBlock_ret ?_ | refine inBlock_go ?_)
                  refine body_ret (v := .bool false) h7771q (by kernel_rfl) (by kernel_rfl) ?_
                  exact ⟨rfl, hS7776q⟩
                · rw [if_neg c7729q] at H
                  have hb_ : (r7368q != (decide ((x6292q.f0.length : Int) > 0))) = false := (Bool.eq_false_iff.2 c7729q)
                  try rw [hb_] at h7728q
                  clear hb_
                  refine WH.take 7 (listed' := #[true, true, true, true, true, true, true, true, false, false, false, false, false, false, false, false, false, false, false, false, false, false, false, false, false, false, false]) h7728q rfl rfl (by kernel_rfl) rfl rfl (.bool r7368q) (fun _ _ => by kernel_rfl) ⟨(hS7714q.cell (i := 0) rfl), (fun _ _ hk_ => (hS7714q.bring 2 rfl rfl).pool.kn hk_), (fun _ _ hk_ => (hS7714q.bring 1 rfl rfl).pool.kn hk_), trivial⟩ (fun _ _ _ h_ => h_) (fun a7777q h7778q => ?_)
                  clear h7728q a7727q
                  refine WH.take 8 (listed' := #[true, true, true, true, true, true, true, true, true, false, false, false, false, false, false, false, false, false, false, false, false, false, false, false, false, false, false]) h7778q rfl rfl (by kernel_rfl) rfl rfl (.bool r7368q) (fun _ _ => by kernel_rfl) ⟨(hS7714q.cell (i := 0) rfl), (fun _ _ hk_ => (hS7714q.bring 2 rfl rfl).pool.kn hk_), (fun _ _ hk_ => (hS7714q.bring 1 rfl rfl).pool.kn hk_), trivial⟩ (fun _ _ _ h_ => h_) (fun a7779q h7780q => ?_)
                  clear h7778q a7777q
                  by_cases c7781q : r7368q = true
                  · rw [if_pos c7781q] at H
                    have hb_ : r7368q = true := c7781q
                    try rw [hb_] at h7780q
                    clear hb_
                    refine WH.take 9 (listed' := #[true, true, true, true, true, true, true, true, true, true, false, false, false, false, false, false, false, false, false, false, false, false, false, false, false, false, false]) h7780q rfl rfl (by kernel_rfl) rfl rfl (.slice A7381q r7367q.length c7382q) (fun _ _ => by kernel_rfl) ⟨(hS7714q.cell (i := 0) rfl), (fun _ _ hk_ => (hS7714q.bring 2 rfl rfl).pool.kn hk_), (fun _ _ hk_ => (hS7714q.bring 1 rfl rfl).pool.kn hk_), trivial⟩ (fun _ _ _ h_ => h_) (fun a7782q h7783q => ?_)
                    clear h7780q a7779q
                    refine WH.take 11 (listed' := #[true, true, true, true, true, true, true, true, true, true, false, true, false, false, false, false, false, false, false, false, false, false, false, false, false, false, false]) h7783q rfl rfl (by kernel_rfl) rfl rfl (.pointer (some ⟨g6276q, 0, none⟩)) (fun _ _ => by kernel_rfl) ⟨(hS7714q.cell (i := 0) rfl), (fun _ _ hk_ => (hS7714q.bring 2 rfl rfl).pool.kn hk_), (fun _ _ hk_ => (hS7714q.bring 1 rfl rfl).pool.kn hk_), trivial⟩ (fun _ _ _ h_ => h_) (fun a7784q h7785q => ?_)
                    clear h7783q a7782q
                    refine WH.take 10 (listed' := #[true, true, true, true, true, true, true, true, true, true, true, true, false, false, false, false, false, false, false, false, false, false, false, false, false, false, false]) h7785q rfl rfl (by kernel_rfl) rfl rfl (.string (mkS (toS r7367q))) (fun w_ hs_ => (run_tostr rfl rfl hr7377q.rds hs_.2.1 Try.underlying26 Try.underlying5 Try.underlying9)) ⟨(hS7714q.cell (i := 0) rfl), (fun _ _ hk_ => (hS7714q.bring 2 rfl rfl).pool.kn hk_), (fun _ _ hk_ => (hS7714q.bring 1 rfl rfl).pool.kn hk_), trivial⟩ (fun _ _ _ h_ => h_) (fun a7786q h7787q => ?_)
                    clear h7785q a7784q
                    refine WH.take 12 (listed' := #[true, true, true, true, true, true, true, true, true, true, true, true, true, false, false, false, false, false, false, false, false, false, false, false, false, false, false]) h7787q rfl rfl (by kernel_rfl) rfl rfl (.slice A7393q x6292q.f0.length c7394q) (fun w_ hs_ => (run_load1 rfl rfl Try.underlying34 rfl hs_.1)) ⟨(hS7714q.cell (i := 0) rfl), (fun _ _ hk_ => (hS7714q.bring 2 rfl rfl).pool.kn hk_), (fun _ _ hk_ => (hS7714q.bring 1 rfl rfl).pool.kn hk_), trivial⟩ (fun _ _ _ h_ => h_) (fun a7788q h7789q => ?_)
                    clear h7787q a7786q
                    by_cases c7790q : 0 < (x6292q.f0.length : Int)
                    · rw [if_pos c7790q] at H
                      have hi7793q : 0 ≤ (0 : Int) := by first | assumption | omega
                      have hi7794q : 0 < (x6292q.f0.length : Int) := by first | assumption | omega
                      obtain ⟨ad7791q, _, ha7792q, -, -⟩ := Rds.elemAny hr7392q.rds hi7793q (gt_get (z := []) hi7793q hi7794q)
                      refine WH.take 13 (listed' := #[true, true, true, true, true, true, true, true, true, true, true, true, true, true, false, false, false, false, false, false, false, false, false, false, false, false, false]) h7789q rfl rfl (by kernel_rfl) rfl rfl (.pointer (some (ad7791q.add ((0 : Int).toNat * 1)))) (fun w_ hs_ => (run_idx (ad := ad7791q) (sz := 1) rfl (by rw [← ha7792q]; rfl) rfl Try.underlying34 (by kernel_rfl) hi7793q hi7794q)) ⟨(hS7714q.cell (i := 0) rfl), (fun _ _ hk_ => (hS7714q.bring 2 rfl rfl).pool.kn hk_), (fun _ _ hk_ => (hS7714q.bring 1 rfl rfl).pool.kn hk_), trivial⟩ (fun _ _ _ h_ => h_) (fun a7795q h7796q => ?_)
                      clear h7789q a7788q
                      obtain ⟨ad7797q, cs7798q, ha7799q, hr7801q, hc7800q⟩ := Rds.elemAny hr7392q.rds hi7793q (gt_get (z := []) hi7793q hi7794q)
                      rw [ha7792q] at ha7799q; obtain rfl := Option.some.inj ha7799q
                      obtain rfl : cs7798q = [.string (mkS (gt [] x6292q.f0 (0 : Int)))] := hr7801q
                      refine WH.take 14 (listed' := #[true, true, true, true, true, true, true, true, true, true, true, true, true, true, true, false, false, false, false, false, false, false, false, false, false, false, false]) h7796q rfl rfl (by kernel_rfl) rfl rfl (.string (mkS (gt [] x6292q.f0 (0 : Int)))) (fun w_ hs_ => (run_load1 rfl rfl Try.underlying9 rfl (cell0 (hc7800q _ hs_.2.2.1)))) ⟨(hS7714q.cell (i := 0) rfl), (fun _ _ hk_ => (hS7714q.bring 2 rfl rfl).pool.kn hk_), (fun _ _ hk_ => (hS7714q.bring 1 rfl rfl).pool.kn hk_), trivial⟩ (fun _ _ _ h_ => h_) (fun a7802q h7803q => ?_)
                      clear h7796q a7795q
                      refine WH.take 15 (listed' := #[true, true, true, true, true, true, true, true, true, true, true, true, true, true, true, true, false, false, false, false, false, false, false, false, false, false, false]) h7803q rfl rfl (by kernel_rfl) rfl rfl (.bool (!decide ((toS r7367q) = (gt [] x6292q.f0 (0 : Int))))) (fun w_ hs_ => (run_strne rfl rfl rfl)) ⟨(hS7714q.cell (i := 0) rfl), (fun _ _ hk_ => (hS7714q.bring 2 rfl rfl).pool.kn hk_), (fun _ _ hk_ => (hS7714q.bring 1 rfl rfl).pool.kn hk_), trivial⟩ (fun _ _ _ h_ => h_) (fun a7804q h7805q => ?_)
                      clear h7803q a7802q
                      refine WH.take 16 (listed' := #[true, true, true, true, true, true, true, true, true, true, true, true, true, true, true, true, true, false, false, false, false, false, false, false, false, false, false]) h7805q rfl rfl (by kernel_rfl) rfl rfl (.bool (!decide ((toS r7367q) = (gt [] x6292q.f0 (0 : Int))))) (fun _ _ => by kernel_rfl) ⟨(hS7714q.cell (i := 0) rfl), (fun _ _ hk_ => (hS7714q.bring 2 rfl rfl).pool.kn hk_), (fun _ _ hk_ => (hS7714q.bring 1 rfl rfl).pool.kn hk_), trivial⟩ (fun _ _ _ h_ => h_) (fun a7806q h7807q => ?_)
                      clear h7805q a7804q
                      refine WH.take 17 (listed' := #[true, true, true, true, true, true, true, true, true, true, true, true, true, true, true, true, true, true, false, false, false, false, false, false, false, false, false]) h7807q rfl rfl (by kernel_rfl) rfl rfl (.bool (!decide ((toS r7367q) = (gt [] x6292q.f0 (0 : Int))))) (fun _ _ => by kernel_rfl) ⟨(hS7714q.cell (i := 0) rfl), (fun _ _ hk_ => (hS7714q.bring 2 rfl rfl).pool.kn hk_), (fun _ _ hk_ => (hS7714q.bring 1 rfl rfl).pool.kn hk_), trivial⟩ (fun _ _ _ h_ => h_) (fun a7808q h7809q => ?_)
                      clear h7807q a7806q
                      refine WH.take 18 (listed' := #[true, true, true, true, true, true, true, true, true, true, true, true, true, true, true, true, true, true, true, false, false, false, false, false, false, false, false]) h7809q rfl rfl (by kernel_rfl) rfl rfl (.bool (!decide ((toS r7367q) = (gt [] x6292q.f0 (0 : Int))))) (fun _ _ => by kernel_rfl) ⟨(hS7714q.cell (i := 0) rfl), (fun _ _ hk_ => (hS7714q.bring 2 rfl rfl).pool.kn hk_), (fun _ _ hk_ => (hS7714q.bring 1 rfl rfl).pool.kn hk_), trivial⟩ (fun _ _ _ h_ => h_) (fun a7810q h7811q => ?_)
                      clear h7809q a7808q
                      by_cases c7812q : (toS r7367q) = (gt [] x6292q.f0 (0 : Int))
                      · rw [if_pos c7812q] at H
                        have hb_ : (decide ((toS r7367q) = (gt [] x6292q.f0 (0 : Int)))) = true := decide_eq_true c7812q
                        try rw [hb_] at h7811q
                        clear hb_
                        refine WH.take 19 (listed' := #[true, true, true, true, true, true, true, true, true, true, true, true, true, true, true, true, true, true, true, true, false, false, false, false, false, false, false]) h7811q rfl rfl (by kernel_rfl) rfl rfl (.bool true) (fun _ _ => by kernel_rfl) ⟨(hS7714q.cell (i := 0) rfl), (fun _ _ hk_ => (hS7714q.bring 2 rfl rfl).pool.kn hk_), (fun _ _ hk_ => (hS7714q.bring 1 rfl rfl).pool.kn hk_), trivial⟩ (fun _ _ _ h_ => h_) (fun a7813q h7814q => ?_)
                        clear h7811q a7810q
                        refine WH.take 20 (listed' := #[true, true, true, true, true, true, true, true, true, true, true, true, true, true, true, true, true, true, true, true, true, false, false, false, false, false, false]) h7814q rfl rfl (by kernel_rfl) rfl rfl (.bool false) (fun _ _ => by kernel_rfl) ⟨(hS7714q.cell (i := 0) rfl), (fun _ _ hk_ => (hS7714q.bring 2 rfl rfl).pool.kn hk_), (fun _ _ hk_ => (hS7714q.bring 1 rfl rfl).pool.kn hk_), trivial⟩ (fun _ _ _ h_ => h_) (fun a7815q h7816q => ?_)
                        clear h7814q a7813q
                        refine WH.take 21 (listed' := #[true, true, true, true, true, true, true, true, true, true, true, true, true, true, true, true, true, true, true, true, true, true, false, false, false, false, false]) h7816q rfl rfl (by kernel_rfl) rfl rfl (.bool false) (fun _ _ => by kernel_rfl) ⟨(hS7714q.cell (i := 0) rfl), (fun _ _ hk_ => (hS7714q.bring 2 rfl rfl).pool.kn hk_), (fun _ _ hk_ => (hS7714q.bring 1 rfl rfl).pool.kn hk_), trivial⟩ (fun _ _ _ h_ => h_) (fun a7817q h7818q => ?_)
                        clear h7816q a7815q
                        refine WH.skip 22 (listed' := #[true, true, true, true, true, true, true, true, true, true, true, true, true, true, true, true, true, true, true, true, true, true, true, false, false, false, false]) h7818q rfl rfl (by kernel_rfl) rfl rfl ⟨(hS7714q.cell (i := 0) rfl), (fun _ _ hk_ => (hS7714q.bring 2 rfl rfl).pool.kn hk_), (fun _ _ hk_ => (hS7714q.bring 1 rfl rfl).pool.kn hk_), trivial⟩ (fun _ _ _ h_ => h_) (fun a7819q h7820q => ?_)
                        clear h7818q a7817q
                        refine WH.skip 23 (listed' := #[true, true, true, true, true, true, true, true, true, true, true, true, true, true, true, true, true, true, true, true, true, true, true, true, false, false, false]) h7820q rfl rfl (by kernel_rfl) rfl rfl ⟨(hS7714q.cell (i := 0) rfl), (fun _ _ hk_ => (hS7714q.bring 2 rfl rfl).pool.kn hk_), (fun _ _ hk_ => (hS7714q.bring 1 rfl rfl).pool.kn hk_), trivial⟩ (fun _ _ _ h_ => h_) (fun a7821q h7822q => ?_)
                        clear h7820q a7819q
                        refine WH.skip 24 (listed' := #[true, true, true, true, true, true, true, true, true, true, true, true, true, true, true, true, true, true, true, true, true, true, true, true, true, false, false]) h7822q rfl rfl (by kernel_rfl) rfl rfl ⟨(hS7714q.cell (i := 0) rfl), (fun _ _ hk_ => (hS7714q.bring 2 rfl rfl).pool.kn hk_), (fun _ _ hk_ => (hS7714q.bring 1 rfl rfl).pool.kn hk_), trivial⟩ (fun _ _ _ h_ => h_) (fun a7823q h7824q => ?_)
                        clear h7822q a7821q
                        refine WH.take 25 (listed' := #[true, true, true, true, true, true, true, true, true, true, true, true, true, true, true, true, true, true, true, true, true, true, true, true, true, true, false]) h7824q rfl rfl (by kernel_rfl) rfl rfl (.bool false) (fun _ _ => by kernel_rfl) ⟨(hS7714q.cell (i := 0) rfl), (fun _ _ hk_ => (hS7714q.bring 2 rfl rfl).pool.kn hk_), (fun _ _ hk_ => (hS7714q.bring 1 rfl rfl).pool.kn hk_), trivial⟩ (fun _ _ _ h_ => h_) (fun a7825q h7826q => ?_)
                        clear h7824q a7823q
                        refine WH.take 26 (listed' := #[true, true, true, true, true, true, true, true, true, true, true, true, true, true, true, true, true, true, true, true, true, true, true, true, true, true, true]) h7826q rfl rfl (by kernel_rfl) rfl rfl (.bool false) (fun _ _ => by kernel_rfl) ⟨(hS7714q.cell (i := 0) rfl), (fun _ _ hk_ => (hS7714q.bring 2 rfl rfl).pool.kn hk_), (fun _ _ hk_ => (hS7714q.bring 1 rfl rfl).pool.kn hk_), trivial⟩ (fun _ _ _ h_ => h_) (fun a7827q h7828q => ?_)
                        clear h7826q a7825q
                        refine WH.done (by kernel_rfl) ?_
                        refine wp_else h7828q rfl ?_
                        refine wp_skip ?_
                        refine wp_seq ?_
                        refine WL.start ?_
                        refine WL.block (c := 1) (m' := 1) h7828q rfl [(99, .bool true)] (by kernel_rfl) (fun a7829q h7830q => ?_)
                        clear h7828q a7827q
                        refine WL.done (by kernel_rfl) ?_
                        refine wp_then h7830q rfl ?_
                        refine WL.start ?_
                        refine WL.block (c := 1) (m' := 1) h7830q rfl [(100, .pointer (some ⟨g6276q, 0, none⟩))] (by kernel_rfl) (fun a7831q h7832q => ?_)
                        clear h7830q a7829q
                        refine WL.op' (m := 1) h7832q rfl rfl ?_
                        refine owp_run (v := .slice A7393q x6292q.f0.length c7394q) h7832q rfl (by kernel_rfl) (run_load1 rfl rfl Try.underlying34 rfl (hS7714q.cell (i := 0) rfl)) (fun a7833q h7834q => ?_)
                        clear h7832q a7831q
                        by_cases c7835q : 1 ≤ (x6292q.f0.length : Int)
                        · rw [if_pos c7835q] at H
                          refine WL.op' (m := 2) h7834q rfl rfl ?_
                          refine owp_run (v := sliced A7393q (1 : Int).toNat (x6292q.f0.length : Int).toNat c7394q 1) h7834q rfl (by kernel_rfl) (run_cut (l := 1) (h := (x6292q.f0.length : Int)) rfl rfl Try.underlying34 (by kernel_rfl) ⟨_, rfl⟩ rfl (by first | assumption | omega) (by first | assumption | omega) (by have q_ := Rds.cap hr7392q.rds; omega) (by have q_ := Rds.cap hr7392q.rds; omega)) (fun a7837q h7838q => ?_)
                          clear h7834q a7833q
                          have hx7836q := Rds.cut hr7392q.rds (l := (1 : Int).toNat) (h := (x6292q.f0.length : Int).toNat) (by omega) (by omega)
                          obtain ⟨v7839q, ev7840q⟩ : ∃ y_, y_ = sliced A7393q (1 : Int).toNat (x6292q.f0.length : Int).toNat c7394q 1 := ⟨_, rfl⟩
                          have hx_ : Rds kStr b w0 (M7388q ++ R) v7839q (x6292q.f0.drop (1 : Int).toNat) := hx7836q.as_ ev7840q.symm (by simp)
                          rw [← ev7840q] at h7838q; clear hx7836q
                          have hx7836q := hx_; clear hx_
                          obtain ⟨A7841q, c7842q, rfl⟩ := hx7836q.form
                          refine WL.block (c := 1) (m' := 4) h7838q rfl [(103, .pointer (some ⟨g6276q, 0, none⟩))] (by kernel_rfl) (fun a7843q h7844q => ?_)
                          clear h7838q a7837q
                          have hS7845q : St b w0 W7370q.drew R (M7388q :: [(g6276q, .cells ([.slice A7393q x6292q.f0.length c7394q, .int .i64 x6292q.f1, .int .i64 x6292q.f2] : List Value).toArray 36 (0, 0))] :: M7376q :: M7378q :: [(g6328q, .cells ([.int .i64 ((gt z38 p2 x6295q).f0), .slice A6321q ((gt z38 p2 x6295q).f1).length c6322q, .int .i64 ((gt z38 p2 x6295q).f2)] : List Value).toArray 38 (0, 0))] :: Fs) := hS7714q.bring 1 rfl rfl
                          obtain ⟨M7846q, hr7847q, hm_⟩ := Row.cut (l := (1 : Int).toNat) (h := (x6292q.f0.length : Int).toNat) hr7392q (by omega) (by omega)
                          replace hr7847q : Row kStr 9 b w0 R (.slice A7841q (x6292q.f0.drop (1 : Int).toNat).length c7842q) (x6292q.f0.drop (1 : Int).toNat) M7846q := hr7847q.as_ ev7840q.symm (by simp)
                          have hS7848q : St b w0 W7370q.drew R (M7846q :: [(g6276q, .cells ([.slice A7393q x6292q.f0.length c7394q, .int .i64 x6292q.f1, .int .i64 x6292q.f2] : List Value).toArray 36 (0, 0))] :: M7376q :: M7378q :: [(g6328q, .cells ([.int .i64 ((gt z38 p2 x6295q).f0), .slice A6321q ((gt z38 p2 x6295q).f1).length c6322q, .int .i64 ((gt z38 p2 x6295q).f2)] : List Value).toArray 38 (0, 0))] :: Fs) := hm_ _ _ hS7845q
                          clear hm_
                          have hS7849q : St b w0 W7370q.drew R ([(g6276q, .cells ([.slice A7393q x6292q.f0.length c7394q, .int .i64 x6292q.f1, .int .i64 x6292q.f2] : List Value).toArray 36 (0, 0))] :: M7846q :: M7376q :: M7378q :: [(g6328q, .cells ([.int .i64 ((gt z38 p2 x6295q).f0), .slice A6321q ((gt z38 p2 x6295q).f1).length c6322q, .int .i64 ((gt z38 p2 x6295q).f2)] : List Value).toArray 38 (0, 0))] :: Fs) := hS7848q.bring 1 rfl rfl
                          refine WL.op' (m := 4) h7844q rfl rfl ?_
                          refine owp_store (i := 0) (vs := ([.slice A7841q (x6292q.f0.drop (1 : Int).toNat).length c7842q] : List Value)) h7844q rfl (by kernel_rfl) rfl rfl rfl rfl (by simp [Value.oneCell']) (by kernel_rfl) hS7849q (by simp) (cs' := ([.slice A7841q (x6292q.f0.drop (1 : Int).toNat).length c7842q, .int .i64 x6292q.f1, .int .i64 x6292q.f2] : List Value)) rfl (fun a7850q W7852q h7851q hS7853q => ?_)
                          clear h7844q a7843q
                          refine WL.done (by kernel_rfl) ?_
                          have hS7854q : St b w0 W7852q R (M7846q :: [(g6276q, .cells ([.slice A7841q (x6292q.f0.drop (1 : Int).toNat).length c7842q, .int .i64 x6292q.f1, .int .i64 x6292q.f2] : List Value).toArray 36 (0, 0))] :: M7376q :: M7378q :: [(g6328q, .cells ([.int .i64 ((gt z38 p2 x6295q).f0), .slice A6321q ((gt z38 p2 x6295q).f1).length c6322q, .int .i64 ((gt z38 p2 x6295q).f2)] : List Value).toArray 38 (0, 0))] :: Fs) := hS7853q.bring 1 rfl rfl
                          have hS7855q : St b w0 W7852q R ([(g6276q, .cells ([.slice A7841q (x6292q.f0.drop (1 : Int).toNat).length c7842q, .int .i64 x6292q.f1, .int .i64 x6292q.f2] : List Value).toArray 36 (0, 0))] :: M7846q :: M7376q :: M7378q :: [(g6328q, .cells ([.int .i64 ((gt z38 p2 x6295q).f0), .slice A6321q ((gt z38 p2 x6295q).f1).length c6322q, .int .i64 ((gt z38 p2 x6295q).f2)] : List Value).toArray 38 (0, 0))] :: Fs) := hS7854q.bring 1 rfl rfl
                          obtain ⟨M7857q, hr7856q, hM_⟩ := k36qmk (b := b) (w0 := w0) (R := R) (x := (⟨x6292q.f0.drop (1 : Int).toNat, x6292q.f1, x6292q.f2⟩ : S36)) (gvf0 := hr7847q)
                          have hp7858q : Ptr k36 36 b w0 R (.pointer (some ⟨g6276q, 0, none⟩)) (⟨x6292q.f0.drop (1 : Int).toNat, x6292q.f1, x6292q.f2⟩ : S36) ((g6276q, .cells ([.slice A7841q (x6292q.f0.drop (1 : Int).toNat).length c7842q, .int .i64 x6292q.f1, .int .i64 x6292q.f2] : List Value).toArray 36 (0, 0)) :: M7857q) := ⟨_, _, _, rfl, rfl, hr7856q⟩
                          rw [hM_] at hp7858q
                          have hS7860q : St b w0 W7852q R (((g6276q, .cells ([.slice A7841q (x6292q.f0.drop (1 : Int).toNat).length c7842q, .int .i64 x6292q.f1, .int .i64 x6292q.f2] : List Value).toArray 36 (0, 0)) :: (M7846q)) :: M7376q :: M7378q :: [(g6328q, .cells ([.int .i64 ((gt z38 p2 x6295q).f0), .slice A6321q ((gt z38 p2 x6295q).f1).length c6322q, .int .i64 ((gt z38 p2 x6295q).f2)] : List Value).toArray 38 (0, 0))] :: Fs) := hS7855q.assoc (by simp only [List.flatten_cons, List.append_assoc, List.cons_append, List.nil_append, List.append_nil])
                          obtain ⟨M7861q, hM_⟩ : ∃ y : Frag, y = ((g6276q, .cells ([.slice A7841q (x6292q.f0.drop (1 : Int).toNat).length c7842q, .int .i64 x6292q.f1, .int .i64 x6292q.f2] : List Value).toArray 36 (0, 0)) :: (M7846q)) := ⟨_, rfl⟩
                          rw [← hM_] at hp7858q hS7860q
                          clear hM_
                          have hS7862q : St b w0 W7852q R (M7376q :: M7861q :: M7378q :: [(g6328q, .cells ([.int .i64 ((gt z38 p2 x6295q).f0), .slice A6321q ((gt z38 p2 x6295q).f1).length c6322q, .int .i64 ((gt z38 p2 x6295q).f2)] : List Value).toArray 38 (0, 0))] :: Fs) := hS7860q.bring 1 rfl rfl
                          have hS7863q : St b w0 W7852q R (M7861q :: M7378q :: [(g6328q, .cells ([.int .i64 ((gt z38 p2 x6295q).f0), .slice A6321q ((gt z38 p2 x6295q).f1).length c6322q, .int .i64 ((gt z38 p2 x6295q).f2)] : List Value).toArray 38 (0, 0))] :: Fs) := hS7862q.drop_
                          have hS7864q : St b w0 W7852q R ([(g6328q, .cells ([.int .i64 ((gt z38 p2 x6295q).f0), .slice A6321q ((gt z38 p2 x6295q).f1).length c6322q, .int .i64 ((gt z38 p2 x6295q).f2)] : List Value).toArray 38 (0, 0))] :: M7861q :: M7378q :: Fs) := hS7863q.bring 2 rfl rfl
                          have hS7865q : St b w0 W7852q R (M7861q :: M7378q :: Fs) := hS7864q.drop_
                          have hS7866q : St b w0 W7852q R (M7378q :: M7861q :: Fs) := hS7865q.bring 1 rfl rfl
                          exact ⟨k6303q, r7369q, M7378q, (⟨x6292q.f0.drop (1 : Int).toNat, x6292q.f1, x6292q.f2⟩ : S36), M7861q, h7851q.keep ⟨rfl, rfl, rfl, rfl, rfl, trivial⟩, ⟨H⟩, ⟨by omega⟩, ⟨hS7866q⟩, ⟨hr7379q⟩, ⟨hp7858q⟩⟩
                        · rw [if_neg c7835q] at H
                          cases H
                      · rw [if_neg c7812q] at H
                        have hb_ : (decide ((toS r7367q) = (gt [] x6292q.f0 (0 : Int)))) = false := decide_eq_false c7812q
                        try rw [hb_] at h7811q
                        clear hb_
                        refine WH.skip 19 (listed' := #[true, true, true, true, true, true, true, true, true, true, true, true, true, true, true, true, true, true, true, true, false, false, false, false, false, false, false]) h7811q rfl rfl (by kernel_rfl) rfl rfl ⟨(hS7714q.cell (i := 0) rfl), (fun _ _ hk_ => (hS7714q.bring 2 rfl rfl).pool.kn hk_), (fun _ _ hk_ => (hS7714q.bring 1 rfl rfl).pool.kn hk_), trivial⟩ (fun _ _ _ h_ => h_) (fun a7867q h7868q => ?_)
                        clear h7811q a7810q
                        refine WH.skip 20 (listed' := #[true, true, true, true, true, true, true, true, true, true, true, true, true, true, true, true, true, true, true, true, true, false, false, false, false, false, false]) h7868q rfl rfl (by kernel_rfl) rfl rfl ⟨(hS7714q.cell (i := 0) rfl), (fun _ _ hk_ => (hS7714q.bring 2 rfl rfl).pool.kn hk_), (fun _ _ hk_ => (hS7714q.bring 1 rfl rfl).pool.kn hk_), trivial⟩ (fun _ _ _ h_ => h_) (fun a7869q h7870q => ?_)
                        clear h7868q a7867q
                        refine WH.skip 21 (listed' := #[true, true, true, true, true, true, true, true, true, true, true, true, true, true, true, true, true, true, true, true, true, true, false, false, false, false, false]) h7870q rfl rfl (by kernel_rfl) rfl rfl ⟨(hS7714q.cell (i := 0) rfl), (fun _ _ hk_ => (hS7714q.bring 2 rfl rfl).pool.kn hk_), (fun _ _ hk_ => (hS7714q.bring 1 rfl rfl).pool.kn hk_), trivial⟩ (fun _ _ _ h_ => h_) (fun a7871q h7872q => ?_)
                        clear h7870q a7869q
                        refine WH.skip 22 (listed' := #[true, true, true, true, true, true, true, true, true, true, true, true, true, true, true, true, true, true, true, true, true, true, true, false, false, false, false]) h7872q rfl rfl (by kernel_rfl) rfl rfl ⟨(hS7714q.cell (i := 0) rfl), (fun _ _ hk_ => (hS7714q.bring 2 rfl rfl).pool.kn hk_), (fun _ _ hk_ => (hS7714q.bring 1 rfl rfl).pool.kn hk_), trivial⟩ (fun _ _ _ h_ => h_) (fun a7873q h7874q => ?_)
                        clear h7872q a7871q
                        refine WH.skip 23 (listed' := #[true, true, true, true, true, true, true, true, true, true, true, true, true, true, true, true, true, true, true, true, true, true, true, true, false, false, false]) h7874q rfl rfl (by kernel_rfl) rfl rfl ⟨(hS7714q.cell (i := 0) rfl), (fun _ _ hk_ => (hS7714q.bring 2 rfl rfl).pool.kn hk_), (fun _ _ hk_ => (hS7714q.bring 1 rfl rfl).pool.kn hk_), trivial⟩ (fun _ _ _ h_ => h_) (fun a7875q h7876q => ?_)
                        clear h7874q a7873q
                        refine WH.skip 24 (listed' := #[true, true, true, true, true, true, true, true, true, true, true, true, true, true, true, true, true, true, true, true, true, true, true, true, true, false, false]) h7876q rfl rfl (by kernel_rfl) rfl rfl ⟨(hS7714q.cell (i := 0) rfl), (fun _ _ hk_ => (hS7714q.bring 2 rfl rfl).pool.kn hk_), (fun _ _ hk_ => (hS7714q.bring 1 rfl rfl).pool.kn hk_), trivial⟩ (fun _ _ _ h_ => h_) (fun a7877q h7878q => ?_)
                        clear h7876q a7875q
                        refine WH.skip 25 (listed' := #[true, true, true, true, true, true, true, true, true, true, true, true, true, true, true, true, true, true, true, true, true, true, true, true, true, true, false]) h7878q rfl rfl (by kernel_rfl) rfl rfl ⟨(hS7714q.cell (i := 0) rfl), (fun _ _ hk_ => (hS7714q.bring 2 rfl rfl).pool.kn hk_), (fun _ _ hk_ => (hS7714q.bring 1 rfl rfl).pool.kn hk_), trivial⟩ (fun _ _ _ h_ => h_) (fun a7879q h7880q => ?_)
                        clear h7878q a7877q
                        refine WH.take 26 (listed' := #[true, true, true, true, true, true, true, true, true, true, true, true, true, true, true, true, true, true, true, true, true, true, true, true, true, true, true]) h7880q rfl rfl (by kernel_rfl) rfl rfl (.bool true) (fun _ _ => by kernel_rfl) ⟨(hS7714q.cell (i := 0) rfl), (fun _ _ hk_ => (hS7714q.bring 2 rfl rfl).pool.kn hk_), (fun _ _ hk_ => (hS7714q.bring 1 rfl rfl).pool.kn hk_), trivial⟩ (fun _ _ _ h_ => h_) (fun a7881q h7882q => ?_)
                        clear h7880q a7879q
                        refine WH.done (by kernel_rfl) ?_
                        refine wp_then h7882q rfl ?_
                        refine wp_seq ?_
                        refine WL.start ?_
                        refine WL.block (c := 1) (m' := 1) h7882q rfl [(6, .bool false)] (by kernel_rfl) (fun a7883q h7884q => ?_)
                        clear h7882q a7881q
                        refine WL.done (by kernel_rfl) ?_
                        refine wp_ret ?_
                        have hS7885q : St b w0 W7370q.drew R (M7388q :: M7376q :: M7378q :: [(g6328q, .cells ([.int .i64 ((gt z38 p2 x6295q).f0), .slice A6321q ((gt z38 p2 x6295q).f1).length c6322q, .int .i64 ((gt z38 p2 x6295q).f2)] : List Value).toArray 38 (0, 0))] :: Fs) := hS7714q.drop_
                        have hS7886q : St b w0 W7370q.drew R (M7376q :: M7378q :: [(g6328q, .cells ([.int .i64 ((gt z38 p2 x6295q).f0), .slice A6321q ((gt z38 p2 x6295q).f1).length c6322q, .int .i64 ((gt z38 p2 x6295q).f2)] : List Value).toArray 38 (0, 0))] :: Fs) := hS7885q.drop_
                        have hS7887q : St b w0 W7370q.drew R (M7378q :: [(g6328q, .cells ([.int .i64 ((gt z38 p2 x6295q).f0), .slice A6321q ((gt z38 p2 x6295q).f1).length c6322q, .int .i64 ((gt z38 p2 x6295q).f2)] : List Value).toArray 38 (0, 0))] :: Fs) := hS7886q.drop_
                        have hS7888q : St b w0 W7370q.drew R ([(g6328q, .cells ([.int .i64 ((gt z38 p2 x6295q).f0), .slice A6321q ((gt z38 p2 x6295q).f1).length c6322q, .int .i64 ((gt z38 p2 x6295q).f2)] : List Value).toArray 38 (0, 0))] :: Fs) := hS7887q.drop_
                        have hS7889q : St b w0 W7370q.drew R (Fs) := hS7888q.drop_
                        obtain rfl := Option.some.inj H
                        repeat (first | refine then_ret ?_ | refine inBlock_ret ?_ | refine inBlock_go ?_)
                        refine body_ret (v := .bool false) h7884q (by kernel_rfl) (by kernel_rfl) ?_
                        exact ⟨rfl, hS7889q⟩
                    · rw [if_neg c7790q] at H
                      cases H
                  · rw [if_neg c7781q] at H
                    have hb_ : r7368q = false := (Bool.eq_false_iff.2 c7781q)
                    try rw [hb_] at h7780q
                    clear hb_
                    refine WH.skip 9 (listed' := #[true, true, true, true, true, true, true, true, true, true, false, false, false, false, false, false, false, false, false, false, false, false, false, false, false, false, false]) h7780q rfl rfl (by kernel_rfl) rfl rfl ⟨(hS7714q.cell (i := 0) rfl), (fun _ _ hk_ => (hS7714q.bring 2 rfl rfl).pool.kn hk_), (fun _ _ hk_ => (hS7714q.bring 1 rfl rfl).pool.kn hk_), trivial⟩ (fun _ _ _ h_ => h_) (fun a7890q h7891q => ?_)
                    clear h7780q a7779q
                    refine WH.skip 10 (listed' := #[true, true, true, true, true, true, true, true, true, true, true, false, false, false, false, false, false, false, false, false, false, false, false, false, false, false, false]) h7891q rfl rfl (by kernel_rfl) rfl rfl ⟨(hS7714q.cell (i := 0) rfl), (fun _ _ hk_ => (hS7714q.bring 2 rfl rfl).pool.kn hk_), (fun _ _ hk_ => (hS7714q.bring 1 rfl rfl).pool.kn hk_), trivial⟩ (fun _ _ _ h_ => h_) (fun a7892q h7893q => ?_)
                    clear h7891q a7890q
                    refine WH.skip 11 (listed' := #[true, true, true, true, true, true, true, true, true, true, true, true, false, false, false, false, false, false, false, false, false, false, false, false, false, false, false]) h7893q rfl rfl (by kernel_rfl) rfl rfl ⟨(hS7714q.cell (i := 0) rfl), (fun _ _ hk_ => (hS7714q.bring 2 rfl rfl).pool.kn hk_), (fun _ _ hk_ => (hS7714q.bring 1 rfl rfl).pool.kn hk_), trivial⟩ (fun _ _ _ h_ => h_) (fun a7894q h7895q => ?_)
                    clear h7893q a7892q
                    refine WH.skip 12 (listed' := #[true, true, true, true, true, true, true, true, true, true, true, true, true, false, false, false, false, false, false, false, false, false, false, false, false, false, false]) h7895q rfl rfl (by kernel_rfl) rfl rfl ⟨(hS7714q.cell (i := 0) rfl), (fun _ _ hk_ => (hS7714q.bring 2 rfl rfl).pool.kn hk_), (fun _ _ hk_ => (hS7714q.bring 1 rfl rfl).pool.kn hk_), trivial⟩ (fun _ _ _ h_ => h_) (fun a7896q h7897q => ?_)
                    clear h7895q a7894q
                    refine WH.skip 13 (listed' := #[true, true, true, true, true, true, true, true, true, true, true, true, true, true, false, false, false, false, false, false, false, false, false, false, false, false, false]) h7897q rfl rfl (by kernel_rfl) rfl rfl ⟨(hS7714q.cell (i := 0) rfl), (fun _ _ hk_ => (hS7714q.bring 2 rfl rfl).pool.kn hk_), (fun _ _ hk_ => (hS7714q.bring 1 rfl rfl).pool.kn hk_), trivial⟩ (fun _ _ _ h_ => h_) (fun a7898q h7899q => ?_)
                    clear h7897q a7896q
                    refine WH.skip 14 (listed' := #[true, true, true, true, true, true, true, true, true, true, true, true, true, true, true, false, false, false, false, false, false, false, false, false, false, false, false]) h7899q rfl rfl (by kernel_rfl) rfl rfl ⟨(hS7714q.cell (i := 0) rfl), (fun _ _ hk_ => (hS7714q.bring 2 rfl rfl).pool.kn hk_), (fun _ _ hk_ => (hS7714q.bring 1 rfl rfl).pool.kn hk_), trivial⟩ (fun _ _ _ h_ => h_) (fun a7900q h7901q => ?_)
                    clear h7899q a7898q
                    refine WH.skip 15 (listed' := #[true, true, true, true, true, true, true, true, true, true, true, true, true, true, true, true, false, false, false, false, false, false, false, false, false, false, false]) h7901q rfl rfl (by kernel_rfl) rfl rfl ⟨(hS7714q.cell (i := 0) rfl), (fun _ _ hk_ => (hS7714q.bring 2 rfl rfl).pool.kn hk_), (fun _ _ hk_ => (hS7714q.bring 1 rfl rfl).pool.kn hk_), trivial⟩ (fun _ _ _ h_ => h_) (fun a7902q h7903q => ?_)
                    clear h7901q a7900q
                    refine WH.take 16 (listed' := #[true, true, true, true, true, true, true, true, true, true, true, true, true, true, true, true, true, false, false, false, false, false, false, false, false, false, false]) h7903q rfl rfl (by kernel_rfl) rfl rfl (.bool false) (fun _ _ => by kernel_rfl) ⟨(hS7714q.cell (i := 0) rfl), (fun _ _ hk_ => (hS7714q.bring 2 rfl rfl).pool.kn hk_), (fun _ _ hk_ => (hS7714q.bring 1 rfl rfl).pool.kn hk_), trivial⟩ (fun _ _ _ h_ => h_) (fun a7904q h7905q => ?_)
                    clear h7903q a7902q
                    refine WH.take 17 (listed' := #[true, true, true, true, true, true, true, true, true, true, true, true, true, true, true, true, true, true, false, false, false, false, false, false, false, false, false]) h7905q rfl rfl (by kernel_rfl) rfl rfl (.bool false) (fun _ _ => by kernel_rfl) ⟨(hS7714q.cell (i := 0) rfl), (fun _ _ hk_ => (hS7714q.bring 2 rfl rfl).pool.kn hk_), (fun _ _ hk_ => (hS7714q.bring 1 rfl rfl).pool.kn hk_), trivial⟩ (fun _ _ _ h_ => h_) (fun a7906q h7907q => ?_)
                    clear h7905q a7904q
                    refine WH.take 18 (listed' := #[true, true, true, true, true, true, true, true, true, true, true, true, true, true, true, true, true, true, true, false, false, false, false, false, false, false, false]) h7907q rfl rfl (by kernel_rfl) rfl rfl (.bool false) (fun _ _ => by kernel_rfl) ⟨(hS7714q.cell (i := 0) rfl), (fun _ _ hk_ => (hS7714q.bring 2 rfl rfl).pool.kn hk_), (fun _ _ hk_ => (hS7714q.bring 1 rfl rfl).pool.kn hk_), trivial⟩ (fun _ _ _ h_ => h_) (fun a7908q h7909q => ?_)
                    clear h7907q a7906q
                    refine WH.take 19 (listed' := #[true, true, true, true, true, true, true, true, true, true, true, true, true, true, true, true, true, true, true, true, false, false, false, false, false, false, false]) h7909q rfl rfl (by kernel_rfl) rfl rfl (.bool false) (fun _ _ => by kernel_rfl) ⟨(hS7714q.cell (i := 0) rfl), (fun _ _ hk_ => (hS7714q.bring 2 rfl rfl).pool.kn hk_), (fun _ _ hk_ => (hS7714q.bring 1 rfl rfl).pool.kn hk_), trivial⟩ (fun _ _ _ h_ => h_) (fun a7910q h7911q => ?_)
                    clear h7909q a7908q
                    refine WH.take 20 (listed' := #[true, true, true, true, true, true, true, true, true, true, true, true, true, true, true, true, true, true, true, true, true, false, false, false, false, false, false]) h7911q rfl rfl (by kernel_rfl) rfl rfl (.bool true) (fun _ _ => by kernel_rfl) ⟨(hS7714q.cell (i := 0) rfl), (fun _ _ hk_ => (hS7714q.bring 2 rfl rfl).pool.kn hk_), (fun _ _ hk_ => (hS7714q.bring 1 rfl rfl).pool.kn hk_), trivial⟩ (fun _ _ _ h_ => h_) (fun a7912q h7913q => ?_)
                    clear h7911q a7910q
                    refine WH.take 21 (listed' := #[true, true, true, true, true, true, true, true, true, true, true, true, true, true, true, true, true, true, true, true, true, true, false, false, false, false, false]) h7913q rfl rfl (by kernel_rfl) rfl rfl (.bool true) (fun _ _ => by kernel_rfl) ⟨(hS7714q.cell (i := 0) rfl), (fun _ _ hk_ => (hS7714q.bring 2 rfl rfl).pool.kn hk_), (fun _ _ hk_ => (hS7714q.bring 1 rfl rfl).pool.kn hk_), trivial⟩ (fun _ _ _ h_ => h_) (fun a7914q h7915q => ?_)
                    clear h7913q a7912q
                    refine WH.take 22 (listed' := #[true, true, true, true, true, true, true, true, true, true, true, true, true, true, true, true, true, true, true, true, true, true, true, false, false, false, false]) h7915q rfl rfl (by kernel_rfl) rfl rfl (.slice A7381q r7367q.length c7382q) (fun _ _ => by kernel_rfl) ⟨(hS7714q.cell (i := 0) rfl), (fun _ _ hk_ => (hS7714q.bring 2 rfl rfl).pool.kn hk_), (fun _ _ hk_ => (hS7714q.bring 1 rfl rfl).pool.kn hk_), trivial⟩ (fun _ _ _ h_ => h_) (fun a7916q h7917q => ?_)
                    clear h7915q a7914q
                    refine WH.take 23 (listed' := #[true, true, true, true, true, true, true, true, true, true, true, true, true, true, true, true, true, true, true, true, true, true, true, true, false, false, false]) h7917q rfl rfl (by kernel_rfl) rfl rfl (.int .i64 (r7367q.length : Int)) (fun _ _ => by kernel_rfl) ⟨(hS7714q.cell (i := 0) rfl), (fun _ _ hk_ => (hS7714q.bring 2 rfl rfl).pool.kn hk_), (fun _ _ hk_ => (hS7714q.bring 1 rfl rfl).pool.kn hk_), trivial⟩ (fun _ _ _ h_ => h_) (fun a7918q h7919q => ?_)
                    clear h7917q a7916q
                    refine WH.take 24 (listed' := #[true, true, true, true, true, true, true, true, true, true, true, true, true, true, true, true, true, true, true, true, true, true, true, true, true, false, false]) h7919q rfl rfl (by kernel_rfl) rfl rfl (.bool (!decide ((r7367q.length : Int) = 0))) (fun _ _ => by kernel_rfl) ⟨(hS7714q.cell (i := 0) rfl), (fun _ _ hk_ => (hS7714q.bring 2 rfl rfl).pool.kn hk_), (fun _ _ hk_ => (hS7714q.bring 1 rfl rfl).pool.kn hk_), trivial⟩ (fun _ _ _ h_ => h_) (fun a7920q h7921q => ?_)
                    clear h7919q a7918q
                    refine WH.take 25 (listed' := #[true, true, true, true, true, true, true, true, true, true, true, true, true, true, true, true, true, true, true, true, true, true, true, true, true, true, false]) h7921q rfl rfl (by kernel_rfl) rfl rfl (.bool (!decide ((r7367q.length : Int) = 0))) (fun _ _ => by kernel_rfl) ⟨(hS7714q.cell (i := 0) rfl), (fun _ _ hk_ => (hS7714q.bring 2 rfl rfl).pool.kn hk_), (fun _ _ hk_ => (hS7714q.bring 1 rfl rfl).pool.kn hk_), trivial⟩ (fun _ _ _ h_ => h_) (fun a7922q h7923q => ?_)
                    clear h7921q a7920q
                    refine WH.take 26 (listed' := #[true, true, true, true, true, true, true, true, true, true, true, true, true, true, true, true, true, true, true, true, true, true, true, true, true, true, true]) h7923q rfl rfl (by kernel_rfl) rfl rfl (.bool (!decide ((r7367q.length : Int) = 0))) (fun _ _ => by kernel_rfl) ⟨(hS7714q.cell (i := 0) rfl), (fun _ _ hk_ => (hS7714q.bring 2 rfl rfl).pool.kn hk_), (fun _ _ hk_ => (hS7714q.bring 1 rfl rfl).pool.kn hk_), trivial⟩ (fun _ _ _ h_ => h_) (fun a7924q h7925q => ?_)
                    clear h7923q a7922q
                    refine WH.done (by kernel_rfl) ?_
                    by_cases c7926q : (r7367q.length : Int) = 0
                    · rw [if_pos c7926q] at H
                      have hb_ : (decide ((r7367q.length : Int) = 0)) = true := decide_eq_true c7926q
                      try rw [hb_] at h7925q
                      clear hb_
                      refine wp_else h7925q rfl ?_
                      refine wp_skip ?_
                      refine wp_seq ?_
                      refine WL.start ?_
                      refine WL.block (c := 1) (m' := 1) h7925q rfl [(99, .bool false)] (by kernel_rfl) (fun a7927q h7928q => ?_)
                      clear h7925q a7924q
                      refine WL.done (by kernel_rfl) ?_
                      refine wp_else h7928q rfl ?_
                      refine wp_skip ?_
                      have hS7929q : St b w0 W7370q.drew R (M7388q :: [(g6276q, .cells ([.slice A7393q x6292q.f0.length c7394q, .int .i64 x6292q.f1, .int .i64 x6292q.f2] : List Value).toArray 36 (0, 0))] :: M7376q :: M7378q :: [(g6328q, .cells ([.int .i64 ((gt z38 p2 x6295q).f0), .slice A6321q ((gt z38 p2 x6295q).f1).length c6322q, .int .i64 ((gt z38 p2 x6295q).f2)] : List Value).toArray 38 (0, 0))] :: Fs) := hS7714q.bring 1 rfl rfl
                      have hS7930q : St b w0 W7370q.drew R ([(g6276q, .cells ([.slice A7393q x6292q.f0.length c7394q, .int .i64 x6292q.f1, .int .i64 x6292q.f2] : List Value).toArray 36 (0, 0))] :: M7388q :: M7376q :: M7378q :: [(g6328q, .cells ([.int .i64 ((gt z38 p2 x6295q).f0), .slice A6321q ((gt z38 p2 x6295q).f1).length c6322q, .int .i64 ((gt z38 p2 x6295q).f2)] : List Value).toArray 38 (0, 0))] :: Fs) := hS7929q.bring 1 rfl rfl
                      obtain ⟨M7932q, hr7931q, hM_⟩ := k36qmk (b := b) (w0 := w0) (R := R) (x := (⟨x6292q.f0, x6292q.f1, x6292q.f2⟩ : S36)) (gvf0 := hr7392q)
                      have hp7933q : Ptr k36 36 b w0 R (.pointer (some ⟨g6276q, 0, none⟩)) (⟨x6292q.f0, x6292q.f1, x6292q.f2⟩ : S36) ((g6276q, .cells ([.slice A7393q x6292q.f0.length c7394q, .int .i64 x6292q.f1, .int .i64 x6292q.f2] : List Value).toArray 36 (0, 0)) :: M7932q) := ⟨_, _, _, rfl, rfl, hr7931q⟩
                      rw [hM_] at hp7933q
                      have hS7935q : St b w0 W7370q.drew R (((g6276q, .cells ([.slice A7393q x6292q.f0.length c7394q, .int .i64 x6292q.f1, .int .i64 x6292q.f2] : List Value).toArray 36 (0, 0)) :: (M7388q)) :: M7376q :: M7378q :: [(g6328q, .cells ([.int .i64 ((gt z38 p2 x6295q).f0), .slice A6321q ((gt z38 p2 x6295q).f1).length c6322q, .int .i64 ((gt z38 p2 x6295q).f2)] : List Value).toArray 38 (0, 0))] :: Fs) := hS7930q.assoc (by simp only [List.flatten_cons, List.append_assoc, List.cons_append, List.nil_append, List.append_nil])
                      obtain ⟨M7936q, hM_⟩ : ∃ y : Frag, y = ((g6276q, .cells ([.slice A7393q x6292q.f0.length c7394q, .int .i64 x6292q.f1, .int .i64 x6292q.f2] : List Value).toArray 36 (0, 0)) :: (M7388q)) := ⟨_, rfl⟩
                      rw [← hM_] at hp7933q hS7935q
                      clear hM_
                      have hS7937q : St b w0 W7370q.drew R (M7376q :: M7936q :: M7378q :: [(g6328q, .cells ([.int .i64 ((gt z38 p2 x6295q).f0), .slice A6321q ((gt z38 p2 x6295q).f1).length c6322q, .int .i64 ((gt z38 p2 x6295q).f2)] : List Value).toArray 38 (0, 0))] :: Fs) := hS7935q.bring 1 rfl rfl
                      have hS7938q : St b w0 W7370q.drew R (M7936q :: M7378q :: [(g6328q, .cells ([.int .i64 ((gt z38 p2 x6295q).f0), .slice A6321q ((gt z38 p2 x6295q).f1).length c6322q, .int .i64 ((gt z38 p2 x6295q).f2)] : List Value).toArray 38 (0, 0))] :: Fs) := hS7937q.drop_
                      have hS7939q : St b w0 W7370q.drew R ([(g6328q, .cells ([.int .i64 ((gt z38 p2 x6295q).f0), .slice A6321q ((gt z38 p2 x6295q).f1).length c6322q, .int .i64 ((gt z38 p2 x6295q).f2)] : List Value).toArray 38 (0, 0))] :: M7936q :: M7378q :: Fs) := hS7938q.bring 2 rfl rfl
                      have hS7940q : St b w0 W7370q.drew R (M7936q :: M7378q :: Fs) := hS7939q.drop_
                      have hS7941q : St b w0 W7370q.drew R (M7378q :: M7936q :: Fs) := hS7940q.bring 1 rfl rfl
                      exact ⟨k6303q, r7369q, M7378q, (⟨x6292q.f0, x6292q.f1, x6292q.f2⟩ : S36), M7936q, h7928q.keep ⟨rfl, rfl, rfl, rfl, rfl, trivial⟩, ⟨H⟩, ⟨by omega⟩, ⟨hS7941q⟩, ⟨hr7379q⟩, ⟨hp7933q⟩⟩
                    · rw [if_neg c7926q] at H
                      have hb_ : (decide ((r7367q.length : Int) = 0)) = false := decide_eq_false c7926q
                      try rw [hb_] at h7925q
                      clear hb_
                      refine wp_then h7925q rfl ?_
                      refine wp_seq ?_
                      refine WL.start ?_
                      refine WL.block (c := 1) (m' := 1) h7925q rfl [(6, .bool false)] (by kernel_rfl) (fun a7942q h7943q => ?_)
                      clear h7925q a7924q
                      refine WL.done (by kernel_rfl) ?_
                      refine wp_ret ?_
                      have hS7944q : St b w0 W7370q.drew R (M7388q :: M7376q :: M7378q :: [(g6328q, .cells ([.int .i64 ((gt z38 p2 x6295q).f0), .slice A6321q ((gt z38 p2 x6295q).f1).length c6322q, .int .i64 ((gt z38 p2 x6295q).f2)] : List Value).toArray 38 (0, 0))] :: Fs) := hS7714q.drop_
                      have hS7945q : St b w0 W7370q.drew R (M7376q :: M7378q :: [(g6328q, .cells ([.int .i64 ((gt z38 p2 x6295q).f0), .slice A6321q ((gt z38 p2 x6295q).f1).length c6322q, .int .i64 ((gt z38 p2 x6295q).f2)] : List Value).toArray 38 (0, 0))] :: Fs) := hS7944q.drop_
                      have hS7946q : St b w0 W7370q.drew R (M7378q :: [(g6328q, .cells ([.int .i64 ((gt z38 p2 x6295q).f0), .slice A6321q ((gt z38 p2 x6295q).f1).length c6322q, .int .i64 ((gt z38 p2 x6295q).f2)] : List Value).toArray 38 (0, 0))] :: Fs) := hS7945q.drop_
                      have hS7947q : St b w0 W7370q.drew R ([(g6328q, .cells ([.int .i64 ((gt z38 p2 x6295q).f0), .slice A6321q ((gt z38 p2 x6295q).f1).length c6322q, .int .i64 ((gt z38 p2 x6295q).f2)] : List Value).toArray 38 (0, 0))] :: Fs) := hS7946q.drop_
                      have hS7948q : St b w0 W7370q.drew R (Fs) := hS7947q.drop_
                      obtain rfl := Option.some.inj H
                      repeat (first | refine then_ret ?_ | refine inBlock_ret ?_ | refine inBlock_go ?_)
                      refine body_ret (v := .bool false) h7943q (by kernel_rfl) (by kernel_rfl) ?_
                      exact ⟨rfl, hS7948q⟩
              · rw [if_neg c7362q] at H
                have hb_ : (decide (((gt z38 p2 x6295q).f0) = 1)) = false := decide_eq_false c7362q
                try rw [hb_] at h7361q
                clear hb_
                refine wp_else h7361q rfl ?_
                refine wp_seq ?_
                refine WL.start ?_
                refine WL.block (c := 2) (m' := 2) h7361q rfl [(104, .bool (decide (((gt z38 p2 x6295q).f0) = 2))), (105, .bool (decide (((gt z38 p2 x6295q).f0) = 2)))] (by kernel_rfl) (fun a7949q h7950q => ?_)
                clear h7361q a7360q
                refine WL.done (by kernel_rfl) ?_
                by_cases c7951q : ((gt z38 p2 x6295q).f0) = 2
                · rw [if_pos c7951q] at H
                  have hb_ : (decide (((gt z38 p2 x6295q).f0) = 2)) = true := decide_eq_true c7951q
                  try rw [hb_] at h7950q
                  clear hb_
                  refine wp_then h7950q rfl ?_
                  refine wp_seq ?_
                  have hS7952q : St b w0 W6332q R (M6293q :: [(g6328q, .cells ([.int .i64 ((gt z38 p2 x6295q).f0), .slice A6321q ((gt z38 p2 x6295q).f1).length c6322q, .int .i64 ((gt z38 p2 x6295q).f2)] : List Value).toArray 38 (0, 0))] :: M6290q :: Fs) := hS6333q.bring 2 rfl rfl
                  obtain ⟨g7953q, cs7954q, M7955q, hv_, hM_, hr7956q⟩ := hr6294q
                  obtain ⟨v7957q, M7958q, rfl, hM2q, hr7959q⟩ := k36qrep hr7956q
                  subst hM2q
                  subst hM_
                  have hg_ : g6276q = g7953q := by simpa using hv_
                  subst hg_
                  clear hv_
                  replace hr7959q : Row kStr 9 b w0 R v7957q x6292q.f0 M7955q := hr7959q
                  obtain ⟨A7960q, c7961q, rfl⟩ := hr7959q.form
                  have hS7962q : St b w0 W6332q R ([(g6276q, .cells ([.slice A7960q x6292q.f0.length c7961q, .int .i64 x6292q.f1, .int .i64 x6292q.f2] : List Value).toArray 36 (0, 0))] :: M7955q :: [(g6328q, .cells ([.int .i64 ((gt z38 p2 x6295q).f0), .slice A6321q ((gt z38 p2 x6295q).f1).length c6322q, .int .i64 ((gt z38 p2 x6295q).f2)] : List Value).toArray 38 (0, 0))] :: M6290q :: Fs) := hS7952q.assoc (by simp only [List.flatten_cons, List.append_assoc, List.cons_append, List.nil_append, List.append_nil])
                  refine WH.start (fun w_ => (w_.cell? ⟨g6328q, 2, none⟩ = some (.int .i64 ((gt z38 p2 x6295q).f2))) ∧ (∀ j_ u_, ([.slice A7960q x6292q.f0.length c7961q, .int .i64 x6292q.f1, .int .i64 x6292q.f2] : List Value)[j_]? = some u_ → w_.cell? ((⟨g6276q, 0, none⟩ : Addr).add j_) = some u_) ∧ True) (by kernel_rfl) #[false, false, false, false, false, false, false, false, false, false] 10 rfl rfl ?_
                  have hS8037q := hS7962q.drew
                  refine WH.take 0 (listed' := #[true, false, false, false, false, false, false, false, false, false]) h7950q rfl rfl (by kernel_rfl) rfl rfl (v6265q) (fun _ _ => by kernel_rfl) ⟨((hS8037q.bring 2 rfl rfl).cell (i := 2) rfl), (hS8037q.cells (vs := ([.slice A7960q x6292q.f0.length c7961q, .int .i64 x6292q.f1, .int .i64 x6292q.f2] : List Value)) rfl), trivial⟩ (fun _ _ _ h_ => h_) (fun a8038q h8039q => ?_)
                  clear h7950q a7949q
                  refine WH.take 1 (listed' := #[true, true, false, false, false, false, false, false, false, false]) h8039q rfl rfl (by kernel_rfl) rfl rfl (.pointer (some ⟨g6328q, 2, none⟩)) (fun _ _ => by kernel_rfl) ⟨((hS8037q.bring 2 rfl rfl).cell (i := 2) rfl), (hS8037q.cells (vs := ([.slice A7960q x6292q.f0.length c7961q, .int .i64 x6292q.f1, .int .i64 x6292q.f2] : List Value)) rfl), trivial⟩ (fun _ _ _ h_ => h_) (fun a8040q h8041q => ?_)
                  clear h8039q a8038q
                  refine WH.take 5 (listed' := #[true, true, false, false, false, true, false, false, false, false]) h8041q rfl rfl (by kernel_rfl) rfl rfl (.pointer (some ⟨g6328q, 2, none⟩)) (fun _ _ => by kernel_rfl) ⟨((hS8037q.bring 2 rfl rfl).cell (i := 2) rfl), (hS8037q.cells (vs := ([.slice A7960q x6292q.f0.length c7961q, .int .i64 x6292q.f1, .int .i64 x6292q.f2] : List Value)) rfl), trivial⟩ (fun _ _ _ h_ => h_) (fun a8042q h8043q => ?_)
                  clear h8041q a8040q
                  refine WH.take 2 (listed' := #[true, true, true, false, false, true, false, false, false, false]) h8043q rfl rfl (by kernel_rfl) rfl rfl (.int .i64 ((gt z38 p2 x6295q).f2)) (fun w_ hs_ => (run_load1 rfl rfl Try.underlying3 rfl hs_.1)) ⟨((hS8037q.bring 2 rfl rfl).cell (i := 2) rfl), (hS8037q.cells (vs := ([.slice A7960q x6292q.f0.length c7961q, .int .i64 x6292q.f1, .int .i64 x6292q.f2] : List Value)) rfl), trivial⟩ (fun _ _ _ h_ => h_) (fun a8044q h8045q => ?_)
                  clear h8043q a8042q
                  refine WH.take 4 (listed' := #[true, true, true, false, true, true, false, false, false, false]) h8045q rfl rfl (by kernel_rfl) rfl rfl (.agg #[.slice A7960q x6292q.f0.length c7961q, .int .i64 x6292q.f1, .int .i64 x6292q.f2]) (fun w_ hs_ => (run_loadN rfl rfl Try.underlying36 rfl (cs := ([.slice A7960q x6292q.f0.length c7961q, .int .i64 x6292q.f1, .int .i64 x6292q.f2] : List Value)) (by kernel_rfl) hs_.2.1)) ⟨((hS8037q.bring 2 rfl rfl).cell (i := 2) rfl), (hS8037q.cells (vs := ([.slice A7960q x6292q.f0.length c7961q, .int .i64 x6292q.f1, .int .i64 x6292q.f2] : List Value)) rfl), trivial⟩ (fun _ _ _ h_ => h_) (fun a8046q h8047q => ?_)
                  clear h8045q a8044q
                  refine WH.take 6 (listed' := #[true, true, true, false, true, true, true, false, false, false]) h8047q rfl rfl (by kernel_rfl) rfl rfl (.int .i64 ((gt z38 p2 x6295q).f2)) (fun w_ hs_ => (run_load1 rfl rfl Try.underlying3 rfl hs_.1)) ⟨((hS8037q.bring 2 rfl rfl).cell (i := 2) rfl), (hS8037q.cells (vs := ([.slice A7960q x6292q.f0.length c7961q, .int .i64 x6292q.f1, .int .i64 x6292q.f2] : List Value)) rfl), trivial⟩ (fun _ _ _ h_ => h_) (fun a8048q h8049q => ?_)
                  clear h8047q a8046q
                  refine WH.take 7 (listed' := #[true, true, true, false, true, true, true, true, false, false]) h8049q rfl rfl (by kernel_rfl) rfl rfl (.int .i64 (mxI 0 ((gt z38 p2 x6295q).f2))) (fun _ _ => by kernel_rfl) ⟨((hS8037q.bring 2 rfl rfl).cell (i := 2) rfl), (hS8037q.cells (vs := ([.slice A7960q x6292q.f0.length c7961q, .int .i64 x6292q.f1, .int .i64 x6292q.f2] : List Value)) rfl), trivial⟩ (fun _ _ _ h_ => h_) (fun a8050q h8051q => ?_)
                  clear h8049q a8048q
                  have hS8052q : St b w0 W6332q.drew R (M6290q :: [(g6276q, .cells ([.slice A7960q x6292q.f0.length c7961q, .int .i64 x6292q.f1, .int .i64 x6292q.f2] : List Value).toArray 36 (0, 0))] :: M7955q :: [(g6328q, .cells ([.int .i64 ((gt z38 p2 x6295q).f0), .slice A6321q ((gt z38 p2 x6295q).f1).length c6322q, .int .i64 ((gt z38 p2 x6295q).f2)] : List Value).toArray 38 (0, 0))] :: Fs) := hS8037q.bring 3 rfl rfl
                  obtain ⟨r8054q, A8053q, H⟩ := bind1 H
                  refine WH.op 3 (listed' := #[true, true, true, true, true, true, true, true, false, false]) h8051q rfl (by kernel_rfl) rfl rfl ?_
                  refine owp_call [v6265q, .int .i64 ((gt z38 p2 x6295q).f2)] h8051q rfl (by kernel_rfl) rfl Try.func8 (by kernel_rfl) rfl (by kernel_rfl) (queue_Queue_Fits.calls hr6291q A8053q hS8052q) (fun e8056q W8055q hp8057q => ?_)
                  obtain ⟨M8060q, rfl, hr8061q, hS8062q⟩ := hp8057q
                  refine ⟨_, rfl, fun a8058q h8059q => ?_⟩
                  clear h8051q a8050q
                  refine ⟨⟨((hS8062q.bring 3 rfl rfl).cell (i := 2) rfl), ((hS8062q.bring 1 rfl rfl).cells (vs := ([.slice A7960q x6292q.f0.length c7961q, .int .i64 x6292q.f1, .int .i64 x6292q.f2] : List Value)) rfl), trivial⟩, ?_⟩
                  have hS8063q : St b w0 W8055q R (M7955q :: M8060q :: [(g6276q, .cells ([.slice A7960q x6292q.f0.length c7961q, .int .i64 x6292q.f1, .int .i64 x6292q.f2] : List Value).toArray 36 (0, 0))] :: [(g6328q, .cells ([.int .i64 ((gt z38 p2 x6295q).f0), .slice A6321q ((gt z38 p2 x6295q).f1).length c6322q, .int .i64 ((gt z38 p2 x6295q).f2)] : List Value).toArray 38 (0, 0))] :: Fs) := hS8062q.bring 2 rfl rfl
                  obtain ⟨r8065q, A8064q, H⟩ := bind1 H
                  refine WH.op 8 (listed' := #[true, true, true, true, true, true, true, true, true, false]) h8059q rfl (by kernel_rfl) rfl rfl ?_
                  refine owp_call [.agg #[.slice A7960q x6292q.f0.length c7961q, .int .i64 x6292q.f1, .int .i64 x6292q.f2], .int .i64 (mxI 0 ((gt z38 p2 x6295q).f2))] h8059q rfl (by kernel_rfl) rfl Try.func13 (by kernel_rfl) rfl (by kernel_rfl) (louverref23qQ_Fits.calls (p0 := (⟨x6292q.f0, x6292q.f1, x6292q.f2⟩ : S36)) k6303q hr7959q.rds A8064q (hS8063q.pool)) (fun e8067q W8066q hp8068q => ?_)
                  obtain ⟨rfl, hS8071q⟩ := hp8068q
                  have hS8072q : St b w0 W8066q R (M7955q :: M8060q :: [(g6276q, .cells ([.slice A7960q x6292q.f0.length c7961q, .int .i64 x6292q.f1, .int .i64 x6292q.f2] : List Value).toArray 36 (0, 0))] :: [(g6328q, .cells ([.int .i64 ((gt z38 p2 x6295q).f0), .slice A6321q ((gt z38 p2 x6295q).f1).length c6322q, .int .i64 ((gt z38 p2 x6295q).f2)] : List Value).toArray 38 (0, 0))] :: Fs) := hS8071q.unpool
                  refine ⟨_, rfl, fun a8069q h8070q => ?_⟩
                  clear h8059q a8058q
                  refine ⟨⟨((hS8072q.bring 3 rfl rfl).cell (i := 2) rfl), ((hS8072q.bring 2 rfl rfl).cells (vs := ([.slice A7960q x6292q.f0.length c7961q, .int .i64 x6292q.f1, .int .i64 x6292q.f2] : List Value)) rfl), trivial⟩, ?_⟩
                  refine WH.take 9 (listed' := #[true, true, true, true, true, true, true, true, true, true]) h8070q rfl rfl (by kernel_rfl) rfl rfl (.bool (r8054q != r8065q)) (fun _ _ => by kernel_rfl) ⟨((hS8072q.bring 3 rfl rfl).cell (i := 2) rfl), ((hS8072q.bring 2 rfl rfl).cells (vs := ([.slice A7960q x6292q.f0.length c7961q, .int .i64 x6292q.f1, .int .i64 x6292q.f2] : List Value)) rfl), trivial⟩ (fun _ _ _ h_ => h_) (fun a8073q h8074q => ?_)
                  clear h8070q a8069q
                  refine WH.done (by kernel_rfl) ?_
                  by_cases c8075q : (r8054q != r8065q) = true
                  · rw [if_pos c8075q] at H
                    have hb_ : (r8054q != r8065q) = true := c8075q
                    try rw [hb_] at h8074q
                    clear hb_
                    refine wp_then h8074q rfl ?_
                    refine wp_seq ?_
                    refine WL.start ?_
                    refine WL.block (c := 1) (m' := 1) h8074q rfl [(6, .bool false)] (by kernel_rfl) (fun a8076q h8077q => ?_)
                    clear h8074q a8073q
                    refine WL.done (by kernel_rfl) ?_
                    refine wp_ret ?_
                    have hS8078q : St b w0 W8066q R (M8060q :: [(g6276q, .cells ([.slice A7960q x6292q.f0.length c7961q, .int .i64 x6292q.f1, .int .i64 x6292q.f2] : List Value).toArray 36 (0, 0))] :: [(g6328q, .cells ([.int .i64 ((gt z38 p2 x6295q).f0), .slice A6321q ((gt z38 p2 x6295q).f1).length c6322q, .int .i64 ((gt z38 p2 x6295q).f2)] : List Value).toArray 38 (0, 0))] :: Fs) := hS8072q.drop_
                    have hS8079q : St b w0 W8066q R ([(g6276q, .cells ([.slice A7960q x6292q.f0.length c7961q, .int .i64 x6292q.f1, .int .i64 x6292q.f2] : List Value).toArray 36 (0, 0))] :: [(g6328q, .cells ([.int .i64 ((gt z38 p2 x6295q).f0), .slice A6321q ((gt z38 p2 x6295q).f1).length c6322q, .int .i64 ((gt z38 p2 x6295q).f2)] : List Value).toArray 38 (0, 0))] :: Fs) := hS8078q.drop_
                    have hS8080q : St b w0 W8066q R ([(g6328q, .cells ([.int .i64 ((gt z38 p2 x6295q).f0), .slice A6321q ((gt z38 p2 x6295q).f1).length c6322q, .int .i64 ((gt z38 p2 x6295q).f2)] : List Value).toArray 38 (0, 0))] :: Fs) := hS8079q.drop_
                    have hS8081q : St b w0 W8066q R (Fs) := hS8080q.drop_
                    obtain rfl := Option.some.inj H
                    repeat (first | refine then_ret ?_ | refine inBlock_ret ?_ | refine inBlock_go ?_)
                    refine body_ret (v := .bool false) h8077q (by kernel_rfl) (by kernel_rfl) ?_
                    exact ⟨rfl, hS8081q⟩
                  · rw [if_neg c8075q] at H
                    have hb_ : (r8054q != r8065q) = false := (Bool.eq_false_iff.2 c8075q)
                    try rw [hb_] at h8074q
                    clear hb_
                    refine wp_else h8074q rfl ?_
                    refine wp_skip ?_
                    have hS8082q : St b w0 W8066q R ([(g6276q, .cells ([.slice A7960q x6292q.f0.length c7961q, .int .i64 x6292q.f1, .int .i64 x6292q.f2] : List Value).toArray 36 (0, 0))] :: M7955q :: M8060q :: [(g6328q, .cells ([.int .i64 ((gt z38 p2 x6295q).f0), .slice A6321q ((gt z38 p2 x6295q).f1).length c6322q, .int .i64 ((gt z38 p2 x6295q).f2)] : List Value).toArray 38 (0, 0))] :: Fs) := hS8072q.bring 2 rfl rfl
                    obtain ⟨M8084q, hr8083q, hM_⟩ := k36qmk (b := b) (w0 := w0) (R := R) (x := (⟨x6292q.f0, x6292q.f1, x6292q.f2⟩ : S36)) (gvf0 := hr7959q)
                    have hp8085q : Ptr k36 36 b w0 R (.pointer (some ⟨g6276q, 0, none⟩)) (⟨x6292q.f0, x6292q.f1, x6292q.f2⟩ : S36) ((g6276q, .cells ([.slice A7960q x6292q.f0.length c7961q, .int .i64 x6292q.f1, .int .i64 x6292q.f2] : List Value).toArray 36 (0, 0)) :: M8084q) := ⟨_, _, _, rfl, rfl, hr8083q⟩
                    rw [hM_] at hp8085q
                    have hS8087q : St b w0 W8066q R (((g6276q, .cells ([.slice A7960q x6292q.f0.length c7961q, .int .i64 x6292q.f1, .int .i64 x6292q.f2] : List Value).toArray 36 (0, 0)) :: (M7955q)) :: M8060q :: [(g6328q, .cells ([.int .i64 ((gt z38 p2 x6295q).f0), .slice A6321q ((gt z38 p2 x6295q).f1).length c6322q, .int .i64 ((gt z38 p2 x6295q).f2)] : List Value).toArray 38 (0, 0))] :: Fs) := hS8082q.assoc (by simp only [List.flatten_cons, List.append_assoc, List.cons_append, List.nil_append, List.append_nil])
                    obtain ⟨M8088q, hM_⟩ : ∃ y : Frag, y = ((g6276q, .cells ([.slice A7960q x6292q.f0.length c7961q, .int .i64 x6292q.f1, .int .i64 x6292q.f2] : List Value).toArray 36 (0, 0)) :: (M7955q)) := ⟨_, rfl⟩
                    rw [← hM_] at hp8085q hS8087q
                    clear hM_
                    have hS8089q : St b w0 W8066q R ([(g6328q, .cells ([.int .i64 ((gt z38 p2 x6295q).f0), .slice A6321q ((gt z38 p2 x6295q).f1).length c6322q, .int .i64 ((gt z38 p2 x6295q).f2)] : List Value).toArray 38 (0, 0))] :: M8088q :: M8060q :: Fs) := hS8087q.bring 2 rfl rfl
                    have hS8090q : St b w0 W8066q R (M8088q :: M8060q :: Fs) := hS8089q.drop_
                    have hS8091q : St b w0 W8066q R (M8060q :: M8088q :: Fs) := hS8090q.bring 1 rfl rfl
                    exact ⟨k6303q, x6289q, M8060q, (⟨x6292q.f0, x6292q.f1, x6292q.f2⟩ : S36), M8088q, h8074q.keep ⟨rfl, rfl, rfl, rfl, rfl, trivial⟩, ⟨H⟩, ⟨by omega⟩, ⟨hS8091q⟩, ⟨hr8061q⟩, ⟨hp8085q⟩⟩
                · rw [if_neg c7951q] at H
                  have hb_ : (decide (((gt z38 p2 x6295q).f0) = 2)) = false := decide_eq_false c7951q
                  try rw [hb_] at h7950q
                  clear hb_
                  refine wp_else h7950q rfl ?_
                  refine wp_seq ?_
                  refine WL.start ?_
                  refine WL.block (c := 1) (m' := 1) h7950q rfl [(41, v6265q)] (by kernel_rfl) (fun a8092q h8093q => ?_)
                  clear h7950q a7949q
                  have hS8094q : St b w0 W6332q R (M6290q :: [(g6328q, .cells ([.int .i64 ((gt z38 p2 x6295q).f0), .slice A6321q ((gt z38 p2 x6295q).f1).length c6322q, .int .i64 ((gt z38 p2 x6295q).f2)] : List Value).toArray 38 (0, 0))] :: M6293q :: Fs) := hS6333q.bring 1 rfl rfl
                  obtain ⟨r8096q, A8095q, H⟩ := bind1 H
                  refine WL.op' (m := 1) h8093q rfl rfl ?_
                  refine owp_call [v6265q] h8093q rfl (by kernel_rfl) rfl Try.func14 (by kernel_rfl) rfl (by kernel_rfl) (queue_Queue_Clear.calls hr6291q A8095q hS8094q) (fun e8098q W8097q hp8099q => ?_)
                  obtain ⟨M8102q, rfl, hr8103q, hS8104q⟩ := hp8099q
                  refine ⟨_, rfl, fun a8100q h8101q => ?_⟩
                  clear h8093q a8092q
                  refine WL.done (by kernel_rfl) ?_
                  refine WL.start ?_
                  have hS8105q : St b w0 W8097q R (M6293q :: M8102q :: [(g6328q, .cells ([.int .i64 ((gt z38 p2 x6295q).f0), .slice A6321q ((gt z38 p2 x6295q).f1).length c6322q, .int .i64 ((gt z38 p2 x6295q).f2)] : List Value).toArray 38 (0, 0))] :: Fs) := hS8104q.bring 2 rfl rfl
                  obtain ⟨g8106q, cs8107q, M8108q, hv_, hM_, hr8109q⟩ := hr6294q
                  obtain ⟨v8110q, M8111q, rfl, hM2q, hr8112q⟩ := k36qrep hr8109q
                  subst hM2q
                  subst hM_
                  have hg_ : g6276q = g8106q := by simpa using hv_
                  subst hg_
                  clear hv_
                  replace hr8112q : Row kStr 9 b w0 R v8110q x6292q.f0 M8108q := hr8112q
                  obtain ⟨A8113q, c8114q, rfl⟩ := hr8112q.form
                  have hS8115q : St b w0 W8097q R ([(g6276q, .cells ([.slice A8113q x6292q.f0.length c8114q, .int .i64 x6292q.f1, .int .i64 x6292q.f2] : List Value).toArray 36 (0, 0))] :: M8108q :: M8102q :: [(g6328q, .cells ([.int .i64 ((gt z38 p2 x6295q).f0), .slice A6321q ((gt z38 p2 x6295q).f1).length c6322q, .int .i64 ((gt z38 p2 x6295q).f2)] : List Value).toArray 38 (0, 0))] :: Fs) := hS8105q.assoc (by simp only [List.flatten_cons, List.append_assoc, List.cons_append, List.nil_append, List.append_nil])
                  refine WL.block (c := 1) (m' := 1) h8101q rfl [(43, .pointer (some ⟨g6276q, 0, none⟩))] (by kernel_rfl) (fun a8116q h8117q => ?_)
                  clear h8101q a8100q
                  refine WL.op' (m := 1) h8117q rfl rfl ?_
                  refine owp_store (i := 0) (vs := ([.slice none 0 0] : List Value)) h8117q rfl (by kernel_rfl) rfl rfl rfl rfl (by simp [Value.oneCell']) (by kernel_rfl) hS8115q (by simp) (cs' := ([.slice none 0 0, .int .i64 x6292q.f1, .int .i64 x6292q.f2] : List Value)) rfl (fun a8118q W8120q h8119q hS8121q => ?_)
                  clear h8117q a8116q
                  refine WL.done (by kernel_rfl) ?_
                  obtain ⟨M8123q, hr8122q, hM_⟩ := k36qmk (b := b) (w0 := w0) (R := R) (x := (⟨([] : List (List UInt8)), x6292q.f1, x6292q.f2⟩ : S36)) (gvf0 := Row.nil)
                  have hp8124q : Ptr k36 36 b w0 R (.pointer (some ⟨g6276q, 0, none⟩)) (⟨([] : List (List UInt8)), x6292q.f1, x6292q.f2⟩ : S36) ((g6276q, .cells ([.slice none 0 0, .int .i64 x6292q.f1, .int .i64 x6292q.f2] : List Value).toArray 36 (0, 0)) :: M8123q) := ⟨_, _, _, rfl, rfl, hr8122q⟩
                  rw [hM_] at hp8124q
                  have hS8126q : St b w0 W8120q R (((g6276q, .cells ([.slice none 0 0, .int .i64 x6292q.f1, .int .i64 x6292q.f2] : List Value).toArray 36 (0, 0)) :: ([])) :: M8108q :: M8102q :: [(g6328q, .cells ([.int .i64 ((gt z38 p2 x6295q).f0), .slice A6321q ((gt z38 p2 x6295q).f1).length c6322q, .int .i64 ((gt z38 p2 x6295q).f2)] : List Value).toArray 38 (0, 0))] :: Fs) := hS8121q.assoc (by simp only [List.flatten_cons, List.append_assoc, List.cons_append, List.nil_append, List.append_nil])
                  obtain ⟨M8127q, hM_⟩ : ∃ y : Frag, y = ((g6276q, .cells ([.slice none 0 0, .int .i64 x6292q.f1, .int .i64 x6292q.f2] : List Value).toArray 36 (0, 0)) :: ([])) := ⟨_, rfl⟩
                  rw [← hM_] at hp8124q hS8126q
                  clear hM_
                  have hS8128q : St b w0 W8120q R (M8108q :: M8127q :: M8102q :: [(g6328q, .cells ([.int .i64 ((gt z38 p2 x6295q).f0), .slice A6321q ((gt z38 p2 x6295q).f1).length c6322q, .int .i64 ((gt z38 p2 x6295q).f2)] : List Value).toArray 38 (0, 0))] :: Fs) := hS8126q.bring 1 rfl rfl
                  have hS8129q : St b w0 W8120q R (M8127q :: M8102q :: [(g6328q, .cells ([.int .i64 ((gt z38 p2 x6295q).f0), .slice A6321q ((gt z38 p2 x6295q).f1).length c6322q, .int .i64 ((gt z38 p2 x6295q).f2)] : List Value).toArray 38 (0, 0))] :: Fs) := hS8128q.drop_
                  have hS8130q : St b w0 W8120q R ([(g6328q, .cells ([.int .i64 ((gt z38 p2 x6295q).f0), .slice A6321q ((gt z38 p2 x6295q).f1).length c6322q, .int .i64 ((gt z38 p2 x6295q).f2)] : List Value).toArray 38 (0, 0))] :: M8127q :: M8102q :: Fs) := hS8129q.bring 2 rfl rfl
                  have hS8131q : St b w0 W8120q R (M8127q :: M8102q :: Fs) := hS8130q.drop_
                  have hS8132q : St b w0 W8120q R (M8102q :: M8127q :: Fs) := hS8131q.bring 1 rfl rfl
                  exact ⟨k6303q, r8096q, M8102q, (⟨([] : List (List UInt8)), x6292q.f1, x6292q.f2⟩ : S36), M8127q, h8119q.keep ⟨rfl, rfl, rfl, rfl, rfl, trivial⟩, ⟨H⟩, ⟨by omega⟩, ⟨hS8132q⟩, ⟨hr8103q⟩, ⟨hp8124q⟩⟩
          · clear H hS6333q
            rintro a7210q W7211q ⟨k7213q, x7214q, M7215q, x7217q, M7218q, h7209q, ⟨H⟩, ⟨hkk7213q⟩, ⟨hS7212q⟩, ⟨hr7216q⟩, ⟨hr7219q⟩⟩
            obtain _ | k8133q := k7213q
            · exact absurd H (by simp [louverlaw23qQueuePlays.j1])
            simp only [louverlaw23qQueuePlays.j1] at H
            refine wp_seq ?_
            have hS8134q : St b w0 W7211q R (M7218q :: M7215q :: Fs) := hS7212q.bring 1 rfl rfl
            obtain ⟨g8135q, cs8136q, M8137q, hv_, hM_, hr8138q⟩ := hr7219q
            obtain ⟨v8139q, M8140q, rfl, hM2q, hr8141q⟩ := k36qrep hr8138q
            subst hM2q
            subst hM_
            have hg_ : g6276q = g8135q := by simpa using hv_
            subst hg_
            clear hv_
            replace hr8141q : Row kStr 9 b w0 R v8139q x7217q.f0 M8137q := hr8141q
            obtain ⟨A8142q, c8143q, rfl⟩ := hr8141q.form
            have hS8144q : St b w0 W7211q R ([(g6276q, .cells ([.slice A8142q x7217q.f0.length c8143q, .int .i64 x7217q.f1, .int .i64 x7217q.f2] : List Value).toArray 36 (0, 0))] :: M8137q :: M7215q :: Fs) := hS8134q.assoc (by simp only [List.flatten_cons, List.append_assoc, List.cons_append, List.nil_append, List.append_nil])
            refine WH.start (fun w_ => (w_.cell? ⟨g6276q, 0, none⟩ = some (.slice A8142q x7217q.f0.length c8143q)) ∧ (∀ j_ u_, ([.slice A8142q x7217q.f0.length c8143q, .int .i64 x7217q.f1, .int .i64 x7217q.f2] : List Value)[j_]? = some u_ → w_.cell? ((⟨g6276q, 0, none⟩ : Addr).add j_) = some u_) ∧ (w_.cell? ⟨g6276q, 1, none⟩ = some (.int .i64 x7217q.f1)) ∧ (w_.cell? ⟨g6276q, 2, none⟩ = some (.int .i64 x7217q.f2)) ∧ True) (by kernel_rfl) #[false, false, false, false, false, false, false, false, false, false, false, false, false, false, false, false, false, false, false, false, false, false, false, false, false, false, false] 27 rfl rfl ?_
            have hS8499q := hS8144q.drew
            refine WH.take 0 (listed' := #[true, false, false, false, false, false, false, false, false, false, false, false, false, false, false, false, false, false, false, false, false, false, false, false, false, false, false]) h7209q rfl rfl (by kernel_rfl) rfl rfl (v6265q) (fun _ _ => by kernel_rfl) ⟨(hS8499q.cell (i := 0) rfl), (hS8499q.cells (vs := ([.slice A8142q x7217q.f0.length c8143q, .int .i64 x7217q.f1, .int .i64 x7217q.f2] : List Value)) rfl), (hS8499q.cell (i := 1) rfl), (hS8499q.cell (i := 2) rfl), trivial⟩ (fun _ _ _ h_ => h_) (fun a8500q h8501q => ?_)
            clear h7209q a7210q
            refine WH.take 2 (listed' := #[true, false, true, false, false, false, false, false, false, false, false, false, false, false, false, false, false, false, false, false, false, false, false, false, false, false, false]) h8501q rfl rfl (by kernel_rfl) rfl rfl (.pointer (some ⟨g6276q, 0, none⟩)) (fun _ _ => by kernel_rfl) ⟨(hS8499q.cell (i := 0) rfl), (hS8499q.cells (vs := ([.slice A8142q x7217q.f0.length c8143q, .int .i64 x7217q.f1, .int .i64 x7217q.f2] : List Value)) rfl), (hS8499q.cell (i := 1) rfl), (hS8499q.cell (i := 2) rfl), trivial⟩ (fun _ _ _ h_ => h_) (fun a8502q h8503q => ?_)
            clear h8501q a8500q
            refine WH.take 3 (listed' := #[true, false, true, true, false, false, false, false, false, false, false, false, false, false, false, false, false, false, false, false, false, false, false, false, false, false, false]) h8503q rfl rfl (by kernel_rfl) rfl rfl (.slice A8142q x7217q.f0.length c8143q) (fun w_ hs_ => (run_load1 rfl rfl Try.underlying34 rfl hs_.1)) ⟨(hS8499q.cell (i := 0) rfl), (hS8499q.cells (vs := ([.slice A8142q x7217q.f0.length c8143q, .int .i64 x7217q.f1, .int .i64 x7217q.f2] : List Value)) rfl), (hS8499q.cell (i := 1) rfl), (hS8499q.cell (i := 2) rfl), trivial⟩ (fun _ _ _ h_ => h_) (fun a8504q h8505q => ?_)
            clear h8503q a8502q
            refine WH.take 4 (listed' := #[true, false, true, true, true, false, false, false, false, false, false, false, false, false, false, false, false, false, false, false, false, false, false, false, false, false, false]) h8505q rfl rfl (by kernel_rfl) rfl rfl (.int .i64 (x7217q.f0.length : Int)) (fun _ _ => by kernel_rfl) ⟨(hS8499q.cell (i := 0) rfl), (hS8499q.cells (vs := ([.slice A8142q x7217q.f0.length c8143q, .int .i64 x7217q.f1, .int .i64 x7217q.f2] : List Value)) rfl), (hS8499q.cell (i := 1) rfl), (hS8499q.cell (i := 2) rfl), trivial⟩ (fun _ _ _ h_ => h_) (fun a8506q h8507q => ?_)
            clear h8505q a8504q
            have hS8508q : St b w0 W7211q.drew R (M7215q :: [(g6276q, .cells ([.slice A8142q x7217q.f0.length c8143q, .int .i64 x7217q.f1, .int .i64 x7217q.f2] : List Value).toArray 36 (0, 0))] :: M8137q :: Fs) := hS8499q.bring 2 rfl rfl
            obtain ⟨r8510q, A8509q, H⟩ := bind1 H
            refine WH.op 1 (listed' := #[true, true, true, true, true, false, false, false, false, false, false, false, false, false, false, false, false, false, false, false, false, false, false, false, false, false, false]) h8507q rfl (by kernel_rfl) rfl rfl ?_
            refine owp_call [v6265q] h8507q rfl (by kernel_rfl) rfl Try.func15 (by kernel_rfl) rfl (by kernel_rfl) (queue_Queue_Len.calls hr7216q A8509q hS8508q) (fun e8512q W8511q hp8513q => ?_)
            obtain ⟨M8516q, rfl, hr8517q, hS8518q⟩ := hp8513q
            refine ⟨_, rfl, fun a8514q h8515q => ?_⟩
            clear h8507q a8506q
            refine ⟨⟨((hS8518q.bring 1 rfl rfl).cell (i := 0) rfl), ((hS8518q.bring 1 rfl rfl).cells (vs := ([.slice A8142q x7217q.f0.length c8143q, .int .i64 x7217q.f1, .int .i64 x7217q.f2] : List Value)) rfl), ((hS8518q.bring 1 rfl rfl).cell (i := 1) rfl), ((hS8518q.bring 1 rfl rfl).cell (i := 2) rfl), trivial⟩, ?_⟩
            refine WH.take 5 (listed' := #[true, true, true, true, true, true, false, false, false, false, false, false, false, false, false, false, false, false, false, false, false, false, false, false, false, false, false]) h8515q rfl rfl (by kernel_rfl) rfl rfl (.bool (!decide (r8510q = (x7217q.f0.length : Int)))) (fun _ _ => by kernel_rfl) ⟨((hS8518q.bring 1 rfl rfl).cell (i := 0) rfl), ((hS8518q.bring 1 rfl rfl).cells (vs := ([.slice A8142q x7217q.f0.length c8143q, .int .i64 x7217q.f1, .int .i64 x7217q.f2] : List Value)) rfl), ((hS8518q.bring 1 rfl rfl).cell (i := 1) rfl), ((hS8518q.bring 1 rfl rfl).cell (i := 2) rfl), trivial⟩ (fun _ _ _ h_ => h_) (fun a8519q h8520q => ?_)
            clear h8515q a8514q
            refine WH.take 6 (listed' := #[true, true, true, true, true, true, true, false, false, false, false, false, false, false, false, false, false, false, false, false, false, false, false, false, false, false, false]) h8520q rfl rfl (by kernel_rfl) rfl rfl (.bool (!decide (r8510q = (x7217q.f0.length : Int)))) (fun _ _ => by kernel_rfl) ⟨((hS8518q.bring 1 rfl rfl).cell (i := 0) rfl), ((hS8518q.bring 1 rfl rfl).cells (vs := ([.slice A8142q x7217q.f0.length c8143q, .int .i64 x7217q.f1, .int .i64 x7217q.f2] : List Value)) rfl), ((hS8518q.bring 1 rfl rfl).cell (i := 1) rfl), ((hS8518q.bring 1 rfl rfl).cell (i := 2) rfl), trivial⟩ (fun _ _ _ h_ => h_) (fun a8521q h8522q => ?_)
            clear h8520q a8519q
            by_cases c8523q : r8510q = (x7217q.f0.length : Int)
            · rw [if_pos c8523q] at H
              have hb_ : (decide (r8510q = (x7217q.f0.length : Int))) = true := decide_eq_true c8523q
              try rw [hb_] at h8522q
              clear hb_
              refine WH.take 7 (listed' := #[true, true, true, true, true, true, true, true, false, false, false, false, false, false, false, false, false, false, false, false, false, false, false, false, false, false, false]) h8522q rfl rfl (by kernel_rfl) rfl rfl (v6265q) (fun _ _ => by kernel_rfl) ⟨((hS8518q.bring 1 rfl rfl).cell (i := 0) rfl), ((hS8518q.bring 1 rfl rfl).cells (vs := ([.slice A8142q x7217q.f0.length c8143q, .int .i64 x7217q.f1, .int .i64 x7217q.f2] : List Value)) rfl), ((hS8518q.bring 1 rfl rfl).cell (i := 1) rfl), ((hS8518q.bring 1 rfl rfl).cell (i := 2) rfl), trivial⟩ (fun _ _ _ h_ => h_) (fun a8524q h8525q => ?_)
              clear h8522q a8521q
              refine WH.take 9 (listed' := #[true, true, true, true, true, true, true, true, false, true, false, false, false, false, false, false, false, false, false, false, false, false, false, false, false, false, false]) h8525q rfl rfl (by kernel_rfl) rfl rfl (.agg #[.slice A8142q x7217q.f0.length c8143q, .int .i64 x7217q.f1, .int .i64 x7217q.f2]) (fun w_ hs_ => (run_loadN rfl rfl Try.underlying36 rfl (cs := ([.slice A8142q x7217q.f0.length c8143q, .int .i64 x7217q.f1, .int .i64 x7217q.f2] : List Value)) (by kernel_rfl) hs_.2.1)) ⟨((hS8518q.bring 1 rfl rfl).cell (i := 0) rfl), ((hS8518q.bring 1 rfl rfl).cells (vs := ([.slice A8142q x7217q.f0.length c8143q, .int .i64 x7217q.f1, .int .i64 x7217q.f2] : List Value)) rfl), ((hS8518q.bring 1 rfl rfl).cell (i := 1) rfl), ((hS8518q.bring 1 rfl rfl).cell (i := 2) rfl), trivial⟩ (fun _ _ _ h_ => h_) (fun a8526q h8527q => ?_)
              clear h8525q a8524q
              obtain ⟨r8529q, A8528q, H⟩ := bind1 H
              refine WH.op 8 (listed' := #[true, true, true, true, true, true, true, true, true, true, false, false, false, false, false, false, false, false, false, false, false, false, false, false, false, false, false]) h8527q rfl (by kernel_rfl) rfl rfl ?_
              refine owp_call [v6265q] h8527q rfl (by kernel_rfl) rfl Try.func11 (by kernel_rfl) rfl (by kernel_rfl) (queue_Queue_Bytes.calls hr8517q A8528q hS8518q) (fun e8531q W8530q hp8532q => ?_)
              obtain ⟨M8535q, rfl, hr8536q, hS8537q⟩ := hp8532q
              refine ⟨_, rfl, fun a8533q h8534q => ?_⟩
              clear h8527q a8526q
              refine ⟨⟨((hS8537q.bring 1 rfl rfl).cell (i := 0) rfl), ((hS8537q.bring 1 rfl rfl).cells (vs := ([.slice A8142q x7217q.f0.length c8143q, .int .i64 x7217q.f1, .int .i64 x7217q.f2] : List Value)) rfl), ((hS8537q.bring 1 rfl rfl).cell (i := 1) rfl), ((hS8537q.bring 1 rfl rfl).cell (i := 2) rfl), trivial⟩, ?_⟩
              have hS8538q : St b w0 W8530q R (M8137q :: M8535q :: [(g6276q, .cells ([.slice A8142q x7217q.f0.length c8143q, .int .i64 x7217q.f1, .int .i64 x7217q.f2] : List Value).toArray 36 (0, 0))] :: Fs) := hS8537q.bring 2 rfl rfl
              obtain ⟨r8540q, A8539q, H⟩ := bind1 H
              refine WH.op 10 (listed' := #[true, true, true, true, true, true, true, true, true, true, true, false, false, false, false, false, false, false, false, false, false, false, false, false, false, false, false]) h8534q rfl (by kernel_rfl) rfl rfl ?_
              refine owp_call [.agg #[.slice A8142q x7217q.f0.length c8143q, .int .i64 x7217q.f1, .int .i64 x7217q.f2]] h8534q rfl (by kernel_rfl) rfl Try.func16 (by kernel_rfl) rfl (by kernel_rfl) (louverref23qQ_Size.calls (p0 := (⟨x7217q.f0, x7217q.f1, x7217q.f2⟩ : S36)) k8133q hr8141q.rds A8539q (hS8538q.pool)) (fun e8542q W8541q hp8543q => ?_)
              obtain ⟨rfl, hS8546q⟩ := hp8543q
              have hS8547q : St b w0 W8541q R (M8137q :: M8535q :: [(g6276q, .cells ([.slice A8142q x7217q.f0.length c8143q, .int .i64 x7217q.f1, .int .i64 x7217q.f2] : List Value).toArray 36 (0, 0))] :: Fs) := hS8546q.unpool
              refine ⟨_, rfl, fun a8544q h8545q => ?_⟩
              clear h8534q a8533q
              refine ⟨⟨((hS8547q.bring 2 rfl rfl).cell (i := 0) rfl), ((hS8547q.bring 2 rfl rfl).cells (vs := ([.slice A8142q x7217q.f0.length c8143q, .int .i64 x7217q.f1, .int .i64 x7217q.f2] : List Value)) rfl), ((hS8547q.bring 2 rfl rfl).cell (i := 1) rfl), ((hS8547q.bring 2 rfl rfl).cell (i := 2) rfl), trivial⟩, ?_⟩
              refine WH.take 11 (listed' := #[true, true, true, true, true, true, true, true, true, true, true, true, false, false, false, false, false, false, false, false, false, false, false, false, false, false, false]) h8545q rfl rfl (by kernel_rfl) rfl rfl (.bool (!decide (r8529q = r8540q))) (fun _ _ => by kernel_rfl) ⟨((hS8547q.bring 2 rfl rfl).cell (i := 0) rfl), ((hS8547q.bring 2 rfl rfl).cells (vs := ([.slice A8142q x7217q.f0.length c8143q, .int .i64 x7217q.f1, .int .i64 x7217q.f2] : List Value)) rfl), ((hS8547q.bring 2 rfl rfl).cell (i := 1) rfl), ((hS8547q.bring 2 rfl rfl).cell (i := 2) rfl), trivial⟩ (fun _ _ _ h_ => h_) (fun a8548q h8549q => ?_)
              clear h8545q a8544q
              refine WH.take 12 (listed' := #[true, true, true, true, true, true, true, true, true, true, true, true, true, false, false, false, false, false, false, false, false, false, false, false, false, false, false]) h8549q rfl rfl (by kernel_rfl) rfl rfl (.bool (!decide (r8529q = r8540q))) (fun _ _ => by kernel_rfl) ⟨((hS8547q.bring 2 rfl rfl).cell (i := 0) rfl), ((hS8547q.bring 2 rfl rfl).cells (vs := ([.slice A8142q x7217q.f0.length c8143q, .int .i64 x7217q.f1, .int .i64 x7217q.f2] : List Value)) rfl), ((hS8547q.bring 2 rfl rfl).cell (i := 1) rfl), ((hS8547q.bring 2 rfl rfl).cell (i := 2) rfl), trivial⟩ (fun _ _ _ h_ => h_) (fun a8550q h8551q => ?_)
              clear h8549q a8548q
              refine WH.take 13 (listed' := #[true, true, true, true, true, true, true, true, true, true, true, true, true, true, false, false, false, false, false, false, false, false, false, false, false, false, false]) h8551q rfl rfl (by kernel_rfl) rfl rfl (.bool (!decide (r8529q = r8540q))) (fun _ _ => by kernel_rfl) ⟨((hS8547q.bring 2 rfl rfl).cell (i := 0) rfl), ((hS8547q.bring 2 rfl rfl).cells (vs := ([.slice A8142q x7217q.f0.length c8143q, .int .i64 x7217q.f1, .int .i64 x7217q.f2] : List Value)) rfl), ((hS8547q.bring 2 rfl rfl).cell (i := 1) rfl), ((hS8547q.bring 2 rfl rfl).cell (i := 2) rfl), trivial⟩ (fun _ _ _ h_ => h_) (fun a8552q h8553q => ?_)
              clear h8551q a8550q
              by_cases c8554q : r8529q = r8540q
              · rw [if_pos c8554q] at H
                have hb_ : (decide (r8529q = r8540q)) = true := decide_eq_true c8554q
                try rw [hb_] at h8553q
                clear hb_
                refine WH.take 14 (listed' := #[true, true, true, true, true, true, true, true, true, true, true, true, true, true, true, false, false, false, false, false, false, false, false, false, false, false, false]) h8553q rfl rfl (by kernel_rfl) rfl rfl (v6265q) (fun _ _ => by kernel_rfl) ⟨((hS8547q.bring 2 rfl rfl).cell (i := 0) rfl), ((hS8547q.bring 2 rfl rfl).cells (vs := ([.slice A8142q x7217q.f0.length c8143q, .int .i64 x7217q.f1, .int .i64 x7217q.f2] : List Value)) rfl), ((hS8547q.bring 2 rfl rfl).cell (i := 1) rfl), ((hS8547q.bring 2 rfl rfl).cell (i := 2) rfl), trivial⟩ (fun _ _ _ h_ => h_) (fun a8555q h8556q => ?_)
                clear h8553q a8552q
                refine WH.take 16 (listed' := #[true, true, true, true, true, true, true, true, true, true, true, true, true, true, true, false, true, false, false, false, false, false, false, false, false, false, false]) h8556q rfl rfl (by kernel_rfl) rfl rfl (.pointer (some ⟨g6276q, 1, none⟩)) (fun _ _ => by kernel_rfl) ⟨((hS8547q.bring 2 rfl rfl).cell (i := 0) rfl), ((hS8547q.bring 2 rfl rfl).cells (vs := ([.slice A8142q x7217q.f0.length c8143q, .int .i64 x7217q.f1, .int .i64 x7217q.f2] : List Value)) rfl), ((hS8547q.bring 2 rfl rfl).cell (i := 1) rfl), ((hS8547q.bring 2 rfl rfl).cell (i := 2) rfl), trivial⟩ (fun _ _ _ h_ => h_) (fun a8557q h8558q => ?_)
                clear h8556q a8555q
                refine WH.take 17 (listed' := #[true, true, true, true, true, true, true, true, true, true, true, true, true, true, true, false, true, true, false, false, false, false, false, false, false, false, false]) h8558q rfl rfl (by kernel_rfl) rfl rfl (.int .i64 x7217q.f1) (fun w_ hs_ => (run_load1 rfl rfl Try.underlying3 rfl hs_.2.2.1)) ⟨((hS8547q.bring 2 rfl rfl).cell (i := 0) rfl), ((hS8547q.bring 2 rfl rfl).cells (vs := ([.slice A8142q x7217q.f0.length c8143q, .int .i64 x7217q.f1, .int .i64 x7217q.f2] : List Value)) rfl), ((hS8547q.bring 2 rfl rfl).cell (i := 1) rfl), ((hS8547q.bring 2 rfl rfl).cell (i := 2) rfl), trivial⟩ (fun _ _ _ h_ => h_) (fun a8559q h8560q => ?_)
                clear h8558q a8557q
                have hS8561q : St b w0 W8541q R (M8535q :: M8137q :: [(g6276q, .cells ([.slice A8142q x7217q.f0.length c8143q, .int .i64 x7217q.f1, .int .i64 x7217q.f2] : List Value).toArray 36 (0, 0))] :: Fs) := hS8547q.bring 1 rfl rfl
                obtain ⟨r8563q, A8562q, H⟩ := bind1 H
                refine WH.op 15 (listed' := #[true, true, true, true, true, true, true, true, true, true, true, true, true, true, true, true, true, true, false, false, false, false, false, false, false, false, false]) h8560q rfl (by kernel_rfl) rfl rfl ?_
                refine owp_call [v6265q] h8560q rfl (by kernel_rfl) rfl Try.func15 (by kernel_rfl) rfl (by kernel_rfl) (queue_Queue_Len.calls hr8536q A8562q hS8561q) (fun e8565q W8564q hp8566q => ?_)
                obtain ⟨M8569q, rfl, hr8570q, hS8571q⟩ := hp8566q
                refine ⟨_, rfl, fun a8567q h8568q => ?_⟩
                clear h8560q a8559q
                refine ⟨⟨((hS8571q.bring 2 rfl rfl).cell (i := 0) rfl), ((hS8571q.bring 2 rfl rfl).cells (vs := ([.slice A8142q x7217q.f0.length c8143q, .int .i64 x7217q.f1, .int .i64 x7217q.f2] : List Value)) rfl), ((hS8571q.bring 2 rfl rfl).cell (i := 1) rfl), ((hS8571q.bring 2 rfl rfl).cell (i := 2) rfl), trivial⟩, ?_⟩
                refine WH.take 18 (listed' := #[true, true, true, true, true, true, true, true, true, true, true, true, true, true, true, true, true, true, true, false, false, false, false, false, false, false, false]) h8568q rfl rfl (by kernel_rfl) rfl rfl (.bool (decide (r8563q > x7217q.f1))) (fun _ _ => by kernel_rfl) ⟨((hS8571q.bring 2 rfl rfl).cell (i := 0) rfl), ((hS8571q.bring 2 rfl rfl).cells (vs := ([.slice A8142q x7217q.f0.length c8143q, .int .i64 x7217q.f1, .int .i64 x7217q.f2] : List Value)) rfl), ((hS8571q.bring 2 rfl rfl).cell (i := 1) rfl), ((hS8571q.bring 2 rfl rfl).cell (i := 2) rfl), trivial⟩ (fun _ _ _ h_ => h_) (fun a8572q h8573q => ?_)
                clear h8568q a8567q
                refine WH.take 19 (listed' := #[true, true, true, true, true, true, true, true, true, true, true, true, true, true, true, true, true, true, true, true, false, false, false, false, false, false, false]) h8573q rfl rfl (by kernel_rfl) rfl rfl (.bool (decide (r8563q > x7217q.f1))) (fun _ _ => by kernel_rfl) ⟨((hS8571q.bring 2 rfl rfl).cell (i := 0) rfl), ((hS8571q.bring 2 rfl rfl).cells (vs := ([.slice A8142q x7217q.f0.length c8143q, .int .i64 x7217q.f1, .int .i64 x7217q.f2] : List Value)) rfl), ((hS8571q.bring 2 rfl rfl).cell (i := 1) rfl), ((hS8571q.bring 2 rfl rfl).cell (i := 2) rfl), trivial⟩ (fun _ _ _ h_ => h_) (fun a8574q h8575q => ?_)
                clear h8573q a8572q
                refine WH.take 20 (listed' := #[true, true, true, true, true, true, true, true, true, true, true, true, true, true, true, true, true, true, true, true, true, false, false, false, false, false, false]) h8575q rfl rfl (by kernel_rfl) rfl rfl (.bool (decide (r8563q > x7217q.f1))) (fun _ _ => by kernel_rfl) ⟨((hS8571q.bring 2 rfl rfl).cell (i := 0) rfl), ((hS8571q.bring 2 rfl rfl).cells (vs := ([.slice A8142q x7217q.f0.length c8143q, .int .i64 x7217q.f1, .int .i64 x7217q.f2] : List Value)) rfl), ((hS8571q.bring 2 rfl rfl).cell (i := 1) rfl), ((hS8571q.bring 2 rfl rfl).cell (i := 2) rfl), trivial⟩ (fun _ _ _ h_ => h_) (fun a8576q h8577q => ?_)
                clear h8575q a8574q
                by_cases c8578q : r8563q > x7217q.f1
                · rw [if_pos c8578q] at H
                  have hb_ : (decide (r8563q > x7217q.f1)) = true := decide_eq_true c8578q
                  try rw [hb_] at h8577q
                  clear hb_
                  refine WH.skip 21 (listed' := #[true, true, true, true, true, true, true, true, true, true, true, true, true, true, true, true, true, true, true, true, true, true, false, false, false, false, false]) h8577q rfl rfl (by kernel_rfl) rfl rfl ⟨((hS8571q.bring 2 rfl rfl).cell (i := 0) rfl), ((hS8571q.bring 2 rfl rfl).cells (vs := ([.slice A8142q x7217q.f0.length c8143q, .int .i64 x7217q.f1, .int .i64 x7217q.f2] : List Value)) rfl), ((hS8571q.bring 2 rfl rfl).cell (i := 1) rfl), ((hS8571q.bring 2 rfl rfl).cell (i := 2) rfl), trivial⟩ (fun _ _ _ h_ => h_) (fun a8579q h8580q => ?_)
                  clear h8577q a8576q
                  refine WH.skip 22 (listed' := #[true, true, true, true, true, true, true, true, true, true, true, true, true, true, true, true, true, true, true, true, true, true, true, false, false, false, false]) h8580q rfl rfl (by kernel_rfl) rfl rfl ⟨((hS8571q.bring 2 rfl rfl).cell (i := 0) rfl), ((hS8571q.bring 2 rfl rfl).cells (vs := ([.slice A8142q x7217q.f0.length c8143q, .int .i64 x7217q.f1, .int .i64 x7217q.f2] : List Value)) rfl), ((hS8571q.bring 2 rfl rfl).cell (i := 1) rfl), ((hS8571q.bring 2 rfl rfl).cell (i := 2) rfl), trivial⟩ (fun _ _ _ h_ => h_) (fun a8581q h8582q => ?_)
                  clear h8580q a8579q
                  refine WH.skip 23 (listed' := #[true, true, true, true, true, true, true, true, true, true, true, true, true, true, true, true, true, true, true, true, true, true, true, true, false, false, false]) h8582q rfl rfl (by kernel_rfl) rfl rfl ⟨((hS8571q.bring 2 rfl rfl).cell (i := 0) rfl), ((hS8571q.bring 2 rfl rfl).cells (vs := ([.slice A8142q x7217q.f0.length c8143q, .int .i64 x7217q.f1, .int .i64 x7217q.f2] : List Value)) rfl), ((hS8571q.bring 2 rfl rfl).cell (i := 1) rfl), ((hS8571q.bring 2 rfl rfl).cell (i := 2) rfl), trivial⟩ (fun _ _ _ h_ => h_) (fun a8583q h8584q => ?_)
                  clear h8582q a8581q
                  refine WH.skip 24 (listed' := #[true, true, true, true, true, true, true, true, true, true, true, true, true, true, true, true, true, true, true, true, true, true, true, true, true, false, false]) h8584q rfl rfl (by kernel_rfl) rfl rfl ⟨((hS8571q.bring 2 rfl rfl).cell (i := 0) rfl), ((hS8571q.bring 2 rfl rfl).cells (vs := ([.slice A8142q x7217q.f0.length c8143q, .int .i64 x7217q.f1, .int .i64 x7217q.f2] : List Value)) rfl), ((hS8571q.bring 2 rfl rfl).cell (i := 1) rfl), ((hS8571q.bring 2 rfl rfl).cell (i := 2) rfl), trivial⟩ (fun _ _ _ h_ => h_) (fun a8585q h8586q => ?_)
                  clear h8584q a8583q
                  refine WH.skip 25 (listed' := #[true, true, true, true, true, true, true, true, true, true, true, true, true, true, true, true, true, true, true, true, true, true, true, true, true, true, false]) h8586q rfl rfl (by kernel_rfl) rfl rfl ⟨((hS8571q.bring 2 rfl rfl).cell (i := 0) rfl), ((hS8571q.bring 2 rfl rfl).cells (vs := ([.slice A8142q x7217q.f0.length c8143q, .int .i64 x7217q.f1, .int .i64 x7217q.f2] : List Value)) rfl), ((hS8571q.bring 2 rfl rfl).cell (i := 1) rfl), ((hS8571q.bring 2 rfl rfl).cell (i := 2) rfl), trivial⟩ (fun _ _ _ h_ => h_) (fun a8587q h8588q => ?_)
                  clear h8586q a8585q
                  refine WH.take 26 (listed' := #[true, true, true, true, true, true, true, true, true, true, true, true, true, true, true, true, true, true, true, true, true, true, true, true, true, true, true]) h8588q rfl rfl (by kernel_rfl) rfl rfl (.bool true) (fun _ _ => by kernel_rfl) ⟨((hS8571q.bring 2 rfl rfl).cell (i := 0) rfl), ((hS8571q.bring 2 rfl rfl).cells (vs := ([.slice A8142q x7217q.f0.length c8143q, .int .i64 x7217q.f1, .int .i64 x7217q.f2] : List Value)) rfl), ((hS8571q.bring 2 rfl rfl).cell (i := 1) rfl), ((hS8571q.bring 2 rfl rfl).cell (i := 2) rfl), trivial⟩ (fun _ _ _ h_ => h_) (fun a8589q h8590q => ?_)
                  clear h8588q a8587q
                  refine WH.done (by kernel_rfl) ?_
                  refine wp_then h8590q rfl ?_
                  refine wp_seq ?_
                  refine WL.start ?_
                  refine WL.block (c := 1) (m' := 1) h8590q rfl [(6, .bool false)] (by kernel_rfl) (fun a8591q h8592q => ?_)
                  clear h8590q a8589q
                  refine WL.done (by kernel_rfl) ?_
                  refine wp_ret ?_
                  have hS8593q : St b w0 W8564q R (M8137q :: [(g6276q, .cells ([.slice A8142q x7217q.f0.length c8143q, .int .i64 x7217q.f1, .int .i64 x7217q.f2] : List Value).toArray 36 (0, 0))] :: Fs) := hS8571q.drop_
                  have hS8594q : St b w0 W8564q R ([(g6276q, .cells ([.slice A8142q x7217q.f0.length c8143q, .int .i64 x7217q.f1, .int .i64 x7217q.f2] : List Value).toArray 36 (0, 0))] :: Fs) := hS8593q.drop_
                  have hS8595q : St b w0 W8564q R (Fs) := hS8594q.drop_
                  obtain rfl := Option.some.inj H
                  repeat (first | refine then_ret ?_ | refine inBlock_ret ?_ | refine inBlock_go ?_)
                  refine body_ret (v := .bool false) h8592q (by kernel_rfl) (by kernel_rfl) ?_
                  exact ⟨rfl, hS8595q⟩
                · rw [if_neg c8578q] at H
                  have hb_ : (decide (r8563q > x7217q.f1)) = false := decide_eq_false c8578q
                  try rw [hb_] at h8577q
                  clear hb_
                  refine WH.take 21 (listed' := #[true, true, true, true, true, true, true, true, true, true, true, true, true, true, true, true, true, true, true, true, true, true, false, false, false, false, false]) h8577q rfl rfl (by kernel_rfl) rfl rfl (v6265q) (fun _ _ => by kernel_rfl) ⟨((hS8571q.bring 2 rfl rfl).cell (i := 0) rfl), ((hS8571q.bring 2 rfl rfl).cells (vs := ([.slice A8142q x7217q.f0.length c8143q, .int .i64 x7217q.f1, .int .i64 x7217q.f2] : List Value)) rfl), ((hS8571q.bring 2 rfl rfl).cell (i := 1) rfl), ((hS8571q.bring 2 rfl rfl).cell (i := 2) rfl), trivial⟩ (fun _ _ _ h_ => h_) (fun a8596q h8597q => ?_)
                  clear h8577q a8576q
                  refine WH.take 23 (listed' := #[true, true, true, true, true, true, true, true, true, true, true, true, true, true, true, true, true, true, true, true, true, true, false, true, false, false, false]) h8597q rfl rfl (by kernel_rfl) rfl rfl (.pointer (some ⟨g6276q, 2, none⟩)) (fun _ _ => by kernel_rfl) ⟨((hS8571q.bring 2 rfl rfl).cell (i := 0) rfl), ((hS8571q.bring 2 rfl rfl).cells (vs := ([.slice A8142q x7217q.f0.length c8143q, .int .i64 x7217q.f1, .int .i64 x7217q.f2] : List Value)) rfl), ((hS8571q.bring 2 rfl rfl).cell (i := 1) rfl), ((hS8571q.bring 2 rfl rfl).cell (i := 2) rfl), trivial⟩ (fun _ _ _ h_ => h_) (fun a8598q h8599q => ?_)
                  clear h8597q a8596q
                  refine WH.take 24 (listed' := #[true, true, true, true, true, true, true, true, true, true, true, true, true, true, true, true, true, true, true, true, true, true, false, true, true, false, false]) h8599q rfl rfl (by kernel_rfl) rfl rfl (.int .i64 x7217q.f2) (fun w_ hs_ => (run_load1 rfl rfl Try.underlying3 rfl hs_.2.2.2.1)) ⟨((hS8571q.bring 2 rfl rfl).cell (i := 0) rfl), ((hS8571q.bring 2 rfl rfl).cells (vs := ([.slice A8142q x7217q.f0.length c8143q, .int .i64 x7217q.f1, .int .i64 x7217q.f2] : List Value)) rfl), ((hS8571q.bring 2 rfl rfl).cell (i := 1) rfl), ((hS8571q.bring 2 rfl rfl).cell (i := 2) rfl), trivial⟩ (fun _ _ _ h_ => h_) (fun a8600q h8601q => ?_)
                  clear h8599q a8598q
                  obtain ⟨r8603q, A8602q, H⟩ := bind1 H
                  refine WH.op 22 (listed' := #[true, true, true, true, true, true, true, true, true, true, true, true, true, true, true, true, true, true, true, true, true, true, true, true, true, false, false]) h8601q rfl (by kernel_rfl) rfl rfl ?_
                  refine owp_call [v6265q] h8601q rfl (by kernel_rfl) rfl Try.func11 (by kernel_rfl) rfl (by kernel_rfl) (queue_Queue_Bytes.calls hr8570q A8602q hS8571q) (fun e8605q W8604q hp8606q => ?_)
                  obtain ⟨M8609q, rfl, hr8610q, hS8611q⟩ := hp8606q
                  refine ⟨_, rfl, fun a8607q h8608q => ?_⟩
                  clear h8601q a8600q
                  refine ⟨⟨((hS8611q.bring 2 rfl rfl).cell (i := 0) rfl), ((hS8611q.bring 2 rfl rfl).cells (vs := ([.slice A8142q x7217q.f0.length c8143q, .int .i64 x7217q.f1, .int .i64 x7217q.f2] : List Value)) rfl), ((hS8611q.bring 2 rfl rfl).cell (i := 1) rfl), ((hS8611q.bring 2 rfl rfl).cell (i := 2) rfl), trivial⟩, ?_⟩
                  refine WH.take 25 (listed' := #[true, true, true, true, true, true, true, true, true, true, true, true, true, true, true, true, true, true, true, true, true, true, true, true, true, true, false]) h8608q rfl rfl (by kernel_rfl) rfl rfl (.bool (decide (r8603q > x7217q.f2))) (fun _ _ => by kernel_rfl) ⟨((hS8611q.bring 2 rfl rfl).cell (i := 0) rfl), ((hS8611q.bring 2 rfl rfl).cells (vs := ([.slice A8142q x7217q.f0.length c8143q, .int .i64 x7217q.f1, .int .i64 x7217q.f2] : List Value)) rfl), ((hS8611q.bring 2 rfl rfl).cell (i := 1) rfl), ((hS8611q.bring 2 rfl rfl).cell (i := 2) rfl), trivial⟩ (fun _ _ _ h_ => h_) (fun a8612q h8613q => ?_)
                  clear h8608q a8607q
                  refine WH.take 26 (listed' := #[true, true, true, true, true, true, true, true, true, true, true, true, true, true, true, true, true, true, true, true, true, true, true, true, true, true, true]) h8613q rfl rfl (by kernel_rfl) rfl rfl (.bool (decide (r8603q > x7217q.f2))) (fun _ _ => by kernel_rfl) ⟨((hS8611q.bring 2 rfl rfl).cell (i := 0) rfl), ((hS8611q.bring 2 rfl rfl).cells (vs := ([.slice A8142q x7217q.f0.length c8143q, .int .i64 x7217q.f1, .int .i64 x7217q.f2] : List Value)) rfl), ((hS8611q.bring 2 rfl rfl).cell (i := 1) rfl), ((hS8611q.bring 2 rfl rfl).cell (i := 2) rfl), trivial⟩ (fun _ _ _ h_ => h_) (fun a8614q h8615q => ?_)
                  clear h8613q a8612q
                  refine WH.done (by kernel_rfl) ?_
                  by_cases c8616q : r8603q > x7217q.f2
                  · rw [if_pos c8616q] at H
                    have hb_ : (decide (r8603q > x7217q.f2)) = true := decide_eq_true c8616q
                    try rw [hb_] at h8615q
                    clear hb_
                    refine wp_then h8615q rfl ?_
                    refine wp_seq ?_
                    refine WL.start ?_
                    refine WL.block (c := 1) (m' := 1) h8615q rfl [(6, .bool false)] (by kernel_rfl) (fun a8617q h8618q => ?_)
                    clear h8615q a8614q
                    refine WL.done (by kernel_rfl) ?_
                    refine wp_ret ?_
                    have hS8619q : St b w0 W8604q R (M8137q :: [(g6276q, .cells ([.slice A8142q x7217q.f0.length c8143q, .int .i64 x7217q.f1, .int .i64 x7217q.f2] : List Value).toArray 36 (0, 0))] :: Fs) := hS8611q.drop_
                    have hS8620q : St b w0 W8604q R ([(g6276q, .cells ([.slice A8142q x7217q.f0.length c8143q, .int .i64 x7217q.f1, .int .i64 x7217q.f2] : List Value).toArray 36 (0, 0))] :: Fs) := hS8619q.drop_
                    have hS8621q : St b w0 W8604q R (Fs) := hS8620q.drop_
                    obtain rfl := Option.some.inj H
                    repeat (first | refine then_ret ?_ | refine inBlock_ret ?_ | refine inBlock_go ?_)
                    refine body_ret (v := .bool false) h8618q (by kernel_rfl) (by kernel_rfl) ?_
                    exact ⟨rfl, hS8621q⟩
                  · rw [if_neg c8616q] at H
                    have hb_ : (decide (r8603q > x7217q.f2)) = false := decide_eq_false c8616q
                    try rw [hb_] at h8615q
                    clear hb_
                    refine wp_else h8615q rfl ?_
                    refine wp_skip ?_
                    refine WL.start ?_
                    refine WL.block (c := 2) (m' := 2) h8615q rfl [(30, .int .i64 (IntKind.i64.wrap (x6295q + 1))), (143, .int .i64 (IntKind.i64.wrap (x6295q + 1)))] (by kernel_rfl) (fun a8622q h8623q => ?_)
                    clear h8615q a8614q
                    refine WL.done (by kernel_rfl) ?_
                    have hS8624q : St b w0 W8604q R (M8137q :: M8609q :: [(g6276q, .cells ([.slice A8142q x7217q.f0.length c8143q, .int .i64 x7217q.f1, .int .i64 x7217q.f2] : List Value).toArray 36 (0, 0))] :: Fs) := hS8611q.bring 1 rfl rfl
                    have hS8625q : St b w0 W8604q R ([(g6276q, .cells ([.slice A8142q x7217q.f0.length c8143q, .int .i64 x7217q.f1, .int .i64 x7217q.f2] : List Value).toArray 36 (0, 0))] :: M8137q :: M8609q :: Fs) := hS8624q.bring 2 rfl rfl
                    obtain ⟨M8627q, hr8626q, hM_⟩ := k36qmk (b := b) (w0 := w0) (R := R) (x := (⟨x7217q.f0, x7217q.f1, x7217q.f2⟩ : S36)) (gvf0 := hr8141q)
                    have hp8628q : Ptr k36 36 b w0 R (.pointer (some ⟨g6276q, 0, none⟩)) (⟨x7217q.f0, x7217q.f1, x7217q.f2⟩ : S36) ((g6276q, .cells ([.slice A8142q x7217q.f0.length c8143q, .int .i64 x7217q.f1, .int .i64 x7217q.f2] : List Value).toArray 36 (0, 0)) :: M8627q) := ⟨_, _, _, rfl, rfl, hr8626q⟩
                    rw [hM_] at hp8628q
                    have hS8630q : St b w0 W8604q R (((g6276q, .cells ([.slice A8142q x7217q.f0.length c8143q, .int .i64 x7217q.f1, .int .i64 x7217q.f2] : List Value).toArray 36 (0, 0)) :: (M8137q)) :: M8609q :: Fs) := hS8625q.assoc (by simp only [List.flatten_cons, List.append_assoc, List.cons_append, List.nil_append, List.append_nil])
                    obtain ⟨M8631q, hM_⟩ : ∃ y : Frag, y = ((g6276q, .cells ([.slice A8142q x7217q.f0.length c8143q, .int .i64 x7217q.f1, .int .i64 x7217q.f2] : List Value).toArray 36 (0, 0)) :: (M8137q)) := ⟨_, rfl⟩
                    rw [← hM_] at hp8628q hS8630q
                    clear hM_
                    have hS8632q : St b w0 W8604q R (M8609q :: M8631q :: Fs) := hS8630q.bring 1 rfl rfl
                    exact ⟨k8133q, by omega, x7214q, M8609q, (⟨x7217q.f0, x7217q.f1, x7217q.f2⟩ : S36), M8631q, IntKind.i64.wrap (x6295q + 1), h8623q.keep ⟨rfl, rfl, rfl, rfl, rfl, trivial⟩, ⟨H⟩, ⟨by omega⟩, ⟨hS8632q⟩, ⟨hr8610q⟩, ⟨hp8628q⟩⟩
              · rw [if_neg c8554q] at H
                have hb_ : (decide (r8529q = r8540q)) = false := decide_eq_false c8554q
                try rw [hb_] at h8553q
                clear hb_
                refine WH.skip 14 (listed' := #[true, true, true, true, true, true, true, true, true, true, true, true, true, true, true, false, false, false, false, false, false, false, false, false, false, false, false]) h8553q rfl rfl (by kernel_rfl) rfl rfl ⟨((hS8547q.bring 2 rfl rfl).cell (i := 0) rfl), ((hS8547q.bring 2 rfl rfl).cells (vs := ([.slice A8142q x7217q.f0.length c8143q, .int .i64 x7217q.f1, .int .i64 x7217q.f2] : List Value)) rfl), ((hS8547q.bring 2 rfl rfl).cell (i := 1) rfl), ((hS8547q.bring 2 rfl rfl).cell (i := 2) rfl), trivial⟩ (fun _ _ _ h_ => h_) (fun a8633q h8634q => ?_)
                clear h8553q a8552q
                refine WH.skip 15 (listed' := #[true, true, true, true, true, true, true, true, true, true, true, true, true, true, true, true, false, false, false, false, false, false, false, false, false, false, false]) h8634q rfl rfl (by kernel_rfl) rfl rfl ⟨((hS8547q.bring 2 rfl rfl).cell (i := 0) rfl), ((hS8547q.bring 2 rfl rfl).cells (vs := ([.slice A8142q x7217q.f0.length c8143q, .int .i64 x7217q.f1, .int .i64 x7217q.f2] : List Value)) rfl), ((hS8547q.bring 2 rfl rfl).cell (i := 1) rfl), ((hS8547q.bring 2 rfl rfl).cell (i := 2) rfl), trivial⟩ (fun _ _ _ h_ => h_) (fun a8635q h8636q => ?_)
                clear h8634q a8633q
                refine WH.skip 16 (listed' := #[true, true, true, true, true, true, true, true, true, true, true, true, true, true, true, true, true, false, false, false, false, false, false, false, false, false, false]) h8636q rfl rfl (by kernel_rfl) rfl rfl ⟨((hS8547q.bring 2 rfl rfl).cell (i := 0) rfl), ((hS8547q.bring 2 rfl rfl).cells (vs := ([.slice A8142q x7217q.f0.length c8143q, .int .i64 x7217q.f1, .int .i64 x7217q.f2] : List Value)) rfl), ((hS8547q.bring 2 rfl rfl).cell (i := 1) rfl), ((hS8547q.bring 2 rfl rfl).cell (i := 2) rfl), trivial⟩ (fun _ _ _ h_ => h_) (fun a8637q h8638q => ?_)
                clear h8636q a8635q
                refine WH.skip 17 (listed' := #[true, true, true, true, true, true, true, true, true, true, true, true, true, true, true, true, true, true, false, false, false, false, false, false, false, false, false]) h8638q rfl rfl (by kernel_rfl) rfl rfl ⟨((hS8547q.bring 2 rfl rfl).cell (i := 0) rfl), ((hS8547q.bring 2 rfl rfl).cells (vs := ([.slice A8142q x7217q.f0.length c8143q, .int .i64 x7217q.f1, .int .i64 x7217q.f2] : List Value)) rfl), ((hS8547q.bring 2 rfl rfl).cell (i := 1) rfl), ((hS8547q.bring 2 rfl rfl).cell (i := 2) rfl), trivial⟩ (fun _ _ _ h_ => h_) (fun a8639q h8640q => ?_)
                clear h8638q a8637q
                refine WH.skip 18 (listed' := #[true, true, true, true, true, true, true, true, true, true, true, true, true, true, true, true, true, true, true, false, false, false, false, false, false, false, false]) h8640q rfl rfl (by kernel_rfl) rfl rfl ⟨((hS8547q.bring 2 rfl rfl).cell (i := 0) rfl), ((hS8547q.bring 2 rfl rfl).cells (vs := ([.slice A8142q x7217q.f0.length c8143q, .int .i64 x7217q.f1, .int .i64 x7217q.f2] : List Value)) rfl), ((hS8547q.bring 2 rfl rfl).cell (i := 1) rfl), ((hS8547q.bring 2 rfl rfl).cell (i := 2) rfl), trivial⟩ (fun _ _ _ h_ => h_) (fun a8641q h8642q => ?_)
                clear h8640q a8639q
                refine WH.take 19 (listed' := #[true, true, true, true, true, true, true, true, true, true, true, true, true, true, true, true, true, true, true, true, false, false, false, false, false, false, false]) h8642q rfl rfl (by kernel_rfl) rfl rfl (.bool true) (fun _ _ => by kernel_rfl) ⟨((hS8547q.bring 2 rfl rfl).cell (i := 0) rfl), ((hS8547q.bring 2 rfl rfl).cells (vs := ([.slice A8142q x7217q.f0.length c8143q, .int .i64 x7217q.f1, .int .i64 x7217q.f2] : List Value)) rfl), ((hS8547q.bring 2 rfl rfl).cell (i := 1) rfl), ((hS8547q.bring 2 rfl rfl).cell (i := 2) rfl), trivial⟩ (fun _ _ _ h_ => h_) (fun a8643q h8644q => ?_)
                clear h8642q a8641q
                refine WH.take 20 (listed' := #[true, true, true, true, true, true, true, true, true, true, true, true, true, true, true, true, true, true, true, true, true, false, false, false, false, false, false]) h8644q rfl rfl (by kernel_rfl) rfl rfl (.bool true) (fun _ _ => by kernel_rfl) ⟨((hS8547q.bring 2 rfl rfl).cell (i := 0) rfl), ((hS8547q.bring 2 rfl rfl).cells (vs := ([.slice A8142q x7217q.f0.length c8143q, .int .i64 x7217q.f1, .int .i64 x7217q.f2] : List Value)) rfl), ((hS8547q.bring 2 rfl rfl).cell (i := 1) rfl), ((hS8547q.bring 2 rfl rfl).cell (i := 2) rfl), trivial⟩ (fun _ _ _ h_ => h_) (fun a8645q h8646q => ?_)
                clear h8644q a8643q
                refine WH.skip 21 (listed' := #[true, true, true, true, true, true, true, true, true, true, true, true, true, true, true, true, true, true, true, true, true, true, false, false, false, false, false]) h8646q rfl rfl (by kernel_rfl) rfl rfl ⟨((hS8547q.bring 2 rfl rfl).cell (i := 0) rfl), ((hS8547q.bring 2 rfl rfl).cells (vs := ([.slice A8142q x7217q.f0.length c8143q, .int .i64 x7217q.f1, .int .i64 x7217q.f2] : List Value)) rfl), ((hS8547q.bring 2 rfl rfl).cell (i := 1) rfl), ((hS8547q.bring 2 rfl rfl).cell (i := 2) rfl), trivial⟩ (fun _ _ _ h_ => h_) (fun a8647q h8648q => ?_)
                clear h8646q a8645q
                refine WH.skip 22 (listed' := #[true, true, true, true, true, true, true, true, true, true, true, true, true, true, true, true, true, true, true, true, true, true, true, false, false, false, false]) h8648q rfl rfl (by kernel_rfl) rfl rfl ⟨((hS8547q.bring 2 rfl rfl).cell (i := 0) rfl), ((hS8547q.bring 2 rfl rfl).cells (vs := ([.slice A8142q x7217q.f0.length c8143q, .int .i64 x7217q.f1, .int .i64 x7217q.f2] : List Value)) rfl), ((hS8547q.bring 2 rfl rfl).cell (i := 1) rfl), ((hS8547q.bring 2 rfl rfl).cell (i := 2) rfl), trivial⟩ (fun _ _ _ h_ => h_) (fun a8649q h8650q => ?_)
                clear h8648q a8647q
                refine WH.skip 23 (listed' := #[true, true, true, true, true, true, true, true, true, true, true, true, true, true, true, true, true, true, true, true, true, true, true, true, false, false, false]) h8650q rfl rfl (by kernel_rfl) rfl rfl ⟨((hS8547q.bring 2 rfl rfl).cell (i := 0) rfl), ((hS8547q.bring 2 rfl rfl).cells (vs := ([.slice A8142q x7217q.f0.length c8143q, .int .i64 x7217q.f1, .int .i64 x7217q.f2] : List Value)) rfl), ((hS8547q.bring 2 rfl rfl).cell (i := 1) rfl), ((hS8547q.bring 2 rfl rfl).cell (i := 2) rfl), trivial⟩ (fun _ _ _ h_ => h_) (fun a8651q h8652q => ?_)
                clear h8650q a8649q
                refine WH.skip 24 (listed' := #[true, true, true, true, true, true, true, true, true, true, true, true, true, true, true, true, true, true, true, true, true, true, true, true, true, false, false]) h8652q rfl rfl (by kernel_rfl) rfl rfl ⟨((hS8547q.bring 2 rfl rfl).cell (i := 0) rfl), ((hS8547q.bring 2 rfl rfl).cells (vs := ([.slice A8142q x7217q.f0.length c8143q, .int .i64 x7217q.f1, .int .i64 x7217q.f2] : List Value)) rfl), ((hS8547q.bring 2 rfl rfl).cell (i := 1) rfl), ((hS8547q.bring 2 rfl rfl).cell (i := 2) rfl), trivial⟩ (fun _ _ _ h_ => h_) (fun a8653q h8654q => ?_)
                clear h8652q a8651q
                refine WH.skip 25 (listed' := #[true, true, true, true, true, true, true, true, true, true, true, true, true, true, true, true, true, true, true, true, true, true, true, true, true, true, false]) h8654q rfl rfl (by kernel_rfl) rfl rfl ⟨((hS8547q.bring 2 rfl rfl).cell (i := 0) rfl), ((hS8547q.bring 2 rfl rfl).cells (vs := ([.slice A8142q x7217q.f0.length c8143q, .int .i64 x7217q.f1, .int .i64 x7217q.f2] : List Value)) rfl), ((hS8547q.bring 2 rfl rfl).cell (i := 1) rfl), ((hS8547q.bring 2 rfl rfl).cell (i := 2) rfl), trivial⟩ (fun _ _ _ h_ => h_) (fun a8655q h8656q => ?_)
                clear h8654q a8653q
                refine WH.take 26 (listed' := #[true, true, true, true, true, true, true, true, true, true, true, true, true, true, true, true, true, true, true, true, true, true, true, true, true, true, true]) h8656q rfl rfl (by kernel_rfl) rfl rfl (.bool true) (fun _ _ => by kernel_rfl) ⟨((hS8547q.bring 2 rfl rfl).cell (i := 0) rfl), ((hS8547q.bring 2 rfl rfl).cells (vs := ([.slice A8142q x7217q.f0.length c8143q, .int .i64 x7217q.f1, .int .i64 x7217q.f2] : List Value)) rfl), ((hS8547q.bring 2 rfl rfl).cell (i := 1) rfl), ((hS8547q.bring 2 rfl rfl).cell (i := 2) rfl), trivial⟩ (fun _ _ _ h_ => h_) (fun a8657q h8658q => ?_)
                clear h8656q a8655q
                refine WH.done (by kernel_rfl) ?_
                refine wp_then h8658q rfl ?_
                refine wp_seq ?_
                refine WL.start ?_
                refine WL.block (c := 1) (m' := 1) h8658q rfl [(6, .bool false)] (by kernel_rfl) (fun a8659q h8660q => ?_)
                clear h8658q a8657q
                refine WL.done (by kernel_rfl) ?_
                refine wp_ret ?_
                have hS8661q : St b w0 W8541q R (M8535q :: [(g6276q, .cells ([.slice A8142q x7217q.f0.length c8143q, .int .i64 x7217q.f1, .int .i64 x7217q.f2] : List Value).toArray 36 (0, 0))] :: Fs) := hS8547q.drop_
                have hS8662q : St b w0 W8541q R ([(g6276q, .cells ([.slice A8142q x7217q.f0.length c8143q, .int .i64 x7217q.f1, .int .i64 x7217q.f2] : List Value).toArray 36 (0, 0))] :: Fs) := hS8661q.drop_
                have hS8663q : St b w0 W8541q R (Fs) := hS8662q.drop_
                obtain rfl := Option.some.inj H
                repeat (first | refine then_ret ?_ | refine inBlock_ret ?_ | refine inBlock_go ?_)
                refine body_ret (v := .bool false) h8660q (by kernel_rfl) (by kernel_rfl) ?_
                exact ⟨rfl, hS8663q⟩
            · rw [if_neg c8523q] at H
              have hb_ : (decide (r8510q = (x7217q.f0.length : Int))) = false := decide_eq_false c8523q
              try rw [hb_] at h8522q
              clear hb_
              refine WH.skip 7 (listed' := #[true, true, true, true, true, true, true, true, false, false, false, false, false, false, false, false, false, false, false, false, false, false, false, false, false, false, false]) h8522q rfl rfl (by kernel_rfl) rfl rfl ⟨((hS8518q.bring 1 rfl rfl).cell (i := 0) rfl), ((hS8518q.bring 1 rfl rfl).cells (vs := ([.slice A8142q x7217q.f0.length c8143q, .int .i64 x7217q.f1, .int .i64 x7217q.f2] : List Value)) rfl), ((hS8518q.bring 1 rfl rfl).cell (i := 1) rfl), ((hS8518q.bring 1 rfl rfl).cell (i := 2) rfl), trivial⟩ (fun _ _ _ h_ => h_) (fun a8664q h8665q => ?_)
              clear h8522q a8521q
              refine WH.skip 8 (listed' := #[true, true, true, true, true, true, true, true, true, false, false, false, false, false, false, false, false, false, false, false, false, false, false, false, false, false, false]) h8665q rfl rfl (by kernel_rfl) rfl rfl ⟨((hS8518q.bring 1 rfl rfl).cell (i := 0) rfl), ((hS8518q.bring 1 rfl rfl).cells (vs := ([.slice A8142q x7217q.f0.length c8143q, .int .i64 x7217q.f1, .int .i64 x7217q.f2] : List Value)) rfl), ((hS8518q.bring 1 rfl rfl).cell (i := 1) rfl), ((hS8518q.bring 1 rfl rfl).cell (i := 2) rfl), trivial⟩ (fun _ _ _ h_ => h_) (fun a8666q h8667q => ?_)
              clear h8665q a8664q
              refine WH.skip 9 (listed' := #[true, true, true, true, true, true, true, true, true, true, false, false, false, false, false, false, false, false, false, false, false, false, false, false, false, false, false]) h8667q rfl rfl (by kernel_rfl) rfl rfl ⟨((hS8518q.bring 1 rfl rfl).cell (i := 0) rfl), ((hS8518q.bring 1 rfl rfl).cells (vs := ([.slice A8142q x7217q.f0.length c8143q, .int .i64 x7217q.f1, .int .i64 x7217q.f2] : List Value)) rfl), ((hS8518q.bring 1 rfl rfl).cell (i := 1) rfl), ((hS8518q.bring 1 rfl rfl).cell (i := 2) rfl), trivial⟩ (fun _ _ _ h_ => h_) (fun a8668q h8669q => ?_)
              clear h8667q a8666q
              refine WH.skip 10 (listed' := #[true, true, true, true, true, true, true, true, true, true, true, false, false, false, false, false, false, false, false, false, false, false, false, false, false, false, false]) h8669q rfl rfl (by kernel_rfl) rfl rfl ⟨((hS8518q.bring 1 rfl rfl).cell (i := 0) rfl), ((hS8518q.bring 1 rfl rfl).cells (vs := ([.slice A8142q x7217q.f0.length c8143q, .int .i64 x7217q.f1, .int .i64 x7217q.f2] : List Value)) rfl), ((hS8518q.bring 1 rfl rfl).cell (i := 1) rfl), ((hS8518q.bring 1 rfl rfl).cell (i := 2) rfl), trivial⟩ (fun _ _ _ h_ => h_) (fun a8670q h8671q => ?_)
              clear h8669q a8668q
              refine WH.skip 11 (listed' := #[true, true, true, true, true, true, true, true, true, true, true, true, false, false, false, false, false, false, false, false, false, false, false, false, false, false, false]) h8671q rfl rfl (by kernel_rfl) rfl rfl ⟨((hS8518q.bring 1 rfl rfl).cell (i := 0) rfl), ((hS8518q.bring 1 rfl rfl).cells (vs := ([.slice A8142q x7217q.f0.length c8143q, .int .i64 x7217q.f1, .int .i64 x7217q.f2] : List Value)) rfl), ((hS8518q.bring 1 rfl rfl).cell (i := 1) rfl), ((hS8518q.bring 1 rfl rfl).cell (i := 2) rfl), trivial⟩ (fun _ _ _ h_ => h_) (fun a8672q h8673q => ?_)
              clear h8671q a8670q
              refine WH.take 12 (listed' := #[true, true, true, true, true, true, true, true, true, true, true, true, true, false, false, false, false, false, false, false, false, false, false, false, false, false, false]) h8673q rfl rfl (by kernel_rfl) rfl rfl (.bool true) (fun _ _ => by kernel_rfl) ⟨((hS8518q.bring 1 rfl rfl).cell (i := 0) rfl), ((hS8518q.bring 1 rfl rfl).cells (vs := ([.slice A8142q x7217q.f0.length c8143q, .int .i64 x7217q.f1, .int .i64 x7217q.f2] : List Value)) rfl), ((hS8518q.bring 1 rfl rfl).cell (i := 1) rfl), ((hS8518q.bring 1 rfl rfl).cell (i := 2) rfl), trivial⟩ (fun _ _ _ h_ => h_) (fun a8674q h8675q => ?_)
              clear h8673q a8672q
              refine WH.take 13 (listed' := #[true, true, true, true, true, true, true, true, true, true, true, true, true, true, false, false, false, false, false, false, false, false, false, false, false, false, false]) h8675q rfl rfl (by kernel_rfl) rfl rfl (.bool true) (fun _ _ => by kernel_rfl) ⟨((hS8518q.bring 1 rfl rfl).cell (i := 0) rfl), ((hS8518q.bring 1 rfl rfl).cells (vs := ([.slice A8142q x7217q.f0.length c8143q, .int .i64 x7217q.f1, .int .i64 x7217q.f2] : List Value)) rfl), ((hS8518q.bring 1 rfl rfl).cell (i := 1) rfl), ((hS8518q.bring 1 rfl rfl).cell (i := 2) rfl), trivial⟩ (fun _ _ _ h_ => h_) (fun a8676q h8677q => ?_)
              clear h8675q a8674q
              refine WH.skip 14 (listed' := #[true, true, true, true, true, true, true, true, true, true, true, true, true, true, true, false, false, false, false, false, false, false, false, false, false, false, false]) h8677q rfl rfl (by kernel_rfl) rfl rfl ⟨((hS8518q.bring 1 rfl rfl).cell (i := 0) rfl), ((hS8518q.bring 1 rfl rfl).cells (vs := ([.slice A8142q x7217q.f0.length c8143q, .int .i64 x7217q.f1, .int .i64 x7217q.f2] : List Value)) rfl), ((hS8518q.bring 1 rfl rfl).cell (i := 1) rfl), ((hS8518q.bring 1 rfl rfl).cell (i := 2) rfl), trivial⟩ (fun _ _ _ h_ => h_) (fun a8678q h8679q => ?_)
              clear h8677q a8676q
              refine WH.skip 15 (listed' := #[true, true, true, true, true, true, true, true, true, true, true, true, true, true, true, true, false, false, false, false, false, false, false, false, false, false, false]) h8679q rfl rfl (by kernel_rfl) rfl rfl ⟨((hS8518q.bring 1 rfl rfl).cell (i := 0) rfl), ((hS8518q.bring 1 rfl rfl).cells (vs := ([.slice A8142q x7217q.f0.length c8143q, .int .i64 x7217q.f1, .int .i64 x7217q.f2] : List Value)) rfl), ((hS8518q.bring 1 rfl rfl).cell (i := 1) rfl), ((hS8518q.bring 1 rfl rfl).cell (i := 2) rfl), trivial⟩ (fun _ _ _ h_ => h_) (fun a8680q h8681q => ?_)
              clear h8679q a8678q
              refine WH.skip 16 (listed' := #[true, true, true, true, true, true, true, true, true, true, true, true, true, true, true, true, true, false, false, false, false, false, false, false, false, false, false]) h8681q rfl rfl (by kernel_rfl) rfl rfl ⟨((hS8518q.bring 1 rfl rfl).cell (i := 0) rfl), ((hS8518q.bring 1 rfl rfl).cells (vs := ([.slice A8142q x7217q.f0.length c8143q, .int .i64 x7217q.f1, .int .i64 x7217q.f2] : List Value)) rfl), ((hS8518q.bring 1 rfl rfl).cell (i := 1) rfl), ((hS8518q.bring 1 rfl rfl).cell (i := 2) rfl), trivial⟩ (fun _ _ _ h_ => h_) (fun a8682q h8683q => ?_)
              clear h8681q a8680q
              refine WH.skip 17 (listed' := #[true, true, true, true, true, true, true, true, true, true, true, true, true, true, true, true, true, true, false, false, false, false, false, false, false, false, false]) h8683q rfl rfl (by kernel_rfl) rfl rfl ⟨((hS8518q.bring 1 rfl rfl).cell (i := 0) rfl), ((hS8518q.bring 1 rfl rfl).cells (vs := ([.slice A8142q x7217q.f0.length c8143q, .int .i64 x7217q.f1, .int .i64 x7217q.f2] : List Value)) rfl), ((hS8518q.bring 1 rfl rfl).cell (i := 1) rfl), ((hS8518q.bring 1 rfl rfl).cell (i := 2) rfl), trivial⟩ (fun _ _ _ h_ => h_) (fun a8684q h8685q => ?_)
              clear h8683q a8682q
              refine WH.skip 18 (listed' := #[true, true, true, true, true, true, true, true, true, true, true, true, true, true, true, true, true, true, true, false, false, false, false, false, false, false, false]) h8685q rfl rfl (by kernel_rfl) rfl rfl ⟨((hS8518q.bring 1 rfl rfl).cell (i := 0) rfl), ((hS8518q.bring 1 rfl rfl).cells (vs := ([.slice A8142q x7217q.f0.length c8143q, .int .i64 x7217q.f1, .int .i64 x7217q.f2] : List Value)) rfl), ((hS8518q.bring 1 rfl rfl).cell (i := 1) rfl), ((hS8518q.bring 1 rfl rfl).cell (i := 2) rfl), trivial⟩ (fun _ _ _ h_ => h_) (fun a8686q h8687q => ?_)
              clear h8685q a8684q
              refine WH.take 19 (listed' := #[true, true, true, true, true, true, true, true, true, true, true, true, true, true, true, true, true, true, true, true, false, false, false, false, false, false, false]) h8687q rfl rfl (by kernel_rfl) rfl rfl (.bool true) (fun _ _ => by kernel_rfl) ⟨((hS8518q.bring 1 rfl rfl).cell (i := 0) rfl), ((hS8518q.bring 1 rfl rfl).cells (vs := ([.slice A8142q x7217q.f0.length c8143q, .int .i64 x7217q.f1, .int .i64 x7217q.f2] : List Value)) rfl), ((hS8518q.bring 1 rfl rfl).cell (i := 1) rfl), ((hS8518q.bring 1 rfl rfl).cell (i := 2) rfl), trivial⟩ (fun _ _ _ h_ => h_) (fun a8688q h8689q => ?_)
              clear h8687q a8686q
              refine WH.take 20 (listed' := #[true, true, true, true, true, true, true, true, true, true, true, true, true, true, true, true, true, true, true, true, true, false, false, false, false, false, false]) h8689q rfl rfl (by kernel_rfl) rfl rfl (.bool true) (fun _ _ => by kernel_rfl) ⟨((hS8518q.bring 1 rfl rfl).cell (i := 0) rfl), ((hS8518q.bring 1 rfl rfl).cells (vs := ([.slice A8142q x7217q.f0.length c8143q, .int .i64 x7217q.f1, .int .i64 x7217q.f2] : List Value)) rfl), ((hS8518q.bring 1 rfl rfl).cell (i := 1) rfl), ((hS8518q.bring 1 rfl rfl).cell (i := 2) rfl), trivial⟩ (fun _ _ _ h_ => h_) (fun a8690q h8691q => ?_)
              clear h8689q a8688q
              refine WH.skip 21 (listed' := #[true, true, true, true, true, true, true, true, true, true, true, true, true, true, true, true, true, true, true, true, true, true, false, false, false, false, false]) h8691q rfl rfl (by kernel_rfl) rfl rfl ⟨((hS8518q.bring 1 rfl rfl).cell (i := 0) rfl), ((hS8518q.bring 1 rfl rfl).cells (vs := ([.slice A8142q x7217q.f0.length c8143q, .int .i64 x7217q.f1, .int .i64 x7217q.f2] : List Value)) rfl), ((hS8518q.bring 1 rfl rfl).cell (i := 1) rfl), ((hS8518q.bring 1 rfl rfl).cell (i := 2) rfl), trivial⟩ (fun _ _ _ h_ => h_) (fun a8692q h8693q => ?_)
              clear h8691q a8690q
              refine WH.skip 22 (listed' := #[true, true, true, true, true, true, true, true, true, true, true, true, true, true, true, true, true, true, true, true, true, true, true, false, false, false, false]) h8693q rfl rfl (by kernel_rfl) rfl rfl ⟨((hS8518q.bring 1 rfl rfl).cell (i := 0) rfl), ((hS8518q.bring 1 rfl rfl).cells (vs := ([.slice A8142q x7217q.f0.length c8143q, .int .i64 x7217q.f1, .int .i64 x7217q.f2] : List Value)) rfl), ((hS8518q.bring 1 rfl rfl).cell (i := 1) rfl), ((hS8518q.bring 1 rfl rfl).cell (i := 2) rfl), trivial⟩ (fun _ _ _ h_ => h_) (fun a8694q h8695q => ?_)
              clear h8693q a8692q
              refine WH.skip 23 (listed' := #[true, true, true, true, true, true, true, true, true, true, true, true, true, true, true, true, true, true, true, true, true, true, true, true, false, false, false]) h8695q rfl rfl (by kernel_rfl) rfl rfl ⟨((hS8518q.bring 1 rfl rfl).cell (i := 0) rfl), ((hS8518q.bring 1 rfl rfl).cells (vs := ([.slice A8142q x7217q.f0.length c8143q, .int .i64 x7217q.f1, .int .i64 x7217q.f2] : List Value)) rfl), ((hS8518q.bring 1 rfl rfl).cell (i := 1) rfl), ((hS8518q.bring 1 rfl rfl).cell (i := 2) rfl), trivial⟩ (fun _ _ _ h_ => h_) (fun a8696q h8697q => ?_)
              clear h8695q a8694q
              refine WH.skip 24 (listed' := #[true, true, true, true, true, true, true, true, true, true, true, true, true, true, true, true, true, true, true, true, true, true, true, true, true, false, false]) h8697q rfl rfl (by kernel_rfl) rfl rfl ⟨((hS8518q.bring 1 rfl rfl).cell (i := 0) rfl), ((hS8518q.bring 1 rfl rfl).cells (vs := ([.slice A8142q x7217q.f0.length c8143q, .int .i64 x7217q.f1, .int .i64 x7217q.f2] : List Value)) rfl), ((hS8518q.bring 1 rfl rfl).cell (i := 1) rfl), ((hS8518q.bring 1 rfl rfl).cell (i := 2) rfl), trivial⟩ (fun _ _ _ h_ => h_) (fun a8698q h8699q => ?_)
              clear h8697q a8696q
              refine WH.skip 25 (listed' := #[true, true, true, true, true, true, true, true, true, true, true, true, true, true, true, true, true, true, true, true, true, true, true, true, true, true, false]) h8699q rfl rfl (by kernel_rfl) rfl rfl ⟨((hS8518q.bring 1 rfl rfl).cell (i := 0) rfl), ((hS8518q.bring 1 rfl rfl).cells (vs := ([.slice A8142q x7217q.f0.length c8143q, .int .i64 x7217q.f1, .int .i64 x7217q.f2] : List Value)) rfl), ((hS8518q.bring 1 rfl rfl).cell (i := 1) rfl), ((hS8518q.bring 1 rfl rfl).cell (i := 2) rfl), trivial⟩ (fun _ _ _ h_ => h_) (fun a8700q h8701q => ?_)
              clear h8699q a8698q
              refine WH.take 26 (listed' := #[true, true, true, true, true, true, true, true, true, true, true, true, true, true, true, true, true, true, true, true, true, true, true, true, true, true, true]) h8701q rfl rfl (by kernel_rfl) rfl rfl (.bool true) (fun _ _ => by kernel_rfl) ⟨((hS8518q.bring 1 rfl rfl).cell (i := 0) rfl), ((hS8518q.bring 1 rfl rfl).cells (vs := ([.slice A8142q x7217q.f0.length c8143q, .int .i64 x7217q.f1, .int .i64 x7217q.f2] : List Value)) rfl), ((hS8518q.bring 1 rfl rfl).cell (i := 1) rfl), ((hS8518q.bring 1 rfl rfl).cell (i := 2) rfl), trivial⟩ (fun _ _ _ h_ => h_) (fun a8702q h8703q => ?_)
              clear h8701q a8700q
              refine WH.done (by kernel_rfl) ?_
              refine wp_then h8703q rfl ?_
              refine wp_seq ?_
              refine WL.start ?_
              refine WL.block (c := 1) (m' := 1) h8703q rfl [(6, .bool false)] (by kernel_rfl) (fun a8704q h8705q => ?_)
              clear h8703q a8702q
              refine WL.done (by kernel_rfl) ?_
              refine wp_ret ?_
              have hS8706q : St b w0 W8511q R ([(g6276q, .cells ([.slice A8142q x7217q.f0.length c8143q, .int .i64 x7217q.f1, .int .i64 x7217q.f2] : List Value).toArray 36 (0, 0))] :: M8137q :: Fs) := hS8518q.drop_
              have hS8707q : St b w0 W8511q R (M8137q :: Fs) := hS8706q.drop_
              have hS8708q : St b w0 W8511q R (Fs) := hS8707q.drop_
              obtain rfl := Option.some.inj H
              repeat (first | refine then_ret ?_ | refine inBlock_ret ?_ | refine inBlock_go ?_)
              refine body_ret (v := .bool false) h8705q (by kernel_rfl) (by kernel_rfl) ?_
              exact ⟨rfl, hS8708q⟩
      · rw [if_neg c6307q] at H
        cases H
    · rw [if_neg c6306q] at H
      have hb_ : (decide (x6295q < (p2.length : Int))) = false := decide_eq_false c6306q
      try rw [hb_] at h6305q
      clear hb_
      refine wp_else h6305q rfl ?_
      refine wp_exit ?_
      refine wp_seq ?_
      refine WL.start ?_
      obtain ⟨r8710q, A8709q, H⟩ := bind1 H
      refine WL.op' (m := 0) h6305q rfl rfl ?_
      refine owp_call [] h6305q rfl (by kernel_rfl) rfl Try.func6 (by kernel_rfl) rfl (by kernel_rfl) (louverlaw23qfixed.calls  A8709q hS6287q) (fun e8712q W8711q hp8713q => ?_)
      obtain ⟨rfl, hS8716q⟩ := hp8713q
      refine ⟨_, rfl, fun a8714q h8715q => ?_⟩
      clear h6305q a6304q
      refine WL.block (c := 1) (m' := 2) h8715q rfl [(6, .bool r8710q)] (by kernel_rfl) (fun a8717q h8718q => ?_)
      clear h8715q a8714q
      refine WL.done (by kernel_rfl) ?_
      refine wp_ret ?_
      have hS8719q : St b w0 W8711q R (M6293q :: Fs) := hS8716q.drop_
      have hS8720q : St b w0 W8711q R (Fs) := hS8719q.drop_
      obtain rfl := Option.some.inj H
      repeat (first | refine then_ret ?_ | refine inBlock_ret ?_ | refine inBlock_go ?_)
      refine body_ret (v := .bool r8710q) h8718q (by kernel_rfl) (by kernel_rfl) ?_
      exact ⟨rfl, hS8720q⟩
end Go.Proofs.Ytfpeagbbbgeeeaa.Sl
